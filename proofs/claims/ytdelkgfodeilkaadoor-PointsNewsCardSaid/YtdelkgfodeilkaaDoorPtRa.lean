/-
  layer 36: the reference's square of distances as it lies in memory. Conditions: none.
-/
import Derived.Test.YtdelkgfodeilkaaDoorPtW
import Derived.Test.YtdelkgfodeilkaaDoorPtR
import Derived.Test.YtdelkgfodeilkaaDoorPtD
import Derived.Test.YtdelkgfodeilkaaDoorPtRd
import Derived.Test.YtdelkgfodeilkaaDoorPtJ
import Derived.Test.YtdelkgfodeilkaaDoorPtO
import Derived.Test.YtdelkgfodeilkaaDoorPtA
namespace Go.Proofs.YtdelkgfodeilkaaDoor
open Go.RowKit Go.Lib

/-- A row of slices, each a block of its own with a row of the square. -/
structure SqM (base : Nat) (wr : World) (vD : Value) (N k : Nat) (us : Nat → Nat) (D : Nat → Nat → Int) : Prop where
  own : wr.ownsRow base 63 1 vD k ((List.range k).map fun i => .slice (some ⟨us i, 0, none⟩) N N)
  rows : ∀ i, i < k → Blk wr (us i) 2 (rowA N (D i)).toArray
  apart : ∀ i j, i < k → j < k → us i = us j → i = j
  hu : ∀ i, i < k → base ≤ us i
section
variable {w' wr : World} {base : Nat} {vD : Value} {N k : Nat} {us : Nat → Nat} {D : Nat → Nat → Int}
theorem SqM.later (h : SqM base wr vD N k us D) (hb : Below wr.heap.size wr w') : SqM base w' vD N k us D :=
  ⟨own_below h.own hb, fun i hi => (h.rows i hi).below hb (h.rows i hi).lt, h.apart, h.hu⟩
theorem SqM.alloc (h : SqM base wr vD N k us D) (o : Obj) : SqM base (wr.alloc o) vD N k us D := h.later ((Below.refl _ _).alloc (Nat.le_refl _) o)
theorem SqM.drew (h : SqM base wr vD N k us D) : SqM base wr.drew vD N k us D := h.later ((Below.refl _ _).drew)
theorem SqM.congr {D' : Nat → Nat → Int} (h : SqM base wr vD N k us D) (e : ∀ i x, i < k → x < N → D i x = D' i x) : SqM base wr vD N k us D' := by
  refine ⟨h.own, fun i hi => ?_, h.apart, h.hu⟩
  have : rowA N (D i) = rowA N (D' i) := by unfold rowA; exact List.map_congr_left fun x hx => by rw [e i x hi (List.mem_range.1 hx)]
  exact this ▸ h.rows i hi
/-- Another block turns. -/
theorem SqM.other {g : Nat} {t : TypeId} {cs : Array Value} (h : SqM base wr vD N k us D) (hg : wr.grownBy w' (some g)) (hb : Blk wr g t cs) (h1 : 63 ≠ t) (h2 : 2 ≠ t) : SqM base w' vD N k us D :=
  ⟨h.own.kept hg (.inr (own_blk_ne h.own hb h1)), fun i hi => (h.rows i hi).grown hg (fun e => Blk.ne_ (h.rows i hi) hb h2 (by injection e)), h.apart, h.hu⟩
theorem SqM.far {p : Addr} {t : TypeId} {cs : Array Value} (h : SqM base wr vD N k us D) (hb : Blk wr p.block t cs) (h1 : 63 ≠ t) (h2 : 2 ≠ t) (u : Value) : SqM base (wr.setCell p u) vD N k us D :=
  h.other (grown_setCell wr p u) hb h1 h2
theorem SqM.set_ (h : SqM base wr vD N k us D) {i j : Nat} (hi : i < k) (hj : j < N) (d : Int) : SqM base (wr.setCell ⟨us i, j, none⟩ (.int .i64 d)) vD N k us (setD D i j d) := by
  refine ⟨h.own.kept (grown_setCell wr ⟨us i, j, none⟩ _) (.inr (own_blk_ne h.own (h.rows i hi) (by decide))), fun x hx => ?_, h.apart, h.hu⟩
  by_cases e : x = i
  · subst e
    have hr : setD D x j d x = setF (D x) j d := by
      funext v
      unfold setD setF
      by_cases hv : v = j
      · rw [if_pos ⟨rfl, hv⟩, if_pos hv]
      · rw [if_neg (fun q => hv q.2), if_neg hv]
    rw [hr, ← rowA_set (D x) hj]
    exact (h.rows x hx).set_ j _
  · have hr : setD D i j d x = D x := by
      funext v
      exact setD_other (fun q => e q.1)
    rw [hr]
    exact (h.rows x hx).far (p := ⟨us i, j, none⟩) (fun q => e (h.apart x i hx hi q)) _
theorem SqM.form (h : SqM base wr vD N k us D) (h0 : 0 < k) : ∃ qD cD, vD = .slice (some ⟨qD, 0, none⟩) k cD ∧ base ≤ qD ∧ qD < wr.heap.size := by
  obtain ⟨A, c, rfl, h1, h2⟩ := ownsRow_form h.own
  rcases h.own.2 with ⟨h', hn⟩ | ⟨q, cap, cur, h', hb, hg, _⟩
  · omega
  · simp only [Value.slice.injEq, true_and] at h'
    obtain ⟨rfl, rfl⟩ := h'
    exact ⟨q, c, rfl, hb, (Array.getElem?_eq_some_iff.1 hg).1⟩
theorem SqM.rowAt {qD cD : Nat} (h : SqM base wr (.slice (some ⟨qD, 0, none⟩) k cD) N k us D) {i : Nat} (hi : i < k) : wr.cell? ⟨qD, i, none⟩ = some (.slice (some ⟨us i, 0, none⟩) N N) := by
  have := h.own.cellAt i (by omega)
  rw [this]
  simp [hi]
theorem SqM.cell (h : SqM base wr vD N k us D) {i j : Nat} (hi : i < k) (hj : j < N) : wr.cell? ⟨us i, j, none⟩ = some (.int .i64 (D i j)) := (Blk.cell (h.rows i hi) j).trans (rowA_get (D i) hj)
/-- One more row. -/
theorem SqM.push (h : SqM base wr vD N k us D) {q : Nat} {r : Nat → Int} (hq : Blk wr q 2 (rowA N r).toArray) (hqb : base ≤ q) (hne : ∀ i, i < k → us i ≠ q) {v' : Value} (hg : wr.grownBy w' vD.ownBlock)
    (ho : w'.ownsRow base 63 1 v' (k + 1) (((List.range k).map fun i => .slice (some ⟨us i, 0, none⟩) N N) ++ [.slice (some ⟨q, 0, none⟩) N N])) :
    SqM base w' v' N (k + 1) (fun i => if i = k then q else us i) (fun i => if i = k then r else D i) := by
  refine ⟨?_, fun i hi => ?_, fun i j hi hj e => ?_, fun i hi => ?_⟩
  · have : ((List.range (k + 1)).map fun i => Value.slice (some ⟨if i = k then q else us i, 0, none⟩) N N) = ((List.range k).map fun i => .slice (some ⟨us i, 0, none⟩) N N) ++ [.slice (some ⟨q, 0, none⟩) N N] := by
      rw [List.range_succ, List.map_append, List.map_singleton, if_pos rfl]
      congr 1
      exact List.map_congr_left fun i hi => by rw [if_neg (by have := List.mem_range.1 hi; omega)]
    rw [this]
    exact ho
  · show Blk w' (if i = k then q else us i) _ (rowA N (if i = k then r else D i)).toArray
    have hne' : ∀ b cs, Blk wr b 2 cs → some b ≠ vD.ownBlock := fun b cs hb e => own_blk_ne h.own hb (by decide) e.symm
    by_cases e : i = k
    · rw [if_pos e, if_pos e]; exact hq.grown hg (hne' _ _ hq)
    · rw [if_neg e, if_neg e]; exact (h.rows i (by omega)).grown hg (hne' _ _ (h.rows i (by omega)))
  · replace e : (if i = k then q else us i) = (if j = k then q else us j) := e
    by_cases e1 : i = k
    · by_cases e2 : j = k
      · rw [e1, e2]
      · rw [if_pos e1, if_neg e2] at e; exact absurd e.symm (hne j (by omega))
    · by_cases e2 : j = k
      · rw [if_neg e1, if_pos e2] at e; exact absurd e (hne i (by omega))
      · rw [if_neg e1, if_neg e2] at e; exact h.apart i j (by omega) (by omega) e
  · show base ≤ if i = k then q else us i
    split
    · exact hqb
    · exact h.hu i (by omega)
end
theorem SqM.start (base : Nat) (wr : World) (N : Nat) : SqM base wr (.slice none 0 0) N 0 (fun _ => 0) (fun _ _ => 0) :=
  ⟨World.ownsRow_nil _ _ _ _, fun i hi => absurd hi (Nat.not_lt_zero i), fun i _ hi => absurd hi (Nat.not_lt_zero i), fun i hi => absurd hi (Nat.not_lt_zero i)⟩
end Go.Proofs.YtdelkgfodeilkaaDoor
namespace Go.Proofs.YtdelkgfodeilkaaDoor
open Go.RowKit Go.Lib

/-- The reference's map: D the square of distances. -/
def RefM (w : World) (g : Nat) (M : Pts) (D : Nat → Nat → Int) : Prop :=
  ∃ base vN vR vD us, Blk w g 92 #[.bool true, vN, vR, vD] ∧ w.ownsRow base 9 1 vN M.n (strs M.names) ∧ w.ownsRow base 43 3 vR M.roads.length (M.roads.flatMap roadV) ∧ SqM base w vD M.n M.n us D
theorem RefM.below {w w' : World} {g : Nat} {M : Pts} {D : Nat → Nat → Int} (h : RefM w g M D) (hb : Below w.heap.size w w') : RefM w' g M D := by
  obtain ⟨base, vN, vR, vD, us, h1, h2, h3, h4⟩ := h
  exact ⟨base, vN, vR, vD, us, h1.below hb h1.lt, own_below h2 hb, own_below h3 hb, h4.later hb⟩
def RefO (w : World) (p : Option Addr) : Option Pts → Prop
  | none => p = none
  | some M => ∃ g, p = some ⟨g, 0, none⟩ ∧ RefM w g M (distM M)
theorem RefO.below {w w' : World} {p : Option Addr} {om : Option Pts} (h : RefO w p om) (hb : Below w.heap.size w w') : RefO w' p om := by
  cases om with
  | none => exact h
  | some M => obtain ⟨g, e, h⟩ := h; exact ⟨g, e, h.below hb⟩
theorem refValid_any (p : Option Addr) (om : Option Pts) (w : World) (h : RefO w p om) : Calls Tryd.prog 59 #[.pointer p] w fun e w' => e = .returned (.bool om.isSome) ∧ w = w' := by
  cases om with
  | none =>
    obtain rfl : p = none := h
    show Calls _ _ _ _ fun e w' => e = .returned (.bool false) ∧ w = w'
    go_enter Tryd.func59, Tryd.ntmps59
    go_wp2
    go_ret
    exact ⟨rfl, rfl⟩
  | some M =>
    obtain ⟨g, rfl, base, vN, vR, vD, us, h1, h2, h3, h4⟩ := h
    have hc := h1.cell 0
    simp only [List.getElem?_toArray, List.getElem?_cons_zero] at hc
    clear h1 h2 h3 h4
    show Calls _ _ _ _ fun e w' => e = .returned (.bool true) ∧ w = w'
    go_enter Tryd.func59, Tryd.ntmps59
    go_wp2
    go_ret
    exact ⟨rfl, rfl⟩
theorem refLen_any (p : Option Addr) (om : Option Pts) (w : World) (h : RefO w p om) : Calls Tryd.prog 28 #[.pointer p] w fun e w' => e = .returned (.int .i64 (lenO om)) ∧ w = w' := by
  have hv := refValid_any p om w h
  cases om with
  | none =>
    rw [show (none : Option Pts).isSome = false from rfl] at hv
    show Calls _ _ _ _ fun e w' => e = .returned (.int .i64 0) ∧ w = w'
    clear h
    go_enter Tryd.func28, Tryd.ntmps28
    go_wp2_with fail
    refine hv.mono ?_
    rintro e w' ⟨rfl, rfl⟩
    go_wp2
    go_ret
    exact ⟨rfl, rfl⟩
  | some M =>
    rw [show (some M : Option Pts).isSome = true from rfl] at hv
    obtain ⟨g, rfl, base, vN, vR, vD, us, h1, h2, h3, h4⟩ := h
    obtain ⟨A, c, rfl, hc1, hc2⟩ := ownsRow_form h2
    have hc := h1.cell 1
    simp only [List.getElem?_toArray, List.getElem?_cons_succ, List.getElem?_cons_zero] at hc
    clear h1 h2 h3 h4
    show Calls _ _ _ _ fun e w' => e = .returned (.int .i64 (M.n : Nat)) ∧ w = w'
    generalize M.n = n at *
    go_enter Tryd.func28, Tryd.ntmps28
    go_wp2_with fail
    refine hv.mono ?_
    rintro e w' ⟨rfl, rfl⟩
    go_wp2
    go_ret
    exact ⟨rfl, rfl⟩
theorem refHas_any (p : Option Addr) (om : Option Pts) (a : Int) (w : World) (h : RefO w p om) : Calls Tryd.prog 55 #[.pointer p, .int .i64 a] w fun e w' => e = .returned (.bool (decide (0 ≤ a) && decide (a < (lenO om : Nat)))) ∧ w = w' := by
  have hv := refValid_any p om w h
  cases om with
  | none =>
    rw [show (none : Option Pts).isSome = false from rfl] at hv
    have e : (decide (0 ≤ a) && decide (a < (lenO none : Nat))) = false := by
      show (decide (0 ≤ a) && decide (a < ((0 : Nat) : Int))) = false
      rw [Bool.and_eq_false_iff, decide_eq_false_iff_not, decide_eq_false_iff_not]; omega
    rw [e]
    clear h e
    go_enter Tryd.func55, Tryd.ntmps55
    go_wp2_with fail
    refine hv.mono ?_
    rintro e w' ⟨rfl, rfl⟩
    go_wp2
    go_ret
    exact ⟨rfl, rfl⟩
  | some M =>
    rw [show (some M : Option Pts).isSome = true from rfl] at hv
    obtain ⟨g, rfl, base, vN, vR, vD, us, h1, h2, h3, h4⟩ := h
    obtain ⟨A, c, rfl, hc1, hc2⟩ := ownsRow_form h2
    have hc := h1.cell 1
    simp only [List.getElem?_toArray, List.getElem?_cons_succ, List.getElem?_cons_zero] at hc
    clear h1 h2 h3 h4
    show Calls _ _ _ _ fun e w' => e = .returned (.bool (decide (0 ≤ a) && decide (a < (M.n : Nat)))) ∧ w = w'
    generalize M.n = n at *
    by_cases h0 : 0 ≤ a
    · by_cases h1 : a < (n : Int)
      · rw [decide_eq_true h0, decide_eq_true h1]
        go_enter Tryd.func55, Tryd.ntmps55
        go_wp2_with fail
        refine hv.mono ?_
        rintro e w' ⟨rfl, rfl⟩
        go_wp2
        go_ret
        exact ⟨rfl, rfl⟩
      · rw [decide_eq_true h0, decide_eq_false h1]
        have h1d : decide (a < (n : Int)) = false := decide_eq_false h1
        go_enter Tryd.func55, Tryd.ntmps55
        go_wp2_with fail
        refine hv.mono ?_
        rintro e w' ⟨rfl, rfl⟩
        go_wp2
        go_ret
        exact ⟨rfl, rfl⟩
    · rw [decide_eq_false h0, Bool.false_and]
      have h0d : decide (0 ≤ a) = false := decide_eq_false h0
      go_enter Tryd.func55, Tryd.ntmps55
      go_wp2_with fail
      refine hv.mono ?_
      rintro e w' ⟨rfl, rfl⟩
      go_wp2
      go_ret
      exact ⟨rfl, rfl⟩
theorem refHas_yes {p : Option Addr} {om : Option Pts} {a : Int} {w : World} (h : RefO w p om) (ha : inO om a) : Calls Tryd.prog 55 #[.pointer p, .int .i64 a] w fun e w' => e = .returned (.bool true) ∧ w = w' := by
  have := refHas_any p om a w h
  rwa [decide_eq_true ha.1, decide_eq_true ha.2] at this
theorem refHas_no {p : Option Addr} {om : Option Pts} {a : Int} {w : World} (h : RefO w p om) (ha : ¬ inO om a) : Calls Tryd.prog 55 #[.pointer p, .int .i64 a] w fun e w' => e = .returned (.bool false) ∧ w = w' := by
  have := refHas_any p om a w h
  have e : (decide (0 ≤ a) && decide (a < (lenO om : Nat))) = false := by
    rw [Bool.and_eq_false_iff, decide_eq_false_iff_not, decide_eq_false_iff_not]
    unfold inO at ha; omega
  rwa [e] at this
/-- A point that is there: the map, and its number. -/
theorem refIn {w : World} {p : Option Addr} {om : Option Pts} {a : Int} (h : RefO w p om) (ha : inO om a) : ∃ g M, ∃ k : Nat, p = some ⟨g, 0, none⟩ ∧ om = some M ∧ RefM w g M (distM M) ∧ a = k ∧ k < M.n := by
  cases om with
  | none => exact absurd ha.2 (by show ¬ a < ((0 : Nat) : Int); have := ha.1; omega)
  | some M =>
    obtain ⟨g, rfl, h⟩ := h
    have h1 := ha.1; have h2 : a < (M.n : Int) := ha.2
    exact ⟨g, M, a.toNat, rfl, rfl, h, by omega, by omega⟩
theorem refName_any (p : Option Addr) (om : Option Pts) (a : Int) (w : World) (h : RefO w p om) : Calls Tryd.prog 30 #[.pointer p, .int .i64 a] w fun e w' => e = .returned (.string (nameAt (namesO om) a)) ∧ w = w' := by
  by_cases hb : inO om a
  · have hh := refHas_yes h hb
    obtain ⟨g, M, k, rfl, rfl, h, rfl, hk⟩ := refIn h hb
    obtain ⟨base, vN, vR, vD, us, h1, h2, h3, h4⟩ := h
    obtain ⟨A, c, rfl, hc1, hc2⟩ := ownsRow_form h2
    obtain ⟨ad, rfl, had, hcx⟩ := ReadS.at_ (k := k) (Reads.of_own h2) hk
    have hc := h1.cell 1
    simp only [List.getElem?_toArray, List.getElem?_cons_succ, List.getElem?_cons_zero] at hc
    have hres : nameAt (namesO (some M)) k = M.names[k] := by
      show nameAt M.names k = _
      have hk' : k < M.names.length := hk
      unfold nameAt
      rw [if_pos ⟨by omega, by omega⟩, Int.toNat_natCast, List.getD_eq_getElem?_getD, List.getElem?_eq_getElem hk]; rfl
    rw [hres]
    have hkI : (k : Int) < (M.n : Int) := by omega
    generalize M.names[k] = x at hcx
    clear h1 h2 h3 h4 hres hb hk
    generalize M.n = n at *
    go_enter Tryd.func30, Tryd.ntmps30
    go_wp2_with fail
    refine hh.mono ?_
    rintro e w' ⟨rfl, rfl⟩
    go_wp2
    go_ret
    exact ⟨rfl, rfl⟩
  · have hh := refHas_no h hb
    have hres : nameAt (namesO om) a = ⟨#[]⟩ := by unfold nameAt; rw [if_neg (by rw [lenO_names]; exact hb)]
    rw [hres]
    clear hres hb h
    go_enter Tryd.func30, Tryd.ntmps30
    go_wp2_with fail
    refine hh.mono ?_
    rintro e w' ⟨rfl, rfl⟩
    go_wp2
    go_ret
    exact ⟨rfl, rfl⟩
theorem nameF_take {l : List ByteArray} {k : Nat} (hk : k < l.length) {s : ByteArray} (h : ∀ i (hi : i < k), ¬ (l[i]'(by omega)).data.toList = s.data.toList) (hs : l[k].data.toList = s.data.toList) : nameF l s = some (k : Int) := by
  have : l.findIdx? (fun x => x.data.toList == s.data.toList) = some k := by
    rw [List.findIdx?_eq_some_iff_getElem]
    exact ⟨hk, by simpa using hs, fun j hj => by simpa using h j hj⟩
  unfold nameF; rw [this]; rfl
theorem nameF_none {l : List ByteArray} {s : ByteArray} (h : ∀ i (hi : i < l.length), ¬ l[i].data.toList = s.data.toList) : nameF l s = none := by
  have : l.findIdx? (fun x => x.data.toList == s.data.toList) = none := by
    rw [List.findIdx?_eq_none_iff]
    intro x hx
    obtain ⟨i, hi, rfl⟩ := List.getElem_of_mem hx
    simpa using h i hi
  unfold nameF; rw [this]; rfl
set_option maxRecDepth 20000 in
theorem refFind_any (p : Option Addr) (om : Option Pts) (s : ByteArray) (w : World) (h : RefO w p om) (hsm : lenO om ≤ 128) : Calls Tryd.prog 32 #[.pointer p, .string s] w fun e w' => e = .returned (.tuple #[.int .i64 (findR om s).1, .bool (findR om s).2]) ∧ w = w' := by
  have hl := refLen_any p om w h
  cases om with
  | none =>
    rw [show lenO none = 0 from rfl] at hl
    show Calls _ _ _ _ fun e w' => e = .returned (.tuple #[.int .i64 0, .bool false]) ∧ w = w'
    clear h
    go_enter Tryd.func32, Tryd.ntmps32
    go_wp2
    go_loopw [6] (fun i wr => i = .int .i64 0 ∧ w = wr) (fun _ _ => 0)
    case atStart => exact ⟨rfl, rfl⟩
    case round =>
      obtain ⟨rfl, rfl⟩ := hrel
      go_wp2_with fail
      refine hl.mono ?_
      rintro e w' ⟨rfl, rfl⟩
      go_wp2
      go_ret2
      exact ⟨rfl, rfl⟩
  | some M =>
    rw [show lenO (some M) = M.n from rfl] at hl hsm
    obtain ⟨g, rfl, base, vN, vR, vD, us, h1, h2, h3, h4⟩ := h
    obtain ⟨A, c, rfl, hc1, hc2⟩ := ownsRow_form h2
    have hc := h1.cell 1
    simp only [List.getElem?_toArray, List.getElem?_cons_succ, List.getElem?_cons_zero] at hc
    have hrd : ReadS w w.heap.size A M.n M.names := Reads.of_own h2
    have HRD := Lib.hid hrd
    obtain ⟨res, hres⟩ : ∃ res, nameF M.names s = res := ⟨_, rfl⟩
    show Calls _ _ _ _ fun e w' => e = .returned (.tuple #[.int .i64 ((nameF M.names s).getD 0), .bool (nameF M.names s).isSome]) ∧ w = w'
    rw [hres]
    have HRES := Lib.hid hres
    clear h1 h2 h3 h4 hrd hres
    go_enter Tryd.func32, Tryd.ntmps32
    go_wp2
    go_loopw [6] (fun i wr => ∃ k : Nat, k ≤ M.n ∧ i = .int .i64 k ∧ (∀ j (hj : j < k) (hl : j < M.names.length), ¬ M.names[j].data.toList = s.data.toList) ∧ w = wr) (fun i _ => M.n - (intOf i).toNat)
    case atStart => exact ⟨0, by omega, rfl, fun j hj => absurd hj (Nat.not_lt_zero j), rfl⟩
    case round =>
      obtain ⟨k, hk, rfl, ht, rfl⟩ := hrel
      have HT := Lib.hid ht
      clear ht
      go_wp2_with fail
      refine hl.mono ?_
      rintro e w' ⟨rfl, rfl⟩
      by_cases hlt : k < M.n
      · have hkx : k < M.names.length := hlt
        obtain ⟨ad, rfl, had, hcx⟩ := ReadS.at_ (k := k) HRD.out hkx
        have hkI : (k : Int) < (M.n : Int) := by omega
        obtain ⟨x, hx⟩ : ∃ x, M.names[k] = x := ⟨_, rfl⟩
        rw [hx] at hcx
        have HX := Lib.hid hx
        clear hx
        by_cases he : x.data.toList = s.data.toList
        · have e : x = s := Go.WideShapes.bytes_inj he
          have hr : res = some (k : Int) := by rw [← HRES.out]; exact nameF_take hkx (fun i hi => HT.out i hi _) (by rw [HX.out]; exact he)
          subst e hr
          go_wp2
          go_ret2
          exact ⟨rfl, rfl⟩
        · have hne : (x.toList == s.toList) = false := by rw [beq_eq_false_iff_ne, Lib.toList_data, Lib.toList_data]; exact he
          have HE := Lib.hid he
          clear he
          go_wp2
          go_roundw
          case rel =>
            refine ⟨k + 1, by omega, by go_num, fun j hj hl => ?_, trivial⟩
            rcases Nat.lt_or_ge j k with h | h
            · exact HT.out j h hl
            · obtain rfl : j = k := by omega
              rw [HX.out]; exact HE.out
          case measure => simp [intOf]; omega
      · obtain rfl : k = M.n := by omega
        have hr : res = none := by rw [← HRES.out]; exact nameF_none fun i hi => HT.out i hi hi
        subst hr
        go_wp2
        go_ret2
        exact ⟨rfl, rfl⟩
/-- The cell of the square. -/
theorem RefM.cells {w : World} {g : Nat} {M : Pts} {D : Nat → Nat → Int} (h : RefM w g M D) {i j : Nat} (hi : i < M.n) (hj : j < M.n) : ∃ qD cD u, w.cell? ⟨g, 3, none⟩ = some (.slice (some ⟨qD, 0, none⟩) M.n cD) ∧ w.cell? ⟨qD, i, none⟩ = some (.slice (some ⟨u, 0, none⟩) M.n M.n) ∧ w.cell? ⟨u, j, none⟩ = some (.int .i64 (D i j)) := by
  obtain ⟨base, vN, vR, vD, us, h1, h2, h3, h4⟩ := h
  obtain ⟨qD, cD, rfl, _, _⟩ := h4.form (by omega)
  have hc := h1.cell 3
  simp only [List.getElem?_toArray, List.getElem?_cons_succ, List.getElem?_cons_zero] at hc
  exact ⟨qD, cD, us i, hc, h4.rowAt hi, h4.cell hi hj⟩
set_option maxRecDepth 20000 in
set_option maxHeartbeats 2000000 in
theorem refDist_any (p : Option Addr) (om : Option Pts) (a b : Int) (w : World) (h : RefO w p om) :
    Calls Tryd.prog 22 #[.pointer p, .int .i64 a, .int .i64 b] w fun e w' => e = .returned (.tuple #[.int .i64 (distO om a b).1, .bool (distO om a b).2]) ∧ w = w' := by
  by_cases ha : inO om a
  · have hh := refHas_yes h ha
    by_cases hb : inO om b
    · have hh2 := refHas_yes h hb
      obtain ⟨g, M, k, rfl, rfl, hM, rfl, hk⟩ := refIn h ha
      obtain ⟨l, rfl⟩ : ∃ l : Nat, b = l := ⟨b.toNat, by have := hb.1; omega⟩
      have hl : l < M.n := by have := hb.2; have : (l : Int) < (M.n : Int) := this; omega
      rw [distO_in hk hl]
      obtain ⟨qD, cD, u, c1, c2, c3⟩ := hM.cells hk hl
      have hkI : (k : Int) < (M.n : Int) := by omega
      have hlI : (l : Int) < (M.n : Int) := by omega
      generalize distM M k l = d at c3
      clear h hM ha hb hk hl
      generalize M.n = n at *
      by_cases hd : d < 0
      · have e1 : max d 0 = 0 := by omega
        rw [e1, decide_eq_false (show ¬ 0 ≤ d by omega)]
        go_enter Tryd.func22, Tryd.ntmps22
        go_wp2_with fail
        refine hh.mono ?_
        rintro e w' ⟨rfl, rfl⟩
        go_wp2_with fail
        refine hh2.mono ?_
        rintro e w' ⟨rfl, rfl⟩
        go_wp2
        go_ret2
        exact ⟨rfl, rfl⟩
      · have e1 : max d 0 = d := by omega
        have hdd : decide (d < 0) = false := decide_eq_false hd
        rw [e1, decide_eq_true (show 0 ≤ d by omega)]
        go_enter Tryd.func22, Tryd.ntmps22
        go_wp2_with fail
        refine hh.mono ?_
        rintro e w' ⟨rfl, rfl⟩
        go_wp2_with fail
        refine hh2.mono ?_
        rintro e w' ⟨rfl, rfl⟩
        go_wp2
        go_ret2
        exact ⟨rfl, rfl⟩
    · have hh2 := refHas_no h hb
      have e1 : distO om a b = (0, false) := by
        cases om with
        | none => rfl
        | some M => show distS M a b = _; unfold distS; rw [if_neg (fun x => hb (inO_some.2 x.2))]
      rw [e1]
      clear h ha hb e1
      go_enter Tryd.func22, Tryd.ntmps22
      go_wp2_with fail
      refine hh.mono ?_
      rintro e w' ⟨rfl, rfl⟩
      go_wp2_with fail
      refine hh2.mono ?_
      rintro e w' ⟨rfl, rfl⟩
      go_wp2
      go_ret2
      exact ⟨rfl, rfl⟩
  · have hh := refHas_no h ha
    have e1 : distO om a b = (0, false) := by
      cases om with
      | none => rfl
      | some M => show distS M a b = _; unfold distS; rw [if_neg (fun x => ha (inO_some.2 x.1))]
    rw [e1]
    clear h ha e1
    go_enter Tryd.func22, Tryd.ntmps22
    go_wp2_with fail
    refine hh.mono ?_
    rintro e w' ⟨rfl, rfl⟩
    go_wp2
    go_ret2
    exact ⟨rfl, rfl⟩
end Go.Proofs.YtdelkgfodeilkaaDoor
namespace Go.Proofs.YtdelkgfodeilkaaDoor
open Go.RowKit Go.Lib

/-- Made by New. -/
def NewO (om : Option Pts) : Prop := ∀ M, om = some M → ∃ names roads, newE names roads = 0 ∧ M = newM names roads
theorem NewO.good {om : Option Pts} (h : NewO om) : GoodO om := fun M e => by
  obtain ⟨names, roads, h1, rfl⟩ := h M e
  exact good_new h1
/-- The length of the first road that joins two points; 0: none. -/
def roadF (roads : List Rd) (a b : Int) : Int := ((roads.find? fun x => joins x a b).map fun x => x.2.2).getD 0
theorem roadF_hit {roads : List Rd} {k : Nat} (hk : k < roads.length) {a b : Int} (h : ∀ i (hi : i < k), ¬ joins (roads[i]'(by omega)) a b = true) (hj : joins roads[k] a b = true) : roadF roads a b = (roads[k]).2.2 := by
  have : roads.find? (fun x => joins x a b) = some roads[k] := by
    rw [List.find?_eq_some_iff_getElem]
    exact ⟨hj, k, hk, rfl, fun j hj' => by simpa using h j hj'⟩
  unfold roadF
  rw [this]; rfl
theorem roadF_miss {roads : List Rd} {a b : Int} (h : ∀ i (hi : i < roads.length), ¬ joins roads[i] a b = true) : roadF roads a b = 0 := by
  have : roads.find? (fun x => joins x a b) = none := by
    rw [List.find?_eq_none]
    intro x hx
    obtain ⟨i, hi, rfl⟩ := List.getElem_of_mem hx
    exact h i hi
  unfold roadF
  rw [this]; rfl
theorem joins_road {x : Rd} {u v : Nat} : joins x u v = true ↔ isRoad x u v x.2.2 := by
  unfold joins isRoad
  simp only [Bool.or_eq_true, Bool.and_eq_true, decide_eq_true_iff]
  constructor
  · rintro (⟨h1, h2⟩ | ⟨h1, h2⟩)
    · exact .inl ⟨h1, h2, trivial⟩
    · exact .inr ⟨h2, h1, trivial⟩
  · rintro (⟨h1, h2, _⟩ | ⟨h1, h2, _⟩)
    · exact .inl ⟨h1, h2⟩
    · exact .inr ⟨h2, h1⟩
theorem roadF_edge {names : List ByteArray} {roads : List Rd} (hE : newE names roads = 0) {u v : Nat} {l : Int} (he : edgeOf (newM names roads) u v l) : roadF roads u v = l := by
  cases hf : roads.find? (fun x => joins x u v) with
  | none =>
    obtain ⟨x, hx, hr⟩ := (edge_new hE u v l).1 he
    rw [List.find?_eq_none] at hf
    have h2 : isRoad x u v x.2.2 := by unfold isRoad at hr ⊢; omega
    exact absurd (joins_road.2 h2) (by simpa using hf x hx)
  | some x =>
    unfold roadF
    rw [hf]
    show x.2.2 = l
    have h1 := joins_road.1 (List.find?_some (p := fun x => joins x u v) hf)
    exact (good_new hE).func u v _ _ ((edge_new hE u v x.2.2).2 ⟨x, List.mem_of_find?_eq_some hf, h1⟩) he
theorem roadF_pos {names : List ByteArray} {roads : List Rd} (hE : newE names roads = 0) {u v : Nat} : 0 < roadF roads u v ↔ ∃ l, edgeOf (newM names roads) u v l := by
  constructor
  · intro h
    cases hf : roads.find? (fun x => joins x u v) with
    | none => unfold roadF at h; rw [hf] at h; exact absurd h (by decide)
    | some x => exact ⟨x.2.2, (edge_new hE u v x.2.2).2 ⟨x, List.mem_of_find?_eq_some hf, joins_road.1 (List.find?_some (p := fun x => joins x u v) hf)⟩⟩
  · rintro ⟨l, he⟩
    rw [roadF_edge hE he]
    have := (good_new hE).lens _ _ _ he
    omega
theorem roadF_bound {names : List ByteArray} {roads : List Rd} (hE : newE names roads = 0) (u v : Nat) : 0 ≤ roadF roads u v ∧ roadF roads u v ≤ 1073741824 := by
  by_cases h : 0 < roadF roads u v
  · obtain ⟨l, he⟩ := (roadF_pos hE).1 h
    rw [roadF_edge hE he]
    have := (good_new hE).lens _ _ _ he
    omega
  · cases hf : roads.find? (fun x => joins x u v) with
    | none => unfold roadF; rw [hf]; exact ⟨Int.le_refl _, by decide⟩
    | some x =>
      have he := (edge_new hE u v x.2.2).2 ⟨x, List.mem_of_find?_eq_some hf, joins_road.1 (List.find?_some (p := fun x => joins x u v) hf)⟩
      exact absurd ((roadF_pos hE).2 ⟨_, he⟩) h
/-- What is near, in order. -/
theorem near_roads {names : List ByteArray} {roads : List Rd} (hE : newE names roads = 0) {a : Nat} (ha : a < names.length) :
    ((newM names roads).near.getD a []).map (·.1) = (List.range names.length).filter fun (b : Nat) => decide (0 < roadF roads a b) := by
  have hG := good_new hE
  have ha' : a < (newM names roads).near.length := by rw [hG.len]; exact ha
  have e : (newM names roads).near.getD a [] = (newM names roads).near[a] := by rw [List.getD_eq_getElem?_getD, List.getElem?_eq_getElem ha']; rfl
  rw [e]
  refine List.Perm.eq_of_pairwise (le := fun x y : Nat => x < y) (fun x y _ _ h1 h2 => absurd h1 (Nat.lt_asymm h2)) (hG.order a ha') (List.Pairwise.filter _ List.pairwise_lt_range) ?_
  have n1 : ((newM names roads).near[a].map (·.1)).Nodup := (hG.order a ha').imp (fun h => Nat.ne_of_lt h)
  have n2 : ((List.range names.length).filter fun (b : Nat) => decide (0 < roadF roads a b)).Nodup := List.nodup_range.filter _
  rw [List.perm_ext_iff_of_nodup n1 n2]
  intro v
  rw [List.mem_filter, List.mem_range, decide_eq_true_iff, roadF_pos hE, List.mem_map]
  constructor
  · rintro ⟨⟨v', l⟩, hm, rfl⟩
    have he : edgeOf (newM names roads) a v' l := ⟨ha', hm⟩
    exact ⟨(hG.lt he).2, l, he⟩
  · rintro ⟨_, l, hu, hm⟩
    exact ⟨(v, l), hm, rfl⟩
set_option maxRecDepth 20000 in
set_option maxHeartbeats 4000000 in
theorem refRoad_any (g : Nat) (M : Pts) (D : Nat → Nat → Int) (a b : Int) (w : World) (h : RefM w g M D) (hm : M.roads.length ≤ 512) :
    Calls Tryd.prog 58 #[.pointer (some ⟨g, 0, none⟩), .int .i64 a, .int .i64 b] w fun e w' => e = .returned (.int .i64 (roadF M.roads a b)) ∧ Below w.heap.size w w' := by
  obtain ⟨base, vN, vR, vD, us, h1, h2, h3, h4⟩ := h
  obtain ⟨A, c, rfl, _, _⟩ := ownsRow_form h3
  have hc := h1.cell 2
  have hgl := h1.lt
  simp only [List.getElem?_toArray, List.getElem?_cons_succ, List.getElem?_cons_zero] at hc
  have hR : Reads w w.heap.size 3 A M.roads.length (M.roads.flatMap roadV) := Reads.of_own h3
  obtain ⟨n, hn⟩ : ∃ n, M.roads.length = n := ⟨_, rfl⟩
  obtain ⟨res, hres⟩ : ∃ res, roadF M.roads a b = res := ⟨_, rfl⟩
  rw [hn] at hc hm hR
  rw [hres]
  generalize M.roads = roads at *
  have HR := Lib.hid hR; have HN := Lib.hid hn; have HRES := Lib.hid hres
  clear h1 h2 h3 h4 hR hn hres
  go_enter Tryd.func58, Tryd.ntmps58
  go_wp2
  go_loopw [7] (fun i wr => ∃ k : Nat, k ≤ n ∧ i = .int .i64 k ∧ (∀ j (hj : j < k) (hl : j < roads.length), ¬ joins roads[j] a b = true) ∧ Below w.heap.size w wr) (fun i _ => n - (intOf i).toNat)
  case atStart => exact ⟨0, by omega, rfl, fun j hj => absurd hj (Nat.not_lt_zero j), Below.refl _ _⟩
  case round =>
    obtain ⟨k, hk, rfl, ht, hb⟩ := hrel
    have HT := Lib.hid ht; have HB := Lib.hid hb
    have hcr := (hb.cell (p := ⟨g, 2, none⟩) hgl).trans hc
    clear ht hb
    by_cases hlt : k < n
    · have hkl : k < roads.length := by rw [HN.out]; exact hlt
      obtain ⟨bd, x1, x2, x3, rfl, ex, c0, c1, c2⟩ := road_cells HR.out HN.out HB.out hkl
      have hkI : (k : Int) < (n : Int) := by omega
      have HEX := Lib.hid ex
      have hb1 : Below w.heap.size w (wr.alloc (.cells #[.int .i64 x1, .int .i64 x2, .int .i64 x3] 43)) := HB.out.alloc HB.out.size _
      have hxb := Blk.new wr 43 #[.int .i64 x1, .int .i64 x2, .int .i64 x3]
      have y0 := hxb.cell 0; have y1 := hxb.cell 1; have y2 := hxb.cell 2
      simp only [List.getElem?_toArray, List.getElem?_cons_zero, List.getElem?_cons_succ] at y0 y1 y2
      have HB1 := Lib.hid hb1
      clear ex hxb hb1
      have hyes : joins (x1, x2, x3) a b = true → x3 = res := fun h => by rw [← HRES.out, roadF_hit hkl (fun i hi => HT.out i hi _) (by rw [HEX.out]; exact h), HEX.out]
      have hno : ¬ joins (x1, x2, x3) a b = true → ∀ j (hj : j < k + 1) (hl : j < roads.length), ¬ joins roads[j] a b = true := fun h j hj hl => by
        rcases Nat.lt_or_ge j k with h' | h'
        · exact HT.out j h' hl
        · obtain rfl : j = k := by omega
          rw [HEX.out]; exact h
      have HYES := Lib.hid hyes; have HNO := Lib.hid hno
      clear hyes hno
      by_cases g1 : x1 = a
      · subst g1
        by_cases g2 : x2 = b
        · subst g2
          obtain rfl := HYES.out (by unfold joins; simp)
          go_wp2
          go_ret
          exact ⟨rfl, HB1.out⟩
        · by_cases g3 : x1 = b
          · subst g3
            by_cases g4 : x2 = x1
            · exact absurd g4 g2
            · go_wp2
              go_roundw
              case rel => exact ⟨k + 1, by omega, by go_num, HNO.out (by unfold joins; simp [g4]), HB1.out⟩
              case measure => simp [intOf]; omega
          · go_wp2
            go_roundw
            case rel => exact ⟨k + 1, by omega, by go_num, HNO.out (by unfold joins; simp [g2, g3]), HB1.out⟩
            case measure => simp [intOf]; omega
      · by_cases g3 : x1 = b
        · subst g3
          by_cases g4 : x2 = a
          · subst g4
            obtain rfl := HYES.out (by unfold joins; simp)
            go_wp2
            go_ret
            exact ⟨rfl, HB1.out⟩
          · go_wp2
            go_roundw
            case rel => exact ⟨k + 1, by omega, by go_num, HNO.out (by unfold joins; simp [g1, g4]), HB1.out⟩
            case measure => simp [intOf]; omega
        · go_wp2
          go_roundw
          case rel => exact ⟨k + 1, by omega, by go_num, HNO.out (by unfold joins; simp [g1, g3]), HB1.out⟩
          case measure => simp [intOf]; omega
    · obtain rfl : k = n := by omega
      have hz : res = 0 := by rw [← HRES.out]; exact roadF_miss fun i hi => HT.out i (by rw [← HN.out]; exact hi) hi
      subst hz
      go_wp2
      go_ret
      exact ⟨rfl, HB.out⟩
/-- One more number of those that a test lets by. -/
theorem filter_range_succ (p : Nat → Bool) (k : Nat) : (List.range (k + 1)).filter p = (List.range k).filter p ++ if p k = true then [k] else [] := by
  rw [List.range_succ, List.filter_append]
  congr 1
  cases h : p k <;> simp [h]
theorem filter_range_len (p : Nat → Bool) (k : Nat) : ((List.range k).filter p).length ≤ k := by
  have := List.length_filter_le p (List.range k)
  rwa [List.length_range] at this
abbrev intsL (l : List Nat) : List Int := l.map fun (x : Nat) => (x : Int)
set_option maxRecDepth 20000 in
set_option maxHeartbeats 4000000 in
theorem refNear_any (p : Option Addr) (om : Option Pts) (a : Int) (w : World) (h : RefO w p om) (hG : NewO om) :
    Calls Tryd.prog 27 #[.pointer p, .int .i64 a] w (GivesI w (nearL om a)) := by
  by_cases ha : inO om a
  · have hh := refHas_yes h ha
    obtain ⟨g, M, k, rfl, rfl, hM, rfl, hk⟩ := refIn h ha
    obtain ⟨names, roads, hE, rfl⟩ := hG M rfl
    have hn128 : names.length ≤ 128 := (newE_zero hE).1
    have hm512 : (newM names roads).roads.length ≤ 512 := (newE_zero hE).2.1
    have hres : nearL (some (newM names roads)) k = intsL ((List.range names.length).filter fun (b : Nat) => decide (0 < roadF roads k b)) := by
      rw [nearL_in hk, ← near_roads hE hk, intsL, List.map_map]; rfl
    rw [hres]
    have hroad := fun W (hW : Below w.heap.size w W) (b : Int) => refRoad_any g _ _ (k : Int) b W (hM.below hW) hm512
    obtain ⟨base, vN, vR, vD, us, h1, h2, h3, h4⟩ := hM
    obtain ⟨A, c, rfl, hc1, hc2⟩ := ownsRow_form h2
    have hc := h1.cell 1
    have hgl := h1.lt
    simp only [List.getElem?_toArray, List.getElem?_cons_succ, List.getElem?_cons_zero] at hc
    rw [show (newM names roads).n = names.length from rfl] at hc hc1
    rw [show (newM names roads).roads = roads from rfl] at hroad
    have hbound := fun (b : Nat) => roadF_bound hE k b
    have HROAD := Lib.hid hroad; have HBD := Lib.hid hbound
    obtain ⟨i0, hi, hz0, hz1, hz2⟩ := info_parts (show (Tryd.prog.info? 3).map (fun i => (i.zero, i.size, i.bytes)) = some (some (.int .i64 0), 1, 8) by kernel_rfl)
    clear h1 h2 h3 h4 hres hroad hG h ha hE hk hm512 hbound
    generalize names.length = n at *
    obtain ⟨pp, hpp⟩ : ∃ pp : Nat → Bool, (fun (b : Nat) => decide (0 < roadF roads k b)) = pp := ⟨_, rfl⟩
    rw [hpp]
    have HPP := Lib.hid (fun b => congrFun hpp b)
    clear hpp
    unfold GivesI
    go_enter Tryd.func27, Tryd.ntmps27
    go_wp2_with fail
    refine hh.mono ?_
    rintro e w' ⟨rfl, rfl⟩
    go_wp2
    go_loopw [5, 6] (fun v i wr => ∃ j : Nat, j ≤ n ∧ i = .int .i64 j ∧ wr.ownsRow w.heap.size 3 1 v ((List.range j).filter pp).length ((intsL ((List.range j).filter pp)).map (Value.int .i64)) ∧ Below w.heap.size w wr) (fun _ i _ => n - (intOf i).toNat)
    case atStart => exact ⟨0, by omega, rfl, World.ownsRow_nil _ _ _ _, Below.refl _ _⟩
    case round =>
      obtain ⟨j, hj, rfl, hown, hb⟩ := hrel
      have hcr := (hb.cell (p := ⟨g, 1, none⟩) hgl).trans hc
      have hlj := filter_range_len pp j
      obtain ⟨L, hL⟩ : ∃ L, ((List.range j).filter pp).length = L := ⟨_, rfl⟩
      rw [hL] at hown hlj
      have HB := Lib.hid hb; have HO := Lib.hid hown; have HL := Lib.hid hL
      by_cases hlt : j < n
      · have hjI : (j : Int) < (n : Int) := by omega
        have hrj := HROAD.out wr hb (j : Int)
        have hbj := HBD.out j
        have hpj := HPP.out j
        have hst := filter_range_succ pp j
        generalize roadF roads k j = r at hrj hbj hpj
        have HST := Lib.hid hst
        clear hb hown hL hst
        by_cases hr : 0 < r
        · rw [decide_eq_true hr] at hpj
          have HPJ := Lib.hid hpj
          clear hpj
          go_wp2_with fail
          refine hrj.mono ?_
          rintro e w2 ⟨rfl, hb2⟩
          have hB2 := HB.out.trans (hb2.mono HB.out.size)
          have hown2 := own_below HO.out hb2
          have hrn := reads_new w2 3 [.int .i64 (j : Int)]
          have HRN := Lib.hid hrn; have HB2 := Lib.hid hB2
          clear hrj hb2 hrn hB2
          go_wp2_with (at_builtin; refine wpList_append_any _ rfl _ _ 36 rfl w.heap.size 3 i0 (.int .i64 0) 1 8 Tryd.underlying36 hi hz0 hz1 hz2 rfl (by decide) _ _ _ rfl (hown2.alloc _) _ _ _ _ [.int .i64 (j : Int)] rfl HRN.out (by simp [Value.oneCell']) (by unfold maxLen; omega) (by omega) (by have := HB2.out.size; simp; omega) ?_; intro v' w3 hown' hgrow hx; clear hx)
          have hb3 : Below w.heap.size w w3 := (HB2.out.alloc HB2.out.size _).grown hgrow (by have := HB2.out.size; simp; omega) (fun g hg => (hown2.lt g hg).1)
          clear hgrow
          go_roundw
          case rel => exact ⟨j + 1, by omega, by go_num, by rw [HST.out, if_pos HPJ.out.symm, List.length_append, HL.out]; simpa using hown', hb3⟩
          case measure => simp [intOf]; omega
        · rw [decide_eq_false hr] at hpj
          have HPJ := Lib.hid hpj
          clear hpj
          go_wp2_with fail
          refine hrj.mono ?_
          rintro e w2 ⟨rfl, hb2⟩
          have hB2 := HB.out.trans (hb2.mono HB.out.size)
          have hown2 := own_below HO.out hb2
          clear hrj hb2
          go_wp2
          go_roundw
          case rel => exact ⟨j + 1, by omega, by go_num, by rw [HST.out, if_neg (by rw [← HPJ.out]; decide), List.append_nil, HL.out]; exact hown2, hB2⟩
          case measure => simp [intOf]; omega
      · obtain rfl : j = n := by omega
        clear hb hown hL
        go_wp2
        go_ret
        exact ⟨_, rfl, by rw [intsL, List.length_map, HL.out]; exact HO.out, HB.out⟩
  · have hh := refHas_no h ha
    have hres : nearL om a = [] := by unfold nearL; rw [if_neg (show ¬ (0 ≤ a ∧ a < (lenO om : Nat)) from ha)]
    rw [hres]
    clear hres ha h hG
    go_enter Tryd.func27, Tryd.ntmps27
    go_wp2_with fail
    refine hh.mono ?_
    rintro e w' ⟨rfl, rfl⟩
    go_wp2
    go_ret
    exact ⟨_, rfl, World.ownsRow_nil _ _ _ _, Below.refl _ _⟩
end Go.Proofs.YtdelkgfodeilkaaDoor
namespace Go.Proofs.YtdelkgfodeilkaaDoor
open Go.RowKit Go.Lib

theorem NewO.few {om : Option Pts} (h : NewO om) : lenO om ≤ 128 := h.good.few
theorem NewO.roads {om : Option Pts} (h : NewO om) : (roadsO om).length ≤ 512 := by
  cases om with
  | none => exact Nat.zero_le _
  | some M =>
    obtain ⟨names, roads, h1, rfl⟩ := h M rfl
    exact (newE_zero h1).2.1
set_option maxRecDepth 20000 in
set_option maxHeartbeats 2000000 in
theorem refRoads_any (p : Option Addr) (om : Option Pts) (w : World) (h : RefO w p om) (hN : (roadsO om).length ≤ 512) : Calls Tryd.prog 34 #[.pointer p] w fun e w' => ∃ v, e = .returned v ∧ w'.ownsRow w.heap.size 43 3 v (roadsO om).length ((roadsO om).flatMap roadV) ∧ Below w.heap.size w w' := by
  have hv := refValid_any p om w h
  cases om with
  | none =>
    rw [show (none : Option Pts).isSome = false from rfl] at hv
    clear h
    go_enter Tryd.func34, Tryd.ntmps34
    go_wp2_with fail
    refine hv.mono ?_
    rintro e w' ⟨rfl, rfl⟩
    go_wp2
    go_ret
    exact ⟨_, rfl, World.ownsRow_nil _ _ _ _, Below.refl _ _⟩
  | some M =>
    rw [show (some M : Option Pts).isSome = true from rfl] at hv
    obtain ⟨g, rfl, base, vN, vR, vD, us, h1, h2, h3, h4⟩ := h
    obtain ⟨A, c, rfl, _, _⟩ := ownsRow_form h3
    have hc := h1.cell 2
    have hgl := h1.lt
    simp only [List.getElem?_toArray, List.getElem?_cons_succ, List.getElem?_cons_zero] at hc
    show Calls _ _ _ _ fun e w' => ∃ v, e = .returned v ∧ w'.ownsRow w.heap.size 43 3 v M.roads.length (M.roads.flatMap roadV) ∧ Below w.heap.size w w'
    have hone : ∀ u ∈ M.roads.flatMap roadV, u.oneCell' = true := fun u hu => by
      obtain ⟨r, _, hr⟩ := List.mem_flatMap.1 hu
      simp only [roadV, List.mem_cons, List.not_mem_nil, or_false] at hr
      rcases hr with rfl | rfl | rfl <;> rfl
    have hR := (Reads.of_own h3).alloc (Nat.le_refl _) (.cells #[] 43)
    have hc' : (w.alloc (.cells #[] 43)).cell? ⟨g, 2, none⟩ = some (.slice A M.roads.length c) := (World.cell?_alloc_lt w _ ⟨g, 2, none⟩ hgl).trans hc
    replace hN : M.roads.length ≤ 512 := hN
    have hown := own_empty3 w 43
    obtain ⟨i0, hi, hz0, hz1, hz2⟩ := info_parts (show (Tryd.prog.info? 43).map (fun i => (i.zero, i.size, i.bytes)) = some (some (.agg #[.int .i64 0, .int .i64 0, .int .i64 0]), 3, 24) by kernel_rfl)
    have HONE := Lib.hid hone
    clear h1 h2 h3 h4 hone hc
    generalize M.roads.flatMap roadV = xs at *
    generalize M.roads.length = n at *
    go_enter Tryd.func34, Tryd.ntmps34
    go_wp2_with fail
    refine hv.mono ?_
    rintro e w' ⟨rfl, rfl⟩
    go_wp2_with (at_builtin; refine wpList_append_any _ rfl _ _ 23 rfl w.heap.size 43 i0 (.agg #[.int .i64 0, .int .i64 0, .int .i64 0]) 3 24 Tryd.underlying23 hi hz0 hz1 hz2 rfl (by decide) _ _ _ rfl hown w.heap.size _ _ _ xs rfl hR HONE.out (by unfold maxLen; omega) (by omega) (by simp) ?_; intro v' w1 hown' hgrow _)
    have hb1 : Below w.heap.size w w1 := ((Below.refl _ w).alloc (Nat.le_refl _) _).grown hgrow (by simp) (fun g hg => (hown.lt g hg).1)
    clear hgrow
    go_ret
    exact ⟨_, rfl, by simpa using hown', hb1⟩
theorem within_ref (om : Option Pts) (a d : Int) : intsL ((List.range (lenO om)).filter fun (b : Nat) => (distO om a (b : Int)).2 && decide ((distO om a (b : Int)).1 ≤ d)) = withinO om a d := by
  by_cases ha : inO om a
  · cases om with
    | none => exact absurd ha.2 (by show ¬ a < ((0 : Nat) : Int); have := ha.1; omega)
    | some M =>
      obtain ⟨k, rfl⟩ : ∃ k : Nat, a = k := ⟨a.toNat, by have := ha.1; omega⟩
      have hk : k < M.n := by have := ha.2; have : (k : Int) < (M.n : Int) := this; omega
      rw [withinO_in hk]
      unfold intsL selL
      congr 1
      refine List.filter_congr fun b hb => ?_
      rw [distO_in hk (List.mem_range.1 hb), Bool.eq_iff_iff]
      simp only [Bool.and_eq_true, decide_eq_true_iff]
      omega
  · rw [withinO_out ha]
    have : ((List.range (lenO om)).filter fun (b : Nat) => (distO om a (b : Int)).2 && decide ((distO om a (b : Int)).1 ≤ d)) = [] := by
      rw [List.filter_eq_nil_iff]
      intro b _
      rw [distO_out (fun h => ha h.1)]
      simp
    rw [this]; rfl
set_option maxRecDepth 20000 in
set_option maxHeartbeats 2000000 in
theorem refWithin_any (p : Option Addr) (om : Option Pts) (a d : Int) (w : World) (h : RefO w p om) (hG : NewO om) :
    Calls Tryd.prog 37 #[.pointer p, .int .i64 a, .int .i64 d] w (GivesI w (withinO om a d)) := by
  rw [← within_ref]
  have hfew := hG.few
  have hlen := fun W (hW : Below w.heap.size w W) => refLen_any p om W (h.below hW)
  have hdist := fun W (hW : Below w.heap.size w W) (b : Int) => refDist_any p om a b W (h.below hW)
  obtain ⟨i0, hi, hz0, hz1, hz2⟩ := info_parts (show (Tryd.prog.info? 3).map (fun i => (i.zero, i.size, i.bytes)) = some (some (.int .i64 0), 1, 8) by kernel_rfl)
  have HLEN := Lib.hid hlen; have HD := Lib.hid hdist
  clear h hG hlen hdist
  generalize lenO om = n at *
  generalize distO om a = f at *
  obtain ⟨pp, hpp⟩ : ∃ pp : Nat → Bool, (fun b : Nat => (f (b : Int)).2 && decide ((f (b : Int)).1 ≤ d)) = pp := ⟨_, rfl⟩
  rw [hpp]
  have HPP := Lib.hid (fun b => congrFun hpp b)
  clear hpp
  unfold GivesI
  go_enter Tryd.func37, Tryd.ntmps37
  go_wp2
  go_loopw [7, 8] (fun v i wr => ∃ j : Nat, j ≤ n ∧ i = .int .i64 j ∧ wr.ownsRow w.heap.size 3 1 v ((List.range j).filter pp).length ((intsL ((List.range j).filter pp)).map (Value.int .i64)) ∧ Below w.heap.size w wr) (fun _ i _ => n - (intOf i).toNat)
  case atStart => exact ⟨0, by omega, rfl, World.ownsRow_nil _ _ _ _, Below.refl _ _⟩
  case round =>
    obtain ⟨j, hj, rfl, hown, hb⟩ := hrel
    have hl := HLEN.out wr hb
    have hd := HD.out wr hb j
    have hlj := filter_range_len pp j
    have hpj := HPP.out j
    obtain ⟨L, hL⟩ : ∃ L, ((List.range j).filter pp).length = L := ⟨_, rfl⟩
    rw [hL] at hown hlj
    obtain ⟨x, ok, hx⟩ : ∃ x ok, f (j : Int) = (x, ok) := ⟨_, _, rfl⟩
    rw [hx] at hd hpj
    have hst := filter_range_succ pp j
    have HB := Lib.hid hb; have HO := Lib.hid hown; have HL := Lib.hid hL; have HST := Lib.hid hst
    clear hb hown hL hst hx
    go_wp2_with fail
    refine hl.mono ?_
    rintro e w' ⟨rfl, rfl⟩
    by_cases hlt : j < n
    · have hjI : (j : Int) < (n : Int) := by omega
      by_cases hok : ok = true ∧ x ≤ d
      · obtain ⟨rfl, hxd⟩ := hok
        have hpj' : pp j = true := by rw [← hpj]; simp [hxd]
        have HPJ := Lib.hid hpj'
        have hrn := reads_new wr 3 [.int .i64 (j : Int)]
        have HRN := Lib.hid hrn
        clear hrn hpj hpj' hl
        go_wp2_with fail
        refine hd.mono ?_
        rintro e w' ⟨rfl, rfl⟩
        go_wp2_with (at_builtin; refine wpList_append_any _ rfl _ _ 36 rfl w.heap.size 3 i0 (.int .i64 0) 1 8 Tryd.underlying36 hi hz0 hz1 hz2 rfl (by decide) _ _ _ rfl (HO.out.alloc _) _ _ _ _ [.int .i64 (j : Int)] rfl HRN.out (by simp [Value.oneCell']) (by unfold maxLen; omega) (by omega) (by have := HB.out.size; simp; omega) ?_; intro v' w3 hown' hgrow hx; clear hx)
        have hb3 : Below w.heap.size w w3 := (HB.out.alloc HB.out.size _).grown hgrow (by have := HB.out.size; simp; omega) (fun g hg => (HO.out.lt g hg).1)
        clear hgrow
        go_roundw
        case rel => exact ⟨j + 1, by omega, by go_num, by rw [HST.out, if_pos HPJ.out, List.length_append, HL.out]; simpa using hown', hb3⟩
        case measure => simp [intOf]; omega
      · have hpj' : ¬ pp j = true := by
          rw [← hpj]; simpa using hok
        have HPJ := Lib.hid hpj'
        clear hpj hpj' hl
        cases ok
        · go_wp2_with fail
          refine hd.mono ?_
          rintro e w' ⟨rfl, rfl⟩
          go_wp2
          go_roundw
          case rel => exact ⟨j + 1, by omega, by go_num, by rw [HST.out, if_neg HPJ.out, List.append_nil, HL.out]; exact HO.out, HB.out⟩
          case measure => simp [intOf]; omega
        · have hxd : ¬ x ≤ d := fun h => hok ⟨rfl, h⟩
          go_wp2_with fail
          refine hd.mono ?_
          rintro e w' ⟨rfl, rfl⟩
          go_wp2
          go_roundw
          case rel => exact ⟨j + 1, by omega, by go_num, by rw [HST.out, if_neg HPJ.out, List.append_nil, HL.out]; exact HO.out, HB.out⟩
          case measure => simp [intOf]; omega
    · obtain rfl : j = n := by omega
      clear hd hl hpj
      go_wp2
      go_ret
      exact ⟨_, rfl, by rw [intsL, List.length_map, HL.out]; exact HO.out, HB.out⟩
end Go.Proofs.YtdelkgfodeilkaaDoor
namespace Go.Proofs.YtdelkgfodeilkaaDoor
open Go.RowKit Go.Lib

/-! Labels. -/
theorem firstC_is {M : Pts} {k b c : Nat} (hc : c < k) (h0 : 0 ≤ distM M c b) (h : ∀ x, x < c → ¬ 0 ≤ distM M x b) : firstC M k b = some c := by
  unfold firstC
  rw [List.find?_eq_some_iff_getElem]
  refine ⟨decide_eq_true h0, c, by simpa using hc, by simp, fun j hj => ?_⟩
  simp only [List.getElem_range]
  rw [decide_eq_false (h j hj)]; rfl
theorem lab_least {M : Pts} (hM : GoodM M) {a l : Nat} (hl : l ≤ a) (ha : a < M.n) (h0 : 0 ≤ distM M a l) (h : ∀ x, x < l → ¬ 0 ≤ distM M a x) : labK M M.n a = (l : Int) := by
  refine labK_some (firstC_is (by omega) (by rw [hM.symm]; exact h0) fun x hx => ?_)
  rw [hM.symm]
  exact h x hx
theorem labO_take (M : Pts) (k : Nat) : ((List.range (k + 1)).map (labK M M.n)) = ((List.range k).map (labK M M.n)) ++ [labK M M.n k] := by
  rw [List.range_succ, List.map_append]; rfl
set_option maxRecDepth 20000 in
set_option maxHeartbeats 4000000 in
theorem refLabels_any (p : Option Addr) (om : Option Pts) (w : World) (h : RefO w p om) (hG : NewO om) :
    Calls Tryd.prog 38 #[.pointer p] w (GivesI w (labO om)) := by
  have hlen := fun W (hW : Below w.heap.size w W) => refLen_any p om W (h.below hW)
  cases om with
  | none =>
    have hl := hlen w (Below.refl _ _)
    rw [show lenO none = 0 from rfl] at hl
    clear h hG hlen
    show Calls _ _ _ _ (GivesI w [])
    unfold GivesI
    go_enter Tryd.func38, Tryd.ntmps38
    go_wp2
    go_loopw [3, 4] (fun v i wr => v = .slice none 0 0 ∧ i = .int .i64 0 ∧ w = wr) (fun _ _ _ => 0)
    case atStart => exact ⟨rfl, rfl, rfl⟩
    case round =>
      obtain ⟨rfl, rfl, rfl⟩ := hrel
      go_wp2_with fail
      refine hl.mono ?_
      rintro e w' ⟨rfl, rfl⟩
      go_wp2
      go_ret
      exact ⟨_, rfl, World.ownsRow_nil _ _ _ _, Below.refl _ _⟩
  | some M =>
    rw [show lenO (some M) = M.n from rfl] at hlen
    have hGM := hG.good M rfl
    have hfew : M.n ≤ 128 := hGM.few
    obtain ⟨g, rfl, hM⟩ := h
    show Calls _ _ _ _ (GivesI w ((List.range M.n).map (labK M M.n)))
    have hcells := fun (i j : Nat) (hi : i < M.n) (hj : j < M.n) => hM.cells hi hj
    have hleast := fun (a l : Nat) h1 h2 h3 h4 => lab_least hGM (a := a) (l := l) h1 h2 h3 h4
    have hself := fun (a : Nat) => hGM.self a
    have htake := labO_take M
    obtain ⟨i0, hi, hz0, hz1, hz2⟩ := info_parts (show (Tryd.prog.info? 3).map (fun i => (i.zero, i.size, i.bytes)) = some (some (.int .i64 0), 1, 8) by kernel_rfl)
    have HLEN := Lib.hid hlen; have HCELL := Lib.hid hcells; have HLEAST := Lib.hid hleast; have HSELF := Lib.hid hself; have HTAKE := Lib.hid htake
    clear hM hlen hcells hleast hself htake hG hGM
    generalize labK M M.n = lab at *
    generalize distM M = D at *
    generalize M.n = n at *
    unfold GivesI
    go_enter Tryd.func38, Tryd.ntmps38
    go_wp2
    go_loopw [3, 4] (fun v i wr => ∃ k : Nat, k ≤ n ∧ i = .int .i64 k ∧ wr.ownsRow w.heap.size 3 1 v k (((List.range k).map lab).map (Value.int .i64)) ∧ Below w.heap.size w wr) (fun _ i _ => n - (intOf i).toNat)
    case atStart => exact ⟨0, by omega, rfl, World.ownsRow_nil _ _ _ _, Below.refl _ _⟩
    case round =>
      obtain ⟨k, hk, rfl, hown, hb⟩ := hrel
      have hl := HLEN.out wr hb
      have HB := Lib.hid hb; have HO := Lib.hid hown
      clear hb hown
      go_wp2_with fail
      refine hl.mono ?_
      rintro e w' ⟨rfl, rfl⟩
      by_cases hlt : k < n
      · have hkI : (k : Int) < (n : Int) := by omega
        clear hl
        go_wp2
        go_loopw [5, 6] (fun l i wx => ∃ (b : Int) (m : Nat), -1 ≤ b ∧ b ≤ (m : Int) ∧ m ≤ k ∧ i = .int .i64 b ∧ l = .int .i64 m ∧ 0 ≤ D k m ∧ (∀ x : Nat, b < (x : Int) → x < m → ¬ 0 ≤ D k x) ∧ wr = wx) (fun _ i _ => (intOf i + 1).toNat)
        case atStart => exact ⟨k, k, by omega, by omega, by omega, rfl, rfl, by rw [HSELF.out]; omega, (fun x h1 h2 => by omega), rfl⟩
        case round =>
          obtain ⟨b, m, hb1, hbm, hmk, rfl, rfl, hd0, hall, rfl⟩ := hrel
          have HALL := Lib.hid hall; have HD0 := Lib.hid hd0
          clear hall hd0
          by_cases hb0 : 0 ≤ b
          · obtain ⟨bn, rfl⟩ : ∃ bn : Nat, b = bn := ⟨b.toNat, by omega⟩
            have hbn : bn < n := by omega
            obtain ⟨qD, cD, u, c1, c2, c3⟩ := HCELL.out k bn hlt hbn
            have hgb : ∀ (q : Addr) v, w.cell? q = some v → wr.cell? q = some v := fun q v hv => by
              have hq : q.block < w.heap.size := by
                rcases Nat.lt_or_ge q.block w.heap.size with h | h
                · exact h
                · rw [World.cell?, Array.getElem?_eq_none h] at hv; cases hv
              exact (HB.out.cell hq).trans hv
            replace c1 := hgb _ _ c1
            replace c2 := hgb _ _ c2
            replace c3 := hgb _ _ c3
            have HGB := Lib.hid hgb
            clear hgb
            have hbI : (bn : Int) < (n : Int) := by omega
            by_cases hd : 0 ≤ D k bn
            · have HD := Lib.hid hd
              generalize hdv : D k bn = dv at c3 hd
              have HDV := Lib.hid hdv
              clear hdv
              go_wp2
              go_roundw
              case rel =>
                refine ⟨(bn : Int) - 1, bn, by omega, by omega, by omega, by go_num, rfl, HD.out, (fun x h1 h2 => ?_), trivial⟩
                omega
              case measure => simp [intOf] <;> omega
            · have HD := Lib.hid hd
              have hdI : ¬ 0 ≤ D k bn := hd
              have hne : bn ≠ m := fun e => hd (by rw [e]; exact HD0.out)
              generalize hdv : D k bn = dv at c3 hd hdI
              have HDV := Lib.hid hdv
              clear hdv hdI
              go_wp2
              go_roundw
              case rel =>
                refine ⟨(bn : Int) - 1, m, by omega, by omega, by omega, by go_num, rfl, HD0.out, (fun x h1 h2 => ?_), trivial⟩
                by_cases e : x = bn
                · rw [e]; exact HD.out
                · exact HALL.out x (by omega) h2
              case measure => simp [intOf] <;> omega
          · have hlab := HLEAST.out k m hmk hlt HD0.out (fun x hx => by have := HALL.out x (by omega) hx; omega)
            have HLAB := Lib.hid hlab
            have hrn := reads_new wr 3 [.int .i64 (m : Int)]
            have HRN := Lib.hid hrn
            have hb0d : decide (0 ≤ b) = false := decide_eq_false hb0
            clear hrn hlab
            go_wp2_with (at_builtin; refine wpList_append_any _ rfl _ _ 36 rfl w.heap.size 3 i0 (.int .i64 0) 1 8 Tryd.underlying36 hi hz0 hz1 hz2 rfl (by decide) _ _ _ rfl (HO.out.alloc _) _ _ _ _ [.int .i64 (m : Int)] rfl HRN.out (by simp [Value.oneCell']) (by unfold maxLen; omega) (by omega) (by have := HB.out.size; simp; omega) ?_; intro v' w3 hown' hgrow hx; clear hx)
            have hb3 : Below w.heap.size w w3 := (HB.out.alloc HB.out.size _).grown hgrow (by have := HB.out.size; simp; omega) (fun g hg => (HO.out.lt g hg).1)
            clear hgrow
            go_roundw
            case rel => exact ⟨k + 1, by omega, by go_num, by rw [HTAKE.out k, HLAB.out]; simpa using hown', hb3⟩
            case measure => simp [intOf]; omega
      · obtain rfl : k = n := by omega
        clear hl
        go_wp2
        go_ret
        exact ⟨_, rfl, by rw [List.length_map, List.length_range]; exact HO.out, HB.out⟩
end Go.Proofs.YtdelkgfodeilkaaDoor
namespace Go.Proofs.YtdelkgfodeilkaaDoor
open Go.RowKit Go.Lib

/-! Middle. -/
theorem all_of_row {M : Pts} (hM : GoodM M) {a : Nat} (h : ∀ b, b < M.n → 0 ≤ distM M a b) : allM M := fun x y hx hy => by
  have h1 := h x hx
  rw [hM.symm] at h1
  exact (hM.tri h1 (h y hy)).1
theorem mid_none {M : Pts} {a b : Nat} (ha : a < M.n) (hb : b < M.n) (h : distM M a b < 0) : midO (some M) = (0, false) := by
  show midS M = _
  unfold midS
  rw [if_neg (fun x => by have := x.1 a b ha hb; omega)]
theorem mid_some {M : Pts} (h : allM M) (h0 : 0 < M.n) : midO (some M) = ((midK M M.n).1, true) ∧ 0 ≤ (midK M M.n).1 := by
  refine ⟨?_, (midK_pos M M.n h0).1⟩
  show midS M = _
  unfold midS
  rw [if_pos ⟨h, h0⟩]
theorem mid_empty {M : Pts} (h0 : M.n = 0) : midO (some M) = (0, false) := by
  show midS M = _
  unfold midS
  rw [if_neg (fun x => by have := x.2; omega)]
theorem mid_step (M : Pts) (k : Nat) : midK M (k + 1) = if (midK M k).1 < 0 ∨ eccM M k < (midK M k).2 then ((k : Int), eccM M k) else midK M k := by
  conv => lhs; unfold midK
theorem mid_bounds (M : Pts) (k : Nat) : -1 ≤ (midK M k).1 ∧ (midK M k).1 < k := by
  rcases Nat.eq_zero_or_pos k with e | e
  · subst e; show (-1 : Int) ≤ -1 ∧ (-1 : Int) < ((0 : Nat) : Int); omega
  · have := midK_pos M k e; omega
set_option maxRecDepth 20000 in
set_option maxHeartbeats 4000000 in
theorem refMiddle_any (p : Option Addr) (om : Option Pts) (w : World) (h : RefO w p om) (hG : NewO om) :
    Calls Tryd.prog 36 #[.pointer p] w fun e w' => e = .returned (.tuple #[.int .i64 (midO om).1, .bool (midO om).2]) ∧ w = w' := by
  have hlen := refLen_any p om w h
  cases om with
  | none =>
    rw [show lenO none = 0 from rfl] at hlen
    clear h hG
    show Calls _ _ _ _ fun e w' => e = .returned (.tuple #[.int .i64 0, .bool false]) ∧ w = w'
    go_enter Tryd.func36, Tryd.ntmps36
    go_wp2
    go_loopw [4, 5, 6] (fun b f i wr => b = .int .i64 (-1) ∧ f = .int .i64 0 ∧ i = .int .i64 0 ∧ w = wr) (fun _ _ _ _ => 0)
    case atStart => exact ⟨rfl, rfl, rfl, rfl⟩
    case round =>
      obtain ⟨rfl, rfl, rfl, rfl⟩ := hrel
      go_wp2_with fail
      refine hlen.mono ?_
      rintro e w' ⟨rfl, rfl⟩
      go_wp2
      go_ret2
      exact ⟨rfl, rfl⟩
  | some M =>
    rw [show lenO (some M) = M.n from rfl] at hlen
    have hGM := hG.good M rfl
    have hfew : M.n ≤ 128 := hGM.few
    obtain ⟨g, rfl, hM⟩ := h
    have hcells := fun (i j : Nat) (hi : i < M.n) (hj : j < M.n) => hM.cells hi hj
    have HCELL := Lib.hid hcells; have HGM := Lib.hid hGM
    obtain ⟨ra, rb, hres⟩ : ∃ ra rb, midO (some M) = (ra, rb) := ⟨_, _, rfl⟩
    rw [hres]
    show Calls _ _ _ _ fun e w' => e = .returned (.tuple #[.int .i64 ra, .bool rb]) ∧ w = w'
    have HRES := Lib.hid hres
    clear hM hcells hG hGM hres
    go_enter Tryd.func36, Tryd.ntmps36
    go_wp2
    go_loopw [4, 5, 6] (fun b f i wr => ∃ k : Nat, k ≤ M.n ∧ i = .int .i64 k ∧ b = .int .i64 (midK M k).1 ∧ f = .int .i64 (midK M k).2 ∧ (0 < k → allM M) ∧ w = wr) (fun _ _ i _ => M.n - (intOf i).toNat)
    case atStart => exact ⟨0, by omega, rfl, rfl, rfl, fun h => absurd h (Nat.lt_irrefl 0), rfl⟩
    case round =>
      obtain ⟨k, hk, rfl, rfl, rfl, hall, rfl⟩ := hrel
      have HALL := Lib.hid hall
      have hmb := mid_bounds M k
      clear hall
      go_wp2_with fail
      refine hlen.mono ?_
      rintro e w' ⟨rfl, rfl⟩
      by_cases hlt : k < M.n
      · have hkI : (k : Int) < (M.n : Int) := by omega
        go_wp2
        go_loopw [7, 8] (fun m i wr => ∃ j : Nat, j ≤ M.n ∧ i = .int .i64 j ∧ m = .int .i64 (farK M k j) ∧ (∀ x, x < j → 0 ≤ distM M k x) ∧ w = wr) (fun _ i _ => M.n - (intOf i).toNat)
        case atStart => exact ⟨0, by omega, rfl, rfl, fun x h => absurd h (Nat.not_lt_zero x), rfl⟩
        case round =>
          obtain ⟨j, hj, rfl, rfl, hrow, rfl⟩ := hrel
          have HROW := Lib.hid hrow
          clear hrow
          go_wp2_with fail
          refine hlen.mono ?_
          rintro e w' ⟨rfl, rfl⟩
          by_cases hltj : j < M.n
          · have hjI : (j : Int) < (M.n : Int) := by omega
            obtain ⟨qD, cD, u, c1, c2, c3⟩ := HCELL.out k j hlt hltj
            have hst := farK_succ M k j
            by_cases hd : distM M k j < 0
            · have hres := HRES.out
              rw [mid_none hlt hltj hd] at hres
              obtain ⟨rfl, rfl⟩ := Prod.mk.inj hres
              generalize distM M k j = dv at c3 hd
              clear hres hst
              go_wp2
              go_ret2
              exact ⟨rfl, rfl⟩
            · have hd0 : 0 ≤ distM M k j := by omega
              have HD0 := Lib.hid hd0
              rw [show max (distM M k j) 0 = distM M k j by omega] at hst
              have HST := Lib.hid hst
              generalize hdv : distM M k j = dv at c3 hd
              have HDV := Lib.hid hdv
              have hdd : decide (dv < 0) = false := decide_eq_false hd
              clear hst hdv hd0
              go_wp2
              go_roundw
              case rel =>
                refine ⟨j + 1, by omega, by go_num, by rw [HST.out, HDV.out], (fun x hx => ?_), trivial⟩
                by_cases e : x = j
                · rw [e]; exact HD0.out
                · exact HROW.out x (by omega)
              case measure => simp [intOf]; omega
          · obtain rfl : j = M.n := by omega
            have hall := all_of_row HGM.out HROW.out
            have hecc := farK_ecc hall hlt
            have HA := Lib.hid hall
            have hms := mid_step M k
            rw [← hecc] at hms
            have HMS := Lib.hid hms
            clear hall hms hecc
            generalize farK M k M.n = ec at *
            by_cases hb : (midK M k).1 < 0
            · have hms := HMS.out
              rw [if_pos (.inl hb)] at hms
              have HMS2 := Lib.hid hms
              generalize (midK M k).1 = b1 at *
              generalize (midK M k).2 = b2 at *
              clear hms HMS
              go_wp2
              go_roundw
              case rel => exact ⟨k + 1, by omega, by go_num, by rw [HMS2.out], by rw [HMS2.out], fun _ => HA.out, trivial⟩
              case measure => simp [intOf]; omega
            · by_cases hc : ec < (midK M k).2
              · have hms := HMS.out
                rw [if_pos (.inr hc)] at hms
                have HMS2 := Lib.hid hms
                have hbd : decide ((midK M k).1 < 0) = false := decide_eq_false hb
                generalize (midK M k).1 = b1 at *
                generalize (midK M k).2 = b2 at *
                clear hms HMS
                go_wp2
                go_roundw
                case rel => exact ⟨k + 1, by omega, by go_num, by rw [HMS2.out], by rw [HMS2.out], fun _ => HA.out, trivial⟩
                case measure => simp [intOf]; omega
              · have hms := HMS.out
                rw [if_neg (fun h => h.elim hb hc)] at hms
                have HMS2 := Lib.hid hms
                obtain ⟨b1, h1⟩ : ∃ b1, (midK M k).1 = b1 := ⟨_, rfl⟩
                obtain ⟨b2, h2⟩ : ∃ b2, (midK M k).2 = b2 := ⟨_, rfl⟩
                rw [h1] at hb hmb ⊢
                rw [h2] at hc ⊢
                have hbd : decide (b1 < 0) = false := decide_eq_false hb
                have hcd : decide (ec < b2) = false := decide_eq_false hc
                have H1 := Lib.hid h1; have H2 := Lib.hid h2
                clear hms HMS h1 h2
                go_wp2
                go_roundw
                case rel => exact ⟨k + 1, by omega, by go_num, by rw [HMS2.out, H1.out], by rw [HMS2.out, H2.out], fun _ => HA.out, trivial⟩
                case measure => simp [intOf]; omega
      · obtain rfl : k = M.n := by omega
        rcases Nat.eq_zero_or_pos M.n with h0 | h0
        · have hres := HRES.out
          rw [mid_empty h0] at hres
          obtain ⟨rfl, rfl⟩ := Prod.mk.inj hres
          have e1 : (midK M M.n).1 = -1 := by rw [h0]; rfl
          rw [e1]
          clear hres e1 hmb
          go_wp2
          go_ret2
          exact ⟨rfl, rfl⟩
        · obtain ⟨e1, e2⟩ := mid_some (HALL.out h0) h0
          have hres := HRES.out
          rw [e1] at hres
          obtain ⟨h1, rfl⟩ := Prod.mk.inj hres
          rw [h1] at hmb e2 ⊢
          have e3 : max ra 0 = ra := by omega
          clear hres h1 e1
          go_wp2
          go_ret2
          exact ⟨by first | rfl | rw [e3] | simp [e3], rfl⟩
end Go.Proofs.YtdelkgfodeilkaaDoor
namespace Go.Proofs.YtdelkgfodeilkaaDoor
open Go.RowKit Go.Lib

/-- The reference's test of a next point. -/
def nextOk (M : Pts) (b at_ c : Nat) : Prop := 0 < roadF M.roads at_ c ∧ 0 ≤ distM M c b ∧ roadF M.roads at_ c + distM M c b = distM M at_ b
/-- The next point of the way is the first that passes the test. -/
theorem next_is {names : List ByteArray} {roads : List Rd} (hE : newE names roads = 0) {b at_ : Nat} (hat : at_ < names.length) (h0 : 0 ≤ distM (newM names roads) at_ b) (hne : at_ ≠ b) :
    ∃ (c : Nat) (l : Int), c < names.length ∧ nextOk (newM names roads) b at_ c ∧ (∀ x, x < c → ¬ nextOk (newM names roads) b at_ x) ∧ distM (newM names roads) c b < distM (newM names roads) at_ b ∧
      wayF (newM names roads) b (distM (newM names roads) b at_).toNat at_ = at_ :: wayF (newM names roads) b (distM (newM names roads) b c).toNat c ∧ stepM (newM names roads) b at_ = some (c, l) := by
  have hG := good_new hE
  have hatl : at_ < (newM names roads).near.length := by rw [hG.len]; exact hat
  have h0' : 0 ≤ distM (newM names roads) b at_ := by rw [hG.symm]; exact h0
  obtain ⟨e, k, hk, hs, hek, hpre, hedge, hx0, hsum, hn, hlt⟩ := step_some hG h0' hne hatl
  have hr : roadF roads at_ e.1 = e.2 := roadF_edge hE hedge
  have hl := hG.lens _ _ _ hedge
  refine ⟨e.1, e.2, hn, ⟨?_, ?_, ?_⟩, fun x hx hok => ?_, ?_, wayF_step hG h0' hne hatl hs, hs⟩
  · show 0 < roadF roads at_ e.1
    omega
  · rw [hG.symm]; exact hx0
  · show roadF roads at_ e.1 + _ = _
    rw [hr, hG.symm e.1 b, hG.symm at_ b]; omega
  · obtain ⟨h1, h2, h3⟩ := hok
    obtain ⟨l, hu, hm⟩ := (roadF_pos hE).1 h1
    have hl' : roadF roads at_ x = l := roadF_edge hE ⟨hu, hm⟩
    replace h3 : roadF roads at_ x + distM (newM names roads) x b = distM (newM names roads) at_ b := h3
    obtain ⟨j, hj, hje⟩ := List.getElem_of_mem hm
    have ho := hG.order at_ hatl
    rw [List.pairwise_map] at ho
    have hjk : j < k := by
      rcases Nat.lt_trichotomy j k with h | h | h
      · exact h
      · subst h; rw [hek] at hje; rw [hje] at hx; exact absurd hx (Nat.lt_irrefl x)
      · have := List.pairwise_iff_getElem.1 ho k j hk hj h
        rw [hek, hje] at this
        simp only at this
        omega
    have := hpre j hjk
    rw [hje] at this
    simp only at this
    rw [hG.symm b x, hG.symm b at_] at this
    omega
  · rw [hG.symm e.1 b, hG.symm at_ b]; exact hlt
theorem way_out {om : Option Pts} (hG : GoodO om) {a b : Int} (h : (distO om a b).2 = false) : wayO om a b = [] := by
  by_cases hab : inO om a ∧ inO om b
  · obtain ⟨ha, hb⟩ := hab
    cases om with
    | none => rfl
    | some M =>
      obtain ⟨k, rfl⟩ : ∃ k : Nat, a = k := ⟨a.toNat, by have := ha.1; omega⟩
      obtain ⟨l, rfl⟩ : ∃ l : Nat, b = l := ⟨b.toNat, by have := hb.1; omega⟩
      have hk : k < M.n := by have := ha.2; have : (k : Int) < (M.n : Int) := this; omega
      have hl : l < M.n := by have := hb.2; have : (l : Int) < (M.n : Int) := this; omega
      rw [distO_in hk hl] at h
      exact way_none (hG M rfl) (of_decide_eq_false h)
  · exact wayO_out hab
theorem dist_true {om : Option Pts} {a b : Int} (h : (distO om a b).2 = true) : inO om a ∧ inO om b := by
  by_cases hab : inO om a ∧ inO om b
  · exact hab
  · rw [distO_out hab] at h; cases h
theorem way_start {M : Pts} (hM : GoodM M) {a b : Nat} (ha : a < M.n) (hb : b < M.n) (h0 : 0 ≤ distM M a b) : wayO (some M) a b = intsL (wayF M b (distM M b a).toNat a) := by
  show wayS M a b = _
  have h0' : 0 ≤ distM M b a := by rw [hM.symm]; exact h0
  unfold wayS
  rw [if_pos ⟨⟨by omega, by show (a : Int) < (M.n : Int); omega⟩, ⟨by omega, by show (b : Int) < (M.n : Int); omega⟩⟩, Int.toNat_natCast, Int.toNat_natCast]
  unfold wayL
  rw [if_pos h0']
theorem own_one (w : World) (t : TypeId) (u : Value) : (w.alloc (.cells #[u] t)).ownsRow w.heap.size t 1 (.slice (some ⟨w.heap.size, 0, none⟩) 1 1) 1 [u] :=
  ⟨rfl, .inr ⟨w.heap.size, 1, #[u], rfl, Nat.le_refl _, heap_alloc_new w _, by omega, by unfold maxLen; omega, by simp, by simp⟩⟩
set_option maxRecDepth 20000 in
set_option maxHeartbeats 8000000 in
theorem refPath_any (p : Option Addr) (om : Option Pts) (a b : Int) (w : World) (h : RefO w p om) (hG : NewO om) :
    Calls Tryd.prog 25 #[.pointer p, .int .i64 a, .int .i64 b] w (GivesI w (wayO om a b)) := by
  have hd := refDist_any p om a b w h
  obtain ⟨i0, hi, hz0, hz1, hz2⟩ := info_parts (show (Tryd.prog.info? 3).map (fun i => (i.zero, i.size, i.bytes)) = some (some (.int .i64 0), 1, 8) by kernel_rfl)
  cases hok : (distO om a b).2 with
  | false =>
    rw [way_out hG.good hok]
    rw [hok] at hd
    generalize (distO om a b).1 = d at hd
    unfold GivesI
    clear h hG hok
    go_enter Tryd.func25, Tryd.ntmps25
    go_wp2_with fail
    refine hd.mono ?_
    rintro e w' ⟨rfl, rfl⟩
    go_wp2
    go_ret
    exact ⟨_, rfl, World.ownsRow_nil _ _ _ _, Below.refl _ _⟩
  | true =>
    obtain ⟨ha, hb⟩ := dist_true hok
    obtain ⟨g, M, k, rfl, rfl, hM, rfl, hk⟩ := refIn h ha
    obtain ⟨l, rfl⟩ : ∃ l : Nat, b = l := ⟨b.toNat, by have := hb.1; omega⟩
    have hl : l < M.n := by have := hb.2; have : (l : Int) < (M.n : Int) := this; omega
    obtain ⟨names, roads, hE, hMe⟩ := hG M rfl
    have hGM : GoodM M := hMe ▸ good_new hE
    rw [distO_in hk hl] at hok hd
    have h0 : 0 ≤ distM M k l := of_decide_eq_true hok
    rw [show max (distM M k l) 0 = distM M k l by omega, decide_eq_true h0] at hd
    rw [way_start hGM hk hl h0]
    have hnext : ∀ at_, at_ < M.n → 0 ≤ distM M at_ l → at_ ≠ l → ∃ (c : Nat), c < M.n ∧ nextOk M l at_ c ∧ (∀ x, x < c → ¬ nextOk M l at_ x) ∧ distM M c l < distM M at_ l ∧ wayF M l (distM M l at_).toNat at_ = at_ :: wayF M l (distM M l c).toNat c := by
      subst hMe
      intro at_ h1 h2 h3
      obtain ⟨c, _, q1, q2, q3, q4, q5, _⟩ := next_is hE h1 h2 h3
      exact ⟨c, q1, q2, q3, q4, q5⟩
    have hm512 : M.roads.length ≤ 512 := by subst hMe; exact (newE_zero hE).2.1
    have hbound : ∀ u v : Nat, 0 ≤ roadF M.roads u v ∧ roadF M.roads u v ≤ 1073741824 := by subst hMe; exact fun u v => roadF_bound hE u v
    have hdb : ∀ u, u < M.n → -1 ≤ distM M u l ∧ distM M u l ≤ 137438953472 := fun u hu => ⟨hGM.low u l, hGM.bound hu⟩
    have hfew : M.n ≤ 128 := hGM.few
    have hroad := fun W (hW : Below w.heap.size w W) (u v : Int) => refRoad_any g M _ u v W (hM.below hW) hm512
    have hcells := fun (i j : Nat) (hi : i < M.n) (hj : j < M.n) => hM.cells hi hj
    have hend := fun k => wayF_here M l k
    have hpos : 0 < M.n := by omega
    obtain ⟨base, vN, vR, vD, us, h1, h2, h3, h4⟩ := hM
    obtain ⟨A, c, rfl, hc1, hc2⟩ := ownsRow_form h2
    have hc := h1.cell 1
    have hgl := h1.lt
    simp only [List.getElem?_toArray, List.getElem?_cons_succ, List.getElem?_cons_zero] at hc
    obtain ⟨way, hway⟩ : ∃ way, wayF M l (distM M l k).toNat k = way := ⟨_, rfl⟩
    rw [hway]
    have hwb : way.length ≤ 129 := by
      obtain ⟨P, eP, hP⟩ := way_ok hGM hk hl h0
      have e2 := way_start hGM hk hl h0
      rw [eP, hway] at e2
      have := congrArg List.length e2
      rw [List.length_map, List.length_map] at this
      have := hP.few
      omega
    have hcg : ∀ (W : World), Below w.heap.size w W → ∀ (q : Addr) v, w.cell? q = some v → W.cell? q = some v := fun W hW q v hv => by
      have hq : q.block < w.heap.size := by
        rcases Nat.lt_or_ge q.block w.heap.size with h | h
        · exact h
        · rw [World.cell?, Array.getElem?_eq_none h] at hv; cases hv
      exact (hW.cell hq).trans hv
    have HNEXT := Lib.hid hnext; have HBD := Lib.hid hbound; have HDB := Lib.hid hdb; have HROAD := Lib.hid hroad; have HCELL := Lib.hid hcells; have HEND := Lib.hid hend; have HCG := Lib.hid hcg; have HWAY := Lib.hid hway
    clear hnext hbound hdb hroad hcells hend h1 h2 h3 h4 hE hMe hG hGM h ha hb hok hm512 hcg hway
    unfold GivesI
    go_enter Tryd.func25, Tryd.ntmps25
    go_wp2_with fail
    refine hd.mono ?_
    rintro e w' ⟨rfl, rfl⟩
    go_wp2
    go_loopw [1, 7, 9] (fun av dv v wr => ∃ (at_ : Nat) (pre : List Nat), at_ < M.n ∧ 0 ≤ distM M at_ l ∧ av = .int .i64 at_ ∧ dv = .int .i64 (distM M at_ l) ∧ way = pre ++ wayF M l (distM M l at_).toNat at_ ∧ wr.ownsRow w.heap.size 3 1 v (pre.length + 1) ((intsL (pre ++ [at_])).map (Value.int .i64)) ∧ Below w.heap.size w wr) (fun _ dv _ _ => (intOf dv).toNat)
    case atStart =>
      refine ⟨k, [], hk, h0, rfl, rfl, by rw [List.nil_append]; exact HWAY.out.symm, ?_, (Below.refl _ _).alloc (Nat.le_refl _) _⟩
      exact own_one w 3 (.int .i64 (k : Int))
    case round =>
      obtain ⟨at_, pre, hat, hd0, rfl, rfl, hw, hown, hb⟩ := hrel
      have HB := Lib.hid hb; have HO := Lib.hid hown; have HW := Lib.hid hw
      clear hb hown hd
      by_cases he : at_ = l
      · subst he
        have hway : way = pre ++ [at_] := by rw [hw, HEND.out]
        subst hway
        clear hw
        go_wp2
        go_ret
        exact ⟨_, rfl, by rw [intsL, List.length_map, List.length_append]; exact HO.out, HB.out⟩
      · have heI : ¬ (at_ : Int) = (l : Int) := by omega
        obtain ⟨c, hc', hok, hno, hlt, hstep⟩ := HNEXT.out at_ hat hd0 he
        have HOK := Lib.hid hok; have HNO := Lib.hid hno
        have hprel : pre.length + 2 ≤ 129 := by
          rw [hstep] at hw
          obtain ⟨tl, htl⟩ := wayF_head M l (distM M l c).toNat c
          rw [htl] at hw
          rw [hw, List.length_append, List.length_cons, List.length_cons] at hwb
          omega
        have hwn : way = (pre ++ [at_]) ++ wayF M l (distM M l c).toNat c := by rw [hw, hstep]; simp
        have HWN := Lib.hid hwn
        have hatb := HDB.out at_ hat
        have hcr := HCG.out wr HB.out _ _ hc
        have HDLT := Lib.hid hlt
        obtain ⟨da, hda⟩ : ∃ da, distM M at_ l = da := ⟨_, rfl⟩
        rw [hda] at hd0 hatb ⊢
        have HDA := Lib.hid hda
        clear hok hno hstep hw hwn hda hlt
        have hbne : ((at_ : Int) != (l : Int)) = true := by rw [bne_iff_ne]; exact heI
        go_wp2
        (try rw [hbne])
        clear hbne
        go_loopw [1, 7, 9, 10] (fun av dv v i wx => ∃ x : Nat, x ≤ c ∧ av = .int .i64 at_ ∧ dv = .int .i64 da ∧ v = u9 ∧ i = .int .i64 x ∧ Below wr.heap.size wr wx) (fun _ _ _ i _ => M.n - (intOf i).toNat)
        case atStart => exact ⟨0, by omega, rfl, rfl, rfl, rfl, Below.refl _ _⟩
        case round =>
          obtain ⟨x, hx, rfl, rfl, rfl, rfl, hbx⟩ := hrel
          have HBX := Lib.hid (HB.out.trans (hbx.mono HB.out.size))
          have HBX2 := Lib.hid hbx
          have hxn : x < M.n := by omega
          have hxI : (x : Int) < (M.n : Int) := by omega
          have hcr := HCG.out wr HBX.out _ _ hc
          have hrd := HROAD.out wr HBX.out (at_ : Int) (x : Int)
          have hrb := HBD.out at_ x
          have hxb := HDB.out x hxn
          obtain ⟨r, hr⟩ : ∃ r, roadF M.roads (at_ : Int) (x : Int) = r := ⟨_, rfl⟩
          obtain ⟨dx, hdx⟩ : ∃ dx, distM M x l = dx := ⟨_, rfl⟩
          rw [hr] at hrd hrb
          rw [hdx] at hxb
          have hiff : nextOk M l at_ x ↔ (0 < r ∧ 0 ≤ dx ∧ r + dx = da) := by unfold nextOk; rw [hr, hdx, HDA.out]
          obtain ⟨qD, cD, u, k1, k2, k3⟩ := HCELL.out x l hxn hl
          rw [hdx] at k3
          have HIFF := Lib.hid hiff; have HDX := Lib.hid hdx; have HK1 := Lib.hid k1; have HK2 := Lib.hid k2; have HK3 := Lib.hid k3
          have hlI : (l : Int) < (M.n : Int) := by omega
          clear hbx hr hdx hiff k1 k2 k3
          go_wp2_with fail
          refine hrd.mono ?_
          rintro e w2 ⟨rfl, hb2⟩
          have HB2 := Lib.hid (HBX.out.trans (hb2.mono HBX.out.size))
          have HB22 := Lib.hid (HBX2.out.trans (hb2.mono HBX2.out.size))
          have k1 := HCG.out w2 HB2.out _ _ HK1.out
          have k2 := HCG.out w2 HB2.out _ _ HK2.out
          have k3 := HCG.out w2 HB2.out _ _ HK3.out
          clear hb2 hrd hcr
          by_cases h1 : 0 < r
          · by_cases h2 : 0 ≤ dx
            · by_cases h3 : r + dx = da
              · have hxc : x = c := by
                  rcases Nat.lt_or_ge x c with h | h
                  · exact absurd (HIFF.out.2 ⟨h1, h2, h3⟩) (HNO.out x h)
                  · omega
                have hown2 := own_below HO.out HB22.out
                have hrn := reads_new w2 3 [.int .i64 (x : Int)]
                have HRN := Lib.hid hrn; have HXC := Lib.hid hxc
                clear hrn hxc
                go_wp2_with (at_builtin; refine wpList_append_any _ rfl _ _ 36 rfl w.heap.size 3 i0 (.int .i64 0) 1 8 Tryd.underlying36 hi hz0 hz1 hz2 rfl (by decide) _ _ _ rfl (hown2.alloc _) _ _ _ _ [.int .i64 (x : Int)] rfl HRN.out (by simp [Value.oneCell']) (by unfold maxLen; omega) (by omega) (by have := HB2.out.size; simp; omega) ?_; intro v' w3 hown' hgrow hx; clear hx)
                have hb3 : Below w.heap.size w w3 := (HB2.out.alloc HB2.out.size _).grown hgrow (by have := HB2.out.size; simp; omega) (fun g hg => (hown2.lt g hg).1)
                clear hgrow
                go_roundw
                case rel =>
                  have hxc := HXC.out
                  subst hxc
                  refine ⟨x, pre ++ [at_], hxn, by rw [HDX.out]; exact h2, rfl, by rw [HDX.out], HWN.out, ?_, hb3⟩
                  simpa using hown'
                case measure =>
                  have := HDLT.out
                  rw [← HXC.out, HDX.out, HDA.out] at this
                  simp [intOf]; omega
              · have hne : ¬ x = c := fun e => h3 ((HIFF.out.1 (e ▸ HOK.out)).2.2)
                go_wp2
                go_roundw
                case rel => exact ⟨x + 1, by omega, rfl, rfl, rfl, by go_num, HB22.out⟩
                case measure => simp [intOf]; omega
            · have hne : ¬ x = c := fun e => h2 ((HIFF.out.1 (e ▸ HOK.out)).2.1)
              have h2d : decide (0 ≤ dx) = false := decide_eq_false h2
              go_wp2
              go_roundw
              case rel => exact ⟨x + 1, by omega, rfl, rfl, rfl, by go_num, HB22.out⟩
              case measure => simp [intOf]; omega
          · have hne : ¬ x = c := fun e => h1 ((HIFF.out.1 (e ▸ HOK.out)).1)
            have h1d : decide (0 < r) = false := decide_eq_false h1
            go_wp2
            go_roundw
            case rel => exact ⟨x + 1, by omega, rfl, rfl, rfl, by go_num, HB22.out⟩
            case measure => simp [intOf]; omega
end Go.Proofs.YtdelkgfodeilkaaDoor
namespace Go.Proofs.YtdelkgfodeilkaaDoor
open Go.RowKit Go.Lib

theorem okByte_iff (c : UInt8) : okByte c = true ↔ (97 ≤ c.toNat ∧ c.toNat ≤ 122) ∨ (65 ≤ c.toNat ∧ c.toNat ≤ 90) ∨ (48 ≤ c.toNat ∧ c.toNat ≤ 57) ∨ c.toNat = 45 := by
  unfold okByte
  simp only [Bool.or_eq_true, Bool.and_eq_true, decide_eq_true_iff]
  omega
theorem okName_bad {s : ByteArray} {k : Nat} (hk : k < s.data.toList.length) (h : ¬ okByte s.data.toList[k] = true) : okName s = false := by
  unfold okName
  have : s.data.toList.all okByte = false := by
    rw [List.all_eq_false]
    exact ⟨_, List.getElem_mem hk, h⟩
  rw [this, Bool.and_false]
theorem okName_good {s : ByteArray} (h : ∀ j (hl : j < s.data.toList.length), okByte s.data.toList[j] = true) : okName s = (decide (0 < s.size) && decide (s.size ≤ 24)) := by
  unfold okName
  have : s.data.toList.all okByte = true := by
    rw [List.all_eq_true]
    intro x hx
    obtain ⟨i, hi, rfl⟩ := List.getElem_of_mem hx
    exact h i hi
  rw [this, Bool.and_true]
set_option maxRecDepth 20000 in
set_option maxHeartbeats 4000000 in
theorem refname_any (s : ByteArray) (w : World) (hs : s.size ≤ maxLen) : Calls Tryd.prog 54 #[.string s] w fun e w' => e = .returned (.bool (okName s)) ∧ w = w' := by
  obtain ⟨res, hres⟩ : ∃ res, okName s = res := ⟨_, rfl⟩
  rw [hres]
  unfold maxLen at hs
  have HRES := Lib.hid hres
  clear hres
  go_enter Tryd.func54, Tryd.ntmps54
  go_wp2
  go_loopw [3] (fun i wr => ∃ k : Nat, k ≤ s.size ∧ i = .int .i64 k ∧ (∀ j (hj : j < k) (hl : j < s.data.toList.length), okByte s.data.toList[j] = true) ∧ w = wr) (fun i _ => s.size - (intOf i).toNat)
  case atStart => exact ⟨0, by omega, rfl, fun j hj => absurd hj (Nat.not_lt_zero j), rfl⟩
  case round =>
    obtain ⟨k, hk, rfl, ht, rfl⟩ := hrel
    have HT := Lib.hid ht
    clear ht
    by_cases hlt : k < s.size
    · have hkI : (k : Int) < (s.size : Int) := by omega
      have hkl : k < s.data.toList.length := by rw [← Lib.size_eq]; exact hlt
      have hkb : s.data.toList[k] = s[k] := by rw [Array.getElem_toList]; rfl
      have hyes : okByte s[k] = true → ∀ j (hj : j < k + 1) (hl : j < s.data.toList.length), okByte s.data.toList[j] = true := fun h j hj hl => by
        rcases Nat.lt_or_ge j k with h' | h'
        · exact HT.out j h' hl
        · obtain rfl : j = k := by omega
          rw [hkb]; exact h
      have hno : ¬ okByte s[k] = true → false = res := fun h => by rw [← HRES.out, okName_bad hkl (by rw [hkb]; exact h)]
      have hiff := okByte_iff s[k]
      have HY := Lib.hid hyes; have HN := Lib.hid hno; have HI := Lib.hid hiff
      clear hyes hno hkb hiff
      by_cases h45 : s[k].toNat = 45
      · have h45I : (s[k].toNat : Int) = 45 := by omega
        have hok := HY.out (HI.out.2 (by omega))
        have HOK := Lib.hid hok
        clear hok h45 HY HN HI
        go_wp2
        all_goals
          go_roundw
          case rel => exact ⟨k + 1, by omega, by go_num, HOK.out, trivial⟩
          case measure => simp [intOf]; omega
      · have h45I : ¬ (s[k].toNat : Int) = 45 := by omega
        go_wp2
        all_goals first
          | (go_ret
             have hz : ¬ okByte s[k] = true := fun h => by
               have h2 := HI.out.1 h
               omega
             have e0 := HN.out hz
             subst e0
             exact ⟨rfl, rfl⟩)
          | (have hz : okByte s[k] = true := HI.out.2 (by omega)
             have hy := HY.out hz
             go_roundw
             case rel => exact ⟨k + 1, by omega, by go_num, hy, trivial⟩
             case measure => simp [intOf]; omega)
          | (exfalso
             rename_i hq
             simp only [Bool.not_eq_false', decide_eq_true_iff, beq_iff_eq] at hq
             omega)
    · obtain rfl : k = s.size := by omega
      have hr := okName_good (s := s) (fun j hl => HT.out j (by rw [Lib.size_eq]; exact hl) hl)
      rw [HRES.out] at hr
      by_cases h1 : 1 ≤ s.size
      · by_cases h2 : s.size ≤ 24
        · have h1I : (1 : Int) ≤ (s.size : Int) := by omega
          have h2I : (s.size : Int) ≤ 24 := by omega
          rw [decide_eq_true (show 0 < s.size by omega), decide_eq_true h2] at hr
          subst hr
          go_wp2
          go_ret
          exact ⟨rfl, rfl⟩
        · have h1I : (1 : Int) ≤ (s.size : Int) := by omega
          have h2I : ¬ (s.size : Int) ≤ 24 := by omega
          rw [decide_eq_true (show 0 < s.size by omega), decide_eq_false h2] at hr
          subst hr
          go_wp2
          go_ret
          exact ⟨rfl, rfl⟩
      · have h1I : ¬ (1 : Int) ≤ (s.size : Int) := by omega
        rw [decide_eq_false (show ¬ 0 < s.size by omega)] at hr
        subst hr
        go_wp2
        go_ret
        exact ⟨rfl, rfl⟩
end Go.Proofs.YtdelkgfodeilkaaDoor
