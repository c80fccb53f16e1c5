/-
  layer 36: a map of places in memory, as New makes it; Len and has. Conditions: the map lies as New makes it, or is nil.
-/
import Derived.Test.YtdelkgfodeilkaaDoorMapSI
import Derived.Test.YtdelkgfodeilkaaDoorMat
import Derived.Test.YtdelkgfodeilkaaDoorStill
namespace Go.Proofs.YtdelkgfodeilkaaDoor
open Go.RowKit Go.Lib

abbrev strs (l : List ByteArray) : List Value := l.map Value.string
/-- A map: the names, the roads, and the other ends at each point. -/
structure Pts where
  names : List ByteArray
  roads : List (Int × Int × Int)
  near : List (List (Nat × Int))
def roadV (r : Int × Int × Int) : List Value := [.int .i64 r.1, .int .i64 r.2.1, .int .i64 r.2.2]
def endV (e : Nat × Int) : List Value := [.int .i64 e.1, .int .i64 e.2]
def nameF (names : List ByteArray) (s : ByteArray) : Option Int := (names.findIdx? (fun x => x.data.toList == s.data.toList)).map fun i => (i : Int)
def NearM (w : World) (base : Nat) (v : Value) (near : List (List (Nat × Int))) : Prop :=
  ∃ vs : List Value, w.ownsRow base 74 1 v near.length vs ∧ vs.length = near.length ∧ ∀ (k : Nat) (hk : k < near.length), ∃ u, vs[k]? = some u ∧ w.ownsRow base 76 2 u near[k].length (near[k].flatMap endV)
theorem NearM.below {w w' : World} {base : Nat} {v : Value} {near : List (List (Nat × Int))} (h : NearM w base v near) (hb : Below w.heap.size w w') : NearM w' base v near := by
  obtain ⟨vs, h1, h2, h3⟩ := h
  refine ⟨vs, own_below h1 hb, h2, fun k hk => ?_⟩
  obtain ⟨u, hu, ho⟩ := h3 k hk
  exact ⟨u, hu, own_below ho hb⟩
/-- The numbers of names; the zero map has none. -/
def NumM (w : World) (v : Value) (names : List ByteArray) : Prop := (∃ mb, v = .map (some mb) ∧ MapSI w mb names.length (nameF names)) ∨ (v = .map none ∧ names = [])
theorem NumM.below {w w' : World} {v : Value} {names : List ByteArray} (h : NumM w v names) (hb : Below w.heap.size w w') : NumM w' v names := by
  rcases h with ⟨mb, e, h⟩ | h
  · exact .inl ⟨mb, e, h.below hb⟩
  · exact .inr h
def MapAt (w : World) (g : Nat) (M : Pts) : Prop :=
  ∃ base vN vR vE vM, Blk w g 67 #[vN, vM, vR, vE] ∧ w.ownsRow base 9 1 vN M.names.length (strs M.names) ∧ NumM w vM M.names ∧
    w.ownsRow base 43 3 vR M.roads.length (M.roads.flatMap roadV) ∧ NearM w base vE M.near
theorem MapAt.below {w w' : World} {g : Nat} {M : Pts} (h : MapAt w g M) (hb : Below w.heap.size w w') : MapAt w' g M := by
  obtain ⟨base, vN, vR, vE, mb, h1, h2, h3, h4, h5⟩ := h
  exact ⟨base, vN, vR, vE, mb, h1.below hb h1.lt, own_below h2 hb, h3.below hb, own_below h4 hb, h5.below hb⟩
def MapO (w : World) (p : Option Addr) : Option Pts → Prop
  | none => p = none
  | some M => ∃ g, p = some ⟨g, 0, none⟩ ∧ MapAt w g M
theorem MapO.below {w w' : World} {p : Option Addr} {om : Option Pts} (h : MapO w p om) (hb : Below w.heap.size w w') : MapO w' p om := by
  cases om with
  | none => exact h
  | some M => obtain ⟨g, e, h⟩ := h; exact ⟨g, e, h.below hb⟩
def lenO : Option Pts → Nat
  | none => 0
  | some M => M.names.length
theorem lenP_any (p : Option Addr) (om : Option Pts) (w : World) (h : MapO w p om) : Calls Tryd.prog 15 #[.pointer p] w fun e w' => e = .returned (.int .i64 (lenO om)) ∧ w = w' := by
  cases om with
  | none =>
    obtain rfl : p = none := h
    go_enter Tryd.func15, Tryd.ntmps15
    go_wp2
    go_ret
    exact ⟨rfl, rfl⟩
  | some M =>
    obtain ⟨g, rfl, base, vN, vR, vE, mb, h1, h2, h3, h4, h5⟩ := h
    obtain ⟨A, c, rfl, hc1, hc2⟩ := ownsRow_form h2
    have hc := h1.cell 0
    simp only [List.getElem?_toArray, List.getElem?_cons_zero] at hc
    clear h1 h2 h3 h4 h5
    show Calls _ _ _ _ fun e w' => e = .returned (.int .i64 (M.names.length : Nat)) ∧ w = w'
    generalize M.names.length = n at *
    go_enter Tryd.func15, Tryd.ntmps15
    go_wp2
    go_ret
    exact ⟨rfl, rfl⟩
theorem hasP_any (p : Option Addr) (om : Option Pts) (a : Int) (w : World) (h : MapO w p om) : Calls Tryd.prog 48 #[.pointer p, .int .i64 a] w fun e w' => e = .returned (.bool (decide (0 ≤ a) && decide (a < (lenO om : Nat)))) ∧ w = w' := by
  have hl := lenP_any p om w h
  generalize lenO om = n at *
  clear h
  by_cases h0 : 0 ≤ a
  · by_cases h1 : a < (n : Int)
    · rw [decide_eq_true h0, decide_eq_true h1]
      go_enter Tryd.func48, Tryd.ntmps48
      go_wp2_with fail
      refine hl.mono ?_
      rintro e w' ⟨rfl, rfl⟩
      go_wp2
      go_ret
      exact ⟨rfl, rfl⟩
    · rw [decide_eq_true h0, decide_eq_false h1]
      have h1' : n ≤ a := by omega
      have h1d : decide (a < (n : Int)) = false := decide_eq_false h1
      go_enter Tryd.func48, Tryd.ntmps48
      go_wp2_with fail
      refine hl.mono ?_
      rintro e w' ⟨rfl, rfl⟩
      go_wp2
      go_ret
      exact ⟨rfl, rfl⟩
  · rw [decide_eq_false h0, Bool.false_and]
    have h0d : decide (0 ≤ a) = false := decide_eq_false h0
    clear hl
    go_enter Tryd.func48, Tryd.ntmps48
    go_wp2
    go_ret
    exact ⟨rfl, rfl⟩
def namesO : Option Pts → List ByteArray
  | none => []
  | some M => M.names
def nameAt (l : List ByteArray) (a : Int) : ByteArray := if 0 ≤ a ∧ a < (l.length : Nat) then l.getD a.toNat ⟨#[]⟩ else ⟨#[]⟩
theorem lenO_names (om : Option Pts) : (namesO om).length = lenO om := by cases om <;> rfl
theorem nameP_any (p : Option Addr) (om : Option Pts) (a : Int) (w : World) (h : MapO w p om) : Calls Tryd.prog 29 #[.pointer p, .int .i64 a] w fun e w' => e = .returned (.string (nameAt (namesO om) a)) ∧ w = w' := by
  have hh := hasP_any p om a w h
  by_cases hb : 0 ≤ a ∧ a < (lenO om : Nat)
  · rw [decide_eq_true hb.1, decide_eq_true hb.2] at hh
    cases om with
    | none => exact absurd hb.2 (by show ¬ a < ((0 : Nat) : Int); omega)
    | some M =>
      obtain ⟨g, rfl, base, vN, vR, vE, mb, h1, h2, h3, h4, h5⟩ := h
      obtain ⟨A, c, rfl, hc1, hc2⟩ := ownsRow_form h2
      obtain ⟨k, rfl⟩ : ∃ k : Nat, a = k := ⟨a.toNat, by omega⟩
      have hk : k < M.names.length := by have := hb.2; show k < lenO (some M); omega
      obtain ⟨ad, rfl, had, hcx⟩ := ReadS.at_ (k := k) (Reads.of_own h2) hk
      have hc := h1.cell 0
      simp only [List.getElem?_toArray, List.getElem?_cons_zero] at hc
      have hres : nameAt (namesO (some M)) k = M.names[k] := by
        show nameAt M.names k = _
        unfold nameAt
        rw [if_pos ⟨by omega, by omega⟩, Int.toNat_natCast, List.getD_eq_getElem?_getD, List.getElem?_eq_getElem hk]; rfl
      rw [hres]
      have hkI : (k : Int) < (M.names.length : Int) := by omega
      generalize M.names[k] = x at hcx
      clear h1 h2 h3 h4 h5 hres hb hk
      generalize M.names.length = n at *
      go_enter Tryd.func29, Tryd.ntmps29
      go_wp2_with fail
      refine hh.mono ?_
      rintro e w' ⟨rfl, rfl⟩
      go_wp2
      go_ret
      exact ⟨rfl, rfl⟩
  · have hd : (decide (0 ≤ a) && decide (a < (lenO om : Nat))) = false := by
      rw [Bool.and_eq_false_iff, decide_eq_false_iff_not, decide_eq_false_iff_not]; omega
    rw [hd] at hh
    have hres : nameAt (namesO om) a = ⟨#[]⟩ := by unfold nameAt; rw [if_neg (by rw [lenO_names]; exact hb)]
    rw [hres]
    clear hd hres hb h
    go_enter Tryd.func29, Tryd.ntmps29
    go_wp2_with fail
    refine hh.mono ?_
    rintro e w' ⟨rfl, rfl⟩
    go_wp2
    go_ret
    exact ⟨rfl, rfl⟩
def findR (om : Option Pts) (s : ByteArray) : Int × Bool :=
  match om with
  | none => (0, false)
  | some M => ((nameF M.names s).getD 0, (nameF M.names s).isSome)
theorem findP_any (p : Option Addr) (om : Option Pts) (s : ByteArray) (w : World) (h : MapO w p om) (hs : s.size ≤ maxLen) : Calls Tryd.prog 31 #[.pointer p, .string s] w fun e w' => e = .returned (.tuple #[.int .i64 (findR om s).1, .bool (findR om s).2]) ∧ w = w' := by
  cases om with
  | none =>
    obtain rfl : p = none := h
    go_enter Tryd.func31, Tryd.ntmps31
    go_wp2
    go_ret2
    exact ⟨rfl, rfl⟩
  | some M =>
    obtain ⟨g, rfl, base, vN, vR, vE, mb, h1, h2, h3, h4, h5⟩ := h
    have hc := h1.cell 1
    simp only [List.getElem?_toArray, List.getElem?_cons_succ, List.getElem?_cons_zero] at hc
    have hlk : (Instr.lookup 64 mb (.string s) true).run Tryd.prog w = .ok (.tuple #[.int .i64 ((nameF M.names s).getD 0), .bool (nameF M.names s).isSome]) w := by
      rcases h3 with ⟨b, rfl, h3⟩ | ⟨rfl, h3⟩
      · exact MapSI.look h3 s hs
      · rw [h3]
        show _ = Result.ok (Value.tuple #[.int .i64 0, .bool false]) w
        rcases keyS_.find w (key_string hs) [] (fun _ h => by cases h) with ⟨h1, _⟩ | ⟨j, e, _, h2, _⟩
        · simp [Instr.lookup, run_underlying Tryd.underlying64, keyS_.check w _ (key_string hs), h1, Result.andThen]
        · simp at h2
    show Calls _ _ _ _ fun e w' => e = .returned (.tuple #[.int .i64 ((nameF M.names s).getD 0), .bool (nameF M.names s).isSome]) ∧ w = w'
    generalize (nameF M.names s).getD 0 = r1 at *
    generalize (nameF M.names s).isSome = r2 at *
    clear h1 h2 h3 h4 h5
    go_enter Tryd.func31, Tryd.ntmps31
    go_wp2
    go_ret2
    exact ⟨rfl, rfl⟩
end Go.Proofs.YtdelkgfodeilkaaDoor
