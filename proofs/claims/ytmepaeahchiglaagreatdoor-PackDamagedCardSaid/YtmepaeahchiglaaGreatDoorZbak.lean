/-
  Maps from strings to bools, and maps that count names, that the call made. Conditions: keys of at most maxLen bytes. (Printed by mkmapb.py.)
-/
import Derived.Test.YtmepaeahchiglaaGreatDoorZbae
import Derived.Test.YtmepaeahchiglaaGreatDoorZbaj
import Derived.Test.YtmepaeahchiglaaGreatDoorZbaf
import Derived.Test.YtmepaeahchiglaaGreatDoorZbPkCk
namespace Go.Proofs.YtmepaeahchiglaaGreatDoor
open Go.RowKit Go.Maps Go.WideMaps

/-- A set: what it holds is true. -/
def MapSB (w : World) (b n : Nat) (f : ByteArray → Bool) : Prop :=
  ∃ D : DataW Unit, w.ownsMap Tryz.prog 9 (plainElem Tryz.prog 4) b n D ∧ IsMap D ∧
    ∀ s : ByteArray, D.atKey (.string s.data.toList) (.lit (.bool false)) = .lit (.bool (f s))
theorem MapSB.lt {w : World} {b n : Nat} {f : ByteArray → Bool} (h : MapSB w b n f) : b < w.heap.size := by
  obtain ⟨D, h1, _⟩ := h; exact h1.lt
theorem MapSB.made (w : World) : MapSB (w.alloc (.map #[] 0)) w.heap.size 0 (fun _ => false) :=
  ⟨.map [], World.ownsMap_made w _ _ _, isMap_empty, fun _ => rfl⟩
theorem MapSB.kept {w w' : World} {b n : Nat} {f : ByteArray → Bool} {row : Option Nat} (h : MapSB w b n f) (hg : w.grownBy w' row) (hne : some b ≠ row) : MapSB w' b n f := by
  obtain ⟨D, h1, h2⟩ := h; exact ⟨D, h1.kept hg hne, h2⟩
theorem MapSB.below {w w' : World} {b n : Nat} {f : ByteArray → Bool} (h : MapSB w b n f) (hb : Below w.heap.size w w') : MapSB w' b n f :=
  h.kept (row := none) ⟨hb.os, hb.tape, hb.output, hb.size, fun i hi _ => hb.block i hi⟩ (by simp)
theorem zero_bool (w : World) : (zeroValue 4).run Tryz.prog w = .ok (.bool false) w := by kernel_rfl
theorem plainElem_bool_inv {H : Type} {P : Program} {e : TypeId} (he : P.underlying e = some .bool) {v : Value} {z : DataW H × List MemPlace} (h : plainElem P e v = some z) : ∃ x, v = .bool x ∧ z = (.lit (.bool x), []) := by
  unfold plainElem at h
  rw [he] at h
  cases v with
  | bool x => exact ⟨x, rfl, (Option.some.inj h).symm⟩
  | _ => cases h
/-- 'm[s]'. -/
theorem MapSB.look {w : World} {b n : Nat} {f : ByteArray → Bool} (h : MapSB w b n f) (s : ByteArray) (hs : s.size ≤ maxLen) :
    (Instr.lookup 271 (.map (some b)) (.string s) false).run Tryz.prog w = .ok (.bool (f s)) w := by
  obtain ⟨D, h1, h2, h3⟩ := h
  obtain ⟨v, ps, hrun, hv⟩ := h1.lookup keyS_ Tryz.underlying271 (zero_bool w) (plainElem_bool (H := Unit) Tryz.underlying4 false) (key_string hs)
  obtain ⟨c, rfl, hc⟩ := plainElem_bool_inv Tryz.underlying4 hv
  simp only [Prod.mk.injEq] at hc
  rw [h3 s] at hc
  have : c = f s := (Lit.bool.inj (DataW.lit.inj hc.1)).symm
  rw [hrun, this]
theorem keyLit_string (l : List UInt8) : WideAt.IsKeyLit (.string l) := by first | trivial | rfl | (unfold WideAt.IsKeyLit; trivial)
theorem string_lit_ne {t s : ByteArray} (e : t ≠ s) : (Lit.string t.data.toList) ≠ .string s.data.toList := fun h => e (by
  injection h with h
  obtain ⟨⟨l⟩⟩ := t; obtain ⟨⟨l'⟩⟩ := s
  simp only at h; rw [h])
/-- 'm[s] = true'. -/
theorem wpList_putSB {w : World} {ops : Array Oper} {rest : List Oper} {o : Oper} {a : Act} {Q : Exit → Act → World → Prop}
    (hg : o.guard = none) (m x v : Operand) (hop : o.op = Op.mapUpdate 271 m x v) (b n : Nat) (f : ByteArray → Bool) (hm : a.eval m = .map (some b)) (h : MapSB w b n f) (hn : n < maxLen)
    (s : ByteArray) (hs : s.size ≤ maxLen) (hx : a.eval x = .string s) (hv : a.eval v = .bool true)
    (hK : ∀ w', MapSB w' b (n + 1) (fun t => if t = s then true else f t) → w.grownBy w' (some b) → wpList Tryz.prog ops Q rest (a.put o.dst undef) w') :
    wpList Tryz.prog ops Q (o :: rest) a w := by
  obtain ⟨D, h1, h2, h3⟩ := h
  refine wpList_mapUpdate_own w hg m x v 271 hop 9 4 keyS_ Tryz.underlying271 _ b n D hm h1 hn (.string s) (.bool true) (.string s.data.toList) hx hv (key_string hs) (.lit (.bool true)) [] (plainElem_bool Tryz.underlying4 true) ?_
  intro w1 hown hgrow
  refine hK w1 ⟨_, hown, h2.put _ _, fun t => ?_⟩ hgrow
  by_cases e : t = s
  · subst e
    rw [atKey_put_same h2 (keyLit_string _)]
    simp
  · rw [atKey_put_other (string_lit_ne e), h3 t]
    simp only [if_neg e]
/-! A map that counts names. -/
def MapCt (w : World) (b : Nat) (ns : List (List UInt8)) : Prop :=
  ∃ D : DataW Unit, w.ownsMap Tryz.prog 9 (plainElem Tryz.prog 3) b ns.length D ∧ IsMap D ∧ (∀ l : List UInt8, has D (.string l) = decide (l ∈ ns)) ∧
    (∀ l : List UInt8, ∃ c : Int, 0 ≤ c ∧ c ≤ ns.length ∧ D.atKey (.string l) (.lit (.int .i64 0)) = .lit (.int .i64 c)) ∧ (Maps.size D = ns.length ∧ ns.Nodup ∨ Maps.size D < ns.length ∧ ¬ ns.Nodup)
theorem MapCt.lt {w : World} {b : Nat} {ns : List (List UInt8)} (h : MapCt w b ns) : b < w.heap.size := by
  obtain ⟨D, h1, _⟩ := h; exact h1.lt
theorem MapCt.made (w : World) : MapCt (w.alloc (.map #[] 0)) w.heap.size [] :=
  ⟨.map [], World.ownsMap_made w _ _ _, isMap_empty, fun _ => rfl, fun _ => ⟨0, Int.le_refl _, Int.le_refl _, rfl⟩, .inl ⟨rfl, List.nodup_nil⟩⟩
theorem MapCt.kept {w w' : World} {b : Nat} {ns : List (List UInt8)} {row : Option Nat} (h : MapCt w b ns) (hg : w.grownBy w' row) (hne : some b ≠ row) : MapCt w' b ns := by
  obtain ⟨D, h1, h2⟩ := h; exact ⟨D, h1.kept hg hne, h2⟩
theorem MapCt.below {w w' : World} {b : Nat} {ns : List (List UInt8)} (h : MapCt w b ns) (hb : Below w.heap.size w w') : MapCt w' b ns :=
  h.kept (row := none) ⟨hb.os, hb.tape, hb.output, hb.size, fun i hi _ => hb.block i hi⟩ (by simp)
theorem MapCt.look {w : World} {b : Nat} {ns : List (List UInt8)} (h : MapCt w b ns) (s : ByteArray) (hs : s.size ≤ maxLen) :
    ∃ c : Int, 0 ≤ c ∧ c ≤ ns.length ∧ (Instr.lookup 240 (.map (some b)) (.string s) false).run Tryz.prog w = .ok (.int .i64 c) w := by
  obtain ⟨D, h1, h2, -, h4, -⟩ := h
  obtain ⟨c, hrun, hat, -⟩ := h1.lookup_int keyS_ Tryz.underlying240 Tryz.underlying3 (zero_int w) (key_string hs)
  obtain ⟨c', hc1, hc2, hc3⟩ := h4 s.data.toList
  rw [hc3] at hat
  have : c' = c := (Lit.int.inj (DataW.lit.inj hat)).2
  subst this
  exact ⟨c', hc1, hc2, hrun⟩
theorem MapCt.len {w : World} {b : Nat} {ns : List (List UInt8)} (h : MapCt w b ns) (ty : TypeId) : ∃ n : Nat, (Builtin.len_ #[240] ty #[.map (some b)]).run Tryz.prog w = .ok (.int .i64 n) w ∧ (n = ns.length ∧ ns.Nodup ∨ n < ns.length ∧ ¬ ns.Nodup) := by
  obtain ⟨D, h1, -, -, -, h5⟩ := h
  exact ⟨_, h1.len Tryz.underlying240 ty, h5⟩
theorem wpList_putCt {w : World} {ops : Array Oper} {rest : List Oper} {o : Oper} {a : Act} {Q : Exit → Act → World → Prop}
    (hg : o.guard = none) (m x v : Operand) (hop : o.op = Op.mapUpdate 240 m x v) (b : Nat) (ns : List (List UInt8)) (hm : a.eval m = .map (some b)) (h : MapCt w b ns) (hn : ns.length < 1000000)
    (s : ByteArray) (hs : s.size ≤ maxLen) (i : Int) (hi0 : 0 ≤ i) (hi1 : i ≤ ns.length + 1) (hx : a.eval x = .string s) (hv : a.eval v = .int .i64 i)
    (hK : ∀ w', MapCt w' b (ns ++ [s.data.toList]) → w.grownBy w' (some b) → wpList Tryz.prog ops Q rest (a.put o.dst undef) w') :
    wpList Tryz.prog ops Q (o :: rest) a w := by
  obtain ⟨D, h1, h2, h3, h4, h5⟩ := h
  have hwf : (Lit.int .i64 i).wf = true := WalkArith.wf_i64 (by omega)
  refine wpList_mapUpdate_own w hg m x v 240 hop 9 3 keyS_ Tryz.underlying240 _ b ns.length D hm h1 (by unfold maxLen; omega) (.string s) (.int .i64 i) (.string s.data.toList) hx hv (key_string hs) (.lit (.int .i64 i)) [] (plainElem_int Tryz.underlying3 hwf) ?_
  intro w1 hown hgrow
  have hsz := size_put (D := D) (k := .string s.data.toList) (h1.tidy keyS_) (.lit (.int .i64 i))
  rw [h3 s.data.toList] at hsz
  refine hK w1 ⟨_, by rw [List.length_append]; exact hown, h2.put _ _, fun t => ?_, fun t => ?_, ?_⟩ hgrow
  · by_cases e : t = s.data.toList
    · subst e
      rw [has_put_same h2 (keyLit_string _), eq_comm, decide_eq_true_iff]
      exact List.mem_append_right _ (List.mem_singleton.2 rfl)
    · rw [has_put_other (fun h => e (Lit.string.inj h)), h3 t]
      exact decide_eq_decide.2 ⟨fun h => List.mem_append_left _ h, fun h => (List.mem_append.1 h).elim id fun h => absurd (List.mem_singleton.1 h) e⟩
  · by_cases e : t = s.data.toList
    · subst e
      rw [atKey_put_same h2 (keyLit_string _)]
      exact ⟨i, hi0, by rw [List.length_append]; simp only [List.length_cons, List.length_nil]; omega, rfl⟩
    · rw [atKey_put_other (fun h => e (Lit.string.inj h))]
      obtain ⟨c, h6, h7, h8⟩ := h4 t
      exact ⟨c, h6, by rw [List.length_append]; simp only [List.length_cons, List.length_nil]; omega, h8⟩
  · rw [hsz, List.length_append, List.length_singleton]
    by_cases hm : s.data.toList ∈ ns
    · rw [decide_eq_true hm, if_pos rfl]
      refine .inr ⟨by rcases h5 with h | h <;> omega, fun hnd => ?_⟩
      rw [List.nodup_append] at hnd
      exact hnd.2.2 _ hm _ (List.mem_singleton.2 rfl) rfl
    · rw [decide_eq_false hm, if_neg (by decide)]
      rcases h5 with ⟨h6, h7⟩ | ⟨h6, h7⟩
      · refine .inl ⟨by omega, ?_⟩
        rw [List.nodup_append]
        refine ⟨h7, by simp, fun a ha b hb => ?_⟩
        rw [List.mem_singleton] at hb
        subst hb
        exact fun e => hm (e ▸ ha)
      · exact .inr ⟨by omega, fun hnd => h7 (List.nodup_append.1 hnd).1⟩
end Go.Proofs.YtmepaeahchiglaaGreatDoor
namespace Go.Proofs.YtmepaeahchiglaaGreatDoor
open Go.RowKit Go.Lib

/-- Whether an element of Out is valid, with k conditions. -/
def oOk (k : Nat) (x : Ot) : Bool := outOk x (k : Int)
set_option maxRecDepth 20000 in
theorem invalid_any (s : Snd) (w : World) (hs : ok32 s) : Calls Tryz.prog 67 #[sndV s] w fun e w' => e = .returned (.bool (!validS s)) ∧ Below w.heap.size w w' := by
  have hv := fun W => fvalid_any s W hs
  generalize validS s = v at *
  have HV := Lib.hid hv
  clear hv hs
  obtain ⟨a, b⟩ := s
  go_enter Tryz.func67, Tryz.ntmps67
  go_wp2_with fail
  refine (HV.out _).mono ?_
  rintro e w1 ⟨rfl, hb⟩
  have HB := Lib.hid hb
  clear hb
  go_wp2
  go_ret
  exact ⟨rfl, ((Below.refl _ w).alloc (Nat.le_refl _) _).trans (HB.out.mono (by simp))⟩
set_option maxRecDepth 20000 in
theorem bad_any (x : Ot) (k h : Nat) (w : World) (hcl : is32 x.clear) (hset : ok32 x.set) (htk : is32 x.take) (hh : Blk w h 3 #[.int .i64 k]) :
    Calls Tryz.prog 65 #[outV x, wptr h] w fun e w' => e = .returned (.bool (!oOk k x)) ∧ Below w.heap.size w w' := by
  have hv := fun W => fits_any x k W hcl hset htk
  unfold oOk
  generalize outOk x (k : Int) = v at *
  have hc := (hh.alloc (.cells #[.int .i64 x.src, .int .u32 x.clear, .int .u32 x.set.1, .int .u32 x.set.2, .int .u32 x.take, .int .i64 x.ref] 90)).cell 0
  simp only [List.getElem?_toArray, List.getElem?_cons_zero] at hc
  have HV := Lib.hid hv
  clear hv hcl hset htk hh
  obtain ⟨src, clear, set, take, ref⟩ := x
  obtain ⟨a, b⟩ := set
  simp only at *
  go_enter Tryz.func65, Tryz.ntmps65
  go_wp2_with fail
  refine (HV.out _).mono ?_
  rintro e w1 ⟨rfl, hb⟩
  have HB := Lib.hid hb
  clear hb
  go_wp2
  go_ret
  exact ⟨rfl, ((Below.refl _ w).alloc (Nat.le_refl _) _).trans (HB.out.mono (by simp))⟩
set_option maxRecDepth 20000 in
set_option maxHeartbeats 1000000 in
theorem idxS_any (A : Option Addr) (n c B : Nat) (l : List Snd) (w : World) (hr : Reads w B 2 A n (l.flatMap sndC)) (hB : B ≤ w.heap.size) (hn : n ≤ maxLen) (hok : ∀ x ∈ l, ok32 x) :
    Calls Tryz.prog 145 #[.slice A n c, .func (.func 67) #[] #[]] w fun e w' => (∃ i : Int, e = .returned (.int .i64 i) ∧ decide (0 ≤ i) = !(l.all (validS))) ∧ Below w.heap.size w w' := by
  unfold maxLen at hn
  have hwl := hr.len_of (fun _ => rfl) (by decide)
  obtain ⟨res, hres⟩ : ∃ res, (!(l.all (validS))) = res := ⟨_, rfl⟩
  rw [hres]
  have HRES := Lib.hid hres; have HR := Lib.hid hr; have HWL := Lib.hid hwl; have HOK := Lib.hid hok
  clear hres hr hwl hok
  obtain ⟨PO, hPO⟩ : ∃ PO : Ending → World → Prop, PO = fun e w' => (∃ i : Int, e = .returned (.int .i64 i) ∧ decide (0 ≤ i) = res) ∧ Below w.heap.size w w' := ⟨_, rfl⟩
  show Calls _ _ _ _ fun e w' => (∃ i : Int, e = .returned (.int .i64 i) ∧ decide (0 ≤ i) = res) ∧ Below w.heap.size w w'
  rw [← hPO]
  have HPO := Lib.hid hPO
  clear hPO
  go_enter Tryz.func145, Tryz.ntmps145
  go_wp2
  go_loopw [8] (fun i wr => ∃ k : Nat, k ≤ n ∧ i = .int .i64 k ∧ (l.take k).all (validS) = true ∧ Below w.heap.size w wr) (fun i _ => n - (RowKit.intOf i).toNat)
  case atStart => exact ⟨0, by omega, rfl, by simp, Below.refl _ _⟩
  case round =>
    obtain ⟨k, hk, rfl, hall, hb⟩ := hrel
    have HALL := Lib.hid hall; have HB := Lib.hid hb
    clear hall hb
    by_cases hlt : k < n
    · have hkl : k < l.length := by rw [HWL.out]; exact hlt
      have hkI : (k : Int) < (n : Int) := by omega
      obtain ⟨ad, rfl, had, hc0, hc1⟩ := snd_cells (HR.out.below (HB.out.mono hB)) hkl
      have hst : (l.take (k + 1)).all (validS) = ((l.take k).all (validS) && (validS) l[k]) := by rw [List.take_succ_eq_append_getElem hkl, List.all_append]; simp
      have hmem := List.getElem_mem hkl
      have hOK := HOK.out _ hmem
      have HST := Lib.hid hst
      cases hv : (validS) l[k]
      · have hno : res = true := by
          rw [← HRES.out, Bool.not_eq_true', List.all_eq_false]
          exact ⟨_, hmem, by rw [hv]; decide⟩
        have HV := Lib.hid hv; have HNO := Lib.hid hno
        clear hv hno hmem hst
        generalize l[k] = x at *
        go_wp2_with fail
        refine (invalid_any x _ hOK).mono ?_
        rw [HV.out]
        rintro e w2 ⟨rfl, hb2⟩
        have HB2 := Lib.hid hb2
        clear hb2
        go_wp2
        rw [HPO.out]
        exact ⟨⟨k, rfl, by rw [HNO.out]; exact decide_eq_true (by omega)⟩, HB.out.trans (HB2.out.mono HB.out.size)⟩
      · have HV := Lib.hid hv
        clear hv hmem hst
        generalize l[k] = x at *
        go_wp2_with fail
        refine (invalid_any x _ hOK).mono ?_
        rw [HV.out]
        rintro e w2 ⟨rfl, hb2⟩
        have HB2 := Lib.hid hb2
        clear hb2
        go_wp2
        go_roundw
        case rel => exact ⟨k + 1, by omega, by go_num, by rw [HST.out, HALL.out, HV.out]; rfl, HB.out.trans (HB2.out.mono HB.out.size)⟩
        case measure => simp [RowKit.intOf]; omega
    · obtain rfl : k = n := by omega
      go_wp2
      have := HALL.out
      rw [List.take_of_length_le (by rw [HWL.out]; exact Nat.le_refl _)] at this
      rw [HPO.out]
      exact ⟨⟨-1, rfl, by rw [← HRES.out, this]; rfl⟩, HB.out⟩
set_option maxRecDepth 20000 in
theorem contS_any (A : Option Addr) (n c B : Nat) (l : List Snd) (w : World) (hr : Reads w B 2 A n (l.flatMap sndC)) (hB : B ≤ w.heap.size) (hn : n ≤ maxLen) (hok : ∀ x ∈ l, ok32 x) :
    Calls Tryz.prog 71 #[.slice A n c, .func (.func 67) #[] #[]] w fun e w' => e = .returned (.bool (!(l.all (validS)))) ∧ Below w.heap.size w w' := by
  have hc := idxS_any A n c B l w hr hB hn hok
  generalize (!(l.all (validS))) = res at *
  clear hr hok
  go_enter Tryz.func71, Tryz.ntmps71
  go_wp2_with fail
  refine hc.mono ?_
  rintro e w1 ⟨⟨i, rfl, hi⟩, hb⟩
  have HI := Lib.hid hi; have HB := Lib.hid hb
  clear hi hb
  go_wp2
  go_ret
  exact ⟨by rw [← HI.out]; rfl, HB.out⟩
set_option maxRecDepth 20000 in
set_option maxHeartbeats 1000000 in
theorem idxO_any (A : Option Addr) (n c B : Nat) (l : List Ot) (w : World) (k0 h : Nat) (hh : Blk w h 3 #[.int .i64 k0]) (hr : Reads w B 6 A n (l.flatMap outC)) (hB : B ≤ w.heap.size) (hn : n ≤ maxLen) (hok : ∀ x ∈ l, is32 x.clear ∧ ok32 x.set ∧ is32 x.take) :
    Calls Tryz.prog 146 #[.slice A n c, .func (.func 65) #[] #[wptr h]] w fun e w' => (∃ i : Int, e = .returned (.int .i64 i) ∧ decide (0 ≤ i) = !(l.all (oOk k0))) ∧ Below w.heap.size w w' := by
  unfold maxLen at hn
  have hwl := hr.len_of (fun _ => rfl) (by decide)
  obtain ⟨res, hres⟩ : ∃ res, (!(l.all (oOk k0))) = res := ⟨_, rfl⟩
  rw [hres]
  have HRES := Lib.hid hres; have HR := Lib.hid hr; have HWL := Lib.hid hwl; have HOK := Lib.hid hok; have HX := Lib.hid hh
  clear hres hr hwl hok hh
  obtain ⟨PO, hPO⟩ : ∃ PO : Ending → World → Prop, PO = fun e w' => (∃ i : Int, e = .returned (.int .i64 i) ∧ decide (0 ≤ i) = res) ∧ Below w.heap.size w w' := ⟨_, rfl⟩
  show Calls _ _ _ _ fun e w' => (∃ i : Int, e = .returned (.int .i64 i) ∧ decide (0 ≤ i) = res) ∧ Below w.heap.size w w'
  rw [← hPO]
  have HPO := Lib.hid hPO
  clear hPO
  go_enter Tryz.func146, Tryz.ntmps146
  go_wp2
  go_loopw [8] (fun i wr => ∃ k : Nat, k ≤ n ∧ i = .int .i64 k ∧ (l.take k).all (oOk k0) = true ∧ Below w.heap.size w wr) (fun i _ => n - (RowKit.intOf i).toNat)
  case atStart => exact ⟨0, by omega, rfl, by simp, Below.refl _ _⟩
  case round =>
    obtain ⟨k, hk, rfl, hall, hb⟩ := hrel
    have HALL := Lib.hid hall; have HB := Lib.hid hb
    clear hall hb
    by_cases hlt : k < n
    · have hkl : k < l.length := by rw [HWL.out]; exact hlt
      have hkI : (k : Int) < (n : Int) := by omega
      obtain ⟨ad, rfl, had, hc0, hc1, hc2, hc3, hc4, hc5⟩ := out_cells (HR.out.below (HB.out.mono hB)) hkl
      have hst : (l.take (k + 1)).all (oOk k0) = ((l.take k).all (oOk k0) && (oOk k0) l[k]) := by rw [List.take_succ_eq_append_getElem hkl, List.all_append]; simp
      have hmem := List.getElem_mem hkl
      have hOK := HOK.out _ hmem
      have HST := Lib.hid hst
      cases hv : (oOk k0) l[k]
      · have hno : res = true := by
          rw [← HRES.out, Bool.not_eq_true', List.all_eq_false]
          exact ⟨_, hmem, by rw [hv]; decide⟩
        have HV := Lib.hid hv; have HNO := Lib.hid hno
        clear hv hno hmem hst
        generalize l[k] = x at *
        go_wp2_with fail
        refine (bad_any x k0 h _ hOK.1 hOK.2.1 hOK.2.2 (HX.out.below HB.out HX.out.lt)).mono ?_
        rw [HV.out]
        rintro e w2 ⟨rfl, hb2⟩
        have HB2 := Lib.hid hb2
        clear hb2
        go_wp2
        rw [HPO.out]
        exact ⟨⟨k, rfl, by rw [HNO.out]; exact decide_eq_true (by omega)⟩, HB.out.trans (HB2.out.mono HB.out.size)⟩
      · have HV := Lib.hid hv
        clear hv hmem hst
        generalize l[k] = x at *
        go_wp2_with fail
        refine (bad_any x k0 h _ hOK.1 hOK.2.1 hOK.2.2 (HX.out.below HB.out HX.out.lt)).mono ?_
        rw [HV.out]
        rintro e w2 ⟨rfl, hb2⟩
        have HB2 := Lib.hid hb2
        clear hb2
        go_wp2
        go_roundw
        case rel => exact ⟨k + 1, by omega, by go_num, by rw [HST.out, HALL.out, HV.out]; rfl, HB.out.trans (HB2.out.mono HB.out.size)⟩
        case measure => simp [RowKit.intOf]; omega
    · obtain rfl : k = n := by omega
      go_wp2
      have := HALL.out
      rw [List.take_of_length_le (by rw [HWL.out]; exact Nat.le_refl _)] at this
      rw [HPO.out]
      exact ⟨⟨-1, rfl, by rw [← HRES.out, this]; rfl⟩, HB.out⟩
set_option maxRecDepth 20000 in
theorem contO_any (A : Option Addr) (n c B : Nat) (l : List Ot) (w : World) (k0 h : Nat) (hh : Blk w h 3 #[.int .i64 k0]) (hr : Reads w B 6 A n (l.flatMap outC)) (hB : B ≤ w.heap.size) (hn : n ≤ maxLen) (hok : ∀ x ∈ l, is32 x.clear ∧ ok32 x.set ∧ is32 x.take) :
    Calls Tryz.prog 72 #[.slice A n c, .func (.func 65) #[] #[wptr h]] w fun e w' => e = .returned (.bool (!(l.all (oOk k0)))) ∧ Below w.heap.size w w' := by
  have hc := idxO_any A n c B l w k0 h hh hr hB hn hok
  generalize (!(l.all (oOk k0))) = res at *
  clear hr hok
  go_enter Tryz.func72, Tryz.ntmps72
  go_wp2_with fail
  refine hc.mono ?_
  rintro e w1 ⟨⟨i, rfl, hi⟩, hb⟩
  have HI := Lib.hid hi; have HB := Lib.hid hb
  clear hi hb
  go_wp2
  go_ret
  exact ⟨by rw [← HI.out]; rfl, HB.out⟩
end Go.Proofs.YtmepaeahchiglaaGreatDoor
namespace Go.Proofs.YtmepaeahchiglaaGreatDoor
open Go.RowKit Go.Lib

/-- Whether a law is valid. -/
def lawOk (l : Lw) : Bool := okName l.name && (patOk l.left && (patOk l.right && (decide (l.ifs.length ≤ 4) && (decide (l.outs.length ≤ 6) && (decide (0 < l.ifs.length + l.outs.length) && (decide (1 ≤ l.mode ∧ l.mode ≤ 3) && (l.ifs.all validS && l.outs.all (oOk l.ifs.length))))))))
def lawE (l : Lw) : Int := if lawOk l then 0 else 17
theorem lawE_no {l : Lw} (h : lawOk l = false) : lawE l = 17 := by unfold lawE; rw [h]; rfl
theorem lawE_yes {l : Lw} (h : lawOk l = true) : lawE l = 0 := by unfold lawE; rw [h]; rfl
set_option maxRecDepth 20000 in
set_option maxHeartbeats 4000000 in
theorem lawCheck_any (w : World) (B : Nat) (l : Lw) (cs : List Value) (hl : LawC w B l cs) (hB : B ≤ w.heap.size) (hnm : l.name.size ≤ maxLen) :
    Calls Tryz.prog 23 #[.agg cs.toArray] w fun e w' => e = .returned (.int .i64 (lawE l)) ∧ Below w.heap.size w w' := by
  obtain ⟨k1, s1, n1, lo1, hi1, A1, m1, c1, k2, s2, n2, lo2, hi2, A2, m2, c2, A3, c3, A4, c4, rfl, -, -, -, -, hs3, hs4, hm3, hm4⟩ := hl.form
  obtain ⟨res, hres⟩ : ∃ res, lawE l = res := ⟨_, rfl⟩
  rw [hres]
  have hno : lawOk l = false → res = 17 := fun h => by rw [← hres, lawE_no h]
  have hyes : lawOk l = true → res = 0 := fun h => by rw [← hres, lawE_yes h]
  clear hres
  obtain ⟨nm, left, right, ifs, outs, mode⟩ := l
  simp only at hs3 hs4 hm3 hm4 hnm ⊢
  unfold lawOk at hno hyes
  simp only at hno hyes
  have hbel0 : Below w.heap.size w ((w.alloc (.cells #[.string nm, .int .i64 k1, .int .u32 s1.1, .int .u32 s1.2, .bool n1, .int .i64 lo1, .int .i64 hi1, .slice A1 m1 c1, .int .i64 k2, .int .u32 s2.1, .int .u32 s2.2, .bool n2, .int .i64 lo2, .int .i64 hi2, .slice A2 m2 c2, .slice A3 ifs.length c3, .slice A4 outs.length c4, .int .i64 mode] 62)).alloc (.cells #[.int .i64 (ifs.length : Nat)] 3)) := ((Below.refl _ w).alloc (Nat.le_refl _) _).alloc (by simp) _
  have hl0 := hl.below (hbel0.mono hB)
  have hb0 : Blk ((w.alloc (.cells #[.string nm, .int .i64 k1, .int .u32 s1.1, .int .u32 s1.2, .bool n1, .int .i64 lo1, .int .i64 hi1, .slice A1 m1 c1, .int .i64 k2, .int .u32 s2.1, .int .u32 s2.2, .bool n2, .int .i64 lo2, .int .i64 hi2, .slice A2 m2 c2, .slice A3 ifs.length c3, .slice A4 outs.length c4, .int .i64 mode] 62)).alloc (.cells #[.int .i64 (ifs.length : Nat)] 3)) w.heap.size 62 #[.string nm, .int .i64 k1, .int .u32 s1.1, .int .u32 s1.2, .bool n1, .int .i64 lo1, .int .i64 hi1, .slice A1 m1 c1, .int .i64 k2, .int .u32 s2.1, .int .u32 s2.2, .bool n2, .int .i64 lo2, .int .i64 hi2, .slice A2 m2 c2, .slice A3 ifs.length c3, .slice A4 outs.length c4, .int .i64 mode] := (Blk.new w _ _).alloc _
  have hv0 : Blk ((w.alloc (.cells #[.string nm, .int .i64 k1, .int .u32 s1.1, .int .u32 s1.2, .bool n1, .int .i64 lo1, .int .i64 hi1, .slice A1 m1 c1, .int .i64 k2, .int .u32 s2.1, .int .u32 s2.2, .bool n2, .int .i64 lo2, .int .i64 hi2, .slice A2 m2 c2, .slice A3 ifs.length c3, .slice A4 outs.length c4, .int .i64 mode] 62)).alloc (.cells #[.int .i64 (ifs.length : Nat)] 3)) (w.heap.size + 1) 3 #[.int .i64 (ifs.length : Nat)] := by simpa using Blk.new (w.alloc (.cells #[.string nm, .int .i64 k1, .int .u32 s1.1, .int .u32 s1.2, .bool n1, .int .i64 lo1, .int .i64 hi1, .slice A1 m1 c1, .int .i64 k2, .int .u32 s2.1, .int .u32 s2.2, .bool n2, .int .i64 lo2, .int .i64 hi2, .slice A2 m2 c2, .slice A3 ifs.length c3, .slice A4 outs.length c4, .int .i64 mode] 62)) 3 #[.int .i64 (ifs.length : Nat)]
  obtain ⟨Z0, hZ0⟩ : ∃ Z, (w.alloc (.cells #[.string nm, .int .i64 k1, .int .u32 s1.1, .int .u32 s1.2, .bool n1, .int .i64 lo1, .int .i64 hi1, .slice A1 m1 c1, .int .i64 k2, .int .u32 s2.1, .int .u32 s2.2, .bool n2, .int .i64 lo2, .int .i64 hi2, .slice A2 m2 c2, .slice A3 ifs.length c3, .slice A4 outs.length c4, .int .i64 mode] 62)).alloc (.cells #[.int .i64 (ifs.length : Nat)] 3) = Z := ⟨_, rfl⟩
  rw [hZ0] at hbel0 hl0 hb0 hv0
  have HZ0 := Lib.hid hZ0
  have hc1 := named_any nm Z0 hnm
  have HNO := Lib.hid hno; have HYES := Lib.hid hyes; have HS3 := Lib.hid hs3; have HS4 := Lib.hid hs4
  have HB0 := Lib.hid hb0; have HV0 := Lib.hid hv0; have HL0 := Lib.hid hl0; have HE0 := Lib.hid hbel0
  clear hZ0 hno hyes hs3 hs4 hb0 hv0 hl0 hbel0 hl
  unfold maxLen at hm3 hm4
  show Calls _ _ #[.agg #[.string nm, .int .i64 k1, .int .u32 s1.1, .int .u32 s1.2, .bool n1, .int .i64 lo1, .int .i64 hi1, .slice A1 m1 c1, .int .i64 k2, .int .u32 s2.1, .int .u32 s2.2, .bool n2, .int .i64 lo2, .int .i64 hi2, .slice A2 m2 c2, .slice A3 ifs.length c3, .slice A4 outs.length c4, .int .i64 mode]] _ _
  go_enter Tryz.func23, Tryz.ntmps23
  go_wp2_with fail
  rw [HZ0.out]
  clear HZ0
  cases hok1 : okName nm
  · rw [hok1] at hc1
    refine hc1.mono ?_
    rintro e w1 ⟨rfl, hb1⟩
    have h17 := HNO.out (by rw [hok1]; rfl)
    have HB1 := Lib.hid (HE0.out.trans (hb1.mono HE0.out.size))
    clear hb1 hok1 hc1
    subst h17
    go_wp2
    go_ret
    exact ⟨rfl, HB1.out⟩
  rw [hok1] at hc1
  refine hc1.mono ?_
  rintro e w1 ⟨rfl, hb1⟩
  have HOK1 := Lib.hid hok1
  clear hok1 hc1
  have hbx := HB0.out.below hb1 HB0.out.lt
  have hvx := HV0.out.below hb1 HV0.out.lt
  have hlx := HL0.out.below (hb1.mono (Nat.le_trans hB HE0.out.size))
  have hex := HE0.out.trans (hb1.mono HE0.out.size)
  obtain ⟨y0, y1, y2, y3, y4, y5, y6, y7, y8, y9, y10, y11, y12, y13, y14, y15, y16, y17⟩ := hbx.eighteen
  have hvc := hvx.cell 0
  simp only [List.getElem?_toArray, List.getElem?_cons_zero] at hvc
  obtain ⟨hp1, hp2, hr3, hr4⟩ := law_parts hlx
  have HB1 := Lib.hid hbx; have HV1 := Lib.hid hvx; have HL1 := Lib.hid hlx; have HE1 := Lib.hid hex
  clear hb1 hbx hvx hlx hex
  have hcp := patCheck_any left k1 s1 n1 lo1 hi1 A1 m1 c1 B w1 hp1 (Nat.le_trans hB HE1.out.size)
  clear hp1 hp2 hr3 hr4
  have HCP := Lib.hid hcp
  clear hcp
  go_wp2_with fail
  refine HCP.out.mono ?_
  rintro e w2 ⟨x, rfl, hx, hb1⟩
  clear HCP
  by_cases hx0 : x = 0
  case neg =>
    have hok : patOk left = false := by
      cases h : patOk left with
      | false => rfl
      | true => exact absurd (hx.2 h) hx0
    have h17 := HNO.out (by rw [HOK1.out, hok]; simp)
    have hxe : (x != 0) = true := by simpa using hx0
    have HB9 := Lib.hid (HE1.out.trans (hb1.mono HE1.out.size))
    clear hb1 hok hx hx0
    subst h17
    go_wp2
    go_ret
    exact ⟨rfl, HB9.out⟩
  have HOK2 : Hid (patOk left = true) := Lib.hid (hx.1 hx0)
  subst hx0
  clear hx
  have hbx := HB1.out.below hb1 HB1.out.lt
  have hvx := HV1.out.below hb1 HV1.out.lt
  have hlx := HL1.out.below (hb1.mono (Nat.le_trans hB HE1.out.size))
  have hex := HE1.out.trans (hb1.mono HE1.out.size)
  obtain ⟨y0, y1, y2, y3, y4, y5, y6, y7, y8, y9, y10, y11, y12, y13, y14, y15, y16, y17⟩ := hbx.eighteen
  have hvc := hvx.cell 0
  simp only [List.getElem?_toArray, List.getElem?_cons_zero] at hvc
  obtain ⟨hp1, hp2, hr3, hr4⟩ := law_parts hlx
  have HB2 := Lib.hid hbx; have HV2 := Lib.hid hvx; have HL2 := Lib.hid hlx; have HE2 := Lib.hid hex
  clear hb1 hbx hvx hlx hex
  have hcp := patCheck_any right k2 s2 n2 lo2 hi2 A2 m2 c2 B w2 hp2 (Nat.le_trans hB HE2.out.size)
  clear hp1 hp2 hr3 hr4
  have HCP := Lib.hid hcp
  clear hcp
  go_wp2_with fail
  refine HCP.out.mono ?_
  rintro e w3 ⟨x, rfl, hx, hb1⟩
  clear HCP
  by_cases hx0 : x = 0
  case neg =>
    have hok : patOk right = false := by
      cases h : patOk right with
      | false => rfl
      | true => exact absurd (hx.2 h) hx0
    have h17 := HNO.out (by rw [HOK1.out, HOK2.out, hok]; simp)
    have hxe : (x != 0) = true := by simpa using hx0
    have HB9 := Lib.hid (HE2.out.trans (hb1.mono HE2.out.size))
    clear hb1 hok hx hx0
    subst h17
    go_wp2
    go_ret
    exact ⟨rfl, HB9.out⟩
  have HOK3 : Hid (patOk right = true) := Lib.hid (hx.1 hx0)
  subst hx0
  clear hx
  have hbx := HB2.out.below hb1 HB2.out.lt
  have hvx := HV2.out.below hb1 HV2.out.lt
  have hlx := HL2.out.below (hb1.mono (Nat.le_trans hB HE2.out.size))
  have hex := HE2.out.trans (hb1.mono HE2.out.size)
  obtain ⟨y0, y1, y2, y3, y4, y5, y6, y7, y8, y9, y10, y11, y12, y13, y14, y15, y16, y17⟩ := hbx.eighteen
  have hvc := hvx.cell 0
  simp only [List.getElem?_toArray, List.getElem?_cons_zero] at hvc
  obtain ⟨hp1, hp2, hr3, hr4⟩ := law_parts hlx
  have HB3 := Lib.hid hbx; have HV3 := Lib.hid hvx; have HL3 := Lib.hid hlx; have HE3 := Lib.hid hex
  clear hb1 hbx hvx hlx hex
  clear hp1 hp2
  by_cases g3 : ifs.length ≤ 4
  case neg =>
    have h17 := HNO.out (by rw [HOK1.out, HOK2.out, HOK3.out, decide_eq_false (show ¬ (ifs.length ≤ 4) from g3)]; simp)
    have hI : (4 : Int) < (ifs.length : Int) := by omega
    clear hr3 hr4
    subst h17
    go_wp2_with fail
    go_ret
    exact ⟨rfl, HE3.out⟩
  have hI3 : ¬ (4 : Int) < (ifs.length : Int) := by omega
  by_cases g4 : outs.length ≤ 6
  case neg =>
    have h17 := HNO.out (by rw [HOK1.out, HOK2.out, HOK3.out, decide_eq_true (show ifs.length ≤ 4 from g3), decide_eq_false (show ¬ (outs.length ≤ 6) from g4)]; simp)
    have hI : (6 : Int) < (outs.length : Int) := by omega
    clear hr3 hr4
    subst h17
    go_wp2_with fail
    go_ret
    exact ⟨rfl, HE3.out⟩
  have hI4 : ¬ (6 : Int) < (outs.length : Int) := by omega
  by_cases g5 : 0 < ifs.length + outs.length
  case neg =>
    have h17 := HNO.out (by rw [HOK1.out, HOK2.out, HOK3.out, decide_eq_true (show ifs.length ≤ 4 from g3), decide_eq_true (show outs.length ≤ 6 from g4), decide_eq_false (show ¬ (0 < ifs.length + outs.length) from g5)]; simp)
    have hI : ((ifs.length : Int) + (outs.length : Int) == 0) = true := by rw [beq_iff_eq]; omega
    clear hr3 hr4
    subst h17
    go_wp2_with fail
    go_ret
    exact ⟨rfl, HE3.out⟩
  have hI5 : ((ifs.length : Int) + (outs.length : Int) == 0) = false := by rw [beq_eq_false_iff_ne]; omega
  by_cases g6 : 1 ≤ mode ∧ mode ≤ 3
  case neg =>
    have h17 := HNO.out (by rw [HOK1.out, HOK2.out, HOK3.out, decide_eq_true (show ifs.length ≤ 4 from g3), decide_eq_true (show outs.length ≤ 6 from g4), decide_eq_true (show 0 < ifs.length + outs.length from g5), decide_eq_false (show ¬ (1 ≤ mode ∧ mode ≤ 3) from g6)]; simp)
    clear hr3 hr4
    subst h17
    by_cases g7 : mode < 1
    · have g7d : decide (mode < 1) = true := decide_eq_true g7
      clear g6
      go_wp2_with fail
      go_ret
      exact ⟨rfl, HE3.out⟩
    · have g7d : decide (mode < 1) = false := decide_eq_false g7
      have g8 : (3 : Int) < mode := by omega
      clear g6
      go_wp2_with fail
      go_ret
      exact ⟨rfl, HE3.out⟩
  have hI6 : ¬ mode < 1 := by omega
  have hI6d : decide (mode < 1) = false := decide_eq_false hI6
  have hI7 : ¬ (3 : Int) < mode := by omega
  have hI7d : decide ((3 : Int) < mode) = false := decide_eq_false hI7
  have HG : Hid ((1 ≤ mode ∧ mode ≤ 3) ∧ True) := Lib.hid ⟨g6, trivial⟩
  clear g6
  have hcs := contS_any A3 ifs.length c3 B ifs w3 hr3 (Nat.le_trans hB HE3.out.size) (by unfold maxLen; omega) HS3.out
  clear hr3 hr4
  go_wp2_with fail
  cases hok7 : ifs.all validS
  · rw [hok7] at hcs
    refine hcs.mono ?_
    rintro e w4 ⟨rfl, hb1⟩
    have h17 := HNO.out (by rw [HOK1.out, HOK2.out, HOK3.out, decide_eq_true (show ifs.length ≤ 4 from g3), decide_eq_true (show outs.length ≤ 6 from g4), decide_eq_true (show 0 < ifs.length + outs.length from g5), decide_eq_true (show 1 ≤ mode ∧ mode ≤ 3 from HG.out.1), hok7]; simp)
    have HB9 := Lib.hid (HE3.out.trans (hb1.mono HE3.out.size))
    clear hb1 hok7 hcs
    subst h17
    go_wp2_with fail
    go_ret
    exact ⟨rfl, HB9.out⟩
  rw [hok7] at hcs
  refine hcs.mono ?_
  rintro e w4 ⟨rfl, hb1⟩
  have HOK7 := Lib.hid hok7
  clear hok7 hcs
  have hbx := HB3.out.below hb1 HB3.out.lt
  have hvx := HV3.out.below hb1 HV3.out.lt
  have hlx := HL3.out.below (hb1.mono (Nat.le_trans hB HE3.out.size))
  have hex := HE3.out.trans (hb1.mono HE3.out.size)
  obtain ⟨y0, y1, y2, y3, y4, y5, y6, y7, y8, y9, y10, y11, y12, y13, y14, y15, y16, y17⟩ := hbx.eighteen
  have hvc := hvx.cell 0
  simp only [List.getElem?_toArray, List.getElem?_cons_zero] at hvc
  obtain ⟨hp1, hp2, hr3, hr4⟩ := law_parts hlx
  have HB4 := Lib.hid hbx; have HV4 := Lib.hid hvx; have HL4 := Lib.hid hlx; have HE4 := Lib.hid hex
  clear hb1 hbx hvx hlx hex
  have hco := contO_any A4 outs.length c4 B outs w4 ifs.length (w.heap.size + 1) HV4.out hr4 (Nat.le_trans hB HE4.out.size) (by unfold maxLen; omega) HS4.out
  clear hp1 hp2 hr3 hr4
  go_wp2_with fail
  cases hok8 : outs.all (oOk ifs.length)
  · rw [hok8] at hco
    refine hco.mono ?_
    rintro e w5 ⟨rfl, hb1⟩
    have h17 := HNO.out (by rw [HOK1.out, HOK2.out, HOK3.out, decide_eq_true (show ifs.length ≤ 4 from g3), decide_eq_true (show outs.length ≤ 6 from g4), decide_eq_true (show 0 < ifs.length + outs.length from g5), decide_eq_true (show 1 ≤ mode ∧ mode ≤ 3 from HG.out.1), HOK7.out, hok8]; simp)
    have HB9 := Lib.hid (HE4.out.trans (hb1.mono HE4.out.size))
    clear hb1 hok8 hco
    subst h17
    go_wp2_with fail
    go_ret
    exact ⟨rfl, HB9.out⟩
  rw [hok8] at hco
  refine hco.mono ?_
  rintro e w5 ⟨rfl, hb1⟩
  have h0 := HYES.out (by rw [HOK1.out, HOK2.out, HOK3.out, decide_eq_true (show ifs.length ≤ 4 from g3), decide_eq_true (show outs.length ≤ 6 from g4), decide_eq_true (show 0 < ifs.length + outs.length from g5), decide_eq_true (show 1 ≤ mode ∧ mode ≤ 3 from HG.out.1), HOK7.out, hok8]; rfl)
  have HB9 := Lib.hid (HE4.out.trans (hb1.mono HE4.out.size))
  clear hb1 hok8 hco
  subst h0
  go_wp2_with fail
  go_ret
  exact ⟨rfl, HB9.out⟩
end Go.Proofs.YtmepaeahchiglaaGreatDoor
