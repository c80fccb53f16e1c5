/-
  layer 4: notations that are nil, or were not made by New; inventories that are none. Conditions: none. (Printed by nil.py.)
-/
import Derived.Test.YtohggdfplmlinaaDoorNtF
namespace Go.Proofs.YtohggdfplmlinaaDoor
open Go.RowKit Go.Lib
attribute [local go_sem] Oper.semAt_some

/-- A notation that is nil, or was not made by New. -/
def NilN (w : World) (p : Value) : Prop := p = .pointer none ∨ ∃ q, p = wptr q ∧ Blk w q 69 #[.pointer none, .slice none 0 0, .map none]
theorem NilN.below {w w' : World} {p : Value} (h : NilN w p) (hb : Below w.heap.size w w') : NilN w' p := by
  rcases h with h | ⟨q, h1, h2⟩
  · exact .inl h
  · exact .inr ⟨q, h1, h2.below hb h2.lt⟩
/-- An inventory that is nil, or was not made by New. -/
def NilI (w : World) (p : Value) : Prop := p = .pointer none ∨ ∃ q, p = wptr q ∧ Blk w q 66 #[.slice none 0 0, .map none, .slice none 0 0, .map none, .map none]
section
variable {w : World} {p : Value}
theorem nvalid_nil (h : NilN w p) : Calls Tryd.prog 41 #[p] w fun e w' => e = .returned (.bool false) ∧ w = w' := by
  rcases h with rfl | ⟨q, rfl, h1⟩
  · go_enter Tryd.func41, Tryd.ntmps41
    go_wp2
    go_ret
    exact ⟨rfl, rfl⟩
  · have c0 := h1.cell 0
    simp only [List.getElem?_toArray, List.getElem?_cons_zero] at c0
    clear h1
    go_enter Tryd.func41, Tryd.ntmps41
    go_wp2
    go_ret
    exact ⟨rfl, rfl⟩
theorem made_nil (h : NilI w p) : Calls Tryd.prog 30 #[p] w fun e w' => e = .returned (.bool false) ∧ w = w' := by
  rcases h with rfl | ⟨q, rfl, h1⟩
  · go_enter Tryd.func30, Tryd.ntmps30
    go_wp2
    go_ret
    exact ⟨rfl, rfl⟩
  · have c1 := h1.cell 1
    simp only [List.getElem?_toArray, List.getElem?_cons_zero, List.getElem?_cons_succ] at c1
    have hnil := fun (W : World) (r : Option Nat) => run_neq_map_nil (P := Tryd.prog) W 63 9 3 r Tryd.underlying63
    clear h1
    go_enter Tryd.func30, Tryd.ntmps30
    go_wp2
    go_ret
    exact ⟨rfl, rfl⟩
theorem copy_nil (h : NilI w p) : Calls Tryd.prog 34 #[p] w fun e w' => e = .returned (.pointer none) ∧ w = w' := by
  have hm := made_nil h
  clear h
  go_enter Tryd.func34, Tryd.ntmps34
  go_wp2_with fail
  refine hm.mono ?_
  rintro e w1 ⟨rfl, rfl⟩
  go_wp2
  go_ret
  exact ⟨rfl, rfl⟩
theorem new_nil (h : NilI w p) : Calls Tryd.prog 16 #[p, .slice none 0 0] w fun e w' => e = .returned (.tuple #[.pointer none, .int .i64 1]) ∧ w = w' := by
  have hm := copy_nil h
  clear h
  go_enter Tryd.func16, Tryd.ntmps16
  go_wp2_with fail
  refine hm.mono ?_
  rintro e w1 ⟨rfl, rfl⟩
  go_wp2
  go_ret2
  exact ⟨rfl, rfl⟩
set_option maxRecDepth 20000 in
set_option maxHeartbeats 1000000 in
theorem read_nil (h : NilN w p) (s : ByteArray) : Calls Tryd.prog 26 #[p, .string s] w fun e w' => e = .returned (.tuple #[.slice none 0 0, .slice none 0 0, .int .i64 0, .int .i64 1]) ∧ Below w.heap.size w w' := by
  have hb4 : Below w.heap.size w (fourC w) := ((((Below.refl _ w).alloc (Nat.le_refl _) _).alloc (by simp) _).alloc (by simp; omega) _).alloc (by simp; omega) _
  have hv := nvalid_nil (h.below hb4)
  have HV := Lib.hid hv; have HB4 := Lib.hid hb4
  clear hv h
  unfold fourC at HV hb4
  refine (callsIn_wide (n := 4)).1 ?_
  refine callsIn_of_wp_marks Tryd.func26 rfl trivial ?_ rfl
  simp only [Tryd.ntmps26, List.size_toArray, List.length_cons, List.length_nil, Nat.reduceAdd, Nat.reduceSub, Array.replicate_succ, Array.replicate_zero, List.push_toArray, List.append_toArray, List.nil_append, List.cons_append]
  gi_wp2_with (refine ⟨trivial, ?_⟩; gi_at_call 41; refine callsIn_wide.2 (HV.out.mono ?_); rintro e w' ⟨rfl, rfl⟩)
  obtain ⟨W4, hW4⟩ : ∃ W4, (((w.alloc (.cells #[.slice none 0 0] 32)).alloc (.cells #[.slice none 0 0] 22)).alloc (.cells #[.int .i64 0] 3)).alloc (.cells #[.int .i64 1] 28) = W4 := ⟨_, rfl⟩
  obtain ⟨⟨k0, k1, k2, k3⟩, hz, hb⟩ := four_blks w _ _ _ _ _ _ _ _ hW4
  rw [hW4]
  have c0 := k0.cell 0; have c1 := k1.cell 0; have c2 := k2.cell 0; have c3 := k3.cell 0
  simp only [List.getElem?_toArray, List.getElem?_cons_zero] at c0 c1 c2 c3
  exact ⟨.tuple #[.slice none 0 0, .slice none 0 0, .int .i64 0, .int .i64 1], by simp [results, Tryd.results26, go_sem, c0, c1, c2, c3], rfl, hb⟩
set_option maxRecDepth 20000 in
theorem parse_nil (h : NilN w p) (s : ByteArray) : Calls Tryd.prog 12 #[p, .string s] w fun e w' => e = .returned (.tuple #[.slice none 0 0, .int .i64 0, .int .i64 1]) ∧ Below w.heap.size w w' := by
  have hc := read_nil h s
  have HC := Lib.hid hc
  clear hc h
  go_enter Tryd.func12, Tryd.ntmps12
  go_wp2_with fail
  refine HC.out.mono ?_
  rintro e w1 ⟨rfl, hb⟩
  have HB := Lib.hid hb
  clear hb
  go_wp2
  go_ret3
  exact ⟨rfl, HB.out⟩
set_option maxRecDepth 20000 in
theorem split_nil (h : NilN w p) (s : ByteArray) : Calls Tryd.prog 23 #[p, .string s] w fun e w' => e = .returned (.tuple #[.slice none 0 0, .int .i64 0, .int .i64 1]) ∧ Below w.heap.size w w' := by
  have hc := read_nil h s
  have HC := Lib.hid hc
  clear hc h
  go_enter Tryd.func23, Tryd.ntmps23
  go_wp2_with fail
  refine HC.out.mono ?_
  rintro e w1 ⟨rfl, hb⟩
  have HB := Lib.hid hb
  clear hb
  go_wp2
  go_ret3
  exact ⟨rfl, HB.out⟩
set_option maxRecDepth 20000 in
theorem print_nil (h : NilN w p) (v : Value) : Calls Tryd.prog 17 #[p, v] w fun e w' => e = .returned (.tuple #[.string ⟨#[]⟩, .int .i64 1]) ∧ Below w.heap.size w w' := by
  have hc := nvalid_nil h
  have HC := Lib.hid hc
  clear hc h
  go_enter Tryd.func17, Tryd.ntmps17
  go_wp2_with fail
  refine HC.out.mono ?_
  rintro e w1 ⟨rfl, rfl⟩
  go_wp2
  go_ret2
  exact ⟨rfl, Below.refl _ _⟩
set_option maxRecDepth 20000 in
theorem marks_nil (h : NilN w p)  : Calls Tryd.prog 21 #[p] w fun e w' => e = .returned (.slice none 0 0) ∧ Below w.heap.size w w' := by
  have hc := nvalid_nil h
  have HC := Lib.hid hc
  clear hc h
  go_enter Tryd.func21, Tryd.ntmps21
  go_wp2_with fail
  refine HC.out.mono ?_
  rintro e w1 ⟨rfl, rfl⟩
  go_wp2
  go_ret
  exact ⟨rfl, Below.refl _ _⟩
set_option maxRecDepth 20000 in
theorem normal_nil (h : NilN w p) (s : ByteArray) : Calls Tryd.prog 18 #[p, .string s] w fun e w' => e = .returned (.tuple #[.string ⟨#[]⟩, .int .i64 1]) ∧ Below w.heap.size w w' := by
  have hc := parse_nil h s
  have HC := Lib.hid hc
  clear hc h
  go_enter Tryd.func18, Tryd.ntmps18
  go_wp2_with fail
  refine HC.out.mono ?_
  rintro e w1 ⟨rfl, hb⟩
  have HB := Lib.hid hb
  clear hb
  go_wp2
  go_ret2
  exact ⟨rfl, HB.out⟩
set_option maxRecDepth 20000 in
theorem same_nil (h : NilN w p) (s t : ByteArray) : Calls Tryd.prog 19 #[p, .string s, .string t] w fun e w' => e = .returned (.bool false) ∧ Below w.heap.size w w' := by
  have hc := parse_nil h s
  have hc2 := fun W (hW : Below w.heap.size w W) => parse_nil (h.below hW) t
  have HC := Lib.hid hc; have HC2 := Lib.hid hc2
  clear hc hc2 h
  go_enter Tryd.func19, Tryd.ntmps19
  go_wp2_with fail
  refine HC.out.mono ?_
  rintro e w1 ⟨rfl, hb⟩
  have HB := Lib.hid hb
  clear hb
  go_wp2_with fail
  refine (HC2.out _ HB.out).mono ?_
  rintro e w2 ⟨rfl, hb2⟩
  have HB2 := Lib.hid (HB.out.trans (hb2.mono HB.out.size))
  clear hb2
  go_wp2
  go_ret
  exact ⟨rfl, HB2.out⟩
set_option maxRecDepth 20000 in
theorem sound_nil (h : NilN w p) (s : Snd) : Calls Tryd.prog 24 #[p, sndV s] w fun e w' => e = .returned (.tuple #[.string ⟨#[]⟩, .bool false]) ∧ Below w.heap.size w w' := by
  rcases h with rfl | ⟨q, rfl, h1⟩
  · have hb0 : Below w.heap.size w ((w.alloc (.cells #[.pointer none] 27)).alloc (.cells #[.int .u32 s.1, .int .u32 s.2] 39)) := ((Below.refl _ w).alloc (Nat.le_refl _) _).alloc (by simp) _
    have hv := nvalid_nil (w := (w.alloc (.cells #[.pointer none] 27)).alloc (.cells #[.int .u32 s.1, .int .u32 s.2] 39)) (p := .pointer none) (.inl rfl)
    have HV := Lib.hid hv; have HB := Lib.hid hb0
    clear hv hb0
    go_enter Tryd.func24, Tryd.ntmps24
    go_wp2_with fail
    refine HV.out.mono ?_
    rintro e w1 ⟨rfl, rfl⟩
    go_wp2
    go_ret2
    exact ⟨rfl, HB.out⟩
  · have hb0 : Below w.heap.size w ((w.alloc (.cells #[wptr q] 27)).alloc (.cells #[.int .u32 s.1, .int .u32 s.2] 39)) := ((Below.refl _ w).alloc (Nat.le_refl _) _).alloc (by simp) _
    have hv := nvalid_nil (w := (w.alloc (.cells #[wptr q] 27)).alloc (.cells #[.int .u32 s.1, .int .u32 s.2] 39)) (p := wptr q) (NilN.below (.inr ⟨q, rfl, h1⟩) hb0)
    have HV := Lib.hid hv; have HB := Lib.hid hb0
    clear hv hb0
    go_enter Tryd.func24, Tryd.ntmps24
    go_wp2_with fail
    refine HV.out.mono ?_
    rintro e w1 ⟨rfl, rfl⟩
    go_wp2
    go_ret2
    exact ⟨rfl, HB.out⟩
end
end Go.Proofs.YtohggdfplmlinaaDoor
