/-
  Layer 40: dictionaries, alphabets and notations that are nil, or were not made by New. Conditions: none. (Printed by ni.py.)
-/
import Derived.Test.YtgkpoopiamicnaaGreatDoorZbas
namespace Go.Proofs.YtgkpoopiamicnaaGreatDoor
open Go.RowKit Go.Lib

/-! An alphabet that is none. -/
def NilA (w : World) (p : Value) : Prop := p = .pointer none ∨ ∃ g, p = wptr g ∧ g < w.heap.size ∧ w.cell? ⟨g, 1, none⟩ = some (.map none)
theorem NilA.below {w w' : World} {p : Value} (h : NilA w p) (hb : Below w.heap.size w w') : NilA w' p := by
  rcases h with h | ⟨g, e, h1, h2⟩
  · exact .inl h
  · exact .inr ⟨g, e, Nat.lt_of_lt_of_le h1 hb.size, (hb.cell (p := ⟨g, 1, none⟩) h1).trans h2⟩
/-- A notation that is nil, or was not made by New. -/
def NilT (w : World) (p : Value) : Prop := p = .pointer none ∨ ∃ q, p = wptr q ∧ Blk w q 89 #[.pointer none, .slice none 0 0, .map none]
theorem NilT.below {w w' : World} {p : Value} (h : NilT w p) (hb : Below w.heap.size w w') : NilT w' p := by
  rcases h with h | ⟨q, h1, h2⟩
  · exact .inl h
  · exact .inr ⟨q, h1, h2.below hb h2.lt⟩
/-- A dictionary that is nil, or was not made by New. -/
def NilD (w : World) (p : Value) : Prop := p = .pointer none ∨ ∃ q, p = wptr q ∧ Blk w q 78 #[.pointer none, .map none, .slice none 0 0]
theorem NilD.below {w w' : World} {p : Value} (h : NilD w p) (hb : Below w.heap.size w w') : NilD w' p := by
  rcases h with h | ⟨q, h1, h2⟩
  · exact .inl h
  · exact .inr ⟨q, h1, h2.below hb h2.lt⟩
def Post0 (w : World) (v : Value) (e : Ending) (w' : World) : Prop := e = .returned v ∧ Below w.heap.size w w'
section
variable {w : World} {p q : Value}
theorem amade_nil (h : NilA w p) : Calls Tryz.prog 159 #[p] w fun e w' => e = .returned (.bool false) ∧ w = w' := by
  rcases h with rfl | ⟨g, rfl, h1, h2⟩
  · exact madeN_any w
  · have hne : ∀ (W : World), (binOp .neq 70 (.map none) (.map none)).run Tryz.prog W = .ok (.bool false) W := fun W => by kernel_rfl
    go_enter Tryz.func159, Tryz.ntmps159
    go_wp2
    go_ret
    exact ⟨rfl, rfl⟩
theorem awrong_nil (h : NilA w p) (s : ByteArray) : Calls Tryz.prog 102 #[p, .string s] w fun e w' => e = .returned (.int .i64 1) ∧ w = w' := by
  have hc := amade_nil h
  clear h
  go_enter Tryz.func102, Tryz.ntmps102
  go_wp2_with fail
  refine hc.mono ?_
  rintro e w1 ⟨rfl, rfl⟩
  go_wp2
  go_ret
  exact ⟨rfl, rfl⟩
theorem akey_nil (h : NilA w p) (s : ByteArray) : Calls Tryz.prog 50 #[p, .string s] w (Post0 w (.tuple #[.slice none 0 0, .int .i64 1])) := by
  have hw := fun W (hb : Below w.heap.size w W) => awrong_nil (h.below hb) s
  have HW := Lib.hid hw; clear hw
  clear h
  go_enter Tryz.func50, Tryz.ntmps50
  go_wp2_with (go_at_call 102; refine (HW.out _ (by exact ((Below.refl _ w).alloc (Nat.le_refl _) _).alloc (by simp) _)).mono ?_; rintro e w' ⟨rfl, rfl⟩)
  exact bodyPost_ret (v := .tuple #[.slice none 0 0, .int .i64 1]) (by simp [results, Tryz.results50, go_sem]) rfl ⟨rfl, ((Below.refl _ w).alloc (Nat.le_refl _) _).alloc (by simp) _⟩
theorem dnew_nil (h : NilA w p) : Calls Tryz.prog 12 #[p] w (Post0 w (.tuple #[.pointer none, .int .i64 1])) := by
  have hc := akey_nil h ⟨#[]⟩
  clear h
  go_enter Tryz.func12, Tryz.ntmps12
  go_wp2_with fail
  refine hc.mono ?_
  rintro e w1 ⟨rfl, hb⟩
  go_wp2
  go_ret2
  exact ⟨rfl, hb⟩
theorem tvalid_nil (h : NilT w p) : Calls Tryz.prog 121 #[p] w fun e w' => e = .returned (.bool false) ∧ w = w' := by
  rcases h with rfl | ⟨g, rfl, h1⟩
  · go_enter Tryz.func121, Tryz.ntmps121
    go_wp2
    go_ret
    exact ⟨rfl, rfl⟩
  · have c0 := h1.cell 0
    simp only [List.getElem?_toArray, List.getElem?_cons_zero] at c0
    clear h1
    go_enter Tryz.func121, Tryz.ntmps121
    go_wp2
    go_ret
    exact ⟨rfl, rfl⟩
theorem tprint_nil (h : NilT w p) (v : Value) : Calls Tryz.prog 78 #[p, v] w (Post0 w (.tuple #[.string ⟨#[]⟩, .int .i64 1])) := by
  have hc := tvalid_nil h
  clear h
  go_enter Tryz.func78, Tryz.ntmps78
  go_wp2_with fail
  refine hc.mono ?_
  rintro e w1 ⟨rfl, rfl⟩
  go_wp2
  go_ret2
  exact ⟨rfl, Below.refl _ _⟩
theorem dvalid_nil (h : NilD w p) : Calls Tryz.prog 51 #[p] w fun e w' => e = .returned (.bool false) ∧ w = w' := by
  rcases h with rfl | ⟨g, rfl, h1⟩
  · go_enter Tryz.func51, Tryz.ntmps51
    go_wp2
    go_ret
    exact ⟨rfl, rfl⟩
  · have c0 := h1.cell 0
    simp only [List.getElem?_toArray, List.getElem?_cons_zero] at c0
    clear h1
    go_enter Tryz.func51, Tryz.ntmps51
    go_wp2
    go_ret
    exact ⟨rfl, rfl⟩
theorem dremove_nil (h : NilD w p) (s : ByteArray) : Calls Tryz.prog 22 #[p, .string s] w (Post0 w (.int .i64 1)) := by
  have hc := dvalid_nil h
  clear h
  go_enter Tryz.func22, Tryz.ntmps22
  go_wp2_with fail
  refine hc.mono ?_
  rintro e w1 ⟨rfl, rfl⟩
  go_wp2
  go_ret
  exact ⟨rfl, Below.refl _ _⟩
theorem dlen_nil (h : NilD w p) : Calls Tryz.prog 36 #[p] w (Post0 w (.int .i64 0)) := by
  have hc := dvalid_nil h
  clear h
  go_enter Tryz.func36, Tryz.ntmps36
  go_wp2_with fail
  refine hc.mono ?_
  rintro e w1 ⟨rfl, rfl⟩
  go_wp2
  go_ret
  exact ⟨rfl, Below.refl _ _⟩
theorem dlist_nil (h : NilD w p) : Calls Tryz.prog 21 #[p] w (Post0 w (.slice none 0 0)) := by
  have hc := dvalid_nil h
  clear h
  go_enter Tryz.func21, Tryz.ntmps21
  go_wp2_with fail
  refine hc.mono ?_
  rintro e w1 ⟨rfl, rfl⟩
  go_wp2
  go_ret
  exact ⟨rfl, Below.refl _ _⟩
theorem dmissing_nil (h : NilD w p) : Calls Tryz.prog 37 #[p] w (Post0 w (.slice none 0 0)) := by
  have hc := dvalid_nil h
  clear h
  go_enter Tryz.func37, Tryz.ntmps37
  go_wp2_with fail
  refine hc.mono ?_
  rintro e w1 ⟨rfl, rfl⟩
  go_wp2
  go_ret
  exact ⟨rfl, Below.refl _ _⟩
theorem dcycles_nil (h : NilD w p) : Calls Tryz.prog 38 #[p] w (Post0 w (.slice none 0 0)) := by
  have hc := dvalid_nil h
  clear h
  go_enter Tryz.func38, Tryz.ntmps38
  go_wp2_with fail
  refine hc.mono ?_
  rintro e w1 ⟨rfl, rfl⟩
  go_wp2
  go_ret
  exact ⟨rfl, Below.refl _ _⟩
theorem dcopy_nil (h : NilD w p) : Calls Tryz.prog 20 #[p] w (Post0 w (.pointer none)) := by
  have hc := dvalid_nil h
  clear h
  go_enter Tryz.func20, Tryz.ntmps20
  go_wp2_with fail
  refine hc.mono ?_
  rintro e w1 ⟨rfl, rfl⟩
  go_wp2
  go_ret
  exact ⟨rfl, Below.refl _ _⟩
theorem dfrom_nil (h : NilD w p) (s : ByteArray) : Calls Tryz.prog 28 #[p, .string s] w (Post0 w (.tuple #[.slice none 0 0, .int .i64 1])) := by
  have hc := dvalid_nil h
  clear h
  go_enter Tryz.func28, Tryz.ntmps28
  go_wp2_with fail
  refine hc.mono ?_
  rintro e w1 ⟨rfl, rfl⟩
  go_wp2
  go_ret2
  exact ⟨rfl, Below.refl _ _⟩
theorem drange_nil (h : NilD w p) (s : ByteArray) (t : ByteArray) : Calls Tryz.prog 16 #[p, .string s, .string t] w (Post0 w (.tuple #[.slice none 0 0, .int .i64 1])) := by
  have hc := dvalid_nil h
  clear h
  go_enter Tryz.func16, Tryz.ntmps16
  go_wp2_with fail
  refine hc.mono ?_
  rintro e w1 ⟨rfl, rfl⟩
  go_wp2
  go_ret2
  exact ⟨rfl, Below.refl _ _⟩
theorem dput_nil (h : NilD w p) (c0 c1 c2 c3 : Value) : Calls Tryz.prog 14 #[p, .agg #[c0, c1, c2, c3]] w (Post0 w (.int .i64 1)) := by
  have hb : Below w.heap.size w (w.alloc (.cells #[c0, c1, c2, c3] 42)) := (Below.refl _ _).alloc (Nat.le_refl _) _
  have hc := dvalid_nil (h.below hb)
  have HB := Lib.hid hb
  clear h hb
  go_enter Tryz.func14, Tryz.ntmps14
  go_wp2_with fail
  refine hc.mono ?_
  rintro e w1 ⟨rfl, rfl⟩
  go_wp2
  go_ret
  exact ⟨rfl, HB.out⟩
theorem dback_nil (h : NilD w p) (s : ByteArray) : Calls Tryz.prog 32 #[p, .string s] w (Post0 w (.slice none 0 0)) := by
  have hb : Below w.heap.size w ((w.alloc (.cells #[p] 33)).alloc (.cells #[.string s] 9)) := ((Below.refl _ _).alloc (Nat.le_refl _) _).alloc (by simp) _
  have hc := dvalid_nil (h.below hb)
  have HB := Lib.hid hb
  have hp : (∃ a, p = .pointer a) := by
    rcases h with h | ⟨q, h, -⟩
    · exact ⟨_, h⟩
    · exact ⟨_, h⟩
  obtain ⟨a, rfl⟩ := hp
  have k0 : ((w.alloc (.cells #[.pointer a] 33)).alloc (.cells #[.string s] 9)).cell? ⟨w.heap.size, 0, none⟩ = some (.pointer a) := ((Blk.new w 33 #[.pointer a]).alloc _).cell 0
  clear h hb
  go_enter Tryz.func32, Tryz.ntmps32
  go_wp2_with fail
  refine hc.mono ?_
  rintro e w1 ⟨rfl, rfl⟩
  go_wp2
  go_ret
  exact ⟨rfl, HB.out⟩
theorem dget_nil (h : NilD w p) (s : ByteArray) : Calls Tryz.prog 23 #[p, .string s] w (Post0 w (.tuple #[aggM [.string ⟨#[]⟩, .slice none 0 0, .slice none 0 0, .slice none 0 0], .bool false])) := by
  have hb : Below w.heap.size w (w.alloc (.cells #[.string ⟨#[]⟩, .slice none 0 0, .slice none 0 0, .slice none 0 0] 42)) := (Below.refl _ _).alloc (Nat.le_refl _) _
  have hc := dvalid_nil (h.below hb)
  have hrb := Blk.new w 42 #[.string ⟨#[]⟩, .slice none 0 0, .slice none 0 0, .slice none 0 0]
  have hfb := (((hrb.set_ 0 (.string ⟨#[]⟩)).set_ 1 (.slice none 0 0)).set_ 2 (.slice none 0 0)).set_ 3 (.slice none 0 0)
  simp only [List.setIfInBounds_toArray, List.set_cons_zero, List.set_cons_succ] at hfb
  obtain ⟨W0, hW0⟩ : ∃ W, w.alloc (.cells #[.string ⟨#[]⟩, .slice none 0 0, .slice none 0 0, .slice none 0 0] 42) = W := ⟨_, rfl⟩
  rw [hW0] at hb hc hrb hfb
  obtain ⟨b, hbw⟩ : ∃ b, w.heap.size = b := ⟨_, rfl⟩
  rw [hbw] at hrb hfb
  have y0 := hrb.cell 0; have y1 := hrb.cell 1; have y2 := hrb.cell 2; have y3 := hrb.cell 3
  have e0 := hrb.frozen 0; have e1 := hrb.frozen 1; have e2 := hrb.frozen 2; have e3 := hrb.frozen 3
  have q0 := hfb.cell 0; have q1 := hfb.cell 1; have q2 := hfb.cell 2; have q3 := hfb.cell 3
  simp only [List.getElem?_toArray, List.getElem?_cons_zero, List.getElem?_cons_succ] at y0 y1 y2 y3 q0 q1 q2 q3
  have hch := ((((ChgS.refl (fun k => k = b) W0).setCell (p := ⟨b, 0, none⟩) (.inl rfl) (.string ⟨#[]⟩)).setCell (p := ⟨b, 1, none⟩) (.inl rfl) (.slice none 0 0)).setCell (p := ⟨b, 2, none⟩) (.inl rfl) (.slice none 0 0)).setCell (p := ⟨b, 3, none⟩) (.inl rfl) (.slice none 0 0)
  have BEL := Lib.hid (hb.trans (hch.below (B := w.heap.size) (fun k hk => by omega) hb.size))
  have Q0 := Lib.hid q0; have Q1 := Lib.hid q1; have Q2 := Lib.hid q2; have Q3 := Lib.hid q3
  clear h hb hrb hfb hch q0 q1 q2 q3
  go_enter Tryz.func23, Tryz.ntmps23
  go_upto_region 1 with fail
  clear hW0 hbw
  go_wp2_with fail
  refine hc.mono ?_
  rintro e w1 ⟨rfl, rfl⟩
  go_wp2
  exact bodyPost_ret (v := .tuple #[aggM [.string ⟨#[]⟩, .slice none 0 0, .slice none 0 0, .slice none 0 0], .bool false]) (by simp [results, Tryz.results23, go_sem, Q0.out, Q1.out, Q2.out, Q3.out]) rfl ⟨rfl, BEL.out⟩
theorem dtext_nil (b : Bool) (hv : ∀ W, Below w.heap.size w W → Calls Tryz.prog 51 #[p] W fun e w' => e = .returned (.bool b) ∧ W = w') (hq : NilT w q) : Calls Tryz.prog 35 #[p, q] w (Post0 w (.tuple #[.string ⟨#[]⟩, .int .i64 1])) := by
  have ht := tprint_nil hq (.slice none 0 0)
  have HV := Lib.hid hv
  clear hv hq
  go_enter Tryz.func35, Tryz.ntmps35
  go_wp2_with fail
  refine ht.mono ?_
  rintro e w1 ⟨rfl, hb⟩
  have hc := HV.out w1 hb
  have HB := Lib.hid hb
  clear ht hb
  cases b <;>
  · go_wp2_with fail
    refine hc.mono ?_
    rintro e w2 ⟨rfl, rfl⟩
    go_wp2
    go_ret2
    exact ⟨rfl, HB.out⟩
end
end Go.Proofs.YtgkpoopiamicnaaGreatDoor
