/-
  Layer 40: Parse with a notation that is none. Conditions: what New answers.
-/
import Derived.Test.YtgkpoopiamicnaaGreatDoorDtNi
namespace Go.Proofs.YtgkpoopiamicnaaGreatDoor
open Go.RowKit Go.Lib

set_option linter.unusedSimpArgs false in
set_option maxRecDepth 20000 in
set_option maxHeartbeats 4000000 in
theorem dparse_nil {w : World} {p q : Value} (s : ByteArray) (hN : ∀ W, Below w.heap.size w W → Calls Tryz.prog 12 #[p] W fun e W' => ∃ v k, e = .returned (.tuple #[v, .int .i64 k]) ∧ Below W.heap.size W W') (hq : NilT w q) :
    Calls Tryz.prog 34 #[p, q, .string s] w (Post0 w (.tuple #[.pointer none, .int .i64 0, .int .i64 1])) := by
  have h1 : Below w.heap.size w (w.alloc (.cells #[.pointer none] 33)) := (Below.refl _ _).alloc (Nat.le_refl _) _
  have h2 := h1.alloc h1.size (.cells #[.int .i64 0] 3)
  have h3 := h2.alloc h2.size (.cells #[.int .i64 0] 27)
  have a1 := ((Blk.new w 33 #[.pointer none]).alloc (.cells #[.int .i64 0] 3)).alloc (.cells #[.int .i64 0] 27)
  have a2 := (Blk.new (w.alloc (.cells #[.pointer none] 33)) 3 #[.int .i64 0]).alloc (.cells #[.int .i64 0] 27)
  have a3 := Blk.new ((w.alloc (.cells #[.pointer none] 33)).alloc (.cells #[.int .i64 0] 3)) 27 #[.int .i64 0]
  simp only [World.size_alloc] at a2 a3
  obtain ⟨W0, hW0⟩ : ∃ W, ((w.alloc (.cells #[.pointer none] 33)).alloc (.cells #[.int .i64 0] 3)).alloc (.cells #[.int .i64 0] 27) = W := ⟨_, rfl⟩
  rw [hW0] at h3 a1 a2 a3
  have hn := hN W0 h3
  obtain ⟨b, hbw⟩ : ∃ b, w.heap.size = b := ⟨_, rfl⟩
  rw [hbw] at a1 a2 a3
  have H3 := Lib.hid h3; have A1 := Lib.hid a1; have A2 := Lib.hid a2; have A3 := Lib.hid a3; have HQ := Lib.hid hq; have HBW := Lib.hid hbw
  clear hN hq h1 h2 h3 a1 a2 a3
  go_enter Tryz.func34, Tryz.ntmps34
  go_upto_region 1 with fail
  clear hW0 hbw
  go_wp2_with fail
  refine hn.mono ?_
  rintro e w1 ⟨v, k, rfl, hb1⟩
  have hp := tprint_nil ((HQ.out.below H3.out).below hb1) (.slice none 0 0)
  have HB1 := Lib.hid hb1
  clear hn hb1
  go_wp2_with fail
  refine hp.mono ?_
  rintro e w2 ⟨rfl, hb2⟩
  have hb02 := HB1.out.trans (hb2.mono HB1.out.size)
  have c1 := A1.out.below hb02 A1.out.lt; have c2 := A2.out.below hb02 A2.out.lt; have c3 := A3.out.below hb02 A3.out.lt
  have k1 := c1.cell 0; have k2 := c2.cell 0; have k3 := c3.cell 0
  have f1 := c1.frozen 0; have f2 := c2.frozen 0; have f3 := c3.frozen 0
  have d1 := ((c1.set_ 0 (.pointer none)).far (p := ⟨b + 1, 0, none⟩) (by show b ≠ b + 1; omega) (.int .i64 0)).far (p := ⟨b + 1 + 1, 0, none⟩) (by show b ≠ b + 1 + 1; omega) (.int .i64 1)
  have d2 := ((c2.far (p := ⟨b, 0, none⟩) (by show b + 1 ≠ b; omega) (.pointer none)).set_ 0 (.int .i64 0)).far (p := ⟨b + 1 + 1, 0, none⟩) (by show b + 1 ≠ b + 1 + 1; omega) (.int .i64 1)
  have d3 := ((c3.far (p := ⟨b, 0, none⟩) (by show b + 1 + 1 ≠ b; omega) (.pointer none)).far (p := ⟨b + 1, 0, none⟩) (by show b + 1 + 1 ≠ b + 1; omega) (.int .i64 0)).set_ 0 (.int .i64 1)
  simp only [List.setIfInBounds_toArray, List.set_cons_zero, List.set_cons_succ] at d1 d2 d3
  have q1 := d1.cell 0; have q2 := d2.cell 0; have q3 := d3.cell 0
  simp only [List.getElem?_toArray, List.getElem?_cons_zero, List.getElem?_cons_succ] at k1 k2 k3 q1 q2 q3
  have hch := (((ChgS.refl (fun k => b ≤ k) w2).setCell (p := ⟨b, 0, none⟩) (.inl (Nat.le_refl _)) (.pointer none)).setCell (p := ⟨b + 1, 0, none⟩) (.inl (by show b ≤ b + 1; omega)) (.int .i64 0)).setCell (p := ⟨b + 1 + 1, 0, none⟩) (.inl (by show b ≤ b + 1 + 1; omega)) (.int .i64 1)
  have hsz : b ≤ w2.heap.size := by have h1 := HBW.out; have h2 := H3.out.size; have h3 := hb02.size; omega
  have BEL := Lib.hid ((H3.out.trans (hb02.mono H3.out.size)).trans (hch.below (B := w.heap.size) (fun k hk => by rw [HBW.out]; exact hk) (by rw [HBW.out]; exact hsz)))
  have Q1 := Lib.hid q1; have Q2 := Lib.hid q2; have Q3 := Lib.hid q3
  clear hp hb2 hb02 c1 c2 c3 d1 d2 d3 q1 q2 q3 hch hsz
  go_wp2
  all_goals exact bodyPost_ret (v := .tuple #[.pointer none, .int .i64 0, .int .i64 1]) (by simp [results, Tryz.results34, go_sem, Q1.out, Q2.out, Q3.out]) rfl ⟨rfl, BEL.out⟩
end Go.Proofs.YtgkpoopiamicnaaGreatDoor
