/-
  NotationNil: the walk. Conditions: none.
-/
import Derived.Test.YtohggdfplmlinaaDoorNtK
namespace Go.Proofs.YtohggdfplmlinaaDoor
open Go.RowKit Go.Lib

set_option linter.unusedSimpArgs false in
set_option maxRecDepth 20000 in
set_option maxHeartbeats 4000000 in
theorem nil_law (s : ByteArray) (v : Value) (x : Snd) (w : World) :
    Calls Tryd.prog 8 #[.string s, v, sndV x] w fun e w' => e = .returned (.bool true) ∧ Below w.heap.size w w' := by
  obtain ⟨W1, hW1⟩ : ∃ W1, w.alloc (.cells #[.int .u32 x.1, .int .u32 x.2] 39) = W1 := ⟨_, rfl⟩
  have hz : W1.heap.size = w.heap.size + 1 := by rw [← hW1]; simp
  have hb1 : Below w.heap.size w W1 := by rw [← hW1]; exact (Below.refl _ _).alloc (Nat.le_refl _) _
  have kb : Blk W1 w.heap.size 39 #[.int .u32 x.1, .int .u32 x.2] := by rw [← hW1]; exact Blk.new w _ _
  obtain ⟨W2, hW2⟩ : ∃ W2, W1.alloc (.cells #[.slice none 0 0, .map none, .slice none 0 0, .map none, .map none] 66) = W2 := ⟨_, rfl⟩
  have hz2 : W2.heap.size = w.heap.size + 2 := by rw [← hW2, World.size_alloc, hz]
  have hb2 : Below w.heap.size w W2 := by rw [← hW2]; exact hb1.alloc hb1.size _
  have ki : Blk W2 (w.heap.size + 1) 66 #[.slice none 0 0, .map none, .slice none 0 0, .map none, .map none] := by
    have := Blk.new W1 66 #[.slice none 0 0, .map none, .slice none 0 0, .map none, .map none]
    rw [hz] at this; rw [← hW2]; exact this
  have kb2 : Blk W2 w.heap.size 39 #[.int .u32 x.1, .int .u32 x.2] := by rw [← hW2]; exact kb.alloc _
  have hn1 := new_nil (w := W1) (p := .pointer none) (.inl rfl)
  have hn2 := new_nil (w := W2) (p := wptr (w.heap.size + 1)) (.inr ⟨_, rfl, ki⟩)
  obtain ⟨W3, hW3⟩ : ∃ W3, (W2.alloc (.cells #[.pointer none, .slice none 0 0, .map none] 69)).alloc (.cells #[.pointer none, wptr (w.heap.size + 2)] 27) = W3 := ⟨_, rfl⟩
  have hz3 : W3.heap.size = w.heap.size + 4 := by rw [← hW3, World.size_alloc, World.size_alloc, hz2]
  have hb3 : Below w.heap.size w W3 := by rw [← hW3]; exact (hb2.alloc hb2.size _).alloc (by rw [World.size_alloc]; omega) _
  have kn : Blk W3 (w.heap.size + 2) 69 #[.pointer none, .slice none 0 0, .map none] := by
    have := (Blk.new W2 69 #[.pointer none, .slice none 0 0, .map none]).alloc (.cells #[.pointer none, wptr (w.heap.size + 2)] 27)
    rw [hz2] at this; rw [← hW3]; exact this
  have kl : Blk W3 (w.heap.size + 3) 27 #[.pointer none, wptr (w.heap.size + 2)] := by
    have := Blk.new (W2.alloc (.cells #[.pointer none, .slice none 0 0, .map none] 69)) 27 #[.pointer none, wptr (w.heap.size + 2)]
    rw [World.size_alloc, hz2] at this; rw [← hW3]; exact this
  have kb3 : Blk W3 w.heap.size 39 #[.int .u32 x.1, .int .u32 x.2] := by rw [← hW3]; exact (kb2.alloc _).alloc _
  have hwk := works_any
  have HN1 := Lib.hid hn1; have HN2 := Lib.hid hn2; have HB3 := Lib.hid hb3; have KN := Lib.hid kn; have KL := Lib.hid kl; have KB := Lib.hid kb3; have HWK := Lib.hid hwk
  clear hn1 hn2 hb1 hb2 hb3 kb kb2 kb3 ki kn kl hwk
  have WEND : ∀ W, Below w.heap.size w W → Calls Tryd.prog 11 #[] W fun e w' => e = .returned (.bool true) ∧ Below w.heap.size w w' := fun W hW => (HWK.out W).mono (by
    rintro e w' ⟨rfl, hb⟩
    exact ⟨rfl, hW.trans (hb.mono hW.size)⟩)
  have HWE := Lib.hid WEND
  clear WEND
  go_enter Tryd.func8, Tryd.ntmps8
  go_wp2_with fail
  refine HN1.out.mono ?_
  rintro e w1 ⟨rfl, rfl⟩
  go_wp2_with fail
  refine HN2.out.mono ?_
  rintro e w2 ⟨rfl, rfl⟩
  go_wp2

  go_loopw [14] (fun i wr => ∃ k : Nat, k ≤ 2 ∧ i = .int .i64 k ∧ Below W3.heap.size W3 wr) (fun i _ => 2 - (RowKit.intOf i).toNat)
  case atStart => exact ⟨0, by omega, rfl, Below.refl _ _⟩
  case round =>
    obtain ⟨k, hk, rfl, hb⟩ := hrel
    by_cases hlt : k < 2
    · have hkI : (k : Int) < 2 := by omega
      have hk0 : (0 : Int) ≤ (k : Int) := by omega
      have kb := KB.out.below hb (by omega)
      have c30 := kb.cell 0; have c31 := kb.cell 1
      simp only [List.getElem?_toArray, List.getElem?_cons_zero, List.getElem?_cons_succ] at c30 c31
      obtain ⟨p, hp, hnil⟩ : ∃ p, wr.cell? ⟨w.heap.size + 3, k, none⟩ = some p ∧ NilN wr p := by
        have kl := KL.out.below hb (by omega)
        rcases (by omega : k = 0 ∨ k = 1) with rfl | rfl
        · exact ⟨_, kl.cell 0, .inl rfl⟩
        · exact ⟨_, kl.cell 1, .inr ⟨_, rfl, KN.out.below hb (by omega)⟩⟩
      have h1 := parse_nil hnil s
      have h2 := fun W (hW : Below wr.heap.size wr W) => print_nil (hnil.below hW) v
      have h3 := fun W (hW : Below wr.heap.size wr W) => sound_nil (hnil.below hW) x
      have h4 := fun W (hW : Below wr.heap.size wr W) => split_nil (hnil.below hW) s
      have h5 := fun W (hW : Below wr.heap.size wr W) => normal_nil (hnil.below hW) s
      have h6 := fun W (hW : Below wr.heap.size wr W) => same_nil (hnil.below hW) s s
      have h7 := fun W (hW : Below wr.heap.size wr W) => marks_nil (hnil.below hW)
      have hkb := fun W (hW : Below wr.heap.size wr W) => (kb.below hW kb.lt)
      have H1 := Lib.hid h1; have H2 := Lib.hid h2; have H3 := Lib.hid h3; have H4 := Lib.hid h4; have H5 := Lib.hid h5; have H6 := Lib.hid h6; have H7 := Lib.hid h7; have HB := Lib.hid hb; have HKB := Lib.hid hkb
      clear h1 h2 h3 h4 h5 h6 h7 hb kb hkb hnil c30 c31 hW1 hW2 hW3
      go_wp2_with fail
      refine H1.out.mono ?_
      rintro e u1 ⟨rfl, b1⟩
      have B1 := Lib.hid b1
      clear b1
      go_wp2_with fail
      refine (H2.out _ B1.out).mono ?_
      rintro e u2 ⟨rfl, b2⟩
      have b2' := B1.out.trans (b2.mono B1.out.size)
      have kb := HKB.out _ b2'
      have c30 := kb.cell 0; have c31 := kb.cell 1
      simp only [List.getElem?_toArray, List.getElem?_cons_zero, List.getElem?_cons_succ] at c30 c31
      have B2 := Lib.hid b2'
      clear b2 b2' kb
      go_wp2_with fail
      refine (H3.out _ B2.out).mono ?_
      rintro e u3 ⟨rfl, b3⟩
      have B3 := Lib.hid (B2.out.trans (b3.mono B2.out.size))
      clear b3 c30 c31
      go_wp2_with fail
      refine (H4.out _ B3.out).mono ?_
      rintro e u4 ⟨rfl, b4⟩
      have B4 := Lib.hid (B3.out.trans (b4.mono B3.out.size))
      clear b4
      go_wp2_with fail
      refine (H5.out _ B4.out).mono ?_
      rintro e u5 ⟨rfl, b5⟩
      have B5 := Lib.hid (B4.out.trans (b5.mono B4.out.size))
      clear b5
      go_wp2_with fail
      refine (H6.out _ B5.out).mono ?_
      rintro e u6 ⟨rfl, b6⟩
      have B6 := Lib.hid (B5.out.trans (b6.mono B5.out.size))
      clear b6
      go_wp2_with fail
      refine (H7.out _ B6.out).mono ?_
      rintro e u7 ⟨rfl, b7⟩
      have B7 := Lib.hid (HB.out.trans ((B6.out.trans (b7.mono B6.out.size)).mono HB.out.size))
      clear b7
      go_wp2
      go_roundw
      case rel => exact ⟨k + 1, by omega, by go_num, B7.out⟩
      case measure => simp [RowKit.intOf]; omega
    · obtain rfl : k = 2 := by omega
      have HB := Lib.hid (HB3.out.trans (hb.mono HB3.out.size))
      clear hb
      go_wp2_with fail
      refine (HWE.out _ HB.out).mono ?_
      rintro e w9 ⟨rfl, hb9⟩
      have HB9 := Lib.hid hb9
      clear hb9
      go_wp2
      go_ret
      exact ⟨rfl, HB9.out⟩
end Go.Proofs.YtohggdfplmlinaaDoor
