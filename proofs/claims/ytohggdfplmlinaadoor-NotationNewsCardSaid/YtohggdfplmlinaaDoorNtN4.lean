/-
  layer 4: whether a notation is of New; the longest mark at the beginning of a text. Conditions: a notation in memory.
-/
import Derived.Test.YtohggdfplmlinaaDoorNtN3
namespace Go.Proofs.YtohggdfplmlinaaDoor
open Go.RowKit Go.Lib

theorem NotM.parts {w : World} {S : Nat → Prop} {g : Nat} {fs : List ByteArray} {L : List Nam} {ms : List Mk} (h : NotM w S g fs L ms) : ∃ gi A c bm n f,
    Blk w g 69 #[wptr gi, .slice A ms.length c, .map (some bm)] ∧ InvM w S gi fs L ∧ Reads w w.heap.size 4 A ms.length (ms.flatMap markC) ∧ (MapKS w bm n f ∧ ∀ s t, f s = some t → bs t = bestS L ms s) ∧ (∀ m ∈ ms, okMk m) ∧ ms.length ≤ 32 := by
  obtain ⟨N, gi, A, c, bm, n, f, ⟨h1, -⟩, h2, ⟨h3, -⟩, ⟨h4, -, h5⟩, -, h6, h7⟩ := h
  obtain ⟨A', c', e, -, -, hr⟩ := own_reads h3
  injection e with e1 e2 e3
  subst e1; subst e3
  refine ⟨gi, A, c, bm, n, f, h1, h2.mono (fun b hb => hb.1), hr, ⟨h4, h5⟩, h6, ?_⟩
  unfold notK at h7
  split at h7
  · cases h7
  · omega
set_option maxRecDepth 20000 in
theorem nvalid_any {w : World} {S : Nat → Prop} {g : Nat} {fs : List ByteArray} {L : List Nam} {ms : List Mk} (h : NotM w S g fs L ms) : Calls Tryd.prog 41 #[wptr g] w fun e w' => e = .returned (.bool true) ∧ w = w' := by
  obtain ⟨gi, A, c, bm, n, f, h1, -⟩ := h.parts
  have c0 := h1.cell 0
  simp only [List.getElem?_toArray, List.getElem?_cons_zero] at c0
  clear h h1
  go_enter Tryd.func41, Tryd.ntmps41
  go_wp2
  go_ret
  exact ⟨rfl, rfl⟩
abbrev noMk : Mk := ⟨⟨#[]⟩, 0, (0, 0)⟩
theorem mkLen_getD (b : Option Mk) : mkLen b = (b.getD noMk).text.size := by cases b <;> rfl
theorem fold_next {ms : List Mk} {t : List UInt8} {k : Nat} (hk : k < ms.length) : (ms.take (k + 1)).foldl (markS t) none = markS t ((ms.take k).foldl (markS t) none) ms[k] := by
  rw [List.take_succ_eq_append_getElem hk, List.foldl_append]; rfl
abbrev mkC (m : Mk) : Array Value := #[.string m.text, .int .u32 m.clear, .int .u32 m.set.1, .int .u32 m.set.2]
theorem set4 {w : World} {b : Nat} {m : Mk} {t : TypeId} (x : Mk) (h : Blk w b t (mkC m)) : Blk ((((w.setCell ⟨b, 0, none⟩ (.string x.text)).setCell ⟨b, 1, none⟩ (.int .u32 x.clear)).setCell ⟨b, 2, none⟩ (.int .u32 x.set.1)).setCell ⟨b, 3, none⟩ (.int .u32 x.set.2)) b t (mkC x) :=
  (((h.set_ 0 (.string x.text)).set_ 1 (.int .u32 x.clear)).set_ 2 (.int .u32 x.set.1)).set_ 3 (.int .u32 x.set.2)
theorem below4 {w w0 : World} {B b : Nat} (x : Mk) (h : Below B w0 w) (hb : B ≤ b) : Below B w0 ((((w.setCell ⟨b, 0, none⟩ (.string x.text)).setCell ⟨b, 1, none⟩ (.int .u32 x.clear)).setCell ⟨b, 2, none⟩ (.int .u32 x.set.1)).setCell ⟨b, 3, none⟩ (.int .u32 x.set.2)) :=
  (((h.setCell (p := ⟨b, 0, none⟩) hb _).setCell (p := ⟨b, 1, none⟩) hb _).setCell (p := ⟨b, 2, none⟩) hb _).setCell (p := ⟨b, 3, none⟩) hb _
set_option maxRecDepth 20000 in
set_option maxHeartbeats 1000000 in
theorem mark_any {w : World} {S : Nat → Prop} {g : Nat} {fs : List ByteArray} {L : List Nam} {ms : List Mk} (s : ByteArray) (h : NotM w S g fs L ms) : Calls Tryd.prog 78 #[wptr g, .string s] w fun e w' => e = .returned (.tuple #[markV ((markAt ms (bs s)).getD noMk), .bool (markAt ms (bs s)).isSome]) ∧ Below w.heap.size w w' := by
  obtain ⟨gi, A, c, bm, n, f, h1, -, hr, -, -, h32⟩ := h.parts
  have hgl := h1.lt
  have c1 := h1.cell 1
  simp only [List.getElem?_toArray, List.getElem?_cons_zero, List.getElem?_cons_succ] at c1
  have HR := Lib.hid hr
  have hnew := Blk.new w 58 #[.string ⟨#[]⟩, .int .u32 0, .int .u32 0, .int .u32 0]
  have hb0 := (Below.refl w.heap.size w).alloc (Nat.le_refl _) (.cells #[.string ⟨#[]⟩, .int .u32 0, .int .u32 0, .int .u32 0] 58)
  have hsz0 : (w.alloc (.cells #[.string ⟨#[]⟩, .int .u32 0, .int .u32 0, .int .u32 0] 58)).heap.size = w.heap.size + 1 := World.size_alloc _ _
  obtain ⟨w0, hw0⟩ : ∃ W, w.alloc (.cells #[.string ⟨#[]⟩, .int .u32 0, .int .u32 0, .int .u32 0] 58) = W := ⟨_, rfl⟩
  rw [hw0] at hnew hb0 hsz0
  have HN := Lib.hid hnew; have HB0 := Lib.hid hb0; have HW := Lib.hid hw0
  clear h h1 hr hnew hb0 hw0
  go_enter Tryd.func78, Tryd.ntmps78
  go_wp2
  rw [HW.out]
  clear HW
  go_loopw [5, 13] (fun r i wr => ∃ k : Nat, k ≤ ms.length ∧ i = .int .i64 k ∧ r = .bool (((ms.take k).foldl (markS (bs s)) none).isSome) ∧ Blk wr w.heap.size 58 (mkC (((ms.take k).foldl (markS (bs s)) none).getD noMk)) ∧ Below w.heap.size w wr) (fun _ i _ => ms.length - (RowKit.intOf i).toNat)
  case atStart => exact ⟨0, by omega, rfl, rfl, HN.out, HB0.out⟩
  case round =>
    obtain ⟨k, hk, rfl, rfl, hbk, hbw⟩ := hrel
    have HBK := Lib.hid hbk; have HBW := Lib.hid hbw
    have hszw := hbk.lt
    clear hbk hbw
    by_cases hlt : k < ms.length
    · have hkI : (k : Int) < (ms.length : Int) := by omega
      obtain ⟨ad, rfl, had, e0, e1, e2, e3⟩ := mark_cells (HR.out.below HBW.out) hlt
      have hnx := fold_next (t := bs s) hlt
      have hln := mkLen_getD ((ms.take k).foldl (markS (bs s)) none)
      have HNX := Lib.hid hnx
      have hbk := HBK.out
      generalize (ms.take k).foldl (markS (bs s)) none = b at *
      clear hnx
      have hnx := HNX.out
      clear HNX
      generalize ms[k] = y at *
      have hp := fun W => prefix_any s y.text W
      have hst : markS (bs s) b y = if ((bs y.text).isPrefixOf (bs s) && decide (mkLen b < y.text.size)) = true then some y else b := rfl
      rw [hst, hln] at hnx
      have hbk1 := hbk.alloc (.cells (mkC y) 58)
      have hny := Blk.new wr 58 (mkC y)
      have hbw1 := HBW.out.alloc (by omega) (.cells (mkC y) 58)
      have HNX := Lib.hid hnx; have HP := Lib.hid hp; have HBK1 := Lib.hid hbk1; have HNY := Lib.hid hny; have HBW1 := Lib.hid hbw1
      clear hnx hp hbk1 hny hbw1 hst hln hbk
      generalize (bs y.text).isPrefixOf (bs s) = r at *
      go_wp2_with fail
      refine (HP.out _).mono ?_
      rintro e w1 ⟨rfl, hw1⟩
      have hy1 := HNY.out
      have hb1 := HBK1.out
      have hbw1 := HBW1.out
      change wr.alloc (.cells (mkC y) 58) = w1 at hw1
      rw [hw1] at hy1 hb1 hbw1
      clear hw1 e0 e1 e2 e3 HP HBK HBW HNY HBK1 HBW1
      have y0 := hy1.cell 0; have y1 := hy1.cell 1; have y2 := hy1.cell 2; have y3 := hy1.cell 3
      have b0 := hb1.cell 0; have b1 := hb1.cell 1; have b2 := hb1.cell 2; have b3 := hb1.cell 3
      have fr0 := hb1.frozen 0; have fr1 := hb1.frozen 1; have fr2 := hb1.frozen 2; have fr3 := hb1.frozen 3
      simp only [List.getElem?_toArray, List.getElem?_cons_zero, List.getElem?_cons_succ] at y0 y1 y2 y3 b0 b1 b2 b3
      have HB1 := Lib.hid hb1; have HBW1 := Lib.hid hbw1
      clear hy1 hb1 hbw1
      cases r with
      | false =>
        have hnx := HNX.out
        simp only [Bool.false_and, Bool.false_eq_true, if_false] at hnx
        have HNX2 := Lib.hid hnx
        clear hnx HNX
        go_wp2
        go_roundw
        case rel => exact ⟨k + 1, by omega, by go_num, by rw [HNX2.out], by rw [HNX2.out]; exact HB1.out, HBW1.out⟩
        case measure => simp [RowKit.intOf]; omega
      | true =>
        by_cases hl : (b.getD noMk).text.size < y.text.size
        · have hlI : ((b.getD noMk).text.size : Int) < (y.text.size : Int) := by omega
          have hnx := HNX.out
          rw [decide_eq_true hl] at hnx
          have hs4 := set4 y HB1.out
          have hbe4 := below4 y HBW1.out (Nat.le_refl w.heap.size)
          have HNX2 := Lib.hid (show (ms.take (k + 1)).foldl (markS (bs s)) none = some y from hnx); have HS4 := Lib.hid hs4; have HBE4 := Lib.hid hbe4
          clear hnx HNX hs4 hbe4 hl
          go_wp2
          go_roundw
          case rel => exact ⟨k + 1, by omega, by go_num, by rw [HNX2.out]; rfl, by rw [HNX2.out]; exact HS4.out, HBE4.out⟩
          case measure => simp [RowKit.intOf]; omega
        · have hlI : ¬ ((b.getD noMk).text.size : Int) < (y.text.size : Int) := by omega
          have hnx := HNX.out
          rw [decide_eq_false hl] at hnx
          have HNX2 := Lib.hid (show (ms.take (k + 1)).foldl (markS (bs s)) none = b from hnx)
          clear hnx HNX hl
          go_wp2
          go_roundw
          case rel => exact ⟨k + 1, by omega, by go_num, by rw [HNX2.out], by rw [HNX2.out]; exact HB1.out, HBW1.out⟩
          case measure => simp [RowKit.intOf]; omega
    · obtain rfl : k = ms.length := by omega
      have hbk := HBK.out
      rw [List.take_length] at hbk
      have hm : (ms.take ms.length).foldl (markS (bs s)) none = markAt ms (bs s) := by rw [List.take_length]; rfl
      rw [hm]
      change Blk wr w.heap.size 58 (mkC ((markAt ms (bs s)).getD noMk)) at hbk
      obtain ⟨b, hbb⟩ : ∃ b, markAt ms (bs s) = b := ⟨_, rfl⟩
      rw [hbb] at hbk ⊢
      have HBB := Lib.hid hbb
      clear hbb
      have b0 := hbk.cell 0; have b1 := hbk.cell 1; have b2 := hbk.cell 2; have b3 := hbk.cell 3
      have fr0 := hbk.frozen 0; have fr1 := hbk.frozen 1; have fr2 := hbk.frozen 2; have fr3 := hbk.frozen 3
      simp only [List.getElem?_toArray, List.getElem?_cons_zero, List.getElem?_cons_succ] at b0 b1 b2 b3
      have hs4 := set4 (b.getD noMk) hbk
      have hbe4 := below4 (b.getD noMk) HBW.out (Nat.le_refl w.heap.size)
      have HS4 := Lib.hid hs4; have HBE4 := Lib.hid hbe4
      clear hm hbk hs4 hbe4 hlt HBK
      obtain ⟨m, hmm⟩ : ∃ m, b.getD noMk = m := ⟨_, rfl⟩
      rw [hmm] at b0 b1 b2 b3 HS4 HBE4
      have HMM := Lib.hid hmm
      clear hmm
      go_wp2
      have hbx := HBE4.out
      have hsx := HS4.out
      generalize (((wr.setCell ⟨w.heap.size, 0, none⟩ (.string m.text)).setCell ⟨w.heap.size, 1, none⟩ (.int .u32 m.clear)).setCell ⟨w.heap.size, 2, none⟩ (.int .u32 m.set.1)).setCell ⟨w.heap.size, 3, none⟩ (.int .u32 m.set.2) = W at hbx hsx ⊢
      have x0 := hsx.cell 0; have x1 := hsx.cell 1; have x2 := hsx.cell 2; have x3 := hsx.cell 3
      simp only [List.getElem?_toArray, List.getElem?_cons_zero, List.getElem?_cons_succ] at x0 x1 x2 x3
      exact bodyPost_ret (v := .tuple #[markV m, .bool b.isSome]) (by simp [results, Tryd.results78, go_sem, x0, x1, x2, x3]) rfl ⟨by rw [HBB.out, HMM.out], hbx⟩
end Go.Proofs.YtohggdfplmlinaaDoor
