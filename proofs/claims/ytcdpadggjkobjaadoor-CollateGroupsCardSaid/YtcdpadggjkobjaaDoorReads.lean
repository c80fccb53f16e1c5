/-
  CollateReads of layer 39, walked. Conditions: the cell of the library's MaxLen holds some int; arguments of the reach.
-/
import Derived.Test.YtcdpadggjkobjaaDoorWorks
namespace Go.Proofs.YtcdpadggjkobjaaDoor
open Go.RowKit

theorem equalS_refl (A B : Option Addr) (n m c d : Nat) (xs : List ByteArray) (w : World) (K L : Nat) (hx : ReadS w K A n xs) (hy : ReadS w L B m xs) (hn : n ≤ maxLen) :
    Calls Tryd.prog 20 #[.slice A n c, .slice B m d] w (Quietly w (.bool true)) := by
  have h := equalS_any A B n m c d xs xs w K L hx hy hn
  rwa [decide_eq_true (rfl : xs = xs)] at h
theorem equalI_refl (A B : Option Addr) (n m c d : Nat) (xs : List Int) (w : World) (K L : Nat) (hx : ReadI w K A n xs) (hy : ReadI w L B m xs) (hn : n ≤ maxLen) :
    Calls Tryd.prog 21 #[.slice A n c, .slice B m d] w (Quietly w (.bool true)) := by
  have h := equalI_any A B n m c d xs xs w K L hx hy hn
  rwa [decide_eq_true (rfl : xs = xs)] at h
theorem fewB_yes {ss : List ByteArray} {most bytes : Int} (h : fewB ss most bytes = true) : (ss.length : Int) ≤ most ∧ (totalS ss : Int) ≤ bytes := by
  unfold fewB at h
  rw [Bool.and_eq_true, decide_eq_true_iff, decide_eq_true_iff] at h
  exact h

set_option maxRecDepth 20000 in
set_option maxHeartbeats 2000000 in
theorem reads_any (A : Option Addr) (n c : Nat) (ss : List ByteArray) (s : ByteArray) (w : World) (hm : MaxOk w) (hr : ReadS w w.heap.size A n ss) (hs : ∀ s ∈ ss, okS s) (hn : n ≤ maxLen) (hz : s.size ≤ maxLen) :
    Calls Tryd.prog 3 #[.slice A n c, .string s] w (WorksPost w) := by
  have hf := few_any A n c ss 300 3000 w _ hr hs hn (by omega)
  unfold maxLen at hz
  by_cases hF : fewB ss 300 3000 = true ∧ s.size ≤ 1000
  · obtain ⟨h1, h2⟩ := hF
    have h3 := fewB_yes h1
    have hL := hr.len
    have hb := both_any A n c ss w hm hr (by omega) (by omega)
    have hG := groupsO_small (ss := ss) (by omega) (by omega)
    rw [h1] at hf
    have kw := fun W (hb : Below w.heap.size w W) => works_any W (hm.below hb)
    have ks := fun p W (h : AlphO W p (groupsO ss)) => splitO_any p (groupsO ss) s W h
    have kk := fun p W (h : AlphO W p (groupsO ss)) => keyO_any p (groupsO ss) s W h
    have rs := fun p W (h : RefO W p (groupsO ss)) => refSplitO_any p (groupsO ss) s W h hG (by unfold maxLen; omega)
    have rk := fun p W (h : RefO W p (groupsO ss)) => refKeyO_any p (groupsO ss) s W h hG (by unfold maxLen; omega)
    generalize readResO (groupsO ss) s = r at ks kk rs rk
    unfold BothPost at hb
    generalize groupsO ss = og at *
    have KW := Lib.hid kw; have KS := Lib.hid ks; have KK := Lib.hid kk; have RS := Lib.hid rs; have RK := Lib.hid rk
    clear kw ks kk rs rk hG hL h3 h1 hm hr hs hn
    go_enter Tryd.func3, Tryd.ntmps3
    go_wp2_with fail
    refine hf.mono ?_
    rintro e w' ⟨rfl, rfl⟩
    go_wp2_with fail
    refine hb.mono ?_
    rintro e w1 ⟨p, q, rfl, hA, hR, hb1⟩
    clear hb hf
    have HA := Lib.hid hA; have HR := Lib.hid hR; clear hA hR
    go_wp2_with fail
    refine (KS.out p w1 HA.out).mono ?_
    rintro e w2 hp
    obtain ⟨A1, n1, c1, rfl, hx, hn1, hb2, -⟩ := hp.form
    clear hp
    go_wp2_with fail
    refine (RS.out q w2 (HR.out.below hb2)).mono ?_
    rintro e w3 hp
    obtain ⟨A2, n2, c2, rfl, hy, hn2, hb3, -⟩ := hp.form
    clear hp
    go_wp2_with fail
    refine (KK.out p w3 ((HA.out.below hb2).below hb3)).mono ?_
    rintro e w4 hp
    obtain ⟨A3, n3, c3, rfl, hk, hn3, hb4⟩ := hp.form
    clear hp
    go_wp2_with fail
    refine (RK.out q w4 (((HR.out.below hb2).below hb3).below hb4)).mono ?_
    rintro e w5 hp
    obtain ⟨A4, n4, c4, rfl, hl, hn4, hb5⟩ := hp.form
    clear hp
    have z1 := hb1.size; have z2 := hb2.size; have z3 := hb3.size; have z4 := hb4.size; have z5 := hb5.size
    have hB5 := (((hb1.trans (hb2.mono (by omega))).trans (hb3.mono (by omega))).trans (hb4.mono (by omega))).trans (hb5.mono (by omega))
    have hx5 := ((hx.below hb3).below (hb4.mono (by omega))).below (hb5.mono (by omega))
    have hy5 := (hy.below hb4).below (hb5.mono (by omega))
    have hk5 := hk.below hb5
    clear hx hy hk hb1 hb2 hb3 hb4 hb5 HA HR KS KK RS RK
    go_wp2_with fail
    refine (equalS_refl A1 A2 n1 n2 c1 c2 _ _ _ _ hx5 hy5 hn1).mono ?_
    rintro e w6 ⟨rfl, q1, rfl⟩
    go_wp2_with fail
    refine (equalI_refl A3 A4 n3 n4 c3 c4 _ _ _ _ (Reads.drewN hk5 q1) (Reads.drewN hl q1) hn3).mono ?_
    rintro e w7 ⟨rfl, q2, rfl⟩
    have hB7 := below_drewN hB5 (q1 + q2)
    go_wp2_with fail
    refine (KW.out _ hB7).mono ?_
    rintro e w8 ⟨rfl, hb8⟩
    go_wp2
    go_ret
    exact ⟨rfl, hB7.trans (hb8.mono hB7.size)⟩
  · have kw := works_any w hm
    by_cases h1 : fewB ss 300 3000 = true
    · have h2 : 1000 < s.size := by
        rcases Nat.lt_or_ge 1000 s.size with h | h
        · exact h
        · exact absurd ⟨h1, h⟩ hF
      rw [h1] at hf
      clear h1 hF hm hr hs hn
      go_enter Tryd.func3, Tryd.ntmps3
      go_wp2_with fail
      refine hf.mono ?_
      rintro e w' ⟨rfl, rfl⟩
      go_wp2_with fail
      refine kw.mono ?_
      rintro e w8 ⟨rfl, hb8⟩
      go_wp2
      go_ret
      exact ⟨rfl, hb8⟩
    · rw [Bool.not_eq_true] at h1
      rw [h1] at hf
      clear h1 hF hm hr hs hn
      go_enter Tryd.func3, Tryd.ntmps3
      go_wp2_with fail
      refine hf.mono ?_
      rintro e w' ⟨rfl, rfl⟩
      go_wp2_with fail
      refine kw.mono ?_
      rintro e w8 ⟨rfl, hb8⟩
      go_wp2
      go_ret
      exact ⟨rfl, hb8⟩
end Go.Proofs.YtcdpadggjkobjaaDoor
