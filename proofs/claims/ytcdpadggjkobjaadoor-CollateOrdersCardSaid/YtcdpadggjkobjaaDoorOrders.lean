/-
  CollateOrders of layer 39, walked. Conditions: the cell of the library's MaxLen holds some int; arguments of the reach.
-/
import Derived.Test.YtcdpadggjkobjaaDoorReads
namespace Go.Proofs.YtcdpadggjkobjaaDoor
open Go.RowKit

set_option maxRecDepth 20000 in
set_option maxHeartbeats 2000000 in
theorem orders_any (A : Option Addr) (n c : Nat) (ss : List ByteArray) (s t : ByteArray) (w : World) (hm : MaxOk w) (hr : ReadS w w.heap.size A n ss) (hs : ∀ s ∈ ss, okS s) (hn : n ≤ maxLen) (hz : s.size ≤ maxLen) (hzt : t.size ≤ maxLen) :
    Calls Tryd.prog 4 #[.slice A n c, .string s, .string t] w (WorksPost w) := by
  have hf := few_any A n c ss 300 3000 w _ hr hs hn (by omega)
  unfold maxLen at hz hzt
  by_cases hF : fewB ss 300 3000 = true ∧ s.size ≤ 1000 ∧ t.size ≤ 1000
  · obtain ⟨h1, h2, h2t⟩ := hF
    have h3 := fewB_yes h1
    have hL := hr.len
    have hb := both_any A n c ss w hm hr (by omega) (by omega)
    have hG := groupsO_small (ss := ss) (by omega) (by omega)
    rw [h1] at hf
    have kw := fun W (hb : Below w.heap.size w W) => works_any W (hm.below hb)
    have ko := fun p W (h : AlphO W p (groupsO ss)) => order_any p (groupsO ss) s t W h
    have ks := fun p W (h : AlphO W p (groupsO ss)) => same_any p (groupsO ss) s t W h
    have ro := fun p W (h : RefO W p (groupsO ss)) => refOrder_any p (groupsO ss) s t W h hG (by unfold maxLen; omega) (by unfold maxLen; omega)
    have rs := fun p W (h : RefO W p (groupsO ss)) => refSame_any p (groupsO ss) s t W h hG (by unfold maxLen; omega) (by unfold maxLen; omega)
    generalize orderRes (readResO (groupsO ss) s) (readResO (groupsO ss) t) s t = r at ko ro
    generalize sameRes (readResO (groupsO ss) s) (readResO (groupsO ss) t) = b at ks rs
    unfold BothPost at hb
    generalize groupsO ss = og at *
    have KW := Lib.hid kw; have KO := Lib.hid ko; have KS := Lib.hid ks; have RO := Lib.hid ro; have RS := Lib.hid rs
    clear kw ko ks ro rs hG hL h3 h1 hm hr hs hn
    go_enter Tryd.func4, Tryd.ntmps4
    go_wp2_with fail
    refine hf.mono ?_
    rintro e w' ⟨rfl, rfl⟩
    go_wp2_with fail
    refine hb.mono ?_
    rintro e w1 ⟨p, q, rfl, hA, hR, hb1⟩
    clear hb hf
    have HA := Lib.hid hA; have HR := Lib.hid hR; clear hA hR
    go_wp2_with fail
    refine (KO.out p w1 HA.out).mono ?_
    rintro e w2 ⟨rfl, hb2⟩
    go_wp2_with fail
    refine (RO.out q w2 (HR.out.below hb2)).mono ?_
    rintro e w3 ⟨rfl, hb3⟩
    go_wp2_with fail
    refine (KS.out p w3 ((HA.out.below hb2).below hb3)).mono ?_
    rintro e w4 ⟨rfl, hb4⟩
    go_wp2_with fail
    refine (RS.out q w4 (((HR.out.below hb2).below hb3).below hb4)).mono ?_
    rintro e w5 ⟨rfl, hb5⟩
    have hB5 : Below w.heap.size w w5 := by
      have z1 := hb1.size; have z2 := hb2.size; have z3 := hb3.size; have z4 := hb4.size
      exact (((hb1.trans (hb2.mono (by omega))).trans (hb3.mono (by omega))).trans (hb4.mono (by omega))).trans (hb5.mono (by omega))
    clear hb1 hb2 hb3 hb4 hb5 HA HR KS KO RS RO
    go_wp2_with fail
    refine (KW.out _ hB5).mono ?_
    rintro e w8 ⟨rfl, hb8⟩
    go_wp2
    go_ret
    exact ⟨rfl, hB5.trans (hb8.mono hB5.size)⟩
  · have kw := works_any w hm
    by_cases h1 : fewB ss 300 3000 = true
    · rw [h1] at hf
      have h2 : 1000 < s.size ∨ (s.size ≤ 1000 ∧ 1000 < t.size) := by
        rcases Nat.lt_or_ge 1000 s.size with h | h
        · exact .inl h
        · rcases Nat.lt_or_ge 1000 t.size with h' | h'
          · exact .inr ⟨h, h'⟩
          · exact absurd ⟨h1, h, h'⟩ hF
      clear h1 hF hm hr hs hn
      rcases h2 with h2 | ⟨h2, h3⟩
      all_goals
        go_enter Tryd.func4, Tryd.ntmps4
        go_wp2_with fail
        refine hf.mono ?_
        rintro e w' ⟨rfl, rfl⟩
        go_wp2_with fail
        refine kw.mono ?_
        rintro e w8 ⟨rfl, hb8⟩
        go_wp2
        go_ret
        exact ⟨rfl, hb8⟩
    · rw [Bool.not_eq_true] at h1
      rw [h1] at hf
      clear h1 hF hm hr hs hn
      go_enter Tryd.func4, Tryd.ntmps4
      go_wp2_with fail
      refine hf.mono ?_
      rintro e w' ⟨rfl, rfl⟩
      go_wp2_with fail
      refine kw.mono ?_
      rintro e w8 ⟨rfl, hb8⟩
      go_wp2
      go_ret
      exact ⟨rfl, hb8⟩
end Go.Proofs.YtcdpadggjkobjaaDoor
