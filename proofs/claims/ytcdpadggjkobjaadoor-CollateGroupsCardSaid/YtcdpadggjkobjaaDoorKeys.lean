/-
  layer 39: the reference's keys. Conditions: keys of at most maxLen elements.
-/
import Derived.Test.YtcdpadggjkobjaaDoorCmp
namespace Go.Proofs.YtcdpadggjkobjaaDoor
open Go.RowKit

set_option maxRecDepth 20000 in
set_option maxHeartbeats 2000000 in
theorem refkeys_any (A B : Option Addr) (n m c d : Nat) (xs ys : List Int) (w : World) (K L : Nat) (hx : ReadI w K A n xs) (hy : ReadI w L B m ys) (hn : n ≤ maxLen) (hm : m ≤ maxLen) :
    Calls Tryd.prog 51 #[.slice A n c, .slice B m d] w (Quietly w (.int .i64 (cmpL xs ys))) := by
  unfold maxLen at hn hm
  have HX := Lib.hid hx.len; have HY := Lib.hid hy.len
  go_enter Tryd.func51, Tryd.ntmps51
  go_wp2
  go_loopw [5] (fun i wr => ∃ (k q : Nat), k ≤ n ∧ k ≤ m ∧ i = .int .i64 k ∧ wr = w.drewN q ∧ xs.take k = ys.take k) (fun i _ => n - (intOf i).toNat)
  case atStart => exact ⟨0, 0, by omega, by omega, rfl, rfl, by simp⟩
  case round =>
    obtain ⟨k, q, hk, hkm, rfl, rfl, he⟩ := hrel
    have hcd := cmpL_drop xs ys k he (by rw [HX.out]; exact hk) (by rw [HY.out]; exact hkm)
    have HE := Lib.hid he; have HCD := Lib.hid hcd; clear he hcd
    by_cases hlt : k < n
    · have hkx : k < xs.length := by rw [HX.out]; exact hlt
      obtain ⟨ad, rfl, _, hcx⟩ := hx.at_ (k := k) hkx
      by_cases hltm : k < m
      · have hky : k < ys.length := by rw [HY.out]; exact hltm
        obtain ⟨ad', rfl, _, hcy⟩ := hy.at_ (k := k) hky
        have h1 : cmpL xs ys = if cmpI xs[k] ys[k] = 0 then cmpL (xs.drop (k + 1)) (ys.drop (k + 1)) else cmpI xs[k] ys[k] := by
          rw [HCD.out, List.drop_eq_getElem_cons hkx, List.drop_eq_getElem_cons hky, cmpL]
        have h2 : xs[k] = ys[k] → xs.take (k + 1) = ys.take (k + 1) := fun e => by
          rw [List.take_succ_eq_append_getElem hkx, List.take_succ_eq_append_getElem hky, HE.out, e]
        generalize xs[k] = x at hcx h1 h2
        generalize ys[k] = y at hcy h1 h2
        have H1 := Lib.hid h1; have H2 := Lib.hid h2; clear h1 h2
        by_cases hxy : x < y
        · have h3 : cmpL xs ys = -1 := by rw [H1.out]; unfold cmpI; rw [if_pos hxy]; rfl
          have H3 := Lib.hid h3; clear h3
          go_wp2_with fail
          go_quiet (fail)
          go_wp2
          go_ret
          rw [H3.out]; exact ⟨rfl, _, World.drewN_drewN _ _ _⟩
        · by_cases hyx : y < x
          · have h3 : cmpL xs ys = 1 := by rw [H1.out]; unfold cmpI; rw [if_neg hxy, if_pos hyx]; rfl
            have H3 := Lib.hid h3; clear h3
            go_wp2_with fail
            go_quiet (fail)
            go_wp2_with fail
            go_quiet (fail)
            go_wp2
            go_ret
            rw [H3.out]; exact ⟨rfl, by simp only [World.drewN_drewN]; exact ⟨_, rfl⟩⟩
          · obtain rfl : x = y := by omega
            have h3 := H2.out rfl
            have H3 := Lib.hid h3; clear h3
            go_wp2_with fail
            go_quiet (fail)
            go_wp2_with fail
            go_quiet (fail)
            go_wp2
            go_roundw
            case rel => exact ⟨k + 1, _, by omega, by omega, by go_num, rfl, H3.out⟩
            case measure => simp [intOf]; omega
      · have h1 : cmpL xs ys = 1 := by
          have hdy : ys.drop k = [] := List.drop_eq_nil_of_le (by rw [HY.out]; omega)
          rw [HCD.out, List.drop_eq_getElem_cons hkx, hdy]; rfl
        have H1 := Lib.hid h1; clear h1
        go_wp2
        go_ret
        rw [H1.out]; exact ⟨rfl, q, rfl⟩
    · have hdx : xs.drop k = [] := List.drop_eq_nil_of_le (by rw [HX.out]; omega)
      by_cases hltm : k < m
      · have h1 : cmpL xs ys = -1 := by
          rw [HCD.out, hdx, List.drop_eq_getElem_cons (by rw [HY.out]; exact hltm)]; rfl
        have H1 := Lib.hid h1; clear h1 hdx
        go_wp2
        go_ret
        rw [H1.out]; exact ⟨rfl, q, rfl⟩
      · have h1 : cmpL xs ys = 0 := by
          have hdy : ys.drop k = [] := List.drop_eq_nil_of_le (by rw [HY.out]; omega)
          rw [HCD.out, hdx, hdy]; rfl
        have H1 := Lib.hid h1; clear h1 hdx
        go_wp2
        go_ret
        rw [H1.out]; exact ⟨rfl, q, rfl⟩
end Go.Proofs.YtcdpadggjkobjaaDoor
