/-
  cmp.Compare at ints, slices.Compare at []int. Conditions: lengths of at most maxLen.
-/
import Derived.Test.YtcdpadggjkobjaaGreatDoorRef5
namespace Go.Proofs.YtcdpadggjkobjaaGreatDoor
open Go.RowKit

def cmpI (a b : Int) : Int := if a < b then -1 else if b < a then 1 else 0
def cmpL : List Int → List Int → Int
  | [], [] => 0
  | [], _ :: _ => -1
  | _ :: _, [] => 1
  | a :: l, b :: m => if cmpI a b = 0 then cmpL l m else cmpI a b
theorem isNaN_any (a : Int) (w : World) : Calls Tryz.prog 89 #[.int .i64 a] w fun e w' => e = .returned (.bool false) ∧ w = w' := by
  go_enter Tryz.func89, Tryz.ntmps89
  go_wp2
  go_ret
  simp
theorem compareI_any (a b : Int) (w : World) : Calls Tryz.prog 70 #[.int .i64 a, .int .i64 b] w fun e w' => e = .returned (.int .i64 (cmpI a b)) ∧ w = w' := by
  have h := fun a => isNaN_any a w
  have H := Lib.hid h; clear h
  unfold cmpI
  by_cases h1 : a < b
  · rw [if_pos h1]
    go_enter Tryz.func70, Tryz.ntmps70
    go_wp2_with (go_at_call 89; refine (H.out _).mono ?_; rintro e w' ⟨rfl, rfl⟩)
    go_ret
    exact ⟨rfl, rfl⟩
  · by_cases h2 : b < a
    · rw [if_neg h1, if_pos h2]
      go_enter Tryz.func70, Tryz.ntmps70
      go_wp2_with (go_at_call 89; refine (H.out _).mono ?_; rintro e w' ⟨rfl, rfl⟩)
      go_ret
      exact ⟨rfl, rfl⟩
    · rw [if_neg h1, if_neg h2]
      go_enter Tryz.func70, Tryz.ntmps70
      go_wp2_with (go_at_call 89; refine (H.out _).mono ?_; rintro e w' ⟨rfl, rfl⟩)
      go_ret
      exact ⟨rfl, rfl⟩
theorem cmpI_self (a : Int) : cmpI a a = 0 := by unfold cmpI; rw [if_neg (by omega), if_neg (by omega)]
theorem cmpI_zero {a b : Int} (h : cmpI a b = 0) : a = b := by
  unfold cmpI at h
  split at h
  · omega
  · split at h
    · omega
    · omega
theorem cmpL_drop (xs ys : List Int) (k : Nat) (h : xs.take k = ys.take k) (hx : k ≤ xs.length) (hy : k ≤ ys.length) : cmpL xs ys = cmpL (xs.drop k) (ys.drop k) := by
  induction k generalizing xs ys with
  | zero => rfl
  | succ k ih =>
    cases xs with
    | nil => simp at hx
    | cons a l =>
      cases ys with
      | nil => simp at hy
      | cons b m =>
        simp only [List.take_succ_cons, List.cons.injEq] at h
        obtain ⟨rfl, h⟩ := h
        simp only [List.length_cons, Nat.add_le_add_iff_right] at hx hy
        simp only [cmpL, cmpI_self, ↓reduceIte, List.drop_succ_cons]
        exact ih l m h hx hy
set_option maxRecDepth 20000 in
set_option maxHeartbeats 2000000 in
theorem compareL_any (A B : Option Addr) (n m c d : Nat) (xs ys : List Int) (w : World) (K L : Nat) (hx : ReadI w K A n xs) (hy : ReadI w L B m ys) (hn : n ≤ maxLen) (hm : m ≤ maxLen) :
    Calls Tryz.prog 47 #[.slice A n c, .slice B m d] w fun e w' => e = .returned (.int .i64 (cmpL xs ys)) ∧ w = w' := by
  unfold maxLen at hn hm
  have HX := Lib.hid hx.len; have HY := Lib.hid hy.len
  have hc := fun a b => compareI_any a b w
  have HC := Lib.hid hc; clear hc
  go_enter Tryz.func47, Tryz.ntmps47
  go_wp2
  go_loop [11] (fun i => ∃ (k : Nat), k ≤ n ∧ k ≤ m ∧ i = .int .i64 k ∧ xs.take k = ys.take k) (fun i => n - (intOf i).toNat)
  case atStart => exact ⟨0, by omega, by omega, rfl, by simp⟩
  case round =>
    obtain ⟨k, hk, hkm, rfl, he⟩ := hrel
    have hcd := cmpL_drop xs ys k he (by rw [HX.out]; exact hk) (by rw [HY.out]; exact hkm)
    have HE := Lib.hid he; have HCD := Lib.hid hcd; clear he hcd
    by_cases hlt : k < n
    · have hkx : k < xs.length := by rw [HX.out]; exact hlt
      obtain ⟨ad, rfl, _, hcx⟩ := hx.at_ (k := k) hkx
      by_cases hltm : k < m
      · have hky : k < ys.length := by rw [HY.out]; exact hltm
        obtain ⟨ad', rfl, _, hcy⟩ := hy.at_ (k := k) hky
        have h1 : cmpL xs ys = if cmpI xs[k] ys[k] = 0 then cmpL (xs.drop (k + 1)) (ys.drop (k + 1)) else cmpI xs[k] ys[k] := by
          rw [HCD.out, List.drop_eq_getElem_cons hkx, List.drop_eq_getElem_cons hky, cmpL]
        have h2 : xs[k] = ys[k] → xs.take (k + 1) = ys.take (k + 1) := fun e => by
          rw [List.take_succ_eq_append_getElem hkx, List.take_succ_eq_append_getElem hky, HE.out, e]
        have h3 := HC.out xs[k] ys[k]
        have h4 : cmpI xs[k] ys[k] = 0 → xs[k] = ys[k] := cmpI_zero
        generalize xs[k] = x at hcx h1 h2 h3 h4
        generalize ys[k] = y at hcy h1 h2 h3 h4
        generalize cmpI x y = z at h1 h3 h4
        have H1 := Lib.hid h1; have H2 := Lib.hid h2; have H4 := Lib.hid h4; clear h1 h2 h4
        by_cases hz : z = 0
        · subst hz
          go_wp2_with (go_at_call 70; refine h3.mono ?_; rintro e w' ⟨rfl, rfl⟩)
          go_round
          case rel => exact ⟨k + 1, by omega, by omega, by go_num, H2.out (by first | exact H4.out trivial | exact H4.out rfl)⟩
          case measure => simp [intOf]; omega
        · have hzb : (z != 0) = true := by rw [bne_iff_ne]; exact hz
          have HZ := Lib.hid hz; clear hz
          go_wp2_with (go_at_call 70; refine h3.mono ?_; rintro e w' ⟨rfl, rfl⟩)
          go_ret
          rw [H1.out, if_neg HZ.out]; exact ⟨rfl, rfl⟩
      · have h1 : cmpL xs ys = 1 := by
          have hdy : ys.drop k = [] := List.drop_eq_nil_of_le (by rw [HY.out]; omega)
          rw [HCD.out, List.drop_eq_getElem_cons hkx, hdy]; rfl
        have H1 := Lib.hid h1; clear h1
        go_wp2
        go_ret
        rw [H1.out]; exact ⟨rfl, rfl⟩
    · have hdx : xs.drop k = [] := List.drop_eq_nil_of_le (by rw [HX.out]; omega)
      by_cases hltm : k < m
      · have h1 : cmpL xs ys = -1 := by
          rw [HCD.out, hdx, List.drop_eq_getElem_cons (by rw [HY.out]; exact hltm)]; rfl
        have H1 := Lib.hid h1; clear h1 hdx
        go_wp2
        go_ret
        rw [H1.out]; exact ⟨rfl, rfl⟩
      · have h1 : cmpL xs ys = 0 := by
          have hdy : ys.drop k = [] := List.drop_eq_nil_of_le (by rw [HY.out]; omega)
          rw [HCD.out, hdx, hdy]; rfl
        have H1 := Lib.hid h1; clear h1 hdx
        go_wp2
        go_ret
        rw [H1.out]; exact ⟨rfl, rfl⟩
def orL : List Int → Int
  | [] => 0
  | a :: l => if a = 0 then orL l else a
theorem orL_drop (xs : List Int) (k : Nat) (h : ∀ j (hj : j < xs.length), j < k → xs[j] = 0) : orL xs = orL (xs.drop k) := by
  induction k generalizing xs with
  | zero => rfl
  | succ k ih =>
    cases xs with
    | nil => rfl
    | cons a l =>
      have ha := h 0 (by simp) (by omega)
      simp only [List.getElem_cons_zero] at ha
      simp only [orL, ha, ↓reduceIte, List.drop_succ_cons]
      exact ih l (fun j hj hk => by have := h (j + 1) (by simpa using hj) (by omega); simpa using this)
set_option maxHeartbeats 1000000 in
theorem orL_any (A : Option Addr) (n c : Nat) (xs : List Int) (w : World) (K : Nat) (hx : ReadI w K A n xs) (hn : n ≤ maxLen) :
    Calls Tryz.prog 46 #[.slice A n c] w fun e w' => e = .returned (.int .i64 (orL xs)) ∧ w = w' := by
  unfold maxLen at hn
  have HX := Lib.hid hx.len
  go_enter Tryz.func46, Tryz.ntmps46
  go_wp2
  go_loop [8] (fun i => ∃ (k : Nat), k ≤ n ∧ i = .int .i64 k ∧ ∀ j (hj : j < xs.length), j < k → xs[j] = 0) (fun i => n - (intOf i).toNat)
  case atStart => exact ⟨0, by omega, rfl, fun j _ h => absurd h (by omega)⟩
  case round =>
    obtain ⟨k, hk, rfl, hz⟩ := hrel
    have hd := orL_drop xs k hz
    have HZ := Lib.hid hz; have HD := Lib.hid hd; clear hz hd
    by_cases hlt : k < n
    · have hkx : k < xs.length := by rw [HX.out]; exact hlt
      obtain ⟨ad, rfl, _, hcx⟩ := hx.at_ (k := k) hkx
      by_cases h0 : xs[k] = 0
      · have hb : (xs[k] != 0) = false := by rw [h0]; rfl
        have H0 := Lib.hid h0; clear h0
        go_wp2
        go_round
        case rel => exact ⟨k + 1, by omega, by go_num, fun j hj hjk => if h : j = k then by subst h; exact H0.out else HZ.out j hj (by omega)⟩
        case measure => simp [intOf]; omega
      · have hb : (xs[k] != 0) = true := by rw [bne_iff_ne]; exact h0
        have h1 : orL xs = xs[k] := by rw [HD.out, List.drop_eq_getElem_cons hkx, orL, if_neg h0]
        have H1 := Lib.hid h1; clear h1 h0
        generalize xs[k] = x at hcx hb H1
        go_wp2
        go_ret
        rw [H1.out]; exact ⟨rfl, rfl⟩
    · have hdx : xs.drop k = [] := List.drop_eq_nil_of_le (by rw [HX.out]; omega)
      have h1 : orL xs = 0 := by rw [HD.out, hdx]; rfl
      have H1 := Lib.hid h1; clear h1 hdx
      go_wp2
      go_ret
      rw [H1.out]; exact ⟨rfl, rfl⟩
end Go.Proofs.YtcdpadggjkobjaaGreatDoor
