/-
  layer 43: how numbers are written, plainly. Conditions: numbers of 32 bits.
-/
import Derived.Test.YtipfhamhiaeieaaDoorPkE2
import Derived.Test.YtipfhamhiaeieaaDoorPkLb
namespace Go.Proofs.YtipfhamhiaeieaaDoor
open Go.RowKit Go.Lib

/-- A number's bytes, the last one's high bit set. -/
def longK : Nat → Nat → List Nat
  | 0, _ => []
  | k + 1, n => if n < 128 then [n + 128] else (n % 128 + 128) :: longK k (n / 128)
theorem long_none : ∀ (k n i acc : Nat) (r : List Nat), readK k i acc (longK k n ++ 0 :: r) = none
  | 0, _, _, _, _ => rfl
  | k + 1, n, i, acc, r => by
    unfold longK
    split
    · rename_i h
      show readK (k + 1) i acc ((n + 128) :: (0 :: r)) = none
      rw [readK, if_pos (by omega)]
      cases k with
      | zero => rfl
      | succ k => rw [readK, if_neg (by omega), if_pos (.inl ⟨rfl, by omega⟩)]
    · show readK (k + 1) i acc ((n % 128 + 128) :: (longK k (n / 128) ++ 0 :: r)) = none
      rw [readK, if_pos (by omega)]
      exact long_none k (n / 128) (i + 1) _ r
theorem numK_last : ∀ (k n : Nat), n < 128 ^ (k + 1) → ∃ init last, numK (k + 1) n = init ++ [last] ∧ last < 128 ∧ longK (k + 1) n = init ++ [last + 128]
  | k, n, h => by
    by_cases hn : n < 128
    · refine ⟨[], n, ?_, hn, ?_⟩
      · unfold numK; rw [if_pos hn]; rfl
      · unfold longK; rw [if_pos hn]; rfl
    · cases k with
      | zero => rw [Nat.zero_add, Nat.pow_one] at h; omega
      | succ k =>
        have hp : n / 128 < 128 ^ (k + 1) := by rw [Nat.pow_succ] at h; omega
        obtain ⟨init, last, h1, h2, h3⟩ := numK_last k (n / 128) hp
        refine ⟨(n % 128 + 128) :: init, last, ?_, h2, ?_⟩
        · rw [numK, if_neg hn, h1]; rfl
        · rw [longK, if_neg hn, h3]; rfl
theorem num_last {n : Nat} (h : is32 n) : ∃ init last, numB n = init ++ [last] ∧ last < 128 ∧ ∀ r, readN (init ++ (last + 128) :: 0 :: r) = none := by
  obtain ⟨init, last, h1, h2, h3⟩ := numK_last 4 n (by unfold is32 at h; omega)
  refine ⟨init, last, h1, h2, fun r => ?_⟩
  have := long_none 5 n 0 0 r
  rw [h3, List.append_assoc] at this
  exact this
theorem wordR_one_none {b : List Nat} (h : readN b = none) (hb : 0 < b.length) : wordR (1 :: b) = none := by
  have h1 : countR (1 :: b) = some (1, b) := by
    have := countR_num (n := 1) (by unfold is32; decide) (r := b) hb
    exact this
  unfold wordR someR
  rw [thenR_some h1]
  unfold manyR sndR pairR
  rw [thenR_none (thenR_none h)]
theorem getW_long {n : Nat} (h : is32 n) : ∃ init last, numB n = init ++ [last] ∧ last < 128 ∧ getW (1 :: (init ++ [last + 128]) ++ [0, 0]) = ([], 0, 10) := by
  obtain ⟨init, last, h1, h2, h3⟩ := num_last h
  refine ⟨init, last, h1, h2, ?_⟩
  have e : 1 :: (init ++ [last + 128]) ++ [0, 0] = 1 :: (init ++ (last + 128) :: 0 :: [0]) := by simp
  rw [e]
  unfold getW
  rw [wordR_one_none (h3 [0]) (by simp)]
theorem wordB_one (n : Nat) : wordB [(n, 0)] = 1 :: numB n ++ [0] := by
  show numB 1 ++ ((numB n ++ numB 0) ++ []) = _
  rw [List.append_nil]
  rfl
theorem wordE_one (n : Nat) : wordE [(n, 0)] = if n < 16777216 then 0 else 14 := by
  unfold wordE
  rw [if_neg (by simp)]
  simp only [List.all_cons, List.all_nil, Bool.and_true, validS, Nat.and_zero, Nat.or_zero, true_and, decide_eq_true_eq]
theorem getW_one {n : Nat} (h : is32 n) : getW (1 :: numB n ++ [0]) = if n < 16777216 then ([(n, 0)], (numB n).length + 2, 0) else ([], 0, 14) := by
  have hb := back_word [(n, 0)] [] ⟨by unfold is32; exact (by decide : 1 < 4294967296), fun s hs => by simp only [List.mem_singleton] at hs; subst hs; exact ⟨h, by unfold is32; exact (by decide : 0 < 4294967296)⟩⟩
  rw [List.append_nil, wordB_one] at hb
  unfold getW
  rw [hb]
  simp only [wordE_one]
  by_cases h' : n < 16777216
  · simp [h']
  · simp [h']
set_option maxRecDepth 20000 in
theorem getW_big : ∀ c : Fin 112, getW [1, 255, 255, 255, 255, 16 + c.val, 0] = ([], 0, 10) := by decide +kernel
set_option maxRecDepth 20000 in
theorem getW_zero : getW [1, 255, 255, 255, 255, 143, 0, 0] = ([], 0, 10) := by decide
end Go.Proofs.YtipfhamhiaeieaaDoor
