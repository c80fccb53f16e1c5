/-
  Plain facts of layer 43, of no program: numbers as bytes. Conditions: numbers below 2^32.
-/
import Derived.WalkKit
namespace Go.Proofs.YtipfhamhiaeieaaDoor

/-- A number as bytes: groups of seven bits, the lowest first. -/
def numK : Nat → Nat → List Nat
  | 0, _ => []
  | k + 1, n => if n < 128 then [n] else (n % 128 + 128) :: numK k (n / 128)
def numB (n : Nat) : List Nat := numK 5 n
/-- A number read: at most k bytes more, i read so far. -/
def readK : Nat → Nat → Nat → List Nat → Option (Nat × List Nat)
  | 0, _, _, _ => none
  | _ + 1, _, _, [] => none
  | k + 1, i, acc, c :: l =>
    if 128 ≤ c then readK k (i + 1) (acc + 128 ^ i * (c % 128)) l
    else if (c = 0 ∧ 0 < i) ∨ 4294967296 ≤ acc + 128 ^ i * c then none else some (acc + 128 ^ i * c, l)
def readN (l : List Nat) : Option (Nat × List Nat) := readK 5 0 0 l
theorem numK_lt : ∀ (k n : Nat), ∀ c ∈ numK k n, c < 256
  | 0, _, _, h => by cases h
  | k + 1, n, c, h => by
    unfold numK at h
    split at h
    · rw [List.mem_singleton] at h; omega
    · rcases List.mem_cons.1 h with e | e
      · omega
      · exact numK_lt k _ c e
theorem numK_ne (k n : Nat) : numK (k + 1) n ≠ [] := by unfold numK; split <;> simp
theorem numB_step {k n : Nat} (h : ¬ n < 128) : numK (k + 1) n = (n % 128 + 128) :: numK k (n / 128) := by
  conv => lhs; unfold numK
  rw [if_neg h]
theorem numB_last {k n : Nat} (h : n < 128) : numK (k + 1) n = [n] := by
  conv => lhs; unfold numK
  rw [if_pos h]
/-- What is written is read. -/
theorem read_num (l : List Nat) : ∀ (k i acc n : Nat), (k = 0 → 0 < i) → n < 128 ^ k → (0 < i → 0 < n) → acc + 128 ^ i * n < 4294967296 → readK k i acc (numK k n ++ l) = some (acc + 128 ^ i * n, l) := by
  intro k
  induction k with
  | zero => intro i acc n hk hn hi ht; have := hi (hk rfl); rw [Nat.pow_zero] at hn; omega
  | succ k ih =>
    intro i acc n _ hn hi ht
    by_cases h : n < 128
    · rw [numB_last h]
      show (if 128 ≤ n then _ else if (n = 0 ∧ 0 < i) ∨ 4294967296 ≤ acc + 128 ^ i * n then none else some (acc + 128 ^ i * n, l)) = _
      rw [if_neg (by omega), if_neg]
      rintro (⟨h1, h2⟩ | h1)
      · have := hi h2; omega
      · omega
    · rw [numB_step h]
      show (if 128 ≤ n % 128 + 128 then readK k (i + 1) (acc + 128 ^ i * ((n % 128 + 128) % 128)) (numK k (n / 128) ++ l) else _) = _
      rw [if_pos (by omega)]
      have e1 : (n % 128 + 128) % 128 = n % 128 := by omega
      have e2 : acc + 128 ^ i * (n % 128) + 128 ^ (i + 1) * (n / 128) = acc + 128 ^ i * n := by
        have : 128 ^ i * n = 128 ^ i * (n % 128) + 128 ^ i * (128 * (n / 128)) := by rw [← Nat.mul_add]; congr 1; omega
        rw [this, Nat.pow_succ, Nat.mul_assoc]; omega
      rw [e1, ih (i + 1) _ (n / 128) (fun _ => by omega) (by rw [Nat.pow_succ] at hn; omega) (fun _ => by omega) (by rw [e2]; exact ht), e2]
theorem readN_num {n : Nat} (h : n < 4294967296) (l : List Nat) : readN (numB n ++ l) = some (n, l) := by
  have := read_num l 5 0 0 n (fun h => absurd h (by decide)) (Nat.lt_of_lt_of_le h (by decide)) (fun h => absurd h (Nat.lt_irrefl 0)) (by simpa using h)
  simpa [readN, numB] using this
/-- A proper beginning is no number. -/
theorem read_part : ∀ (k i acc n m : Nat), m < (numK k n).length → readK k i acc ((numK k n).take m) = none := by
  intro k
  induction k with
  | zero => intro i acc n m hm; exact absurd hm (Nat.not_lt_zero m)
  | succ k ih =>
    intro i acc n m hm
    cases m with
    | zero => rfl
    | succ m =>
      by_cases h : n < 128
      · rw [numB_last h] at hm; simp at hm
      · rw [numB_step h] at hm ⊢
        rw [List.take_succ_cons]
        show (if 128 ≤ n % 128 + 128 then readK k (i + 1) (acc + 128 ^ i * ((n % 128 + 128) % 128)) ((numK k (n / 128)).take m) else _) = none
        rw [if_pos (by omega)]
        exact ih _ _ _ _ (by simpa using hm)
theorem readN_part {n m : Nat} (h : m < (numB n).length) : readN ((numB n).take m) = none := read_part 5 0 0 n m h
/-- What is read has the bytes that were read. -/
theorem num_read : ∀ (k i acc : Nat) (b : List Nat) (t : Nat) (l : List Nat), (∀ c ∈ b, c < 256) → readK k i acc b = some (t, l) → ∃ n, t = acc + 128 ^ i * n ∧ b = numK k n ++ l ∧ n < 128 ^ k ∧ (0 < i → 0 < n) ∧ t < 4294967296 := by
  intro k
  induction k with
  | zero => intro i acc b t l _ h; cases h
  | succ k ih =>
    intro i acc b t l hb h
    cases b with
    | nil => cases h
    | cons c b =>
      have hc := hb c (List.mem_cons_self ..)
      replace h : (if 128 ≤ c then readK k (i + 1) (acc + 128 ^ i * (c % 128)) b else if (c = 0 ∧ 0 < i) ∨ 4294967296 ≤ acc + 128 ^ i * c then none else some (acc + 128 ^ i * c, b)) = some (t, l) := h
      by_cases h1 : 128 ≤ c
      · rw [if_pos h1] at h
        obtain ⟨n, h2, h3, h4, h5, h6⟩ := ih _ _ _ _ _ (fun x hx => hb x (List.mem_cons_of_mem _ hx)) h
        have hn := h5 (by omega)
        refine ⟨c % 128 + 128 * n, ?_, ?_, ?_, fun _ => by omega, h6⟩
        · rw [h2, Nat.mul_add, Nat.pow_succ, Nat.mul_assoc]; omega
        · rw [numB_step (by omega), show (c % 128 + 128 * n) % 128 + 128 = c by omega, show (c % 128 + 128 * n) / 128 = n by omega, h3]; rfl
        · rw [Nat.pow_succ]; omega
      · rw [if_neg h1] at h
        by_cases h2 : (c = 0 ∧ 0 < i) ∨ 4294967296 ≤ acc + 128 ^ i * c
        · rw [if_pos h2] at h; cases h
        · rw [if_neg h2] at h
          injection h with h
          obtain ⟨rfl, rfl⟩ := Prod.mk.inj h
          refine ⟨c, rfl, by rw [numB_last (by omega)]; rfl, ?_, fun hi => ?_, by omega⟩
          · have : 128 ^ 1 ≤ 128 ^ (k + 1) := Nat.pow_le_pow_right (by decide) (by omega)
            omega
          · rcases Nat.eq_zero_or_pos c with e | e
            · exact absurd (.inl ⟨e, hi⟩) h2
            · exact e
theorem readN_bytes {b l : List Nat} {n : Nat} (hb : ∀ c ∈ b, c < 256) (h : readN b = some (n, l)) : b = numB n ++ l ∧ n < 4294967296 := by
  obtain ⟨m, h1, h2, _, _, h5⟩ := num_read 5 0 0 b n l hb h
  have : n = m := by simpa using h1
  subst this
  exact ⟨h2, h5⟩
end Go.Proofs.YtipfhamhiaeieaaDoor
