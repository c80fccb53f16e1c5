/-
  The plain sort's ways, one equation each. Conditions: none. Of no program.
-/
import Derived.Sort.LotA
import Derived.Sort.LotC
import Derived.Sort.AssemblyPlain
import Derived.Sort.Walk13a
namespace Go.Proofs.YtgkpoopiamicnaaDoor
section
variable {α : Type} [Inhabited α]
theorem sUp_go (p : α → Bool) (d : Array α) (j i : Nat) (h : i ≤ j) (hp : p d[i]! = true) : Sort.scanUp p d j i = Sort.scanUp p d j (i + 1) := by
  rw [Sort.scanUp, if_pos (by simp [h, hp])]
theorem sUp_end (p : α → Bool) (d : Array α) (j i : Nat) (h : ¬ i ≤ j ∨ p d[i]! = false) : Sort.scanUp p d j i = i := by
  rw [Sort.scanUp, if_neg (by rcases h with h | h <;> simp [h])]
theorem sDn_go (p : α → Bool) (d : Array α) (i j : Nat) (h : i ≤ j) (h0 : 0 < j) (hp : p d[j]! = true) : Sort.scanDown p d i j = Sort.scanDown p d i (j - 1) := by
  obtain ⟨k, rfl⟩ : ∃ k, j = k + 1 := ⟨j - 1, by omega⟩
  rw [Sort.scanDown, if_pos (by simp [h, hp])]
  rfl
theorem sDn_end (p : α → Bool) (d : Array α) (i j : Nat) (h : ¬ i ≤ j ∨ p d[j]! = false) : Sort.scanDown p d i j = j := by
  cases j with
  | zero => rfl
  | succ k => rw [Sort.scanDown, if_neg (by rcases h with h | h <;> simp [h])]
variable (lt : α → α → Bool)
theorem pe_break (a i j : Nat) (dk : Array α) {i2 j2 : Nat} (hi2 : i2 = Sort.scanUp (fun x => !lt dk[a]! x) dk j i) (hj2 : j2 = Sort.scanDown (fun x => lt dk[a]! x) dk i2 j) (h : j2 < i2) : Sort.partEqLoop lt a i j dk = (i2, dk) := by
  subst hi2; subst hj2
  rw [Sort.partEqLoop_eq, if_pos h]
theorem pe_go (a i j : Nat) (dk : Array α) {i2 j2 : Nat} (hi2 : i2 = Sort.scanUp (fun x => !lt dk[a]! x) dk j i) (hj2 : j2 = Sort.scanDown (fun x => lt dk[a]! x) dk i2 j) (h : ¬ i2 > j2) : Sort.partEqLoop lt a i j dk = Sort.partEqLoop lt a (i2 + 1) (j2 - 1) (Sort.swp dk i2 j2) := by
  subst hi2; subst hj2
  rw [Sort.partEqLoop_eq, if_neg h]
theorem scans_ne (p q : α → Bool) (hpq : ∀ x, p x = false → q x = false → False) (i j : Nat) (dk : Array α) (h0 : 0 < i) {i2 j2 : Nat} (hi2 : i2 = Sort.scanUp p dk j i) (hj2 : j2 = Sort.scanDown q dk i2 j) (h : i2 ≤ j2) : i2 < j2 := by
  subst hi2; subst hj2
  obtain ⟨u1, _, _, u4⟩ := Sort.scanUp_spec p dk j _ i rfl
  obtain ⟨v1, _, _, v4⟩ := Sort.scanDown_spec q dk (Sort.scanUp p dk j i) j
  rcases Nat.lt_or_ge (Sort.scanUp p dk j i) (Sort.scanDown q dk (Sort.scanUp p dk j i) j) with h' | h'
  · exact h'
  · have e : Sort.scanDown q dk (Sort.scanUp p dk j i) j = Sort.scanUp p dk j i := by omega
    have f1 := u4 (by omega)
    have f2 := v4 h (by omega)
    rw [e] at f2
    exact (hpq _ f1 f2).elim
theorem pe_scans (a i j : Nat) (dk : Array α) (h0 : 0 < i) {i2 j2 : Nat} (hi2 : i2 = Sort.scanUp (fun x => !lt dk[a]! x) dk j i) (hj2 : j2 = Sort.scanDown (fun x => lt dk[a]! x) dk i2 j) (h : i2 ≤ j2) : i2 < j2 :=
  scans_ne _ _ (fun x h1 h2 => by simp only [h2] at h1; cases h1) i j dk h0 hi2 hj2 h
theorem pt_break (a i j : Nat) (dk : Array α) {i2 j2 : Nat} (hi2 : i2 = Sort.scanUp (fun x => lt x dk[a]!) dk j i) (hj2 : j2 = Sort.scanDown (fun x => !lt x dk[a]!) dk i2 j) (h : j2 < i2) : Sort.partLoop lt a i j dk = (j2, dk) := by
  subst hi2; subst hj2
  rw [Sort.partLoop_eq, if_pos h]
theorem pt_go (a i j : Nat) (dk : Array α) {i2 j2 : Nat} (hi2 : i2 = Sort.scanUp (fun x => lt x dk[a]!) dk j i) (hj2 : j2 = Sort.scanDown (fun x => !lt x dk[a]!) dk i2 j) (h : ¬ i2 > j2) : Sort.partLoop lt a i j dk = Sort.partLoop lt a (i2 + 1) (j2 - 1) (Sort.swp dk i2 j2) := by
  subst hi2; subst hj2
  rw [Sort.partLoop_eq, if_neg h]
theorem pt_scans (a i j : Nat) (dk : Array α) (h0 : 0 < i) {i2 j2 : Nat} (hi2 : i2 = Sort.scanUp (fun x => lt x dk[a]!) dk j i) (hj2 : j2 = Sort.scanDown (fun x => !lt x dk[a]!) dk i2 j) (h : i2 ≤ j2) : i2 < j2 :=
  scans_ne _ _ (fun x h1 h2 => by simp only [h1] at h2; cases h2) i j dk h0 hi2 hj2 h
theorem pt_first_break (d : Array α) (a b pivot : Nat) {i j : Nat} {dk : Array α} {i2 j2 : Nat} (hi : i = a + 1) (hj : j = b - 1) (hdk : dk = Sort.swp d a pivot) (hi2 : i2 = Sort.scanUp (fun x => lt x dk[a]!) dk j i) (hj2 : j2 = Sort.scanDown (fun x => !lt x dk[a]!) dk i2 j) (h : j2 < i2) :
    Sort.partition lt d a b pivot = (j2, true, Sort.swp dk j2 a) := by
  subst hi; subst hj; subst hdk; subst hi2; subst hj2
  unfold Sort.partition
  simp only []
  rw [if_pos h]
theorem pt_first_go (d : Array α) (a b pivot : Nat) {i j : Nat} {dk : Array α} {i2 j2 : Nat} (hi : i = a + 1) (hj : j = b - 1) (hdk : dk = Sort.swp d a pivot) (hi2 : i2 = Sort.scanUp (fun x => lt x dk[a]!) dk j i) (hj2 : j2 = Sort.scanDown (fun x => !lt x dk[a]!) dk i2 j) (h : ¬ i2 > j2) :
    Sort.partition lt d a b pivot = ((Sort.partLoop lt a (i2 + 1) (j2 - 1) (Sort.swp dk i2 j2)).1, false, Sort.swp (Sort.partLoop lt a (i2 + 1) (j2 - 1) (Sort.swp dk i2 j2)).2 (Sort.partLoop lt a (i2 + 1) (j2 - 1) (Sort.swp dk i2 j2)).1 a) := by
  subst hi; subst hj; subst hdk; subst hi2; subst hj2
  unfold Sort.partition
  simp only []
  rw [if_neg h]
theorem sS_go (d : Array α) (b i : Nat) (h : i < b) (hl : lt d[i]! d[i - 1]! = false) : Sort.scanSorted lt d b i = Sort.scanSorted lt d b (i + 1) := by
  rw [Sort.scanSorted]; simp [h, hl]
theorem sS_stop (d : Array α) (b i : Nat) (h : ¬ i < b ∨ lt d[i]! d[i - 1]! = true) : Sort.scanSorted lt d b i = i := by
  rw [Sort.scanSorted]
  rcases h with h | h
  · simp [h]
  · simp [h]
theorem sD_go (j : Nat) (d : Array α) (hj : 1 ≤ j) (hl : lt d[j]! d[j - 1]! = true) : Sort.shiftDown lt j d = Sort.shiftDown lt (j - 1) (Sort.swp d j (j - 1)) := by
  obtain ⟨k, rfl⟩ : ∃ k, j = k + 1 := ⟨j - 1, by omega⟩
  rw [Sort.shiftDown]
  simp only [Nat.add_sub_cancel] at hl ⊢
  simp [hl]
theorem sD_stop (j : Nat) (d : Array α) (h : j = 0 ∨ lt d[j]! d[j - 1]! = false) : Sort.shiftDown lt j d = d := by
  cases j with
  | zero => rw [Sort.shiftDown]
  | succ k =>
    rw [Sort.shiftDown]
    simp only [Nat.add_sub_cancel] at h
    rcases h with h | h
    · omega
    · simp [h]
theorem sU_go (b j : Nat) (d : Array α) (hj : j < b) (hl : lt d[j]! d[j - 1]! = true) : Sort.shiftUp lt b j d = Sort.shiftUp lt b (j + 1) (Sort.swp d j (j - 1)) := by
  rw [Sort.shiftUp]; simp [hj, hl]
theorem sU_stop (b j : Nat) (d : Array α) (h : ¬ j < b ∨ lt d[j]! d[j - 1]! = false) : Sort.shiftUp lt b j d = d := by
  rw [Sort.shiftUp]
  rcases h with h | h
  · simp [h]
  · by_cases hj : j < b <;> simp [hj, h]
theorem pn_true (a b s i : Nat) (d : Array α) (hs : s < 5) (hK : Sort.scanSorted lt d b i = b) : Sort.partialIns lt a b (5 - s) i d = (d, true) := by
  rw [show 5 - s = (4 - s) + 1 by omega, Sort.partialIns_succ, if_pos hK]
theorem pn_short (a b s i : Nat) (d : Array α) (hs : s < 5) (hK : Sort.scanSorted lt d b i ≠ b) (h50 : b - a < 50) : Sort.partialIns lt a b (5 - s) i d = (d, false) := by
  rw [show 5 - s = (4 - s) + 1 by omega, Sort.partialIns_succ, if_neg hK, if_pos h50]
theorem pn_go (a b s i k : Nat) (d : Array α) (hs : s < 5) (hK : Sort.scanSorted lt d b i = k) (hkb : k ≠ b) (h50 : ¬ b - a < 50) :
    Sort.partialIns lt a b (5 - s) i d = Sort.partialIns lt a b (5 - (s + 1)) k (Sort.fixUp lt b k (Sort.fixDown lt a k (Sort.swp d k (k - 1)))) := by
  rw [show 5 - s = (4 - s) + 1 by omega, Sort.partialIns_succ, hK, if_neg hkb, if_neg h50, show 5 - (s + 1) = 4 - s by omega]
theorem pn_end (a b i : Nat) (d : Array α) : Sort.partialIns lt a b (5 - 5) i d = (d, false) := rfl
end
theorem eighthN {x y p q : Nat} (h1 : q ≤ p) (h2 : y ≤ x) : decide (((x : Int) - (y : Int)) / 8 ≤ (p : Int) - (q : Int)) = decide (p - q ≥ (x - y) / 8) :=
  decide_eq_decide.2 ⟨fun h => by omega, fun h => by omega⟩
end Go.Proofs.YtgkpoopiamicnaaDoor
