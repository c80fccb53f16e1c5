/-
  Plain facts of layer 43, of no program: the checksum. Conditions: none.
-/
import Derived.WalkKit
namespace Go.Proofs.YtipfhamhiaeieaaDoor

def crcP : Nat := 3988292384
def crcBit (r : Nat) : Nat := if r % 2 = 1 then (r / 2) ^^^ crcP else r / 2
def crcBits : Nat → Nat → Nat
  | 0, r => r
  | k + 1, r => crcBits k (crcBit r)
def crcByte (r c : Nat) : Nat := crcBits 8 (r ^^^ c)
def crcAll (r : Nat) (b : List Nat) : Nat := b.foldl crcByte r
def ones : Nat := 4294967295
/-- The checksum of bytes. -/
def sumB (b : List Nat) : Nat := ones ^^^ crcAll ones b
theorem crcBit_lt {r : Nat} (h : r < 4294967296) : crcBit r < 4294967296 := by
  unfold crcBit crcP
  split
  · exact Nat.xor_lt_two_pow (n := 32) (by omega) (by decide)
  · omega
theorem crcBits_lt : ∀ (k : Nat) {r : Nat}, r < 4294967296 → crcBits k r < 4294967296
  | 0, _, h => h
  | k + 1, _, h => crcBits_lt k (crcBit_lt h)
theorem crcByte_lt {r c : Nat} (h : r < 4294967296) (hc : c < 256) : crcByte r c < 4294967296 := crcBits_lt 8 (Nat.xor_lt_two_pow (n := 32) h (by omega))
theorem crcAll_lt : ∀ (b : List Nat) {r : Nat}, r < 4294967296 → (∀ c ∈ b, c < 256) → crcAll r b < 4294967296
  | [], _, h, _ => h
  | c :: b, _, h, hb => crcAll_lt b (crcByte_lt h (hb c (List.mem_cons_self ..))) (fun x hx => hb x (List.mem_cons_of_mem _ hx))
theorem xor_par (a b : Nat) : (a ^^^ b) % 2 = (a % 2 + b % 2) % 2 := by
  have h := Nat.xor_mod_two_pow (a := a) (b := b) (n := 1)
  simp only [Nat.pow_one] at h
  rw [h]
  rcases Nat.mod_two_eq_zero_or_one a with e1 | e1 <;> rcases Nat.mod_two_eq_zero_or_one b with e2 | e2 <;> rw [e1, e2] <;> rfl
theorem xor_half (a b : Nat) : (a ^^^ b) / 2 = (a / 2) ^^^ (b / 2) := by
  have h := Nat.xor_div_two_pow (a := a) (b := b) (n := 1)
  simpa using h
def crcMask (r : Nat) : Nat := if r % 2 = 1 then crcP else 0
theorem crcBit_mask (r : Nat) : crcBit r = (r / 2) ^^^ crcMask r := by
  unfold crcBit crcMask
  split <;> simp
theorem crcMask_xor (a b : Nat) : crcMask (a ^^^ b) = crcMask a ^^^ crcMask b := by
  unfold crcMask
  rw [xor_par]
  rcases Nat.mod_two_eq_zero_or_one a with e1 | e1 <;> rcases Nat.mod_two_eq_zero_or_one b with e2 | e2 <;> rw [e1, e2] <;> simp
/-- Linear. -/
theorem crcBit_xor (a b : Nat) : crcBit (a ^^^ b) = crcBit a ^^^ crcBit b := by
  rw [crcBit_mask, crcBit_mask, crcBit_mask, xor_half, crcMask_xor]
  ac_rfl
theorem crcBits_xor : ∀ (k a b : Nat), crcBits k (a ^^^ b) = crcBits k a ^^^ crcBits k b
  | 0, _, _ => rfl
  | k + 1, a, b => by
    show crcBits k (crcBit (a ^^^ b)) = _
    rw [crcBit_xor, crcBits_xor k]; rfl
theorem crcBits_double : ∀ (k a : Nat), crcBits k (a * 2 ^ k) = a
  | 0, a => by show a * 1 = a; omega
  | k + 1, a => by
    show crcBits k (crcBit (a * 2 ^ (k + 1))) = a
    have h : crcBit (a * 2 ^ (k + 1)) = a * 2 ^ k := by
      have e : a * 2 ^ (k + 1) = a * 2 ^ k * 2 := by rw [Nat.pow_succ, Nat.mul_assoc]
      unfold crcBit
      rw [e, if_neg (by omega)]; omega
    rw [h, crcBits_double k]
/-- A byte's steps by the table. -/
theorem crc_table (x : Nat) : crcBits 8 x = crcBits 8 (x % 256) ^^^ (x / 256) := by
  have h : x = (x % 256) ^^^ (x / 256 * 2 ^ 8) := by
    have h1 : (x % 256) ^^^ (x / 256 * 2 ^ 8) = x / 256 * 2 ^ 8 + x % 256 := by
      rw [Nat.xor_comm]
      have := Nat.two_pow_add_eq_or_of_lt (i := 8) (b := x % 256) (by omega) (x / 256)
      rw [Nat.mul_comm, this]
      apply Nat.eq_of_testBit_eq
      intro i
      rw [Nat.testBit_xor, Nat.testBit_or]
      by_cases hi : i < 8
      · have : Nat.testBit (2 ^ 8 * (x / 256)) i = false := by rw [Nat.testBit_two_pow_mul, decide_eq_false (by omega)]; rfl
        rw [this]; simp
      · have : Nat.testBit (x % 256) i = false := Nat.testBit_lt_two_pow (Nat.lt_of_lt_of_le (by omega) (Nat.pow_le_pow_right (by decide) (show 8 ≤ i by omega)))
        rw [this]; simp
    omega
  conv => lhs; rw [h]
  rw [crcBits_xor, crcBits_double]
/-- One step tells where it came from. -/
theorem crcBit_inj {a b : Nat} (ha : a < 4294967296) (hb : b < 4294967296) (h : crcBit a = crcBit b) : a = b := by
  have key : ∀ x, x < 4294967296 → (crcBit x).testBit 31 = decide (x % 2 = 1) := by
    intro x hx
    unfold crcBit
    have h1 : (x / 2).testBit 31 = false := Nat.testBit_lt_two_pow (by omega)
    by_cases e : x % 2 = 1
    · rw [if_pos e, Nat.testBit_xor, h1, decide_eq_true e]; decide
    · rw [if_neg e, h1, decide_eq_false e]
  have k1 := key a ha
  have k2 := key b hb
  rw [h, k2] at k1
  rw [decide_eq_decide] at k1
  unfold crcBit at h
  by_cases e : a % 2 = 1
  · rw [if_pos e, if_pos (k1.2 e)] at h
    have := congrArg (· ^^^ crcP) h
    simp only [Nat.xor_assoc, Nat.xor_self, Nat.xor_zero] at this
    have := k1.2 e
    omega
  · rw [if_neg e, if_neg (fun x => e (k1.1 x))] at h
    have := fun x => e (k1.1 x)
    omega
theorem crcBits_inj : ∀ (k : Nat) {a b : Nat}, a < 4294967296 → b < 4294967296 → crcBits k a = crcBits k b → a = b
  | 0, _, _, _, _, h => h
  | k + 1, _, _, ha, hb, h => crcBit_inj ha hb (crcBits_inj k (crcBit_lt ha) (crcBit_lt hb) h)
theorem xor_left_inj {a b c : Nat} (h : a ^^^ b = a ^^^ c) : b = c := by
  have := congrArg (a ^^^ ·) h
  simpa only [← Nat.xor_assoc, Nat.xor_self, Nat.zero_xor] using this
theorem crcByte_inj_c {r c d : Nat} (hr : r < 4294967296) (hc : c < 256) (hd : d < 256) (h : crcByte r c = crcByte r d) : c = d :=
  xor_left_inj (crcBits_inj 8 (Nat.xor_lt_two_pow (n := 32) hr (by omega)) (Nat.xor_lt_two_pow (n := 32) hr (by omega)) h)
theorem crcByte_inj_r {r s c : Nat} (hr : r < 4294967296) (hs : s < 4294967296) (hc : c < 256) (h : crcByte r c = crcByte s c) : r = s := by
  have := crcBits_inj 8 (Nat.xor_lt_two_pow (n := 32) hr (by omega)) (Nat.xor_lt_two_pow (n := 32) hs (by omega)) h
  rw [Nat.xor_comm r c, Nat.xor_comm s c] at this
  exact xor_left_inj this
theorem crcAll_inj : ∀ (b : List Nat) {r s : Nat}, r < 4294967296 → s < 4294967296 → (∀ c ∈ b, c < 256) → crcAll r b = crcAll s b → r = s
  | [], _, _, _, _, _, h => h
  | c :: b, r, s, hr, hs, hb, h => by
    have hc := hb c (List.mem_cons_self ..)
    exact crcByte_inj_r hr hs hc (crcAll_inj b (crcByte_lt hr hc) (crcByte_lt hs hc) (fun x hx => hb x (List.mem_cons_of_mem _ hx)) h)
/-- One other byte: another sum. -/
theorem sum_one (b d : List Nat) {x y : Nat} (hb : ∀ c ∈ b, c < 256) (hd : ∀ c ∈ d, c < 256) (hx : x < 256) (hy : y < 256) (hne : x ≠ y) : sumB (b ++ x :: d) ≠ sumB (b ++ y :: d) := by
  intro h
  unfold sumB at h
  have h1 := xor_left_inj h
  unfold crcAll at h1
  rw [List.foldl_append, List.foldl_append, List.foldl_cons, List.foldl_cons] at h1
  have hr : crcAll ones b < 4294967296 := crcAll_lt b (by decide) hb
  exact hne (crcByte_inj_c hr hx hy (crcAll_inj d (crcByte_lt hr hx) (crcByte_lt hr hy) hd h1))
/-- The four bytes of a number. -/
def fourB (n : Nat) : List Nat := [n % 256, n / 256 % 256, n / 65536 % 256, n / 16777216 % 256]
theorem xor_div256 (a b : Nat) : (a ^^^ b) / 256 = (a / 256) ^^^ (b / 256) := by
  have h := Nat.xor_div_two_pow (a := a) (b := b) (n := 8)
  simpa using h
theorem xor_mod256 (a b : Nat) : (a ^^^ b) % 256 = (a % 256) ^^^ (b % 256) := by
  have h := Nat.xor_mod_two_pow (a := a) (b := b) (n := 8)
  simpa using h
/-- What one byte of the sum itself does. -/
theorem crc_own {k r : Nat} : crcByte (k ^^^ r) ((r % 256) ^^^ 255) = crcBits 8 ((k % 256) ^^^ 255) ^^^ (k / 256) ^^^ (r / 256) := by
  unfold crcByte
  rw [crc_table]
  have h1 : ((k ^^^ r) ^^^ ((r % 256) ^^^ 255)) % 256 = (k % 256) ^^^ 255 := by
    rw [xor_mod256, xor_mod256, xor_mod256, Nat.mod_mod, show 255 % 256 = 255 from rfl]
    have : (k % 256 ^^^ r % 256) ^^^ (r % 256 ^^^ 255) = (k % 256) ^^^ ((r % 256 ^^^ r % 256) ^^^ 255) := by ac_rfl
    rw [this, Nat.xor_self, Nat.zero_xor]
  have h2 : ((k ^^^ r) ^^^ ((r % 256) ^^^ 255)) / 256 = (k / 256) ^^^ (r / 256) := by
    rw [xor_div256, xor_div256, xor_div256, show r % 256 / 256 = 0 by omega, show 255 / 256 = 0 from rfl]
    simp
  rw [h1, h2, Nat.xor_assoc]
theorem ones_byte (r : Nat) : (ones ^^^ r) % 256 = (r % 256) ^^^ 255 := by
  rw [xor_mod256, Nat.xor_comm]; rfl
/-- The sum of bytes and their sum. -/
theorem sum_own (b : List Nat) (hb : ∀ c ∈ b, c < 256) : sumB (b ++ fourB (sumB b)) = 558161692 := by
  obtain ⟨r, hr⟩ : ∃ r, crcAll ones b = r := ⟨_, rfl⟩
  have hlt : r < 4294967296 := hr ▸ crcAll_lt b (by decide) hb
  have hs : sumB b = ones ^^^ r := by unfold sumB; rw [hr]
  have f0 : (ones ^^^ r) % 256 = (r % 256) ^^^ 255 := ones_byte r
  have f1 : (ones ^^^ r) / 256 % 256 = (r / 256 % 256) ^^^ 255 := by rw [xor_div256, xor_mod256, Nat.xor_comm]; rfl
  have f2 : (ones ^^^ r) / 65536 % 256 = (r / 65536 % 256) ^^^ 255 := by
    rw [show 65536 = 256 * 256 from rfl, ← Nat.div_div_eq_div_mul, ← Nat.div_div_eq_div_mul, xor_div256, xor_div256, xor_mod256, Nat.xor_comm]; rfl
  have f3 : (ones ^^^ r) / 16777216 % 256 = (r / 16777216 % 256) ^^^ 255 := by
    rw [show 16777216 = 256 * 256 * 256 from rfl, ← Nat.div_div_eq_div_mul, ← Nat.div_div_eq_div_mul, ← Nat.div_div_eq_div_mul, ← Nat.div_div_eq_div_mul, xor_div256, xor_div256, xor_div256, xor_mod256, Nat.xor_comm]; rfl
  have g1 := crc_own (k := 0) (r := r)
  rw [Nat.zero_xor] at g1
  unfold sumB crcAll at hs ⊢
  rw [List.foldl_append, hs]
  unfold crcAll at hr
  rw [hr]
  unfold fourB
  rw [f0, f1, f2, f3]
  simp only [List.foldl_cons, List.foldl_nil]
  have e2 : r / 65536 = r / 256 / 256 := by omega
  have e3 : r / 16777216 = r / 256 / 256 / 256 := by omega
  rw [e2, e3, g1, crc_own, crc_own, crc_own]
  have e4 : r / 256 / 256 / 256 / 256 = 0 := by omega
  rw [e4, Nat.xor_zero]
  decide
end Go.Proofs.YtipfhamhiaeieaaDoor
