/-
  Lists of rows of k cells each: plain facts. Conditions: none. Of no program.
-/
import Derived.Test.YtipfhamhiaeieaaDoorZcaa
import Derived.WalkKit
import Derived.StillTailTactics
import Derived.Test.YtipfhamhiaeieaaDoorProg
import Derived.Laws.BitsAllLaws
namespace Go.Proofs.YtipfhamhiaeieaaDoor
open Go.RowKit

section
variable {α : Type} [Inhabited α]
omit [Inhabited α] in
theorem flatMap_len (f : α → List Value) (k : Nat) (hk : ∀ x, (f x).length = k) (l : List α) : (l.flatMap f).length = l.length * k := by
  induction l with
  | nil => simp
  | cons x l ih => rw [List.flatMap_cons, List.length_append, hk, ih, List.length_cons, Nat.add_mul, Nat.one_mul, Nat.add_comm]
theorem flatMap_get (f : α → List Value) (k : Nat) (hk : ∀ x, (f x).length = k) (l : List α) : ∀ t, t < l.length * k → (l.flatMap f)[t]? = some ((f l[t / k]!)[t % k]!) := by
  induction l with
  | nil => intro t h; simp at h
  | cons x l ih =>
    intro t h
    rw [List.length_cons, Nat.add_mul, Nat.one_mul] at h
    have k0 : 0 < k := by
      rcases Nat.eq_zero_or_pos k with e | e
      · subst e; simp at h
      · exact e
    rw [List.flatMap_cons]
    rcases Nat.lt_or_ge t k with ht | ht
    · rw [List.getElem?_append_left (by rw [hk]; exact ht), Nat.div_eq_of_lt ht, Nat.mod_eq_of_lt ht]
      simp [getElem!_pos, hk, ht]
    · rw [List.getElem?_append_right (by rw [hk]; exact ht), hk, ih (t - k) (by omega)]
      have e1 : t / k = (t - k) / k + 1 := by
        conv => lhs; rw [show t = (t - k) + k by omega]
        rw [Nat.add_div_right _ k0]
      have e2 : t % k = (t - k) % k := by
        conv => lhs; rw [show t = (t - k) + k by omega]
        rw [Nat.add_mod_right]
      rw [e1, e2]
      simp
end
end Go.Proofs.YtipfhamhiaeieaaDoor
namespace Go.Proofs.YtipfhamhiaeieaaDoor

/-- A number as bytes: groups of seven bits, the lowest first. -/
def numK : Nat → Nat → List Nat
  | 0, _ => []
  | k + 1, n => if n < 128 then [n] else (n % 128 + 128) :: numK k (n / 128)
def numB (n : Nat) : List Nat := numK 5 n
/-- A number read: at most k bytes more, i read so far. -/
def readK : Nat → Nat → Nat → List Nat → Option (Nat × List Nat)
  | 0, _, _, _ => none
  | _ + 1, _, _, [] => none
  | k + 1, i, acc, c :: l =>
    if 128 ≤ c then readK k (i + 1) (acc + 128 ^ i * (c % 128)) l
    else if (c = 0 ∧ 0 < i) ∨ 4294967296 ≤ acc + 128 ^ i * c then none else some (acc + 128 ^ i * c, l)
def readN (l : List Nat) : Option (Nat × List Nat) := readK 5 0 0 l
theorem numK_lt : ∀ (k n : Nat), ∀ c ∈ numK k n, c < 256
  | 0, _, _, h => by cases h
  | k + 1, n, c, h => by
    unfold numK at h
    split at h
    · rw [List.mem_singleton] at h; omega
    · rcases List.mem_cons.1 h with e | e
      · omega
      · exact numK_lt k _ c e
theorem numK_ne (k n : Nat) : numK (k + 1) n ≠ [] := by unfold numK; split <;> simp
theorem numB_step {k n : Nat} (h : ¬ n < 128) : numK (k + 1) n = (n % 128 + 128) :: numK k (n / 128) := by
  conv => lhs; unfold numK
  rw [if_neg h]
theorem numB_last {k n : Nat} (h : n < 128) : numK (k + 1) n = [n] := by
  conv => lhs; unfold numK
  rw [if_pos h]
/-- What is written is read. -/
theorem read_num (l : List Nat) : ∀ (k i acc n : Nat), (k = 0 → 0 < i) → n < 128 ^ k → (0 < i → 0 < n) → acc + 128 ^ i * n < 4294967296 → readK k i acc (numK k n ++ l) = some (acc + 128 ^ i * n, l) := by
  intro k
  induction k with
  | zero => intro i acc n hk hn hi ht; have := hi (hk rfl); rw [Nat.pow_zero] at hn; omega
  | succ k ih =>
    intro i acc n _ hn hi ht
    by_cases h : n < 128
    · rw [numB_last h]
      show (if 128 ≤ n then _ else if (n = 0 ∧ 0 < i) ∨ 4294967296 ≤ acc + 128 ^ i * n then none else some (acc + 128 ^ i * n, l)) = _
      rw [if_neg (by omega), if_neg]
      rintro (⟨h1, h2⟩ | h1)
      · have := hi h2; omega
      · omega
    · rw [numB_step h]
      show (if 128 ≤ n % 128 + 128 then readK k (i + 1) (acc + 128 ^ i * ((n % 128 + 128) % 128)) (numK k (n / 128) ++ l) else _) = _
      rw [if_pos (by omega)]
      have e1 : (n % 128 + 128) % 128 = n % 128 := by omega
      have e2 : acc + 128 ^ i * (n % 128) + 128 ^ (i + 1) * (n / 128) = acc + 128 ^ i * n := by
        have : 128 ^ i * n = 128 ^ i * (n % 128) + 128 ^ i * (128 * (n / 128)) := by rw [← Nat.mul_add]; congr 1; omega
        rw [this, Nat.pow_succ, Nat.mul_assoc]; omega
      rw [e1, ih (i + 1) _ (n / 128) (fun _ => by omega) (by rw [Nat.pow_succ] at hn; omega) (fun _ => by omega) (by rw [e2]; exact ht), e2]
theorem readN_num {n : Nat} (h : n < 4294967296) (l : List Nat) : readN (numB n ++ l) = some (n, l) := by
  have := read_num l 5 0 0 n (fun h => absurd h (by decide)) (Nat.lt_of_lt_of_le h (by decide)) (fun h => absurd h (Nat.lt_irrefl 0)) (by simpa using h)
  simpa [readN, numB] using this
/-- A proper beginning is no number. -/
theorem read_part : ∀ (k i acc n m : Nat), m < (numK k n).length → readK k i acc ((numK k n).take m) = none := by
  intro k
  induction k with
  | zero => intro i acc n m hm; exact absurd hm (Nat.not_lt_zero m)
  | succ k ih =>
    intro i acc n m hm
    cases m with
    | zero => rfl
    | succ m =>
      by_cases h : n < 128
      · rw [numB_last h] at hm; simp at hm
      · rw [numB_step h] at hm ⊢
        rw [List.take_succ_cons]
        show (if 128 ≤ n % 128 + 128 then readK k (i + 1) (acc + 128 ^ i * ((n % 128 + 128) % 128)) ((numK k (n / 128)).take m) else _) = none
        rw [if_pos (by omega)]
        exact ih _ _ _ _ (by simpa using hm)
theorem readN_part {n m : Nat} (h : m < (numB n).length) : readN ((numB n).take m) = none := read_part 5 0 0 n m h
/-- What is read has the bytes that were read. -/
theorem num_read : ∀ (k i acc : Nat) (b : List Nat) (t : Nat) (l : List Nat), (∀ c ∈ b, c < 256) → readK k i acc b = some (t, l) → ∃ n, t = acc + 128 ^ i * n ∧ b = numK k n ++ l ∧ n < 128 ^ k ∧ (0 < i → 0 < n) ∧ t < 4294967296 := by
  intro k
  induction k with
  | zero => intro i acc b t l _ h; cases h
  | succ k ih =>
    intro i acc b t l hb h
    cases b with
    | nil => cases h
    | cons c b =>
      have hc := hb c (List.mem_cons_self ..)
      replace h : (if 128 ≤ c then readK k (i + 1) (acc + 128 ^ i * (c % 128)) b else if (c = 0 ∧ 0 < i) ∨ 4294967296 ≤ acc + 128 ^ i * c then none else some (acc + 128 ^ i * c, b)) = some (t, l) := h
      by_cases h1 : 128 ≤ c
      · rw [if_pos h1] at h
        obtain ⟨n, h2, h3, h4, h5, h6⟩ := ih _ _ _ _ _ (fun x hx => hb x (List.mem_cons_of_mem _ hx)) h
        have hn := h5 (by omega)
        refine ⟨c % 128 + 128 * n, ?_, ?_, ?_, fun _ => by omega, h6⟩
        · rw [h2, Nat.mul_add, Nat.pow_succ, Nat.mul_assoc]; omega
        · rw [numB_step (by omega), show (c % 128 + 128 * n) % 128 + 128 = c by omega, show (c % 128 + 128 * n) / 128 = n by omega, h3]; rfl
        · rw [Nat.pow_succ]; omega
      · rw [if_neg h1] at h
        by_cases h2 : (c = 0 ∧ 0 < i) ∨ 4294967296 ≤ acc + 128 ^ i * c
        · rw [if_pos h2] at h; cases h
        · rw [if_neg h2] at h
          injection h with h
          obtain ⟨rfl, rfl⟩ := Prod.mk.inj h
          refine ⟨c, rfl, by rw [numB_last (by omega)]; rfl, ?_, fun hi => ?_, by omega⟩
          · have : 128 ^ 1 ≤ 128 ^ (k + 1) := Nat.pow_le_pow_right (by decide) (by omega)
            omega
          · rcases Nat.eq_zero_or_pos c with e | e
            · exact absurd (.inl ⟨e, hi⟩) h2
            · exact e
theorem readN_bytes {b l : List Nat} {n : Nat} (hb : ∀ c ∈ b, c < 256) (h : readN b = some (n, l)) : b = numB n ++ l ∧ n < 4294967296 := by
  obtain ⟨m, h1, h2, _, _, h5⟩ := num_read 5 0 0 b n l hb h
  have : n = m := by simpa using h1
  subst this
  exact ⟨h2, h5⟩
end Go.Proofs.YtipfhamhiaeieaaDoor
namespace Go.Proofs.YtipfhamhiaeieaaDoor

abbrev Rdr (α : Type) := List Nat → Option (α × List Nat)
/-- What is written is read, whatever follows. -/
def Back {α : Type} (P : α → Prop) (put : α → List Nat) (get : Rdr α) : Prop := ∀ x r, P x → get (put x ++ r) = some (x, r)
/-- A proper beginning is nothing. -/
def Part {α : Type} (P : α → Prop) (put : α → List Nat) (get : Rdr α) : Prop := ∀ x m, P x → m < (put x).length → get ((put x).take m) = none
/-- What is read has the bytes that were read. -/
def Canon {α : Type} (P : α → Prop) (put : α → List Nat) (get : Rdr α) : Prop := ∀ b x r, (∀ c ∈ b, c < 256) → get b = some (x, r) → b = put x ++ r ∧ P x
def is32 (n : Nat) : Prop := n < 4294967296
theorem back_num : Back is32 numB readN := fun _ r h => readN_num h r
theorem part_num : Part is32 numB readN := fun _ _ _ h => readN_part h
theorem canon_num : Canon is32 numB readN := fun _ _ _ hb h => readN_bytes hb h
/-- One behind the other. -/
def thenR {α β : Type} (g : Rdr α) (h : α → Rdr β) : Rdr β := fun b => match g b with
  | some (x, r) => h x r
  | none => none
theorem thenR_some {α β : Type} {g : Rdr α} {f : α → Rdr β} {b r : List Nat} {x : α} (h : g b = some (x, r)) : thenR g f b = f x r := by unfold thenR; rw [h]
theorem thenR_none {α β : Type} {g : Rdr α} {f : α → Rdr β} {b : List Nat} (h : g b = none) : thenR g f b = none := by unfold thenR; rw [h]
theorem thenR_out {α β : Type} {g : Rdr α} {f : α → Rdr β} {b t : List Nat} {y : β} (h : thenR g f b = some (y, t)) : ∃ x r, g b = some (x, r) ∧ f x r = some (y, t) := by
  cases hg : g b with
  | none => rw [thenR_none hg] at h; cases h
  | some q => exact ⟨q.1, q.2, rfl, by rw [thenR_some hg] at h; exact h⟩
section
variable {α β : Type} {P : α → Prop} {Q : α → β → Prop} {put : α → List Nat} {get : Rdr α} {put2 : α → β → List Nat} {get2 : α → Rdr β}
def pairB (put : α → List Nat) (put2 : α → β → List Nat) (x : α × β) : List Nat := put x.1 ++ put2 x.1 x.2
def pairR (get : Rdr α) (get2 : α → Rdr β) : Rdr (α × β) := thenR get fun a => thenR (get2 a) fun b r => some ((a, b), r)
theorem back_pair (h1 : Back P put get) (h2 : ∀ a, P a → Back (Q a) (put2 a) (get2 a)) : Back (fun x : α × β => P x.1 ∧ Q x.1 x.2) (pairB put put2) (pairR get get2) := by
  rintro ⟨a, b⟩ r ⟨ha, hb⟩
  show pairR get get2 ((put a ++ put2 a b) ++ r) = _
  unfold pairR
  rw [List.append_assoc, thenR_some (h1 a _ ha), thenR_some (h2 a ha b r hb)]
theorem part_pair (h1 : Back P put get) (h1' : Part P put get) (h2 : ∀ a, P a → Part (Q a) (put2 a) (get2 a)) : Part (fun x : α × β => P x.1 ∧ Q x.1 x.2) (pairB put put2) (pairR get get2) := by
  rintro ⟨a, b⟩ m ⟨ha, hb⟩ hm
  show pairR get get2 ((put a ++ put2 a b).take m) = _
  unfold pairR
  rcases Nat.lt_or_ge m (put a).length with h | h
  · rw [List.take_append_of_le_length (by omega), thenR_none (h1' a m ha h)]
  · have hm' : m - (put a).length < (put2 a b).length := by
      have : m < (put a ++ put2 a b).length := hm
      rw [List.length_append] at this; omega
    rw [List.take_append, List.take_of_length_le h, thenR_some (h1 a _ ha), thenR_none (h2 a ha b _ hb hm')]
theorem canon_pair (h1 : Canon P put get) (h2 : ∀ a, P a → Canon (Q a) (put2 a) (get2 a)) : Canon (fun x : α × β => P x.1 ∧ Q x.1 x.2) (pairB put put2) (pairR get get2) := by
  rintro b ⟨x, y⟩ r hb h
  unfold pairR at h
  obtain ⟨a, s, h1e, h⟩ := thenR_out h
  obtain ⟨e1, pa⟩ := h1 b a s hb h1e
  obtain ⟨z, t, h2e, h⟩ := thenR_out h
  simp only [Option.some.injEq, Prod.mk.injEq] at h
  obtain ⟨⟨rfl, rfl⟩, rfl⟩ := h
  obtain ⟨e2, pb⟩ := h2 a pa s z t (fun c hc => hb c (by rw [e1]; simp [hc])) h2e
  exact ⟨by rw [e1, e2]; show _ = put a ++ put2 a z ++ t; rw [List.append_assoc], pa, pb⟩
end
/-! Lists. -/
section
variable {α : Type} {P : α → Prop} {put : α → List Nat} {get : Rdr α}
def manyR (get : Rdr α) : Nat → Rdr (List α)
  | 0 => fun b => some ([], b)
  | n + 1 => thenR get fun x => thenR (manyR get n) fun l r => some (x :: l, r)
/-- How many things follow: there are not more of them than bytes. -/
def countR : Rdr Nat := thenR readN fun n r => if n ≤ r.length then some (n, r) else none
def someR (get : Rdr α) : Rdr (List α) := thenR countR fun n => manyR get n
def allB (put : α → List Nat) (l : List α) : List Nat := numB l.length ++ l.flatMap put
theorem countR_num {n : Nat} (h : is32 n) {r : List Nat} (hr : n ≤ r.length) : countR (numB n ++ r) = some (n, r) := by
  unfold countR
  rw [thenR_some (readN_num h r), if_pos hr]
theorem many_back (h : Back P put get) : ∀ (l : List α) (r : List Nat), (∀ x ∈ l, P x) → manyR get l.length (l.flatMap put ++ r) = some (l, r)
  | [], r, _ => rfl
  | x :: l, r, hp => by
    show thenR get (fun x => thenR (manyR get l.length) fun l r => some (x :: l, r)) ((put x ++ l.flatMap put) ++ r) = _
    rw [List.append_assoc, thenR_some (h x _ (hp x (List.mem_cons_self ..))), thenR_some (many_back h l r (fun y hy => hp y (List.mem_cons_of_mem _ hy)))]
theorem flat_len (hne : ∀ x, P x → 0 < (put x).length) : ∀ (l : List α), (∀ x ∈ l, P x) → l.length ≤ (l.flatMap put).length
  | [], _ => Nat.le_refl _
  | x :: l, hp => by
    rw [List.flatMap_cons, List.length_append, List.length_cons]
    have := flat_len hne l (fun y hy => hp y (List.mem_cons_of_mem _ hy))
    have := hne x (hp x (List.mem_cons_self ..))
    omega
theorem back_all (h : Back P put get) (hne : ∀ x, P x → 0 < (put x).length) : Back (fun l : List α => is32 l.length ∧ ∀ x ∈ l, P x) (allB put) (someR get) := by
  rintro l r ⟨h1, h2⟩
  have := flat_len hne l h2
  show someR get ((numB l.length ++ l.flatMap put) ++ r) = _
  unfold someR
  rw [List.append_assoc, thenR_some (countR_num h1 (by rw [List.length_append]; omega))]
  exact many_back h l r h2
theorem many_part (h : Back P put get) (h' : Part P put get) : ∀ (l : List α) (m : Nat), (∀ x ∈ l, P x) → m < (l.flatMap put).length → manyR get l.length ((l.flatMap put).take m) = none
  | [], m, _, hm => absurd hm (Nat.not_lt_zero m)
  | x :: l, m, hp, hm => by
    have hx := hp x (List.mem_cons_self ..)
    show thenR get (fun x => thenR (manyR get l.length) fun l r => some (x :: l, r)) ((put x ++ l.flatMap put).take m) = _
    rcases Nat.lt_or_ge m (put x).length with e | e
    · rw [List.take_append_of_le_length (by omega), thenR_none (h' x m hx e)]
    · rw [List.flatMap_cons, List.length_append] at hm
      rw [List.take_append, List.take_of_length_le e, thenR_some (h x _ hx), thenR_none (many_part h h' l _ (fun y hy => hp y (List.mem_cons_of_mem _ hy)) (by omega))]
theorem part_all (h : Back P put get) (h' : Part P put get) : Part (fun l : List α => is32 l.length ∧ ∀ x ∈ l, P x) (allB put) (someR get) := by
  rintro l m ⟨h1, h2⟩ hm
  show someR get ((numB l.length ++ l.flatMap put).take m) = _
  have hm' : m < (numB l.length ++ l.flatMap put).length := hm
  rw [List.length_append] at hm'
  unfold someR
  rcases Nat.lt_or_ge m (numB l.length).length with e | e
  · rw [List.take_append_of_le_length (by omega)]
    exact thenR_none (by unfold countR; exact thenR_none (readN_part e))
  · rw [List.take_append, List.take_of_length_le e]
    by_cases hle : l.length ≤ ((l.flatMap put).take (m - (numB l.length).length)).length
    · rw [thenR_some (countR_num h1 hle)]
      exact many_part h h' l _ h2 (by omega)
    · exact thenR_none (by unfold countR; rw [thenR_some (readN_num h1 _), if_neg hle])
theorem many_canon (h : Canon P put get) : ∀ (n : Nat) (b : List Nat) (l : List α) (r : List Nat), (∀ c ∈ b, c < 256) → manyR get n b = some (l, r) → b = l.flatMap put ++ r ∧ l.length = n ∧ ∀ x ∈ l, P x
  | 0, b, l, r, _, e => by
    injection e with e
    obtain ⟨rfl, rfl⟩ := Prod.mk.inj e
    exact ⟨rfl, rfl, fun x hx => by cases hx⟩
  | n + 1, b, l, r, hb, e => by
    obtain ⟨x, s, h1, e⟩ := thenR_out (show thenR get (fun x => thenR (manyR get n) fun l r => some (x :: l, r)) b = some (l, r) from e)
    obtain ⟨e1, px⟩ := h b x s hb h1
    obtain ⟨l', t, h2, e⟩ := thenR_out e
    simp only [Option.some.injEq, Prod.mk.injEq] at e
    obtain ⟨rfl, rfl⟩ := e
    obtain ⟨e2, hl, hp⟩ := many_canon h n s l' t (fun c hc => hb c (by rw [e1]; simp [hc])) h2
    refine ⟨by rw [e1, e2, List.flatMap_cons, List.append_assoc], by rw [List.length_cons, hl], fun y hy => ?_⟩
    rcases List.mem_cons.1 hy with rfl | hy
    · exact px
    · exact hp y hy
theorem canon_all (h : Canon P put get) : Canon (fun l : List α => is32 l.length ∧ ∀ x ∈ l, P x) (allB put) (someR get) := by
  intro b l r hb e
  unfold someR at e
  obtain ⟨n, s, h1, e⟩ := thenR_out e
  unfold countR at h1
  obtain ⟨n', s', h2, h3⟩ := thenR_out h1
  obtain ⟨e1, hn⟩ := readN_bytes hb h2
  by_cases hle : n' ≤ s'.length
  · rw [if_pos hle] at h3
    injection h3 with h3
    obtain ⟨rfl, rfl⟩ := Prod.mk.inj h3
    obtain ⟨e2, hl, hp⟩ := many_canon h n' s' l r (fun c hc => hb c (by rw [e1]; simp [hc])) e
    subst hl
    exact ⟨by rw [e1, e2]; show _ = numB l.length ++ l.flatMap put ++ r; rw [List.append_assoc], hn, hp⟩
  · rw [if_neg hle] at h3; cases h3
end
/-! Sounds, words. -/
abbrev Snd := Nat × Nat
def sndB : Snd → List Nat := pairB numB fun _ => numB
def sndR : Rdr Snd := pairR readN fun _ => readN
def ok32 (s : Snd) : Prop := is32 s.1 ∧ is32 s.2
theorem back_snd : Back ok32 sndB sndR := back_pair back_num fun _ _ => back_num
theorem part_snd : Part ok32 sndB sndR := part_pair back_num part_num fun _ _ => part_num
theorem canon_snd : Canon ok32 sndB sndR := canon_pair canon_num fun _ _ => canon_num
theorem numB_pos (n : Nat) : 0 < (numB n).length := List.length_pos_iff.2 (numK_ne 4 n)
theorem snd_pos (s : Snd) (_ : ok32 s) : 0 < (sndB s).length := by
  show 0 < (numB s.1 ++ numB s.2).length
  rw [List.length_append]
  have := numB_pos s.1
  omega
def wordB : List Snd → List Nat := allB sndB
def wordR : Rdr (List Snd) := someR sndR
def okW (w : List Snd) : Prop := is32 w.length ∧ ∀ s ∈ w, ok32 s
theorem back_word : Back okW wordB wordR := back_all back_snd snd_pos
theorem part_word : Part okW wordB wordR := part_all back_snd part_snd
theorem canon_word : Canon okW wordB wordR := canon_all canon_snd
end Go.Proofs.YtipfhamhiaeieaaDoor
namespace Go.Proofs.YtipfhamhiaeieaaDoor
open Go.RowKit

theorem region_tail {P : Program} {id : Nat} {Q : Exit → Act → World → Prop} {a : Act} {w : World} {l : List Oper} (n : Nat) (hm : P.follows .mixedOrders = true) (hB : Region.lexTailB .any l.toArray n = true)
    (h : wpStill P l.toArray w.drew (fun a' => wpList P l.toArray Q (l.drop n) a' w.drew) (l.take n) a) : (Code.region id l.toArray true).wp P Q a w := wp_region_still_tail n hm hB h
theorem add_at (b j : Nat) : (⟨b, 0, none⟩ : Addr).add j = ⟨b, j, none⟩ := by unfold Addr.add; split <;> simp_all
/-- A block that was just made reads as what lies in it. -/
theorem reads_new (w : World) (t : TypeId) (cs : List Value) : Reads (w.alloc (.cells cs.toArray t)) (w.heap.size + 1) 1 (some ⟨w.heap.size, 0, none⟩) cs.length cs := by
  refine ⟨by simp, fun _ => ⟨_, rfl, by simp, fun j u hu => ?_⟩⟩
  rw [add_at, (Blk.new w t cs.toArray).cell j]
  simpa using hu
end Go.Proofs.YtipfhamhiaeieaaDoor
namespace Go.Proofs.YtipfhamhiaeieaaDoor
open Go.RowKit Go.Lib

abbrev bv (b : Nat) : Value := .int .u8 b
def CAP : Nat := 140737488351232
/-- The bytes behind a writer's pointer: a list of the call's own. -/
def Wr (w : World) (base g : Nat) (xs : List Nat) : Prop :=
  ∃ v, Blk w g 62 #[v] ∧ base ≤ g ∧ w.ownsRow base 5 1 v xs.length (xs.map bv)
def rowOf (w : World) (g : Nat) : Option Nat := (w.cell? ⟨g, 0, none⟩).bind Value.ownBlock
/-- What a writer's step leaves as it was: all but its variable and its list. -/
structure WStep (g : Nat) (w w' : World) : Prop where
  os : w'.os = w.os
  tape : w'.tape = w.tape
  output : w'.output = w.output
  size : w.heap.size ≤ w'.heap.size
  block : ∀ k, k < w.heap.size → k ≠ g → rowOf w g ≠ some k → w'.heap[k]? = w.heap[k]?
  row : rowOf w' g = rowOf w g ∨ ∃ k, rowOf w' g = some k ∧ w.heap.size ≤ k
theorem WStep.refl (g : Nat) (w : World) : WStep g w w := ⟨rfl, rfl, rfl, Nat.le_refl _, fun _ _ _ _ => rfl, .inl rfl⟩
theorem WStep.trans {g : Nat} {a b c : World} (h : WStep g a b) (k : WStep g b c) : WStep g a c := by
  refine ⟨k.os.trans h.os, k.tape.trans h.tape, k.output.trans h.output, Nat.le_trans h.size k.size, fun i hi hg hr => ?_, ?_⟩
  · refine (k.block i (Nat.lt_of_lt_of_le hi h.size) hg ?_).trans (h.block i hi hg hr)
    rcases h.row with e | ⟨j, e, hj⟩
    · rw [e]; exact hr
    · rw [e]; intro e'; injection e' with e'; omega
  · rcases k.row with e | ⟨j, e, hj⟩
    · rw [e]
      rcases h.row with e | ⟨j, e, hj⟩
      · exact .inl e
      · exact .inr ⟨j, e, hj⟩
    · exact .inr ⟨j, e, Nat.le_trans h.size hj⟩
theorem WStep.alloc {g : Nat} {a w : World} (h : WStep g a w) (hg : g < w.heap.size) (o : Obj) : WStep g a (w.alloc o) := by
  refine h.trans ⟨rfl, rfl, rfl, by simp, fun k hk _ _ => Below.heap_alloc _ _ _ hk, .inl ?_⟩
  unfold rowOf
  rw [World.cell?_alloc_lt w o ⟨g, 0, none⟩ hg]
theorem Wr.rowOf_ {w : World} {base g : Nat} {xs : List Nat} (h : Wr w base g xs) : ∀ k, rowOf w g = some k → base ≤ k ∧ k < w.heap.size := by
  obtain ⟨v, h1, h2, h3⟩ := h
  intro k hk
  unfold rowOf at hk
  rw [h1.cell 0] at hk
  exact h3.lt k (by simpa using hk)
theorem Wr.lt {w : World} {base g : Nat} {xs : List Nat} (h : Wr w base g xs) : g < w.heap.size := by
  obtain ⟨v, h1, _⟩ := h; exact h1.lt
theorem Wr.base_le {w : World} {base g : Nat} {xs : List Nat} (h : Wr w base g xs) : base ≤ g := by
  obtain ⟨v, _, h, _⟩ := h; exact h
theorem Wr.alloc {w : World} {base g : Nat} {xs : List Nat} (h : Wr w base g xs) (o : Obj) : Wr (w.alloc o) base g xs := by
  obtain ⟨v, h1, h2, h3⟩ := h
  exact ⟨v, h1.alloc o, h2, h3.alloc o⟩
theorem Wr.far {w : World} {base g k : Nat} {t : TypeId} {cs : Array Value} {xs : List Nat} (h : Wr w base g xs) (hk : Blk w k t cs) (h1 : t ≠ 5) (h2 : k ≠ g) (o : Nat) (u : Value) : Wr (w.setCell ⟨k, o, none⟩ u) base g xs := by
  obtain ⟨v, b1, b2, b3⟩ := h
  have hn := own_blk_ne b3 hk (Ne.symm h1)
  refine ⟨v, b1.far (Ne.symm h2) u, b2, b3.kept (row := some k) ⟨rfl, rfl, rfl, by simp [World.setCell], fun i hi hne => Below.heap_setCell _ _ _ _ (by simpa using hne)⟩ (.inr hn)⟩
/-- A step leaves what lies below the writer's own memory. -/
theorem WStep.below {w w' : World} {base g : Nat} {xs : List Nat} (h : WStep g w w') (hw : Wr w base g xs) : Below base w w' :=
  ⟨h.os, h.tape, h.output, h.size, fun k hk => by
    have := hw.base_le
    have := hw.lt
    exact h.block k (by omega) (by omega) (fun e => by have := hw.rowOf_ k e; omega)⟩
/-- A step leaves each block of another type. -/
theorem WStep.blk {w w' : World} {base g k : Nat} {t : TypeId} {cs : Array Value} {xs : List Nat} (h : WStep g w w') (hw : Wr w base g xs) (hk : Blk w k t cs) (h1 : t ≠ 5) (h2 : k ≠ g) : Blk w' k t cs := by
  refine (h.block k hk.lt h2 ?_).trans hk
  obtain ⟨v, b1, b2, b3⟩ := hw
  have hn := own_blk_ne b3 hk (Ne.symm h1)
  unfold rowOf
  rw [b1.cell 0]
  simpa using hn
/-- A step leaves what lies below it. -/
theorem WStep.reads {w w' : World} {base g B size n : Nat} {A : Option Addr} {ys : List Value} {xs : List Nat} (h : WStep g w w') (hw : Wr w base g xs) (hr : Reads w B size A n ys) (hB : B ≤ base) : Reads w' B size A n ys :=
  hr.below ((h.below hw).mono hB)
/-- Bytes behind the list. -/
theorem wr_append {w w1 w2 : World} {base g : Nat} {xs ys : List Nat} {v v' : Value} (h : Wr w base g xs) (hv : w.cell? ⟨g, 0, none⟩ = some v) (hs : WStep g w w1) (hr : rowOf w1 g = v.ownBlock) (h2 : w2.ownsRow base 5 1 v' (xs.length + ys.length) (xs.map bv ++ ys.map bv)) (h3 : w1.grownBy w2 v.ownBlock)
    (h4 : v'.ownBlock = v.ownBlock ∨ v'.ownBlock = some w1.heap.size) (h5 : w1.heap[g]? = w.heap[g]?) : Wr (w2.setCell ⟨g, 0, none⟩ v') base g (xs ++ ys) ∧ WStep g w (w2.setCell ⟨g, 0, none⟩ v') := by
  obtain ⟨u, b1, b2, b3⟩ := h
  have e : u = v := by
    have := b1.cell 0
    rw [hv] at this
    simpa using this.symm
  subst e
  have hgl := b1.lt
  have hne : u.ownBlock ≠ some g := own_blk_ne b3 b1 (by decide)
  have hB1 : Blk w1 g 62 #[u] := h5.trans b1
  have hB2 : Blk w2 g 62 #[u] := (h3.block g hB1.lt (fun e => hne e.symm)).trans hB1
  have hne' : v'.ownBlock ≠ some g := own_blk_ne h2 hB2 (by decide)
  have hset : Blk (w2.setCell ⟨g, 0, none⟩ v') g 62 #[v'] := by simpa using hB2.set_ 0 v'
  have hrow : rowOf (w2.setCell ⟨g, 0, none⟩ v') g = v'.ownBlock := by unfold rowOf; rw [hset.cell 0]; rfl
  have hrow0 : rowOf w g = u.ownBlock := by unfold rowOf; rw [hv]; rfl
  refine ⟨⟨v', hset, b2, ?_⟩, ?_⟩
  · rw [List.length_append, List.map_append]
    exact h2.kept (row := some g) ⟨rfl, rfl, rfl, by simp [World.setCell], fun i hi hne => Below.heap_setCell _ _ _ _ (by simpa using hne)⟩ (.inr hne')
  · refine hs.trans ⟨h3.os, h3.tape, h3.output, by have := h3.size; simpa [World.setCell] using this, fun k hk hg hr' => ?_, ?_⟩
    · rw [Below.heap_setCell _ _ _ _ hg]
      exact h3.block k hk (fun e => hr' (by rw [hr]; exact e.symm))
    · rw [hrow, hr]
      rcases h4 with h | h
      · exact .inl h
      · exact .inr ⟨_, h, Nat.le_refl _⟩
/-- One element behind the list: a slice of it is made first. -/
theorem wr_one {w w2 : World} {base g : Nat} {xs ys : List Nat} {v v' : Value} {o : Obj} (h : Wr w base g xs) (hv : w.cell? ⟨g, 0, none⟩ = some v) (h2 : w2.ownsRow base 5 1 v' (xs.length + ys.length) (xs.map bv ++ ys.map bv)) (h3 : (w.alloc o).grownBy w2 v.ownBlock)
    (h4 : v'.ownBlock = v.ownBlock ∨ v'.ownBlock = some (w.alloc o).heap.size) : Wr (w2.setCell ⟨g, 0, none⟩ v') base g (xs ++ ys) ∧ WStep g w (w2.setCell ⟨g, 0, none⟩ v') := by
  refine wr_append h hv ((WStep.refl g w).alloc h.lt o) ?_ h2 h3 h4 (Below.heap_alloc _ _ _ h.lt)
  unfold rowOf
  rw [World.cell?_alloc_lt w o ⟨g, 0, none⟩ h.lt, hv]; rfl
theorem low7 {n : Nat} : bits .or .u8 ((n : Int) % 256) 128 = ((n % 128 + 128 : Nat) : Int) := by
  have h := u8_or_nat (n % 256) 128 (by omega) (by decide)
  have e : (n % 256) ||| 128 = n % 128 + 128 := by
    have h2 : ∀ m : Fin 256, m.val ||| 128 = m.val % 128 + 128 := by decide +kernel
    rw [h2 ⟨n % 256, by omega⟩]; simp only []; omega
  rw [e] at h
  rw [← h]; congr 1
end Go.Proofs.YtipfhamhiaeieaaDoor
