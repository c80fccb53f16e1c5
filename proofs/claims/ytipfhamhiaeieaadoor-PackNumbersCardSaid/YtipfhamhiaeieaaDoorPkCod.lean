/-
  Plain facts of layer 43, of no program: writers and readers of bytes, put together. Conditions: numbers below 2^32.
-/
import Derived.Test.YtipfhamhiaeieaaDoorPkNum
namespace Go.Proofs.YtipfhamhiaeieaaDoor

abbrev Rdr (α : Type) := List Nat → Option (α × List Nat)
/-- What is written is read, whatever follows. -/
def Back {α : Type} (P : α → Prop) (put : α → List Nat) (get : Rdr α) : Prop := ∀ x r, P x → get (put x ++ r) = some (x, r)
/-- A proper beginning is nothing. -/
def Part {α : Type} (P : α → Prop) (put : α → List Nat) (get : Rdr α) : Prop := ∀ x m, P x → m < (put x).length → get ((put x).take m) = none
/-- What is read has the bytes that were read. -/
def Canon {α : Type} (P : α → Prop) (put : α → List Nat) (get : Rdr α) : Prop := ∀ b x r, (∀ c ∈ b, c < 256) → get b = some (x, r) → b = put x ++ r ∧ P x
def is32 (n : Nat) : Prop := n < 4294967296
theorem back_num : Back is32 numB readN := fun _ r h => readN_num h r
theorem part_num : Part is32 numB readN := fun _ _ _ h => readN_part h
theorem canon_num : Canon is32 numB readN := fun _ _ _ hb h => readN_bytes hb h
/-- One behind the other. -/
def thenR {α β : Type} (g : Rdr α) (h : α → Rdr β) : Rdr β := fun b => match g b with
  | some (x, r) => h x r
  | none => none
theorem thenR_some {α β : Type} {g : Rdr α} {f : α → Rdr β} {b r : List Nat} {x : α} (h : g b = some (x, r)) : thenR g f b = f x r := by unfold thenR; rw [h]
theorem thenR_none {α β : Type} {g : Rdr α} {f : α → Rdr β} {b : List Nat} (h : g b = none) : thenR g f b = none := by unfold thenR; rw [h]
theorem thenR_out {α β : Type} {g : Rdr α} {f : α → Rdr β} {b t : List Nat} {y : β} (h : thenR g f b = some (y, t)) : ∃ x r, g b = some (x, r) ∧ f x r = some (y, t) := by
  cases hg : g b with
  | none => rw [thenR_none hg] at h; cases h
  | some q => exact ⟨q.1, q.2, rfl, by rw [thenR_some hg] at h; exact h⟩
section
variable {α β : Type} {P : α → Prop} {Q : α → β → Prop} {put : α → List Nat} {get : Rdr α} {put2 : α → β → List Nat} {get2 : α → Rdr β}
def pairB (put : α → List Nat) (put2 : α → β → List Nat) (x : α × β) : List Nat := put x.1 ++ put2 x.1 x.2
def pairR (get : Rdr α) (get2 : α → Rdr β) : Rdr (α × β) := thenR get fun a => thenR (get2 a) fun b r => some ((a, b), r)
theorem back_pair (h1 : Back P put get) (h2 : ∀ a, P a → Back (Q a) (put2 a) (get2 a)) : Back (fun x : α × β => P x.1 ∧ Q x.1 x.2) (pairB put put2) (pairR get get2) := by
  rintro ⟨a, b⟩ r ⟨ha, hb⟩
  show pairR get get2 ((put a ++ put2 a b) ++ r) = _
  unfold pairR
  rw [List.append_assoc, thenR_some (h1 a _ ha), thenR_some (h2 a ha b r hb)]
theorem part_pair (h1 : Back P put get) (h1' : Part P put get) (h2 : ∀ a, P a → Part (Q a) (put2 a) (get2 a)) : Part (fun x : α × β => P x.1 ∧ Q x.1 x.2) (pairB put put2) (pairR get get2) := by
  rintro ⟨a, b⟩ m ⟨ha, hb⟩ hm
  show pairR get get2 ((put a ++ put2 a b).take m) = _
  unfold pairR
  rcases Nat.lt_or_ge m (put a).length with h | h
  · rw [List.take_append_of_le_length (by omega), thenR_none (h1' a m ha h)]
  · have hm' : m - (put a).length < (put2 a b).length := by
      have : m < (put a ++ put2 a b).length := hm
      rw [List.length_append] at this; omega
    rw [List.take_append, List.take_of_length_le h, thenR_some (h1 a _ ha), thenR_none (h2 a ha b _ hb hm')]
theorem canon_pair (h1 : Canon P put get) (h2 : ∀ a, P a → Canon (Q a) (put2 a) (get2 a)) : Canon (fun x : α × β => P x.1 ∧ Q x.1 x.2) (pairB put put2) (pairR get get2) := by
  rintro b ⟨x, y⟩ r hb h
  unfold pairR at h
  obtain ⟨a, s, h1e, h⟩ := thenR_out h
  obtain ⟨e1, pa⟩ := h1 b a s hb h1e
  obtain ⟨z, t, h2e, h⟩ := thenR_out h
  simp only [Option.some.injEq, Prod.mk.injEq] at h
  obtain ⟨⟨rfl, rfl⟩, rfl⟩ := h
  obtain ⟨e2, pb⟩ := h2 a pa s z t (fun c hc => hb c (by rw [e1]; simp [hc])) h2e
  exact ⟨by rw [e1, e2]; show _ = put a ++ put2 a z ++ t; rw [List.append_assoc], pa, pb⟩
end
/-! Lists. -/
section
variable {α : Type} {P : α → Prop} {put : α → List Nat} {get : Rdr α}
def manyR (get : Rdr α) : Nat → Rdr (List α)
  | 0 => fun b => some ([], b)
  | n + 1 => thenR get fun x => thenR (manyR get n) fun l r => some (x :: l, r)
/-- How many things follow: there are not more of them than bytes. -/
def countR : Rdr Nat := thenR readN fun n r => if n ≤ r.length then some (n, r) else none
def someR (get : Rdr α) : Rdr (List α) := thenR countR fun n => manyR get n
def allB (put : α → List Nat) (l : List α) : List Nat := numB l.length ++ l.flatMap put
theorem countR_num {n : Nat} (h : is32 n) {r : List Nat} (hr : n ≤ r.length) : countR (numB n ++ r) = some (n, r) := by
  unfold countR
  rw [thenR_some (readN_num h r), if_pos hr]
theorem many_back (h : Back P put get) : ∀ (l : List α) (r : List Nat), (∀ x ∈ l, P x) → manyR get l.length (l.flatMap put ++ r) = some (l, r)
  | [], r, _ => rfl
  | x :: l, r, hp => by
    show thenR get (fun x => thenR (manyR get l.length) fun l r => some (x :: l, r)) ((put x ++ l.flatMap put) ++ r) = _
    rw [List.append_assoc, thenR_some (h x _ (hp x (List.mem_cons_self ..))), thenR_some (many_back h l r (fun y hy => hp y (List.mem_cons_of_mem _ hy)))]
theorem flat_len (hne : ∀ x, P x → 0 < (put x).length) : ∀ (l : List α), (∀ x ∈ l, P x) → l.length ≤ (l.flatMap put).length
  | [], _ => Nat.le_refl _
  | x :: l, hp => by
    rw [List.flatMap_cons, List.length_append, List.length_cons]
    have := flat_len hne l (fun y hy => hp y (List.mem_cons_of_mem _ hy))
    have := hne x (hp x (List.mem_cons_self ..))
    omega
theorem back_all (h : Back P put get) (hne : ∀ x, P x → 0 < (put x).length) : Back (fun l : List α => is32 l.length ∧ ∀ x ∈ l, P x) (allB put) (someR get) := by
  rintro l r ⟨h1, h2⟩
  have := flat_len hne l h2
  show someR get ((numB l.length ++ l.flatMap put) ++ r) = _
  unfold someR
  rw [List.append_assoc, thenR_some (countR_num h1 (by rw [List.length_append]; omega))]
  exact many_back h l r h2
theorem many_part (h : Back P put get) (h' : Part P put get) : ∀ (l : List α) (m : Nat), (∀ x ∈ l, P x) → m < (l.flatMap put).length → manyR get l.length ((l.flatMap put).take m) = none
  | [], m, _, hm => absurd hm (Nat.not_lt_zero m)
  | x :: l, m, hp, hm => by
    have hx := hp x (List.mem_cons_self ..)
    show thenR get (fun x => thenR (manyR get l.length) fun l r => some (x :: l, r)) ((put x ++ l.flatMap put).take m) = _
    rcases Nat.lt_or_ge m (put x).length with e | e
    · rw [List.take_append_of_le_length (by omega), thenR_none (h' x m hx e)]
    · rw [List.flatMap_cons, List.length_append] at hm
      rw [List.take_append, List.take_of_length_le e, thenR_some (h x _ hx), thenR_none (many_part h h' l _ (fun y hy => hp y (List.mem_cons_of_mem _ hy)) (by omega))]
theorem part_all (h : Back P put get) (h' : Part P put get) : Part (fun l : List α => is32 l.length ∧ ∀ x ∈ l, P x) (allB put) (someR get) := by
  rintro l m ⟨h1, h2⟩ hm
  show someR get ((numB l.length ++ l.flatMap put).take m) = _
  have hm' : m < (numB l.length ++ l.flatMap put).length := hm
  rw [List.length_append] at hm'
  unfold someR
  rcases Nat.lt_or_ge m (numB l.length).length with e | e
  · rw [List.take_append_of_le_length (by omega)]
    exact thenR_none (by unfold countR; exact thenR_none (readN_part e))
  · rw [List.take_append, List.take_of_length_le e]
    by_cases hle : l.length ≤ ((l.flatMap put).take (m - (numB l.length).length)).length
    · rw [thenR_some (countR_num h1 hle)]
      exact many_part h h' l _ h2 (by omega)
    · exact thenR_none (by unfold countR; rw [thenR_some (readN_num h1 _), if_neg hle])
theorem many_canon (h : Canon P put get) : ∀ (n : Nat) (b : List Nat) (l : List α) (r : List Nat), (∀ c ∈ b, c < 256) → manyR get n b = some (l, r) → b = l.flatMap put ++ r ∧ l.length = n ∧ ∀ x ∈ l, P x
  | 0, b, l, r, _, e => by
    injection e with e
    obtain ⟨rfl, rfl⟩ := Prod.mk.inj e
    exact ⟨rfl, rfl, fun x hx => by cases hx⟩
  | n + 1, b, l, r, hb, e => by
    obtain ⟨x, s, h1, e⟩ := thenR_out (show thenR get (fun x => thenR (manyR get n) fun l r => some (x :: l, r)) b = some (l, r) from e)
    obtain ⟨e1, px⟩ := h b x s hb h1
    obtain ⟨l', t, h2, e⟩ := thenR_out e
    simp only [Option.some.injEq, Prod.mk.injEq] at e
    obtain ⟨rfl, rfl⟩ := e
    obtain ⟨e2, hl, hp⟩ := many_canon h n s l' t (fun c hc => hb c (by rw [e1]; simp [hc])) h2
    refine ⟨by rw [e1, e2, List.flatMap_cons, List.append_assoc], by rw [List.length_cons, hl], fun y hy => ?_⟩
    rcases List.mem_cons.1 hy with rfl | hy
    · exact px
    · exact hp y hy
theorem canon_all (h : Canon P put get) : Canon (fun l : List α => is32 l.length ∧ ∀ x ∈ l, P x) (allB put) (someR get) := by
  intro b l r hb e
  unfold someR at e
  obtain ⟨n, s, h1, e⟩ := thenR_out e
  unfold countR at h1
  obtain ⟨n', s', h2, h3⟩ := thenR_out h1
  obtain ⟨e1, hn⟩ := readN_bytes hb h2
  by_cases hle : n' ≤ s'.length
  · rw [if_pos hle] at h3
    injection h3 with h3
    obtain ⟨rfl, rfl⟩ := Prod.mk.inj h3
    obtain ⟨e2, hl, hp⟩ := many_canon h n' s' l r (fun c hc => hb c (by rw [e1]; simp [hc])) e
    subst hl
    exact ⟨by rw [e1, e2]; show _ = numB l.length ++ l.flatMap put ++ r; rw [List.append_assoc], hn, hp⟩
  · rw [if_neg hle] at h3; cases h3
end
/-! Sounds, words. -/
abbrev Snd := Nat × Nat
def sndB : Snd → List Nat := pairB numB fun _ => numB
def sndR : Rdr Snd := pairR readN fun _ => readN
def ok32 (s : Snd) : Prop := is32 s.1 ∧ is32 s.2
theorem back_snd : Back ok32 sndB sndR := back_pair back_num fun _ _ => back_num
theorem part_snd : Part ok32 sndB sndR := part_pair back_num part_num fun _ _ => part_num
theorem canon_snd : Canon ok32 sndB sndR := canon_pair canon_num fun _ _ => canon_num
theorem numB_pos (n : Nat) : 0 < (numB n).length := List.length_pos_iff.2 (numK_ne 4 n)
theorem snd_pos (s : Snd) (_ : ok32 s) : 0 < (sndB s).length := by
  show 0 < (numB s.1 ++ numB s.2).length
  rw [List.length_append]
  have := numB_pos s.1
  omega
def wordB : List Snd → List Nat := allB sndB
def wordR : Rdr (List Snd) := someR sndR
def okW (w : List Snd) : Prop := is32 w.length ∧ ∀ s ∈ w, ok32 s
theorem back_word : Back okW wordB wordR := back_all back_snd snd_pos
theorem part_word : Part okW wordB wordR := part_all back_snd part_snd
theorem canon_word : Canon okW wordB wordR := canon_all canon_snd
end Go.Proofs.YtipfhamhiaeieaaDoor
