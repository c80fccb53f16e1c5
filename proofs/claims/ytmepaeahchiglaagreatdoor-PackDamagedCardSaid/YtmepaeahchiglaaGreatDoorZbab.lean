/-
  Plain facts of layer 43, of no program: writers and readers of bytes, put together. Conditions: numbers below 2^32.
-/
import Derived.Test.YtmepaeahchiglaaGreatDoorZbaa
import Derived.StillTailTactics
import Derived.Test.YtmepaeahchiglaaGreatDoorProg
import Derived.WalkKit
import Derived.Laws.BitsAllLaws
import Derived.Deep.Slices
import Derived.Deep.Fields
import Derived.Lib.SmallJoins
import Derived.Lib.AppendStr
namespace Go.Proofs.YtmepaeahchiglaaGreatDoor

abbrev Rdr (α : Type) := List Nat → Option (α × List Nat)
/-- What is written is read, whatever follows. -/
def Back {α : Type} (P : α → Prop) (put : α → List Nat) (get : Rdr α) : Prop := ∀ x r, P x → get (put x ++ r) = some (x, r)
/-- What is read has the bytes that were read. -/
def Canon {α : Type} (P : α → Prop) (put : α → List Nat) (get : Rdr α) : Prop := ∀ b x r, (∀ c ∈ b, c < 256) → get b = some (x, r) → b = put x ++ r ∧ P x
def is32 (n : Nat) : Prop := n < 4294967296
theorem back_num : Back is32 numB readN := fun _ r h => readN_num h r
theorem canon_num : Canon is32 numB readN := fun _ _ _ hb h => readN_bytes hb h
/-- One behind the other. -/
def thenR {α β : Type} (g : Rdr α) (h : α → Rdr β) : Rdr β := fun b => match g b with
  | some (x, r) => h x r
  | none => none
theorem thenR_some {α β : Type} {g : Rdr α} {f : α → Rdr β} {b r : List Nat} {x : α} (h : g b = some (x, r)) : thenR g f b = f x r := by unfold thenR; rw [h]
theorem thenR_none {α β : Type} {g : Rdr α} {f : α → Rdr β} {b : List Nat} (h : g b = none) : thenR g f b = none := by unfold thenR; rw [h]
theorem thenR_out {α β : Type} {g : Rdr α} {f : α → Rdr β} {b t : List Nat} {y : β} (h : thenR g f b = some (y, t)) : ∃ x r, g b = some (x, r) ∧ f x r = some (y, t) := by
  cases hg : g b with
  | none => rw [thenR_none hg] at h; cases h
  | some q => exact ⟨q.1, q.2, rfl, by rw [thenR_some hg] at h; exact h⟩
section
variable {α β : Type} {P : α → Prop} {Q : α → β → Prop} {put : α → List Nat} {get : Rdr α} {put2 : α → β → List Nat} {get2 : α → Rdr β}
def pairB (put : α → List Nat) (put2 : α → β → List Nat) (x : α × β) : List Nat := put x.1 ++ put2 x.1 x.2
def pairR (get : Rdr α) (get2 : α → Rdr β) : Rdr (α × β) := thenR get fun a => thenR (get2 a) fun b r => some ((a, b), r)
theorem back_pair (h1 : Back P put get) (h2 : ∀ a, P a → Back (Q a) (put2 a) (get2 a)) : Back (fun x : α × β => P x.1 ∧ Q x.1 x.2) (pairB put put2) (pairR get get2) := by
  rintro ⟨a, b⟩ r ⟨ha, hb⟩
  show pairR get get2 ((put a ++ put2 a b) ++ r) = _
  unfold pairR
  rw [List.append_assoc, thenR_some (h1 a _ ha), thenR_some (h2 a ha b r hb)]
theorem canon_pair (h1 : Canon P put get) (h2 : ∀ a, P a → Canon (Q a) (put2 a) (get2 a)) : Canon (fun x : α × β => P x.1 ∧ Q x.1 x.2) (pairB put put2) (pairR get get2) := by
  rintro b ⟨x, y⟩ r hb h
  unfold pairR at h
  obtain ⟨a, s, h1e, h⟩ := thenR_out h
  obtain ⟨e1, pa⟩ := h1 b a s hb h1e
  obtain ⟨z, t, h2e, h⟩ := thenR_out h
  simp only [Option.some.injEq, Prod.mk.injEq] at h
  obtain ⟨⟨rfl, rfl⟩, rfl⟩ := h
  obtain ⟨e2, pb⟩ := h2 a pa s z t (fun c hc => hb c (by rw [e1]; simp [hc])) h2e
  exact ⟨by rw [e1, e2]; show _ = put a ++ put2 a z ++ t; rw [List.append_assoc], pa, pb⟩
end
/-! Lists. -/
section
variable {α : Type} {P : α → Prop} {put : α → List Nat} {get : Rdr α}
def manyR (get : Rdr α) : Nat → Rdr (List α)
  | 0 => fun b => some ([], b)
  | n + 1 => thenR get fun x => thenR (manyR get n) fun l r => some (x :: l, r)
/-- How many things follow: there are not more of them than bytes. -/
def countR : Rdr Nat := thenR readN fun n r => if n ≤ r.length then some (n, r) else none
def someR (get : Rdr α) : Rdr (List α) := thenR countR fun n => manyR get n
def allB (put : α → List Nat) (l : List α) : List Nat := numB l.length ++ l.flatMap put
theorem countR_num {n : Nat} (h : is32 n) {r : List Nat} (hr : n ≤ r.length) : countR (numB n ++ r) = some (n, r) := by
  unfold countR
  rw [thenR_some (readN_num h r), if_pos hr]
theorem many_back (h : Back P put get) : ∀ (l : List α) (r : List Nat), (∀ x ∈ l, P x) → manyR get l.length (l.flatMap put ++ r) = some (l, r)
  | [], r, _ => rfl
  | x :: l, r, hp => by
    show thenR get (fun x => thenR (manyR get l.length) fun l r => some (x :: l, r)) ((put x ++ l.flatMap put) ++ r) = _
    rw [List.append_assoc, thenR_some (h x _ (hp x (List.mem_cons_self ..))), thenR_some (many_back h l r (fun y hy => hp y (List.mem_cons_of_mem _ hy)))]
theorem flat_len (hne : ∀ x, P x → 0 < (put x).length) : ∀ (l : List α), (∀ x ∈ l, P x) → l.length ≤ (l.flatMap put).length
  | [], _ => Nat.le_refl _
  | x :: l, hp => by
    rw [List.flatMap_cons, List.length_append, List.length_cons]
    have := flat_len hne l (fun y hy => hp y (List.mem_cons_of_mem _ hy))
    have := hne x (hp x (List.mem_cons_self ..))
    omega
theorem back_all (h : Back P put get) (hne : ∀ x, P x → 0 < (put x).length) : Back (fun l : List α => is32 l.length ∧ ∀ x ∈ l, P x) (allB put) (someR get) := by
  rintro l r ⟨h1, h2⟩
  have := flat_len hne l h2
  show someR get ((numB l.length ++ l.flatMap put) ++ r) = _
  unfold someR
  rw [List.append_assoc, thenR_some (countR_num h1 (by rw [List.length_append]; omega))]
  exact many_back h l r h2
theorem many_canon (h : Canon P put get) : ∀ (n : Nat) (b : List Nat) (l : List α) (r : List Nat), (∀ c ∈ b, c < 256) → manyR get n b = some (l, r) → b = l.flatMap put ++ r ∧ l.length = n ∧ ∀ x ∈ l, P x
  | 0, b, l, r, _, e => by
    injection e with e
    obtain ⟨rfl, rfl⟩ := Prod.mk.inj e
    exact ⟨rfl, rfl, fun x hx => by cases hx⟩
  | n + 1, b, l, r, hb, e => by
    obtain ⟨x, s, h1, e⟩ := thenR_out (show thenR get (fun x => thenR (manyR get n) fun l r => some (x :: l, r)) b = some (l, r) from e)
    obtain ⟨e1, px⟩ := h b x s hb h1
    obtain ⟨l', t, h2, e⟩ := thenR_out e
    simp only [Option.some.injEq, Prod.mk.injEq] at e
    obtain ⟨rfl, rfl⟩ := e
    obtain ⟨e2, hl, hp⟩ := many_canon h n s l' t (fun c hc => hb c (by rw [e1]; simp [hc])) h2
    refine ⟨by rw [e1, e2, List.flatMap_cons, List.append_assoc], by rw [List.length_cons, hl], fun y hy => ?_⟩
    rcases List.mem_cons.1 hy with rfl | hy
    · exact px
    · exact hp y hy
theorem canon_all (h : Canon P put get) : Canon (fun l : List α => is32 l.length ∧ ∀ x ∈ l, P x) (allB put) (someR get) := by
  intro b l r hb e
  unfold someR at e
  obtain ⟨n, s, h1, e⟩ := thenR_out e
  unfold countR at h1
  obtain ⟨n', s', h2, h3⟩ := thenR_out h1
  obtain ⟨e1, hn⟩ := readN_bytes hb h2
  by_cases hle : n' ≤ s'.length
  · rw [if_pos hle] at h3
    injection h3 with h3
    obtain ⟨rfl, rfl⟩ := Prod.mk.inj h3
    obtain ⟨e2, hl, hp⟩ := many_canon h n' s' l r (fun c hc => hb c (by rw [e1]; simp [hc])) e
    subst hl
    exact ⟨by rw [e1, e2]; show _ = numB l.length ++ l.flatMap put ++ r; rw [List.append_assoc], hn, hp⟩
  · rw [if_neg hle] at h3; cases h3
end
/-! Sounds, words. -/
abbrev Snd := Nat × Nat
def sndB : Snd → List Nat := pairB numB fun _ => numB
def sndR : Rdr Snd := pairR readN fun _ => readN
def ok32 (s : Snd) : Prop := is32 s.1 ∧ is32 s.2
theorem back_snd : Back ok32 sndB sndR := back_pair back_num fun _ _ => back_num
theorem canon_snd : Canon ok32 sndB sndR := canon_pair canon_num fun _ _ => canon_num
theorem numB_pos (n : Nat) : 0 < (numB n).length := List.length_pos_iff.2 (numK_ne 4 n)
theorem snd_pos (s : Snd) (_ : ok32 s) : 0 < (sndB s).length := by
  show 0 < (numB s.1 ++ numB s.2).length
  rw [List.length_append]
  have := numB_pos s.1
  omega
def wordB : List Snd → List Nat := allB sndB
def wordR : Rdr (List Snd) := someR sndR
def okW (w : List Snd) : Prop := is32 w.length ∧ ∀ s ∈ w, ok32 s
theorem back_word : Back okW wordB wordR := back_all back_snd snd_pos
theorem canon_word : Canon okW wordB wordR := canon_all canon_snd
end Go.Proofs.YtmepaeahchiglaaGreatDoor
namespace Go.Proofs.YtmepaeahchiglaaGreatDoor
open Go.RowKit

theorem region_tail {P : Program} {id : Nat} {Q : Exit → Act → World → Prop} {a : Act} {w : World} {l : List Oper} (n : Nat) (hm : P.follows .mixedOrders = true) (hB : Region.lexTailB .any l.toArray n = true)
    (h : wpStill P l.toArray w.drew (fun a' => wpList P l.toArray Q (l.drop n) a' w.drew) (l.take n) a) : (Code.region id l.toArray true).wp P Q a w := wp_region_still_tail n hm hB h
theorem add_at (b j : Nat) : (⟨b, 0, none⟩ : Addr).add j = ⟨b, j, none⟩ := by unfold Addr.add; split <;> simp_all
/-- A block that was just made reads as what lies in it. -/
theorem reads_new (w : World) (t : TypeId) (cs : List Value) : Reads (w.alloc (.cells cs.toArray t)) (w.heap.size + 1) 1 (some ⟨w.heap.size, 0, none⟩) cs.length cs := by
  refine ⟨by simp, fun _ => ⟨_, rfl, by simp, fun j u hu => ?_⟩⟩
  rw [add_at, (Blk.new w t cs.toArray).cell j]
  simpa using hu
end Go.Proofs.YtmepaeahchiglaaGreatDoor
namespace Go.Proofs.YtmepaeahchiglaaGreatDoor
open Go.RowKit Go.Lib

abbrev bv (b : Nat) : Value := .int .u8 b
def CAP : Nat := 140737488351232
/-- The bytes behind a writer's pointer: a list of the call's own. -/
def Wr (w : World) (base g : Nat) (xs : List Nat) : Prop :=
  ∃ v, Blk w g 92 #[v] ∧ base ≤ g ∧ w.ownsRow base 5 1 v xs.length (xs.map bv)
def rowOf (w : World) (g : Nat) : Option Nat := (w.cell? ⟨g, 0, none⟩).bind Value.ownBlock
/-- What a writer's step leaves as it was: all but its variable and its list. -/
structure WStep (g : Nat) (w w' : World) : Prop where
  os : w'.os = w.os
  tape : w'.tape = w.tape
  output : w'.output = w.output
  size : w.heap.size ≤ w'.heap.size
  block : ∀ k, k < w.heap.size → k ≠ g → rowOf w g ≠ some k → w'.heap[k]? = w.heap[k]?
  row : rowOf w' g = rowOf w g ∨ ∃ k, rowOf w' g = some k ∧ w.heap.size ≤ k
theorem WStep.refl (g : Nat) (w : World) : WStep g w w := ⟨rfl, rfl, rfl, Nat.le_refl _, fun _ _ _ _ => rfl, .inl rfl⟩
theorem WStep.trans {g : Nat} {a b c : World} (h : WStep g a b) (k : WStep g b c) : WStep g a c := by
  refine ⟨k.os.trans h.os, k.tape.trans h.tape, k.output.trans h.output, Nat.le_trans h.size k.size, fun i hi hg hr => ?_, ?_⟩
  · refine (k.block i (Nat.lt_of_lt_of_le hi h.size) hg ?_).trans (h.block i hi hg hr)
    rcases h.row with e | ⟨j, e, hj⟩
    · rw [e]; exact hr
    · rw [e]; intro e'; injection e' with e'; omega
  · rcases k.row with e | ⟨j, e, hj⟩
    · rw [e]
      rcases h.row with e | ⟨j, e, hj⟩
      · exact .inl e
      · exact .inr ⟨j, e, hj⟩
    · exact .inr ⟨j, e, Nat.le_trans h.size hj⟩
theorem WStep.alloc {g : Nat} {a w : World} (h : WStep g a w) (hg : g < w.heap.size) (o : Obj) : WStep g a (w.alloc o) := by
  refine h.trans ⟨rfl, rfl, rfl, by simp, fun k hk _ _ => Below.heap_alloc _ _ _ hk, .inl ?_⟩
  unfold rowOf
  rw [World.cell?_alloc_lt w o ⟨g, 0, none⟩ hg]
theorem Wr.rowOf_ {w : World} {base g : Nat} {xs : List Nat} (h : Wr w base g xs) : ∀ k, rowOf w g = some k → base ≤ k ∧ k < w.heap.size := by
  obtain ⟨v, h1, h2, h3⟩ := h
  intro k hk
  unfold rowOf at hk
  rw [h1.cell 0] at hk
  exact h3.lt k (by simpa using hk)
theorem Wr.lt {w : World} {base g : Nat} {xs : List Nat} (h : Wr w base g xs) : g < w.heap.size := by
  obtain ⟨v, h1, _⟩ := h; exact h1.lt
theorem Wr.base_le {w : World} {base g : Nat} {xs : List Nat} (h : Wr w base g xs) : base ≤ g := by
  obtain ⟨v, _, h, _⟩ := h; exact h
theorem Wr.alloc {w : World} {base g : Nat} {xs : List Nat} (h : Wr w base g xs) (o : Obj) : Wr (w.alloc o) base g xs := by
  obtain ⟨v, h1, h2, h3⟩ := h
  exact ⟨v, h1.alloc o, h2, h3.alloc o⟩
theorem Wr.far {w : World} {base g k : Nat} {t : TypeId} {cs : Array Value} {xs : List Nat} (h : Wr w base g xs) (hk : Blk w k t cs) (h1 : t ≠ 5) (h2 : k ≠ g) (o : Nat) (u : Value) : Wr (w.setCell ⟨k, o, none⟩ u) base g xs := by
  obtain ⟨v, b1, b2, b3⟩ := h
  have hn := own_blk_ne b3 hk (Ne.symm h1)
  refine ⟨v, b1.far (Ne.symm h2) u, b2, b3.kept (row := some k) ⟨rfl, rfl, rfl, by simp [World.setCell], fun i hi hne => Below.heap_setCell _ _ _ _ (by simpa using hne)⟩ (.inr hn)⟩
/-- A step leaves what lies below the writer's own memory. -/
theorem WStep.below {w w' : World} {base g : Nat} {xs : List Nat} (h : WStep g w w') (hw : Wr w base g xs) : Below base w w' :=
  ⟨h.os, h.tape, h.output, h.size, fun k hk => by
    have := hw.base_le
    have := hw.lt
    exact h.block k (by omega) (by omega) (fun e => by have := hw.rowOf_ k e; omega)⟩
/-- A step leaves each block of another type. -/
theorem WStep.blk {w w' : World} {base g k : Nat} {t : TypeId} {cs : Array Value} {xs : List Nat} (h : WStep g w w') (hw : Wr w base g xs) (hk : Blk w k t cs) (h1 : t ≠ 5) (h2 : k ≠ g) : Blk w' k t cs := by
  refine (h.block k hk.lt h2 ?_).trans hk
  obtain ⟨v, b1, b2, b3⟩ := hw
  have hn := own_blk_ne b3 hk (Ne.symm h1)
  unfold rowOf
  rw [b1.cell 0]
  simpa using hn
/-- A step leaves what lies below it. -/
theorem WStep.reads {w w' : World} {base g B size n : Nat} {A : Option Addr} {ys : List Value} {xs : List Nat} (h : WStep g w w') (hw : Wr w base g xs) (hr : Reads w B size A n ys) (hB : B ≤ base) : Reads w' B size A n ys :=
  hr.below ((h.below hw).mono hB)
/-- Bytes behind the list. -/
theorem wr_append {w w1 w2 : World} {base g : Nat} {xs ys : List Nat} {v v' : Value} (h : Wr w base g xs) (hv : w.cell? ⟨g, 0, none⟩ = some v) (hs : WStep g w w1) (hr : rowOf w1 g = v.ownBlock) (h2 : w2.ownsRow base 5 1 v' (xs.length + ys.length) (xs.map bv ++ ys.map bv)) (h3 : w1.grownBy w2 v.ownBlock)
    (h4 : v'.ownBlock = v.ownBlock ∨ v'.ownBlock = some w1.heap.size) (h5 : w1.heap[g]? = w.heap[g]?) : Wr (w2.setCell ⟨g, 0, none⟩ v') base g (xs ++ ys) ∧ WStep g w (w2.setCell ⟨g, 0, none⟩ v') := by
  obtain ⟨u, b1, b2, b3⟩ := h
  have e : u = v := by
    have := b1.cell 0
    rw [hv] at this
    simpa using this.symm
  subst e
  have hgl := b1.lt
  have hne : u.ownBlock ≠ some g := own_blk_ne b3 b1 (by decide)
  have hB1 : Blk w1 g 92 #[u] := h5.trans b1
  have hB2 : Blk w2 g 92 #[u] := (h3.block g hB1.lt (fun e => hne e.symm)).trans hB1
  have hne' : v'.ownBlock ≠ some g := own_blk_ne h2 hB2 (by decide)
  have hset : Blk (w2.setCell ⟨g, 0, none⟩ v') g 92 #[v'] := by simpa using hB2.set_ 0 v'
  have hrow : rowOf (w2.setCell ⟨g, 0, none⟩ v') g = v'.ownBlock := by unfold rowOf; rw [hset.cell 0]; rfl
  have hrow0 : rowOf w g = u.ownBlock := by unfold rowOf; rw [hv]; rfl
  refine ⟨⟨v', hset, b2, ?_⟩, ?_⟩
  · rw [List.length_append, List.map_append]
    exact h2.kept (row := some g) ⟨rfl, rfl, rfl, by simp [World.setCell], fun i hi hne => Below.heap_setCell _ _ _ _ (by simpa using hne)⟩ (.inr hne')
  · refine hs.trans ⟨h3.os, h3.tape, h3.output, by have := h3.size; simpa [World.setCell] using this, fun k hk hg hr' => ?_, ?_⟩
    · rw [Below.heap_setCell _ _ _ _ hg]
      exact h3.block k hk (fun e => hr' (by rw [hr]; exact e.symm))
    · rw [hrow, hr]
      rcases h4 with h | h
      · exact .inl h
      · exact .inr ⟨_, h, Nat.le_refl _⟩
/-- One element behind the list: a slice of it is made first. -/
theorem wr_one {w w2 : World} {base g : Nat} {xs ys : List Nat} {v v' : Value} {o : Obj} (h : Wr w base g xs) (hv : w.cell? ⟨g, 0, none⟩ = some v) (h2 : w2.ownsRow base 5 1 v' (xs.length + ys.length) (xs.map bv ++ ys.map bv)) (h3 : (w.alloc o).grownBy w2 v.ownBlock)
    (h4 : v'.ownBlock = v.ownBlock ∨ v'.ownBlock = some (w.alloc o).heap.size) : Wr (w2.setCell ⟨g, 0, none⟩ v') base g (xs ++ ys) ∧ WStep g w (w2.setCell ⟨g, 0, none⟩ v') := by
  refine wr_append h hv ((WStep.refl g w).alloc h.lt o) ?_ h2 h3 h4 (Below.heap_alloc _ _ _ h.lt)
  unfold rowOf
  rw [World.cell?_alloc_lt w o ⟨g, 0, none⟩ h.lt, hv]; rfl
theorem low7 {n : Nat} : bits .or .u8 ((n : Int) % 256) 128 = ((n % 128 + 128 : Nat) : Int) := by
  have h := u8_or_nat (n % 256) 128 (by omega) (by decide)
  have e : (n % 256) ||| 128 = n % 128 + 128 := by
    have h2 : ∀ m : Fin 256, m.val ||| 128 = m.val % 128 + 128 := by decide +kernel
    rw [h2 ⟨n % 256, by omega⟩]; simp only []; omega
  rw [e] at h
  rw [← h]; congr 1
end Go.Proofs.YtmepaeahchiglaaGreatDoor
namespace Go.Proofs.YtmepaeahchiglaaGreatDoor
open Go.RowKit Go.Lib

theorem numK_len : ∀ (k n : Nat), (numK k n).length ≤ k
  | 0, _ => Nat.le_refl _
  | k + 1, n => by
    unfold numK; split
    · simp
    · simpa using numK_len k (n / 128)
theorem numB_len (n : Nat) : (numB n).length ≤ 5 := numK_len 5 n
abbrev wptr (g : Nat) : Value := .pointer (some ⟨g, 0, none⟩)
set_option maxRecDepth 20000 in
set_option maxHeartbeats 4000000 in
theorem num_any (w : World) (base g n : Nat) (xs : List Nat) (h : Wr w base g xs) (hn : n < 4294967296) (hx : xs.length + 5 ≤ CAP) :
    Calls Tryz.prog 90 #[wptr g, .int .u32 n] w fun e w' => e = .returned (.tuple #[]) ∧ Wr w' base g (xs ++ numB n) ∧ WStep g w w' := by
  obtain ⟨i0, hi, hz0, hz1, hz2⟩ := info_parts (show (Tryz.prog.info? 5).map (fun i => (i.zero, i.size, i.bytes)) = some (some (.int .u8 0), 1, 1) by kernel_rfl)
  unfold CAP at hx
  have HH := Lib.hid h
  clear h
  go_enter Tryz.func90, Tryz.ntmps90
  go_wp2
  go_loopw [1] (fun i wr => ∃ m j : Nat, ∃ zs : List Nat, i = .int .u32 m ∧ m < 4294967296 ∧ zs.length + j = 4 ∧ m < 128 ^ (j + 1) ∧ zs ++ numK (j + 1) m = numB n ∧ Wr wr base g (xs ++ zs) ∧ WStep g w wr) (fun i _ => (RowKit.intOf i).toNat)
  case atStart => exact ⟨n, 4, [], rfl, hn, rfl, Nat.lt_of_lt_of_le hn (by decide), rfl, by rw [List.append_nil]; exact HH.out, WStep.refl _ _⟩
  case round =>
    obtain ⟨m, j, zs, rfl, hm, hzl, hmj, hzs, hwr, hst⟩ := hrel
    have hlen : (xs ++ zs).length ≤ 140737488351231 := by rw [List.length_append]; omega
    obtain ⟨v, b1, b2, b3⟩ := id hwr
    have hc := b1.cell 0
    have hf := b1.frozen 0
    simp only [List.getElem?_toArray, List.getElem?_cons_zero] at hc
    have hgl := b1.lt
    have hne : v.ownBlock ≠ some g := own_blk_ne b3 b1 (by decide)
    by_cases hlt : 128 ≤ m
    · have hltI : (128 : Int) ≤ m := by omega
      have hl7 := low7 (n := m)
      have hrn := reads_new wr 5 [bv (m % 128 + 128)]
      have HZ := Lib.hid hzs; have HWR := Lib.hid hwr; have HST := Lib.hid hst; have HC := Lib.hid hc; have HB1 := Lib.hid b1; have HB3 := Lib.hid b3; have HRN := Lib.hid hrn; have HNE := Lib.hid hne; have HMJ := Lib.hid hmj
      clear hzs hwr hst b1 b3 hrn hne hmj
      go_wp2_with (at_builtin; refine wpList_append_any _ rfl _ _ 92 rfl base 5 i0 (.int .u8 0) 1 1 Tryz.underlying92 hi hz0 hz1 hz2 rfl (by decide) _ _ _ rfl (HB3.out.alloc _) _ _ _ _ [bv (m % 128 + 128)] rfl HRN.out (by simp [Value.oneCell']) (by unfold maxLen; omega) (by omega) (by simp; omega) ?_; intro v' w3 hown' hgrow hx'; have hb3 : Blk w3 g 92 #[v] := (HB1.out.alloc _).grown hgrow (fun e => HNE.out e.symm); have hc3 : w3.cell? ⟨g, 0, none⟩ = some v := (by simpa using hb3.cell 0); have hf3 := hb3.frozen 0; have hres := wr_one (ys := [m % 128 + 128]) HWR.out HC.out hown' hgrow hx'; have HRES := Lib.hid hres; clear hres hb3 hx' hgrow; obtain ⟨A', c', rfl, _, _⟩ := ownsRow_form hown'; have HOWN := Lib.hid hown'; clear hown')
      clear hl7
      go_roundw
      case rel =>
        cases j with
        | zero => have := HMJ.out; rw [Nat.zero_add, Nat.pow_one] at this; omega
        | succ j =>
          have hr := HRES.out
          rw [List.length_append] at hr
          have hz := HZ.out
          rw [numB_step (by omega)] at hz
          refine ⟨m / 128, j, zs ++ [m % 128 + 128], by rfl, by omega, by rw [List.length_append, List.length_singleton]; omega, ?_, by rw [List.append_assoc]; exact hz, ?_, HST.out.trans hr.2⟩
          · have := HMJ.out; rw [Nat.pow_succ] at this; omega
          · rw [← List.append_assoc]; exact hr.1
      case measure => simp [RowKit.intOf]; omega
    · have hltI : ¬ (128 : Int) ≤ m := by omega
      have hw8 : (m : Int) % 256 = m := by omega
      have hrn := reads_new wr 5 [bv m]
      have HZ := Lib.hid hzs; have HWR := Lib.hid hwr; have HST := Lib.hid hst; have HC := Lib.hid hc; have HB1 := Lib.hid b1; have HB3 := Lib.hid b3; have HRN := Lib.hid hrn; have HNE := Lib.hid hne; have HMJ := Lib.hid hmj
      clear hzs hwr hst b1 b3 hrn hne hmj
      go_wp2_with (at_builtin; refine wpList_append_any _ rfl _ _ 92 rfl base 5 i0 (.int .u8 0) 1 1 Tryz.underlying92 hi hz0 hz1 hz2 rfl (by decide) _ _ _ rfl (HB3.out.alloc _) _ _ _ _ [bv m] rfl HRN.out (by simp [Value.oneCell']) (by unfold maxLen; omega) (by omega) (by simp; omega) ?_; intro v' w3 hown' hgrow hx'; have hb3 : Blk w3 g 92 #[v] := (HB1.out.alloc _).grown hgrow (fun e => HNE.out e.symm); have hc3 : w3.cell? ⟨g, 0, none⟩ = some v := (by simpa using hb3.cell 0); have hf3 := hb3.frozen 0; have hres := wr_one (ys := [m]) HWR.out HC.out hown' hgrow hx'; have HRES := Lib.hid hres; clear hres hb3 hx' hgrow; obtain ⟨A', c', rfl, _, _⟩ := ownsRow_form hown'; have HOWN := Lib.hid hown'; clear hown')
      go_end0
      have hr := HRES.out
      rw [List.length_append] at hr
      have hz := HZ.out
      rw [numB_last (by omega)] at hz
      exact ⟨rfl, by rw [← hz, ← List.append_assoc]; exact hr.1, HST.out.trans hr.2⟩
theorem count_any (w : World) (base g : Nat) (n : Nat) (xs : List Nat) (h : Wr w base g xs) (hn : n < 4294967296) (hx : xs.length + 5 ≤ CAP) :
    Calls Tryz.prog 93 #[wptr g, .int .i64 n] w fun e w' => e = .returned (.tuple #[]) ∧ Wr w' base g (xs ++ numB n) ∧ WStep g w w' := by
  have hc := num_any w base g n xs h hn hx
  have hw : (n : Int) % 4294967296 = n := by omega
  clear h hx
  go_enter Tryz.func93, Tryz.ntmps93
  go_wp2_with fail
  refine hc.mono ?_
  rintro e w' ⟨rfl, h1, h2⟩
  go_wp2
  go_end0
  exact ⟨rfl, h1, h2⟩
theorem sndB_len (s : Snd) : (sndB s).length ≤ 10 := by
  show (numB s.1 ++ numB s.2).length ≤ 10
  rw [List.length_append]
  have := numB_len s.1
  have := numB_len s.2
  omega
abbrev sndC (s : Snd) : List Value := [.int .u32 s.1, .int .u32 s.2]
abbrev sndV (s : Snd) : Value := .agg #[.int .u32 s.1, .int .u32 s.2]
set_option maxRecDepth 20000 in
theorem sound_any (w : World) (base g : Nat) (s : Snd) (xs : List Nat) (h : Wr w base g xs) (hs : ok32 s) (hx : xs.length + 10 ≤ CAP) :
    Calls Tryz.prog 78 #[wptr g, sndV s] w fun e w' => e = .returned (.tuple #[]) ∧ Wr w' base g (xs ++ sndB s) ∧ WStep g w w' := by
  obtain ⟨a, b⟩ := s
  obtain ⟨ha, hb⟩ := hs
  have hB := Blk.new w 55 #[.int .u32 a, .int .u32 b]
  have h1 := h.alloc (.cells #[.int .u32 a, .int .u32 b] 55)
  have hst := (WStep.refl g w).alloc h.lt (.cells #[.int .u32 a, .int .u32 b] 55)
  have hgl := h.lt
  show Calls _ _ _ _ fun e w' => e = .returned (.tuple #[]) ∧ Wr w' base g (xs ++ (numB a ++ numB b)) ∧ WStep g w w'
  have hl := numB_len a
  have hc1 := num_any _ base g a xs h1 ha (by omega)
  have hc2 := fun W (hW : Wr W base g (xs ++ numB a)) => num_any W base g b (xs ++ numB a) hW hb (by rw [List.length_append]; omega)
  have HB := Lib.hid hB; have H1 := Lib.hid h1; have HST := Lib.hid hst; have HC2 := Lib.hid hc2
  clear hB h1 hst hc2 h hx
  go_enter Tryz.func78, Tryz.ntmps78
  go_wp2_with fail
  refine hc1.mono ?_
  rintro e w1 ⟨rfl, h2, h3⟩
  have hb1 := h3.blk H1.out HB.out (by decide) (by omega)
  have hc := hb1.cell 1
  simp only [List.getElem?_toArray, List.getElem?_cons_zero, List.getElem?_cons_succ] at hc
  have H2 := Lib.hid h2; have H3 := Lib.hid h3
  clear h2 h3 hb1
  go_wp2_with fail
  refine (HC2.out _ H2.out).mono ?_
  rintro e w2 ⟨rfl, h4, h5⟩
  go_wp2
  go_end0
  exact ⟨rfl, by rw [← List.append_assoc]; exact h4, (HST.out.trans H3.out).trans h5⟩
def flagB (b : Bool) : List Nat := numB (if b then 1 else 0)
theorem flag_any (w : World) (base g : Nat) (b : Bool) (xs : List Nat) (h : Wr w base g xs) (hx : xs.length + 5 ≤ CAP) :
    Calls Tryz.prog 151 #[wptr g, .bool b] w fun e w' => e = .returned (.tuple #[]) ∧ Wr w' base g (xs ++ flagB b) ∧ WStep g w w' := by
  cases b
  · have hc := count_any w base g 0 xs h (by decide) hx
    clear h hx
    go_enter Tryz.func151, Tryz.ntmps151
    go_wp2_with fail
    refine hc.mono ?_
    rintro e w' ⟨rfl, h1, h2⟩
    go_wp2
    go_end0
    exact ⟨rfl, h1, h2⟩
  · have hc := count_any w base g 1 xs h (by decide) hx
    clear h hx
    go_enter Tryz.func151, Tryz.ntmps151
    go_wp2_with fail
    refine hc.mono ?_
    rintro e w' ⟨rfl, h1, h2⟩
    go_wp2
    go_end0
    exact ⟨rfl, h1, h2⟩
end Go.Proofs.YtmepaeahchiglaaGreatDoor
namespace Go.Proofs.YtmepaeahchiglaaGreatDoor
open Go.ChangeShapes Go.WideShapes Go.ChangeAt Go.RowKit

theorem u32_of_wf {x : Int} (h : (Lit.int .u32 x).wf = true) : ∃ n : Nat, x = n ∧ is32 n := by
  simp only [Lit.wf, Bool.and_eq_true, decide_eq_true_eq] at h
  have h1 : IntKind.u32.min = 0 := rfl
  have h2 : IntKind.u32.max = 4294967295 := rfl
  rw [h1, h2] at h
  exact ⟨x.toNat, by omega, by unfold is32; omega⟩
section
variable {H : Type} {enc : TypeId × Value → H} {P : Program}
theorem u16_of_wf {x : Int} (h : (Lit.int .u16 x).wf = true) : ∃ n : Nat, x = n ∧ n < 65536 := by
  simp only [Lit.wf, Bool.and_eq_true, decide_eq_true_eq] at h
  have h1 : IntKind.u16.min = 0 := rfl
  have h2 : IntKind.u16.max = 65535 := rfl
  rw [h1, h2] at h
  exact ⟨x.toNat, by omega, by omega⟩
theorem open_u16 {t : TypeId} {W : World} {base b0 : Nat} {v : Value} {d : DataW H} {ps : List MemPlace} (ht : P.underlying t = some (.int .u16)) (hval : Value.okWide P W .any b0 t v) (h : DataW.Trod enc P W base (fun _ => true) true t v d ps) :
    ∃ x : Nat, v = .int .u16 x ∧ x < 65536 := by
  obtain ⟨n, rfl, rfl, _, hw⟩ := open_int ht hval h
  obtain ⟨m, rfl, hm⟩ := u16_of_wf hw
  exact ⟨m, rfl, hm⟩
end
end Go.Proofs.YtmepaeahchiglaaGreatDoor
namespace Go.Proofs.YtmepaeahchiglaaGreatDoor
open Go.RowKit Go.Lib

section
variable {P : Program} (w : World)
theorem run_string_at (base : Nat) (t u ty e : TypeId) (i : TypeInfo) (ht : P.underlying t = some (.slice e)) (hu : P.underlying u = some .string) (hi : P.info? e = some i) (hz : i.zero = some (.int .u8 0))
    (hsize : i.size = 1) (hby : i.bytes = 1) (v : Value) (n : Nat) (xs : List Value) (hown : w.ownsRow base e 1 v n xs) (s : ByteArray)
    (h63 : n + s.size ≤ 140737488351232) (hbase : base ≤ w.heap.size) :
    ∃ v' w', (Builtin.append_ #[t, u] ty #[v, .string s]).run P w = .ok v' w' ∧ w'.ownsRow base e 1 v' (n + s.size) (xs ++ strCells s) ∧ w.grownBy w' v.ownBlock ∧ (v'.ownBlock = v.ownBlock ∨ v'.ownBlock = some w.heap.size) := by
  obtain ⟨v', w', hr, h2, h3, h4⟩ := run_append_own_string (P := P) w base t u ty e i ht hu hi hz hsize hby v n xs hown s (by unfold maxLen; omega) (by omega) hbase
  refine ⟨v', w', hr, h2, h3, ?_⟩
  rcases hown.2 with ⟨rfl, rfl⟩ | ⟨g, cap, cur, rfl, hbg, hg, hnc, hcm, hcs, htake⟩
  · by_cases hm : s.size = 0
    · rw [h4.2 ⟨rfl, hm⟩]; exact .inl rfl
    · have hr2 := run_append_nil_string (P := P) w t u ty e i (.int .u8 0) ht hu hi hz s (by omega) (by omega) (by rw [hby]; omega)
      rw [hr] at hr2
      injection hr2 with hv _
      rw [hv]; exact .inr rfl
  · by_cases hroom : n + s.size ≤ cap
    · have hr2 := run_append_room_string (P := P) w t u ty e i ht hu hi hsize g n cap cur hg s hroom (by rw [Nat.mul_one] at hcs; omega)
      rw [hr] at hr2
      injection hr2 with hv _
      rw [hv]; exact .inl rfl
    · have hr2 := run_append_grow_string (P := P) w t u ty e i (.int .u8 0) ht hu hi hz ⟨g, 0, none⟩ n cap xs (by rw [hsize]; exact hown.1) (hown.cells (g := g) rfl) s (by omega) (by omega) (growslice_fits (by omega) (by rw [hby]; omega))
      rw [hr] at hr2
      injection hr2 with hv _
      rw [hv]; exact .inr rfl
theorem wpList_string_at {ops : Array Oper} {rest : List Oper} {o : Oper} {a : Act} {Q : Exit → Act → World → Prop} (hgd : o.guard = none) (sl x : Operand) (t u : TypeId)
    (ho : o.op = .call { callee := .builtin .append, args := #[sl, x], argTypes := #[t, u] })
    (base : Nat) (e : TypeId) (i : TypeInfo) (ht : P.underlying t = some (.slice e)) (hu : P.underlying u = some .string) (hi : P.info? e = some i) (hz : i.zero = some (.int .u8 0))
    (hsize : i.size = 1) (hby : i.bytes = 1) (v : Value) (n : Nat) (xs : List Value) (hs : a.eval sl = v) (hown : w.ownsRow base e 1 v n xs) (s : ByteArray) (hx : a.eval x = .string s)
    (h63 : n + s.size ≤ 140737488351232) (hbase : base ≤ w.heap.size)
    (h : ∀ v' w', w'.ownsRow base e 1 v' (n + s.size) (xs ++ strCells s) → w.grownBy w' v.ownBlock → (v'.ownBlock = v.ownBlock ∨ v'.ownBlock = some w.heap.size) → wpList P ops Q rest (a.put o.dst v') w') : wpList P ops Q (o :: rest) a w := by
  refine wpList_plain hgd fun K hK => ?_
  obtain ⟨v', w', hr, h2, h3, h4⟩ := run_string_at (P := P) w base t u o.type e i ht hu hi hz hsize hby v n xs hown s h63 hbase
  unfold Oper.wp execOp
  simp only [ho, resolve, invoke, builtin, Sem.run_bind, Sem.run_pure, Result.andThen_ok, List.map_toArray, List.map_cons, List.map_nil, hs, hx, hr]
  exact hK _ _ (h v' w' h2 h3 h4)
end
/-- The bytes of a string, as numbers. -/
def sbytes (s : ByteArray) : List Nat := s.data.toList.map UInt8.toNat
theorem sbytes_len (s : ByteArray) : (sbytes s).length = s.size := by unfold sbytes; rw [List.length_map]; rfl
theorem strCells_eq (s : ByteArray) : strCells s = (sbytes s).map bv := by unfold strCells sbytes; rw [List.map_map]; rfl
def textB (s : ByteArray) : List Nat := numB s.size ++ sbytes s
set_option maxRecDepth 20000 in
set_option maxHeartbeats 1000000 in
theorem text_any (w : World) (base g : Nat) (s : ByteArray) (xs : List Nat) (h : Wr w base g xs) (hs : s.size < 4294967296) (hx : xs.length + 5 + s.size ≤ CAP) :
    Calls Tryz.prog 85 #[wptr g, .string s] w fun e w' => e = .returned (.tuple #[]) ∧ Wr w' base g (xs ++ textB s) ∧ WStep g w w' := by
  obtain ⟨i0, hi, hz0, hz1, hz2⟩ := info_parts (show (Tryz.prog.info? 5).map (fun i => (i.zero, i.size, i.bytes)) = some (some (.int .u8 0), 1, 1) by kernel_rfl)
  have hl := numB_len s.size
  have hc1 := count_any w base g s.size xs h hs (by omega)
  unfold CAP at hx
  have HH := Lib.hid h
  clear h
  go_enter Tryz.func85, Tryz.ntmps85
  go_wp2_with fail
  refine hc1.mono ?_
  rintro e w1 ⟨rfl, h1, h2⟩
  have hlen : (xs ++ numB s.size).length = xs.length + (numB s.size).length := List.length_append
  obtain ⟨v, b1, b2, b3⟩ := id h1
  have hc := b1.cell 0
  have hf := b1.frozen 0
  simp only [List.getElem?_toArray, List.getElem?_cons_zero] at hc
  have hgl := b1.lt
  have hne : v.ownBlock ≠ some g := own_blk_ne b3 b1 (by decide)
  have HWR := Lib.hid h1; have HST := Lib.hid h2; have HC := Lib.hid hc; have HB1 := Lib.hid b1; have HB3 := Lib.hid b3; have HNE := Lib.hid hne; have HL := Lib.hid hlen
  clear h1 h2 b1 b3 hne hc1 hlen
  generalize (numB s.size).length = L at *
  go_wp2_with (at_builtin; refine wpList_string_at _ rfl _ _ 92 9 rfl base 5 i0 Tryz.underlying92 Tryz.underlying9 hi hz0 hz1 hz2 _ _ _ rfl HB3.out s rfl (by rw [HL.out]; omega) (by omega) ?_; intro v' w3 hown' hgrow hx'; have hb3 : Blk w3 g 92 #[v] := (HB1.out).grown hgrow (fun e => HNE.out e.symm); have hc3 : w3.cell? ⟨g, 0, none⟩ = some v := (by simpa using hb3.cell 0); have hf3 := hb3.frozen 0; have hres := wr_append (ys := sbytes s) HWR.out HC.out (WStep.refl g w1) (by unfold rowOf; rw [HC.out]; rfl) (by rw [sbytes_len, ← strCells_eq]; exact hown') hgrow hx' rfl; have HRES := Lib.hid hres; clear hres hb3 hx' hgrow; obtain ⟨A', c', rfl, _, _⟩ := ownsRow_form hown'; have HOWN := Lib.hid hown'; clear hown')
  go_end0
  have hr := HRES.out
  rw [List.length_append] at hr
  exact ⟨rfl, by unfold textB; rw [← List.append_assoc]; exact hr.1, HST.out.trans hr.2⟩
end Go.Proofs.YtmepaeahchiglaaGreatDoor
