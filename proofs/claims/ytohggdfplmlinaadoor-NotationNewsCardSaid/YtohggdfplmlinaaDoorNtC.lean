/-
  Layer 4: memory that is changed in some blocks alone; rows in some blocks. Conditions: none. Of no program.
-/
import Derived.Test.YtohggdfplmlinaaDoorMem
import Derived.Test.YtohggdfplmlinaaDoorTurn
namespace Go.Proofs.YtohggdfplmlinaaDoor
open Go.RowKit

/-- All blocks but those of S are as they were. -/
structure ChgS (S : Nat → Prop) (w w' : World) : Prop where
  os : w'.os = w.os
  tape : w'.tape = w.tape
  output : w'.output = w.output
  size : w.heap.size ≤ w'.heap.size
  block : ∀ k, k < w.heap.size → ¬ S k → w'.heap[k]? = w.heap[k]?
section
variable {S T : Nat → Prop} {a w w' : World}
theorem ChgS.refl (S : Nat → Prop) (w : World) : ChgS S w w := ⟨rfl, rfl, rfl, Nat.le_refl _, fun _ _ _ => rfl⟩
theorem ChgS.trans (h : ChgS S a w) (k : ChgS S w w') : ChgS S a w' :=
  ⟨k.os.trans h.os, k.tape.trans h.tape, k.output.trans h.output, Nat.le_trans h.size k.size, fun i hi hs => (k.block i (Nat.lt_of_lt_of_le hi h.size) hs).trans (h.block i hi hs)⟩
theorem ChgS.mono (h : ChgS S a w) (hs : ∀ k, k < a.heap.size → S k → T k) : ChgS T a w := ⟨h.os, h.tape, h.output, h.size, fun k hk hn => h.block k hk (fun hm => hn (hs k hk hm))⟩
/-- Of what was made behind the beginning nothing is said. -/
theorem ChgS.new (h : ChgS S a w) (k : ChgS T w w') (hT : ∀ i, i < a.heap.size → T i → S i) : ChgS S a w' :=
  ⟨k.os.trans h.os, k.tape.trans h.tape, k.output.trans h.output, Nat.le_trans h.size k.size, fun i hi hs => (k.block i (Nat.lt_of_lt_of_le hi h.size) (fun hm => hs (hT i hi hm))).trans (h.block i hi hs)⟩
theorem ChgS.of_below (h : Below w.heap.size w w') : ChgS S w w' := ⟨h.os, h.tape, h.output, h.size, fun k hk _ => h.block k hk⟩
theorem ChgS.below {B : Nat} (h : ChgS S w w') (hB : ∀ i, S i → B ≤ i) (hw : B ≤ w.heap.size) : Below B w w' :=
  ⟨h.os, h.tape, h.output, h.size, fun k hk => h.block k (by omega) (fun hs => by have := hB k hs; omega)⟩
theorem ChgS.alloc (h : ChgS S a w) (o : Obj) : ChgS S a (w.alloc o) := h.new (T := fun _ => False) (.of_below ((Below.refl _ w).alloc (Nat.le_refl _) o)) (fun _ _ h => h.elim)
theorem ChgS.drewN (h : ChgS S a w) (n : Nat) : ChgS S a (w.drewN n) := ⟨h.os, h.tape, h.output, h.size, h.block⟩
theorem ChgS.setCell (h : ChgS S a w) {p : Addr} (hp : S p.block ∨ a.heap.size ≤ p.block) (u : Value) : ChgS S a (w.setCell p u) :=
  h.new (T := fun k => k = p.block) ⟨rfl, rfl, rfl, by simp [World.setCell], fun k _ hk => Below.heap_setCell w p u k hk⟩ (fun i hi e => by
    rcases hp with hp | hp
    · rw [e]; exact hp
    · omega)
theorem ChgS.grown (h : ChgS S a w) {row : Option Nat} (hg : w.grownBy w' row) (hr : ∀ k, row = some k → S k ∨ a.heap.size ≤ k) : ChgS S a w' :=
  h.new (T := fun k => row = some k) ⟨hg.os, hg.tape, hg.output, hg.size, fun k hk hs => hg.block k hk (fun e => hs e.symm)⟩ (fun i hi e => by
    rcases hr i e with h | h
    · exact h
    · omega)
theorem Blk.chgS {g : Nat} {t : TypeId} {cs : Array Value} (h : Blk w g t cs) (hc : ChgS S w w') (hg : ¬ S g) : Blk w' g t cs := (hc.block g h.lt hg).trans h
theorem own_chgS {base : Nat} {e : TypeId} {size n : Nat} {v : Value} {xs : List Value} (h : w.ownsRow base e size v n xs) (hc : ChgS S w w') (hs : ∀ k, v.ownBlock = some k → ¬ S k) : w'.ownsRow base e size v n xs := by
  rcases h.2 with ⟨rfl, rfl⟩ | ⟨g, cap, cur, rfl, h1, h2, h3⟩
  · exact ⟨h.1, .inl ⟨rfl, rfl⟩⟩
  · have hlt : g < w.heap.size := (Array.getElem?_eq_some_iff.1 h2).1
    exact ⟨h.1, .inr ⟨g, cap, cur, rfl, h1, (hc.block g hlt (hs g rfl)).trans h2, h3⟩⟩
end
/-- A row that lies in a block of S. -/
def RowS (w : World) (S : Nat → Prop) (k : Nat) (A : Option Addr) (n : Nat) (xs : List Value) : Prop := xs.length = n * k ∧ (0 < n → ∃ a, A = some a ∧ S a.block ∧ a.block < w.heap.size ∧ ∀ j u, xs[j]? = some u → w.cell? (a.add j) = some u)
section
variable {S T : Nat → Prop} {w w' : World} {k n : Nat} {A : Option Addr} {xs : List Value}
theorem RowS.mono (h : RowS w S k A n xs) (hs : ∀ b, S b → T b) : RowS w T k A n xs :=
  ⟨h.1, fun hn => by
    obtain ⟨a, e, h1, h2⟩ := h.2 hn
    exact ⟨a, e, hs _ h1, h2⟩⟩
theorem RowS.chg (h : RowS w S k A n xs) (hc : ChgS T w w') (ht : ∀ b, S b → ¬ T b) : RowS w' S k A n xs :=
  ⟨h.1, fun hn => by
    obtain ⟨a, e, h1, h2, h3⟩ := h.2 hn
    refine ⟨a, e, h1, Nat.lt_of_lt_of_le h2 hc.size, fun j u hu => ?_⟩
    rw [← h3 j u hu]
    exact World.cell?_of_block (by rw [block_of_add]; exact hc.block _ h2 (ht _ h1))⟩
theorem RowS.reads (h : RowS w S k A n xs) : Reads w w.heap.size k A n xs :=
  ⟨h.1, fun hn => by
    obtain ⟨a, e, h1, h2, h3⟩ := h.2 hn
    exact ⟨a, e, h2, h3⟩⟩
theorem RowS.of_own {base : Nat} {e : TypeId} {c : Nat} (h : w.ownsRow base e k (.slice A n c) n xs) (hs : ∀ b, (Value.slice A n c).ownBlock = some b → S b) : RowS w S k A n xs := by
  have hr := Reads.of_own h
  refine ⟨hr.1, fun hn => ?_⟩
  obtain ⟨a, rfl, h1, h2⟩ := hr.2 hn
  refine ⟨a, rfl, hs _ ?_, h1, h2⟩
  rcases h.2 with ⟨h4, h5⟩ | ⟨g, cap, cur, h4, _⟩
  · cases h4
  · injection h4 with h4 _ _
    injection h4 with h4
    subst h4; rfl
end
end Go.Proofs.YtohggdfplmlinaaDoor
