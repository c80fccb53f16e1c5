/-
  layer 4: sizes of what is written; what a change of some blocks leaves. Conditions: a notation in memory.
-/
import Derived.Test.YtohggdfplmlinaaDoorNtE
namespace Go.Proofs.YtohggdfplmlinaaDoor
open Go.RowKit Go.Lib

theorem ChgS.low {w w' : World} {S : Nat → Prop} {B : Nat} (h : ChgS S w w') (hS : ∀ b, S b → B ≤ b) (hw : B ≤ w.heap.size) : Below B w w' := h.below hS hw
theorem NotN.lens {w : World} {S : Nat → Prop} {g N : Nat} {fs : List ByteArray} {L : List Nam} {ms : List Mk} (h : NotN w S g fs L ms N) : (∀ x ∈ L, x.1.size ≤ 4) ∧ (∀ m ∈ ms, m.text.size ≤ 3) := by
  obtain ⟨gi, A, c, bm, n, f, -, h2, -, -, -, -, h6⟩ := h
  exact ⟨fun x hx => sym_size (h2.ok.sym x hx).1, mark_size h6⟩
section
variable {L : List Nam} {ms : List Mk}
theorem printK_len (hL : ∀ x ∈ L, x.1.size ≤ 4) (hm : ∀ m ∈ ms, m.text.size ≤ 3) : ∀ (rest done : List Snd) (out o : List UInt8), printK L ms done out rest = some o → o.length ≤ out.length + 11 * rest.length
  | [], _, out, o, h => by
    injection h with h
    subst h
    exact Nat.le_add_right _ _
  | s :: rest, done, out, o, h => by
    by_cases hb : bestS L ms s = []
    · have := printK_none h hb
      cases this
    · have := printK_len hL hm rest _ _ o (printK_next h hb)
      have h1 := joinS_len (L := L) (ms := ms) done out (bestS L ms s) s
      have h2 := bestS_len (s := s) hL hm (Nat.le_refl 10)
      rw [List.length_cons]
      omega
theorem printR_len (hL : ∀ x ∈ L, x.1.size ≤ 4) (hm : ∀ m ∈ ms, m.text.size ≤ 3) (ws : List Snd) : (printR L ms ws).1.length ≤ 352 := by
  unfold printR
  split
  · rename_i hE
    have h32 : ws.length ≤ 32 := by
      unfold wordE at hE
      split at hE
      · cases hE
      · omega
    cases hk : printK L ms [] [] ws with
    | none => exact Nat.zero_le _
    | some o =>
      have := printK_len hL hm ws [] [] o hk
      simp only [List.length_nil] at this
      show o.length ≤ 352
      omega
  · exact Nat.zero_le _
end
end Go.Proofs.YtohggdfplmlinaaDoor
