/-
  Plain facts of layer 43, of no program: patterns, and which of them are valid. Conditions: none.
-/
import Derived.Test.YtipfhamhiaeieaaDoorPkV
namespace Go.Proofs.YtipfhamhiaeieaaDoor

/-- A pattern: Kind, Is, Not, Min, Max, L. -/
inductive Pt where
  | mk (k : Int) (s : Snd) (neg : Bool) (lo hi : Int) (l : List Pt)
mutual
def ptSize : Pt → Nat
  | .mk _ _ _ _ _ l => 1 + ptSizes l
def ptSizes : List Pt → Nat
  | [] => 0
  | p :: l => ptSize p + ptSizes l
end
theorem ptSize_mk (k : Int) (s : Snd) (neg : Bool) (lo hi : Int) (l : List Pt) : ptSize (.mk k s neg lo hi l) = 1 + ptSizes l := by rw [ptSize]
theorem ptSizes_nil : ptSizes [] = 0 := by rw [ptSizes]
theorem ptSizes_cons (p : Pt) (l : List Pt) : ptSizes (p :: l) = ptSize p + ptSizes l := by rw [ptSizes]
theorem ptSize_pos (p : Pt) : 0 < ptSize p := by
  obtain ⟨k, s, neg, lo, hi, l⟩ := p
  rw [ptSize_mk]; omega
theorem ptSizes_append (a b : List Pt) : ptSizes (a ++ b) = ptSizes a + ptSizes b := by
  induction a with
  | nil => rw [List.nil_append, ptSizes_nil, Nat.zero_add]
  | cons p l ih => rw [List.cons_append, ptSizes_cons, ptSizes_cons, ih, Nat.add_assoc]
theorem ptSizes_len (l : List Pt) : l.length ≤ ptSizes l := by
  induction l with
  | nil => exact Nat.zero_le _
  | cons p l ih => rw [ptSizes_cons, List.length_cons]; have := ptSize_pos p; omega
theorem ptSize_mem {p : Pt} {l : List Pt} (h : p ∈ l) : ptSize p ≤ ptSizes l := by
  induction l with
  | nil => cases h
  | cons q l ih =>
    rw [ptSizes_cons]
    rcases List.mem_cons.1 h with rfl | h
    · omega
    · have := ih h; omega
theorem ptSizes_take (l : List Pt) (k : Nat) : ptSizes (l.take k) ≤ ptSizes l := by
  have := ptSizes_append (l.take k) (l.drop k)
  rw [List.take_append_drop] at this
  omega
/-- Whether a node is allowed, apart from the nodes below it. -/
def nodeOk (k : Int) (s : Snd) (neg : Bool) (lo hi : Int) (n : Nat) : Bool :=
  if k = 1 then decide (lo = 0 ∧ hi = 0 ∧ n = 0) && validS s
  else decide (s = (0, 0)) && !neg && (if k = 0 ∨ k = 2 ∨ k = 6 then decide (lo = 0 ∧ hi = 0 ∧ n = 0) else if k = 3 ∨ k = 4 then decide (lo = 0 ∧ hi = 0) else if k = 5 then decide (n = 1 ∧ 0 ≤ lo ∧ lo ≤ 32 ∧ (hi = -1 ∨ (lo ≤ hi ∧ hi ≤ 32))) else false)
mutual
def ptOk : Pt → Bool
  | .mk k s neg lo hi l => nodeOk k s neg lo hi l.length && ptsOk l
def ptsOk : List Pt → Bool
  | [] => true
  | p :: l => ptOk p && ptsOk l
end
theorem ptOk_mk (k : Int) (s : Snd) (neg : Bool) (lo hi : Int) (l : List Pt) : ptOk (.mk k s neg lo hi l) = (nodeOk k s neg lo hi l.length && ptsOk l) := by rw [ptOk]
theorem ptsOk_nil : ptsOk [] = true := by rw [ptsOk]
theorem ptsOk_cons (p : Pt) (l : List Pt) : ptsOk (p :: l) = (ptOk p && ptsOk l) := by rw [ptsOk]
theorem ptsOk_append (a b : List Pt) : ptsOk (a ++ b) = (ptsOk a && ptsOk b) := by
  induction a with
  | nil => rw [List.nil_append, ptsOk_nil, Bool.true_and]
  | cons p l ih => rw [List.cons_append, ptsOk_cons, ptsOk_cons, ih, Bool.and_assoc]
theorem ptsOk_mem {p : Pt} {l : List Pt} (h : p ∈ l) (hl : ptsOk l = true) : ptOk p = true := by
  induction l with
  | nil => cases h
  | cons q l ih =>
    rw [ptsOk_cons, Bool.and_eq_true] at hl
    rcases List.mem_cons.1 h with rfl | h
    · exact hl.1
    · exact ih h hl.2
/-- Whether a pattern is valid. -/
def patOk (p : Pt) : Bool := ptOk p && decide (ptSize p ≤ 40)
/-! Patterns as bytes. -/
mutual
def patB : Pt → List Nat
  | .mk k s neg lo hi l => numB k.toNat ++ (if k = 1 then sndB s ++ numB (if neg then 1 else 0) else if k = 3 ∨ k = 4 then numB l.length ++ patsB l else if k = 5 then numB lo.toNat ++ (numB (hi + 1).toNat ++ patsB l) else [])
def patsB : List Pt → List Nat
  | [] => []
  | p :: l => patB p ++ patsB l
end
theorem patB_mk (k : Int) (s : Snd) (neg : Bool) (lo hi : Int) (l : List Pt) :
    patB (.mk k s neg lo hi l) = numB k.toNat ++ (if k = 1 then sndB s ++ numB (if neg then 1 else 0) else if k = 3 ∨ k = 4 then numB l.length ++ patsB l else if k = 5 then numB lo.toNat ++ (numB (hi + 1).toNat ++ patsB l) else []) := by rw [patB]
theorem patsB_nil : patsB [] = [] := by rw [patsB]
theorem patsB_cons (p : Pt) (l : List Pt) : patsB (p :: l) = patB p ++ patsB l := by rw [patsB]
theorem patsB_flat (l : List Pt) : patsB l = l.flatMap patB := by
  induction l with
  | nil => rw [patsB_nil]; rfl
  | cons p l ih => rw [patsB_cons, ih]; rfl
/-- What the nodes of a valid pattern are like. -/
theorem nodeOk_cases {k : Int} {s : Snd} {neg : Bool} {lo hi : Int} {n : Nat} (h : nodeOk k s neg lo hi n = true) :
    (k = 1 ∧ lo = 0 ∧ hi = 0 ∧ n = 0) ∨ ((k = 0 ∨ k = 2 ∨ k = 6) ∧ n = 0) ∨ (k = 3 ∨ k = 4) ∨ (k = 5 ∧ n = 1 ∧ 0 ≤ lo ∧ lo ≤ 32 ∧ -1 ≤ hi ∧ hi ≤ 32) := by
  unfold nodeOk at h
  by_cases h1 : k = 1
  · rw [if_pos h1, Bool.and_eq_true, decide_eq_true_iff] at h
    exact .inl ⟨h1, h.1⟩
  · rw [if_neg h1, Bool.and_eq_true, Bool.and_eq_true] at h
    obtain ⟨_, h⟩ := h
    by_cases h2 : k = 0 ∨ k = 2 ∨ k = 6
    · rw [if_pos h2, decide_eq_true_iff] at h
      exact .inr (.inl ⟨h2, h.2.2⟩)
    · rw [if_neg h2] at h
      by_cases h3 : k = 3 ∨ k = 4
      · exact .inr (.inr (.inl h3))
      · rw [if_neg h3] at h
        by_cases h5 : k = 5
        · rw [if_pos h5, decide_eq_true_iff] at h
          refine .inr (.inr (.inr ⟨h5, h.1, h.2.1, h.2.2.1, ?_⟩))
          rcases h.2.2.2 with h | h <;> omega
        · rw [if_neg h5] at h; cases h
mutual
theorem patB_len : ∀ p : Pt, (patB p).length ≤ 20 * ptSize p
  | .mk k s neg lo hi l => by
    rw [patB_mk, ptSize_mk, List.length_append]
    have h1 := patsB_len l
    have n1 : ∀ n, (numB n).length ≤ 5 := fun n => numK_len 5 n
    have h2 := n1 k.toNat
    have hs : (sndB s).length ≤ 10 := by
      show (numB s.1 ++ numB s.2).length ≤ 10
      rw [List.length_append]
      have := n1 s.1
      have := n1 s.2
      omega
    split
    · rw [List.length_append]
      have := n1 (if neg then 1 else 0)
      omega
    · split
      · rw [List.length_append]
        have := n1 l.length
        omega
      · split
        · rw [List.length_append, List.length_append]
          have := n1 lo.toNat
          have := n1 (hi + 1).toNat
          omega
        · rw [List.length_nil]; omega
theorem patsB_len : ∀ l : List Pt, (patsB l).length ≤ 20 * ptSizes l
  | [] => by rw [patsB_nil]; exact Nat.zero_le _
  | p :: l => by
    rw [patsB_cons, ptSizes_cons, List.length_append]
    have := patB_len p
    have := patsB_len l
    omega
end
end Go.Proofs.YtipfhamhiaeieaaDoor
