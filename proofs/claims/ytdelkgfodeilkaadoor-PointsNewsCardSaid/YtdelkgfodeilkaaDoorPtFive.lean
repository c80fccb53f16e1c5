/-
  layer 36: the map of the examples, in plain words. Conditions: none.
-/
import Derived.Test.YtdelkgfodeilkaaDoorPtR
import Derived.Test.YtdelkgfodeilkaaDoorPtY
namespace Go.Proofs.YtdelkgfodeilkaaDoor
open Go.RowKit Go.Lib

def names5 : List ByteArray := [⟨#[97]⟩, ⟨#[98]⟩, ⟨#[99]⟩, ⟨#[100]⟩, ⟨#[101]⟩]
def roads5 : List Rd := [(0, 1, 4), (1, 2, 3), (0, 2, 9), (2, 3, 1)]
theorem ok5 : newE names5 roads5 = 0 := by decide +kernel
abbrev M5 : Pts := newM names5 roads5
theorem near5 : M5.near = [[(1, 4), (2, 9)], [(0, 4), (2, 3)], [(0, 9), (1, 3), (3, 1)], [(2, 1)], []] := by
  have h : nearU 5 roads5 = [[(1, 4), (2, 9)], [(0, 4), (2, 3)], [(1, 3), (0, 9), (3, 1)], [(2, 1)], []] := by decide +kernel
  show (nearU 5 roads5).map (fun l => l.mergeSort endLe) = _
  rw [h]
  have s1 : [((1 : Nat), (4 : Int)), (2, 9)] = [((1 : Nat), (4 : Int)), (2, 9)].mergeSort endLe := sorted_unique (by decide) (List.Perm.refl _) (by decide)
  have s2 : [((0 : Nat), (4 : Int)), (2, 3)] = [((0 : Nat), (4 : Int)), (2, 3)].mergeSort endLe := sorted_unique (by decide) (List.Perm.refl _) (by decide)
  have s3 : [((0 : Nat), (9 : Int)), (1, 3), (3, 1)] = [((1 : Nat), (3 : Int)), (0, 9), (3, 1)].mergeSort endLe := sorted_unique (by decide) (List.Perm.swap _ _ _) (by decide)
  have s4 : [((2 : Nat), (1 : Int))] = [((2 : Nat), (1 : Int))].mergeSort endLe := sorted_unique (by decide) (List.Perm.refl _) (by decide)
  have s5 : ([] : List (Nat × Int)) = ([] : List (Nat × Int)).mergeSort endLe := sorted_unique (by decide) (List.Perm.refl _) (by decide)
  simp only [List.map_cons, List.map_nil]
  rw [← s1, ← s2, ← s3, ← s4, ← s5]
theorem edge5 (u v : Nat) (l : Int) : edgeOf M5 u v l ↔ (u, v, l) ∈ [((0 : Nat), (1 : Nat), (4 : Int)), (0, 2, 9), (1, 0, 4), (1, 2, 3), (2, 0, 9), (2, 1, 3), (2, 3, 1), (3, 2, 1)] := by
  rw [edge_new ok5]
  constructor
  · rintro ⟨x, hx, hr⟩
    simp only [roads5, List.mem_cons, List.not_mem_nil, or_false] at hx
    rcases hr with ⟨h1, h2, h3⟩ | ⟨h1, h2, h3⟩
    · obtain rfl : u = x.1.toNat := by omega
      obtain rfl : v = x.2.1.toNat := by omega
      obtain rfl : l = x.2.2 := h3.symm
      clear h1 h2 h3
      rcases hx with rfl | rfl | rfl | rfl <;> decide
    · obtain rfl : v = x.1.toNat := by omega
      obtain rfl : u = x.2.1.toNat := by omega
      obtain rfl : l = x.2.2 := h3.symm
      clear h1 h2 h3
      rcases hx with rfl | rfl | rfl | rfl <;> decide
  · intro h
    simp only [List.mem_cons, Prod.mk.injEq, List.not_mem_nil, or_false] at h
    rcases h with ⟨rfl, rfl, rfl⟩ | ⟨rfl, rfl, rfl⟩ | ⟨rfl, rfl, rfl⟩ | ⟨rfl, rfl, rfl⟩ | ⟨rfl, rfl, rfl⟩ | ⟨rfl, rfl, rfl⟩ | ⟨rfl, rfl, rfl⟩ | ⟨rfl, rfl, rfl⟩
    · exact ⟨(0, 1, 4), by simp [roads5], .inl ⟨rfl, rfl, rfl⟩⟩
    · exact ⟨(0, 2, 9), by simp [roads5], .inl ⟨rfl, rfl, rfl⟩⟩
    · exact ⟨(0, 1, 4), by simp [roads5], .inr ⟨rfl, rfl, rfl⟩⟩
    · exact ⟨(1, 2, 3), by simp [roads5], .inl ⟨rfl, rfl, rfl⟩⟩
    · exact ⟨(0, 2, 9), by simp [roads5], .inr ⟨rfl, rfl, rfl⟩⟩
    · exact ⟨(1, 2, 3), by simp [roads5], .inr ⟨rfl, rfl, rfl⟩⟩
    · exact ⟨(2, 3, 1), by simp [roads5], .inl ⟨rfl, rfl, rfl⟩⟩
    · exact ⟨(2, 3, 1), by simp [roads5], .inr ⟨rfl, rfl, rfl⟩⟩
def row5 (a v : Nat) : Int := (([[0, 4, 7, 8, -1], [4, 0, 3, 4, -1], [7, 3, 0, 1, -1], [8, 4, 1, 0, -1], [-1, -1, -1, -1, 0]] : List (List Int)).getD a []).getD v (-1)
theorem dist5 (a : Nat) (ha : a < 5) (v : Nat) : distM M5 a v = row5 a v := by
  refine (good_new ok5).eq ?_ v
  have hbig : ∀ v, 5 ≤ v → row5 a v = -1 := by
    intro v hv
    unfold row5
    have : a = 0 ∨ a = 1 ∨ a = 2 ∨ a = 3 ∨ a = 4 := by omega
    rcases this with rfl | rfl | rfl | rfl | rfl <;> (show List.getD _ v (-1) = -1; rw [List.getD_eq_getElem?_getD, List.getElem?_eq_none (by simpa using hv)]; rfl)
  refine ⟨?_, fun v => ?_, fun u v l he h0 => ?_, fun v h0 => ?_⟩
  · have : ∀ a : Fin 5, row5 a.val a.val = 0 := by decide
    exact this ⟨a, ha⟩
  · by_cases hv : v < 5
    · have : ∀ a v : Fin 5, -1 ≤ row5 a.val v.val := by decide
      exact this ⟨a, ha⟩ ⟨v, hv⟩
    · rw [hbig v (by omega)]; omega
  · rw [edge5] at he
    have : ∀ a : Fin 5, ∀ e ∈ [((0 : Nat), (1 : Nat), (4 : Int)), (0, 2, 9), (1, 0, 4), (1, 2, 3), (2, 0, 9), (2, 1, 3), (2, 3, 1), (3, 2, 1)], 0 ≤ row5 a.val e.1 → 0 ≤ row5 a.val e.2.1 ∧ row5 a.val e.2.1 ≤ row5 a.val e.1 + e.2.2 := by decide
    exact this ⟨a, ha⟩ (u, v, l) he h0
  · by_cases hv : v < 5
    · have : ∀ a v : Fin 5, 0 ≤ row5 a.val v.val → v.val = a.val ∨ ∃ e ∈ [((0 : Nat), (1 : Nat), (4 : Int)), (0, 2, 9), (1, 0, 4), (1, 2, 3), (2, 0, 9), (2, 1, 3), (2, 3, 1), (3, 2, 1)], e.2.1 = v.val ∧ 0 ≤ row5 a.val e.1 ∧ row5 a.val v.val = row5 a.val e.1 + e.2.2 := by decide
      rcases this ⟨a, ha⟩ ⟨v, hv⟩ h0 with h | ⟨⟨u, v', l⟩, hm, hv', h1, h2⟩
      · exact .inl h
      · simp only at hv' h1 h2
        subst hv'
        exact .inr ⟨u, l, (edge5 _ _ _).2 hm, h1, h2⟩
    · rw [hbig v (by omega)] at h0; omega
theorem len5 : M5.n = 5 := rfl
theorem distS5 : distS M5 0 2 = (7, true) := by
  unfold distS
  rw [if_pos (by unfold inM; rw [len5]; decide), show (0 : Int).toNat = 0 from rfl, show (2 : Int).toNat = 2 from rfl, dist5 0 (by decide)]; rfl
theorem labels5 : labelsS M5 = [0, 0, 0, 0, 4] := by
  unfold labelsS
  rw [len5]
  have h : ∀ b, labK M5 5 b = (((List.range 5).find? fun c => decide (0 ≤ row5 c b)).map fun (c : Nat) => (c : Int)).getD (-1) := by
    intro b
    unfold labK firstC
    have : (List.range 5).find? (fun c => decide (0 ≤ distM M5 c b)) = (List.range 5).find? (fun c => decide (0 ≤ row5 c b)) := by
      have key : ∀ l : List Nat, (∀ x ∈ l, x < 5) → l.find? (fun c => decide (0 ≤ distM M5 c b)) = l.find? (fun c => decide (0 ≤ row5 c b)) := by
        intro l
        induction l with
        | nil => intro _; rfl
        | cons x l ih =>
          intro hx
          rw [List.find?_cons, List.find?_cons, dist5 x (hx x (by simp)), ih (fun y hy => hx y (by simp [hy]))]
      exact key _ (fun x hx => List.mem_range.1 hx)
    rw [this]
    cases (List.range 5).find? (fun c => decide (0 ≤ row5 c b)) <;> rfl
  rw [List.map_congr_left fun b _ => h b]
  decide
theorem within5 : withinS M5 1 4 = [0, 1, 2, 3] := by
  unfold withinS
  rw [if_pos (by unfold inM; rw [len5]; decide)]
  unfold withinL
  rw [len5, show (1 : Int).toNat = 1 from rfl]
  have : (fun b => decide (0 ≤ distM M5 1 b) && decide (distM M5 1 b ≤ 4)) = fun b => decide (0 ≤ row5 1 b) && decide (row5 1 b ≤ 4) := by funext b; rw [dist5 1 (by decide)]
  rw [this]; decide
theorem way5 : wayS M5 0 2 = [0, 1, 2] := by
  unfold wayS
  rw [if_pos (by unfold inM; rw [len5]; decide)]
  unfold wayL
  rw [show (0 : Int).toNat = 0 from rfl, show (2 : Int).toNat = 2 from rfl, dist5 2 (by decide), if_pos (by decide), show (row5 2 0).toNat = 7 from rfl]
  have st : ∀ at_, stepM M5 2 at_ = (M5.near.getD at_ []).find? fun e => row5 2 e.1 + e.2 == row5 2 at_ := by
    intro at_
    unfold stepM
    congr 1
    funext e
    rw [dist5 2 (by decide), dist5 2 (by decide)]
  have s0 : stepM M5 2 0 = some (1, 4) := by rw [st, near5]; decide
  have s1 : stepM M5 2 1 = some (2, 3) := by rw [st, near5]; decide
  simp only [wayF, s0, s1]
  decide
end Go.Proofs.YtdelkgfodeilkaaDoor
