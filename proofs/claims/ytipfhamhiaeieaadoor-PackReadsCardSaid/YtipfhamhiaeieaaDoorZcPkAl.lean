/-
  layer 43: whether a node of a pattern is allowed, as the program asks it. Conditions: numbers of 32 bits.
-/
import Derived.Test.YtipfhamhiaeieaaDoorZcPkFt
namespace Go.Proofs.YtipfhamhiaeieaaDoor
open Go.RowKit Go.Lib

/-- An error that is 0 exactly if something is so. -/
def ErrIff (w : World) (ok : Bool) (e : Ending) (w' : World) : Prop := ∃ x : Int, e = .returned (.int .i64 x) ∧ (x = 0 ↔ ok = true) ∧ Below w.heap.size w w'
theorem below2 {w : World} {o1 o2 : Obj} : Below w.heap.size w ((w.alloc o1).alloc o2) := ((Below.refl _ w).alloc (Nat.le_refl _) _).alloc (by simp) _
theorem below3 {w w1 : World} {o1 o2 : Obj} (h : Below ((w.alloc o1).alloc o2).heap.size ((w.alloc o1).alloc o2) w1) : Below w.heap.size w w1 := below2.trans (h.mono (by simp; omega))
theorem below1 {w : World} {o1 : Obj} : Below w.heap.size w (w.alloc o1) := (Below.refl _ w).alloc (Nat.le_refl _) _
theorem iff_no {x : Int} {b : Bool} (hx : x ≠ 0) (hb : b = false) : x = 0 ↔ b = true := ⟨fun h => absurd h hx, fun h => by rw [hb] at h; cases h⟩
theorem iff_yes {b : Bool} (hb : b = true) : (0 : Int) = 0 ↔ b = true := ⟨fun _ => hb, fun _ => rfl⟩
set_option maxRecDepth 20000 in
set_option maxHeartbeats 8000000 in
theorem allowed_026 (k : Int) (hk : k = 0 ∨ k = 2 ∨ k = 6) (a b : Nat) (neg : Bool) (lo hi : Int) (A : Option Addr) (n c : Nat) (w : World)  :
    Calls Tryd.prog 89 #[patV k (a, b) neg lo hi (.slice A n c)] w (ErrIff w (nodeOk k (a, b) neg lo hi n)) := by
  have hv := fun W => pvalid_any (0, 0) W ⟨by unfold is32; decide, by unfold is32; decide⟩
  have hv0 : validS (0, 0) = true := by decide
  rw [hv0] at hv
  have HV := Lib.hid hv
  clear hv hv0
  have hno : nodeOk k (a, b) neg lo hi n = (decide ((a, b) = ((0 : Nat), (0 : Nat))) && !neg && decide (lo = 0 ∧ hi = 0 ∧ n = 0)) := by unfold nodeOk; rw [if_neg (by omega), if_pos hk]
  rw [hno]
  clear hno
  obtain ⟨res, hres⟩ : ∃ res, (decide ((a, b) = ((0 : Nat), (0 : Nat))) && !neg && decide (lo = 0 ∧ hi = 0 ∧ n = 0)) = res := ⟨_, rfl⟩
  rw [hres]
  have HRES := Lib.hid hres
  clear hres
  rcases hk with rfl | rfl | rfl
  all_goals
    go_enter Tryd.func89, Tryd.ntmps89
    go_wp2_with (go_at_call 105; refine (HV.out _).mono ?_; rintro e w1 ⟨rfl, hb1⟩)
    all_goals go_ret
    all_goals first
      | (refine ⟨2, rfl, iff_no (by decide) ?_, below2⟩; rw [← HRES.out]; simp [*]; done)
      | (refine ⟨2, rfl, iff_no (by decide) ?_, below2⟩; rw [← HRES.out]; simp [*]; omega)
      | (refine ⟨0, rfl, iff_yes ?_, below3 hb1⟩; rw [← HRES.out]; simp [*]; done)
      | (refine ⟨0, rfl, iff_yes ?_, below3 hb1⟩; rw [← HRES.out]; simp [*]; omega)
      | (refine ⟨14, rfl, iff_no (by decide) ?_, below3 hb1⟩; rw [← HRES.out]; simp [*]; done)
      | (refine ⟨0, rfl, iff_yes ?_, below3 hb1⟩; rw [← HRES.out]; simp_all; omega)
set_option maxRecDepth 20000 in
set_option maxHeartbeats 8000000 in
theorem allowed_34 (k : Int) (hk : k = 3 ∨ k = 4) (a b : Nat) (neg : Bool) (lo hi : Int) (A : Option Addr) (n c : Nat) (w : World)  :
    Calls Tryd.prog 89 #[patV k (a, b) neg lo hi (.slice A n c)] w (ErrIff w (nodeOk k (a, b) neg lo hi n)) := by
  have hv := fun W => pvalid_any (0, 0) W ⟨by unfold is32; decide, by unfold is32; decide⟩
  have hv0 : validS (0, 0) = true := by decide
  rw [hv0] at hv
  have HV := Lib.hid hv
  clear hv hv0
  have hno : nodeOk k (a, b) neg lo hi n = (decide ((a, b) = ((0 : Nat), (0 : Nat))) && !neg && decide (lo = 0 ∧ hi = 0)) := by unfold nodeOk; rw [if_neg (by omega), if_neg (by omega), if_pos hk]
  rw [hno]
  clear hno
  obtain ⟨res, hres⟩ : ∃ res, (decide ((a, b) = ((0 : Nat), (0 : Nat))) && !neg && decide (lo = 0 ∧ hi = 0)) = res := ⟨_, rfl⟩
  rw [hres]
  have HRES := Lib.hid hres
  clear hres
  rcases hk with rfl | rfl
  all_goals
    go_enter Tryd.func89, Tryd.ntmps89
    go_wp2_with (go_at_call 105; refine (HV.out _).mono ?_; rintro e w1 ⟨rfl, hb1⟩)
    all_goals go_ret
    all_goals first
      | (refine ⟨2, rfl, iff_no (by decide) ?_, below2⟩; rw [← HRES.out]; simp [*]; done)
      | (refine ⟨2, rfl, iff_no (by decide) ?_, below2⟩; rw [← HRES.out]; simp [*]; omega)
      | (refine ⟨0, rfl, iff_yes ?_, below3 hb1⟩; rw [← HRES.out]; simp [*]; done)
      | (refine ⟨0, rfl, iff_yes ?_, below3 hb1⟩; rw [← HRES.out]; simp [*]; omega)
      | (refine ⟨14, rfl, iff_no (by decide) ?_, below3 hb1⟩; rw [← HRES.out]; simp [*]; done)
      | (refine ⟨0, rfl, iff_yes ?_, below3 hb1⟩; rw [← HRES.out]; simp_all; omega)
set_option maxRecDepth 20000 in
set_option maxHeartbeats 8000000 in
theorem allowed_1 (k : Int) (hk : k = 1) (a b : Nat) (neg : Bool) (lo hi : Int) (A : Option Addr) (n c : Nat) (w : World) (h32 : ok32 (a, b)) :
    Calls Tryd.prog 89 #[patV k (a, b) neg lo hi (.slice A n c)] w (ErrIff w (nodeOk k (a, b) neg lo hi n)) := by
  have hv := fun W => pvalid_any (a, b) W h32
  have HV := Lib.hid hv
  clear hv
  have hno : nodeOk k (a, b) neg lo hi n = (decide (lo = 0 ∧ hi = 0 ∧ n = 0) && validS (a, b)) := by unfold nodeOk; rw [if_pos hk]
  rw [hno]
  clear hno
  generalize validS (a, b) = va at *
  obtain ⟨res, hres⟩ : ∃ res, (decide (lo = 0 ∧ hi = 0 ∧ n = 0) && va) = res := ⟨_, rfl⟩
  rw [hres]
  have HRES := Lib.hid hres
  clear hres h32
  subst hk
  cases va
  all_goals
    go_enter Tryd.func89, Tryd.ntmps89
    go_wp2_with (go_at_call 105; refine (HV.out _).mono ?_; rintro e w1 ⟨rfl, hb1⟩)
    all_goals go_ret
    all_goals first
      | (refine ⟨2, rfl, iff_no (by decide) ?_, below2⟩; rw [← HRES.out]; simp [*]; done)
      | (refine ⟨2, rfl, iff_no (by decide) ?_, below2⟩; rw [← HRES.out]; simp [*]; omega)
      | (refine ⟨0, rfl, iff_yes ?_, below3 hb1⟩; rw [← HRES.out]; simp [*]; done)
      | (refine ⟨0, rfl, iff_yes ?_, below3 hb1⟩; rw [← HRES.out]; simp [*]; omega)
      | (refine ⟨14, rfl, iff_no (by decide) ?_, below3 hb1⟩; rw [← HRES.out]; simp [*]; done)
      | (refine ⟨0, rfl, iff_yes ?_, below3 hb1⟩; rw [← HRES.out]; simp_all; omega)
set_option maxRecDepth 20000 in
set_option maxHeartbeats 8000000 in
theorem allowed_5 (k : Int) (hk : k = 5) (a b : Nat) (neg : Bool) (lo hi : Int) (A : Option Addr) (n c : Nat) (w : World)  :
    Calls Tryd.prog 89 #[patV k (a, b) neg lo hi (.slice A n c)] w (ErrIff w (nodeOk k (a, b) neg lo hi n)) := by
  have hv := fun W => pvalid_any (0, 0) W ⟨by unfold is32; decide, by unfold is32; decide⟩
  have hv0 : validS (0, 0) = true := by decide
  rw [hv0] at hv
  have HV := Lib.hid hv
  clear hv hv0
  have hno : nodeOk k (a, b) neg lo hi n = (decide ((a, b) = ((0 : Nat), (0 : Nat))) && !neg && decide (n = 1 ∧ 0 ≤ lo ∧ lo ≤ 32 ∧ (hi = -1 ∨ (lo ≤ hi ∧ hi ≤ 32)))) := by unfold nodeOk; rw [if_neg (by omega), if_neg (by omega), if_neg (by omega), if_pos hk]
  rw [hno]
  clear hno
  obtain ⟨res, hres⟩ : ∃ res, (decide ((a, b) = ((0 : Nat), (0 : Nat))) && !neg && decide (n = 1 ∧ 0 ≤ lo ∧ lo ≤ 32 ∧ (hi = -1 ∨ (lo ≤ hi ∧ hi ≤ 32)))) = res := ⟨_, rfl⟩
  rw [hres]
  have HRES := Lib.hid hres
  clear hres
  subst hk
  all_goals
    go_enter Tryd.func89, Tryd.ntmps89
    go_wp2_with (go_at_call 105; refine (HV.out _).mono ?_; rintro e w1 ⟨rfl, hb1⟩)
    all_goals go_ret
    all_goals first
      | (refine ⟨2, rfl, iff_no (by decide) ?_, below2⟩; rw [← HRES.out]; simp [*]; done)
      | (refine ⟨2, rfl, iff_no (by decide) ?_, below2⟩; rw [← HRES.out]; simp [*]; omega)
      | (refine ⟨0, rfl, iff_yes ?_, below3 hb1⟩; rw [← HRES.out]; simp [*]; done)
      | (refine ⟨0, rfl, iff_yes ?_, below3 hb1⟩; rw [← HRES.out]; simp [*]; omega)
      | (refine ⟨14, rfl, iff_no (by decide) ?_, below3 hb1⟩; rw [← HRES.out]; simp [*]; done)
      | (refine ⟨0, rfl, iff_yes ?_, below3 hb1⟩; rw [← HRES.out]; simp_all; omega)
theorem allowed_else (k : Int) (h0 : ¬ k = 0) (h1 : ¬ k = 1) (h2 : ¬ k = 2) (h3 : ¬ k = 3) (h4 : ¬ k = 4) (h5 : ¬ k = 5) (h6 : ¬ k = 6) (a b : Nat) (neg : Bool) (lo hi : Int) (A : Option Addr) (n c : Nat) (w : World) :
    Calls Tryd.prog 89 #[patV k (a, b) neg lo hi (.slice A n c)] w (ErrIff w (nodeOk k (a, b) neg lo hi n)) := by
  have hno : nodeOk k (a, b) neg lo hi n = false := by unfold nodeOk; rw [if_neg (by omega), if_neg (by omega), if_neg (by omega), if_neg (by omega), Bool.and_false]
  rw [hno]
  clear hno
  go_enter Tryd.func89, Tryd.ntmps89
  go_wp2_with fail
  go_ret
  exact ⟨2, rfl, iff_no (by decide) rfl, below2⟩
theorem allowed_any (k : Int) (s : Snd) (neg : Bool) (lo hi : Int) (A : Option Addr) (n c : Nat) (w : World) (h32 : ok32 s) :
    Calls Tryd.prog 89 #[patV k s neg lo hi (.slice A n c)] w (ErrIff w (nodeOk k s neg lo hi n)) := by
  obtain ⟨a, b⟩ := s
  by_cases h0 : k = 0 ∨ k = 2 ∨ k = 6
  · exact allowed_026 k h0 a b neg lo hi A n c w
  · by_cases h3 : k = 3 ∨ k = 4
    · exact allowed_34 k h3 a b neg lo hi A n c w
    · by_cases h1 : k = 1
      · exact allowed_1 k h1 a b neg lo hi A n c w h32
      · by_cases h5 : k = 5
        · exact allowed_5 k h5 a b neg lo hi A n c w
        · exact allowed_else k (by omega) h1 (by omega) (by omega) (by omega) h5 (by omega) a b neg lo hi A n c w
end Go.Proofs.YtipfhamhiaeieaaDoor
