/-
  layer 36: Dist of the program. Conditions: nil, or a map that New made (or the zero one).
-/
import Derived.Test.YtdelkgfodeilkaaDoorPtW
import Derived.Test.YtdelkgfodeilkaaDoorPtS
namespace Go.Proofs.YtdelkgfodeilkaaDoor
open Go.RowKit Go.Lib

noncomputable def distO : Option Pts → Int → Int → Int × Bool
  | none, _, _ => (0, false)
  | some M, a, b => distS M a b
def inO (om : Option Pts) (a : Int) : Prop := 0 ≤ a ∧ a < (lenO om : Nat)
theorem inO_some {M : Pts} {a : Int} : inO (some M) a ↔ inM M a := Iff.rfl
/-- A row of distances at a point. -/
theorem row_cell {w : World} {q N : Nat} {r : Nat → Int} (h : Blk w q 2 (rowA N r).toArray) {x : Nat} (hx : x < N) : w.cell? ⟨q, x, none⟩ = some (.int .i64 (r x)) := (Blk.cell h x).trans (rowA_get r hx)
theorem hasP_yes {p : Option Addr} {om : Option Pts} {a : Int} {w : World} (h : MapO w p om) (ha : inO om a) : Calls Tryd.prog 48 #[.pointer p, .int .i64 a] w fun e w' => e = .returned (.bool true) ∧ w = w' := by
  have := hasP_any p om a w h
  rwa [decide_eq_true ha.1, decide_eq_true ha.2] at this
theorem hasP_no {p : Option Addr} {om : Option Pts} {a : Int} {w : World} (h : MapO w p om) (ha : ¬ inO om a) : Calls Tryd.prog 48 #[.pointer p, .int .i64 a] w fun e w' => e = .returned (.bool false) ∧ w = w' := by
  have := hasP_any p om a w h
  have hd : (decide (0 ≤ a) && decide (a < (lenO om : Nat))) = false := by
    rw [Bool.and_eq_false_iff, decide_eq_false_iff_not, decide_eq_false_iff_not]; unfold inO at ha; omega
  rwa [hd] at this
/-- A map of New, or none. -/
def GoodO (om : Option Pts) : Prop := ∀ M, om = some M → GoodM M
theorem inO_open {w : World} {p : Option Addr} {om : Option Pts} {a : Int} (h : MapO w p om) (hG : GoodO om) (ha : inO om a) : ∃ g M k, p = some ⟨g, 0, none⟩ ∧ om = some M ∧ MapAt w g M ∧ GoodM M ∧ a = (k : Nat) ∧ k < M.names.length := by
  cases om with
  | none => exact absurd ha.2 (by have := ha.1; show ¬ a < ((0 : Nat) : Int); omega)
  | some M =>
    obtain ⟨g, rfl, hM⟩ := h
    have h1 := ha.1
    have h2 : a < (M.names.length : Int) := ha.2
    exact ⟨g, M, a.toNat, rfl, rfl, hM, hG M rfl, by omega, by omega⟩
theorem distO_out {om : Option Pts} {a b : Int} (h : ¬ (inO om a ∧ inO om b)) : distO om a b = (0, false) := by
  cases om with
  | none => rfl
  | some M => show distS M a b = _; unfold distS; exact if_neg h
theorem distO_in {M : Pts} {a b : Nat} (ha : a < M.names.length) (hb : b < M.names.length) : distO (some M) a b = (max (distM M a b) 0, decide (0 ≤ distM M a b)) := by
  show distS M a b = _
  unfold distS
  rw [if_pos ⟨⟨by omega, by show (a : Int) < (M.names.length : Int); omega⟩, ⟨by omega, by show (b : Int) < (M.names.length : Int); omega⟩⟩, Int.toNat_natCast, Int.toNat_natCast]
set_option maxRecDepth 20000 in
theorem distP_any (p : Option Addr) (om : Option Pts) (a b : Int) (w : World) (h : MapO w p om) (hG : GoodO om) :
    Calls Tryd.prog 17 #[.pointer p, .int .i64 a, .int .i64 b] w fun e w' => e = .returned (.tuple #[.int .i64 (distO om a b).1, .bool (distO om a b).2]) ∧ Below w.heap.size w w' := by
  by_cases ha : inO om a
  · by_cases hb : inO om b
    · have h1 := hasP_yes h ha
      have h2 := hasP_yes h hb
      obtain ⟨g, M, k, rfl, rfl, hM, hGM, rfl, hk⟩ := inO_open h hG ha
      obtain ⟨j, rfl⟩ : ∃ j : Nat, b = j := ⟨b.toNat, by have := hb.1; omega⟩
      have hj : j < M.names.length := by have := hb.2; have : (j : Int) < (M.names.length : Int) := this; omega
      rw [distO_in hk hj]
      have hf := from_any g M k w hM hGM hk
      unfold RowPost at hf
      clear ha hb h hM hGM hG
      generalize distM M k = r at *
      generalize M.names.length = n at *
      have hjI : (j : Int) < (n : Int) := by omega
      go_enter Tryd.func17, Tryd.ntmps17
      go_wp2_with fail
      refine h1.mono ?_
      rintro e w' ⟨rfl, rfl⟩
      go_wp2_with fail
      refine h2.mono ?_
      rintro e w' ⟨rfl, rfl⟩
      go_wp2_with fail
      refine hf.mono ?_
      rintro e w1 ⟨q, rfl, hq, hrow, hb1⟩
      have hcx := row_cell hrow hj
      clear hrow
      go_wp2
      all_goals
        go_ret2
        refine ⟨?_, hb1⟩
        first
          | rfl
          | (rw [Int.max_eq_right (by omega)]; rfl)
          | (rw [Int.max_eq_left (by omega), decide_eq_true (by assumption)]; rfl)
          | (rw [Int.max_eq_right (by omega), decide_eq_false (by omega)]; rfl)
          | (rw [Int.max_eq_left (by omega)]; rfl)
    · have h1 := hasP_yes h ha
      have h2 := hasP_no h hb
      rw [distO_out (fun h => hb h.2)]
      clear ha hb h hG
      go_enter Tryd.func17, Tryd.ntmps17
      go_wp2_with fail
      refine h1.mono ?_
      rintro e w' ⟨rfl, rfl⟩
      go_wp2_with fail
      refine h2.mono ?_
      rintro e w' ⟨rfl, rfl⟩
      go_wp2
      go_ret2
      exact ⟨rfl, Below.refl _ _⟩
  · have h1 := hasP_no h ha
    rw [distO_out (fun h => ha h.1)]
    clear ha h hG
    go_enter Tryd.func17, Tryd.ntmps17
    go_wp2_with fail
    refine h1.mono ?_
    rintro e w' ⟨rfl, rfl⟩
    go_wp2
    go_ret2
    exact ⟨rfl, Below.refl _ _⟩
end Go.Proofs.YtdelkgfodeilkaaDoor
