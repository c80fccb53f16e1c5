/-
  layer 36: what the laws call, as premises and walked: New and works as promises; Few, has. Conditions: lists of at most maxLen numbers.
-/
import Derived.Test.YtdelkgfodeilkaaDoorPtNp
import Derived.Test.YtdelkgfodeilkaaDoorPtT
import Derived.Deep.LoopGhost
namespace Go.Proofs.YtdelkgfodeilkaaDoor
open Go.RowKit Go.Lib

/-- New's contract. -/
def NewAny : Prop := ∀ (A B : Option Addr) (n c m d : Nat) (names : List ByteArray) (roads : List Rd) (w : World), ReadS w w.heap.size A n names → Reads w w.heap.size 3 B m (roads.flatMap roadV) → (∀ s ∈ names, s.size ≤ maxLen) →
  Calls Tryd.prog 13 #[.slice A n c, .slice B m d] w (NewPost w names roads)
/-- The contract of works. -/
def WorksAny : Prop := ∀ w : World, Calls Tryd.prog 16 #[] w fun e w' => e = .returned (.bool true) ∧ Below w.heap.size w w'
def fewB (n m : Nat) : Bool := (decide (n ≤ 30) && decide (m ≤ 100)) || (decide (128 < n) && decide (n < 140) && decide (m ≤ 600)) || (decide (n ≤ 140) && decide (512 < m) && decide (m ≤ 600))
set_option maxRecDepth 20000 in
set_option maxHeartbeats 2000000 in
theorem few_any (A B : Option Addr) (n c m k : Nat) (w : World) : Calls Tryd.prog 14 #[.slice A n c, .slice B m k] w fun e w' => e = .returned (.bool (fewB n m)) ∧ w = w' := by
  by_cases h1 : (n : Int) ≤ 30
  · by_cases h2 : (m : Int) ≤ 100
    · have e : fewB n m = true := by unfold fewB; rw [decide_eq_true (show n ≤ 30 by omega), decide_eq_true (show m ≤ 100 by omega)]; rfl
      rw [e]
      go_enter Tryd.func14, Tryd.ntmps14
      go_wp2
      go_ret
      exact ⟨rfl, rfl⟩
    · have h3 : ¬ (128 : Int) < (n : Int) := by omega
      have h4 : (n : Int) ≤ 140 := by omega
      by_cases h5 : (512 : Int) < (m : Int)
      · by_cases h6 : (m : Int) ≤ 600
        · have e : fewB n m = true := by unfold fewB; rw [decide_eq_true (show n ≤ 140 by omega), decide_eq_true (show 512 < m by omega), decide_eq_true (show m ≤ 600 by omega)]; simp
          rw [e]
          go_enter Tryd.func14, Tryd.ntmps14
          go_wp2
          go_ret
          exact ⟨rfl, rfl⟩
        · have e : fewB n m = false := by unfold fewB; rw [decide_eq_false (show ¬ m ≤ 100 by omega), decide_eq_false (show ¬ m ≤ 600 by omega)]; simp
          rw [e]
          go_enter Tryd.func14, Tryd.ntmps14
          go_wp2
          go_ret
          exact ⟨rfl, rfl⟩
      · have e : fewB n m = false := by unfold fewB; rw [decide_eq_false (show ¬ m ≤ 100 by omega), decide_eq_false (show ¬ 128 < n by omega), decide_eq_false (show ¬ 512 < m by omega)]; simp
        rw [e]
        go_enter Tryd.func14, Tryd.ntmps14
        go_wp2
        go_ret
        exact ⟨rfl, rfl⟩
  · by_cases h3 : (128 : Int) < (n : Int)
    · by_cases h4 : (n : Int) < 140
      · have h7 : (n : Int) ≤ 140 := by omega
        by_cases h6 : (m : Int) ≤ 600
        · have e : fewB n m = true := by unfold fewB; rw [decide_eq_true (show 128 < n by omega), decide_eq_true (show n < 140 by omega), decide_eq_true (show m ≤ 600 by omega)]; simp
          rw [e]
          go_enter Tryd.func14, Tryd.ntmps14
          go_wp2
          go_ret
          exact ⟨rfl, rfl⟩
        · have h5 : (512 : Int) < (m : Int) := by omega
          have e : fewB n m = false := by unfold fewB; rw [decide_eq_false (show ¬ n ≤ 30 by omega), decide_eq_false (show ¬ m ≤ 600 by omega)]; simp
          rw [e]
          go_enter Tryd.func14, Tryd.ntmps14
          go_wp2
          go_ret
          exact ⟨rfl, rfl⟩
      · by_cases h7 : (n : Int) ≤ 140
        · by_cases h5 : (512 : Int) < (m : Int)
          · by_cases h6 : (m : Int) ≤ 600
            · have e : fewB n m = true := by unfold fewB; rw [decide_eq_true (show n ≤ 140 by omega), decide_eq_true (show 512 < m by omega), decide_eq_true (show m ≤ 600 by omega)]; simp
              rw [e]
              go_enter Tryd.func14, Tryd.ntmps14
              go_wp2
              go_ret
              exact ⟨rfl, rfl⟩
            · have e : fewB n m = false := by unfold fewB; rw [decide_eq_false (show ¬ n ≤ 30 by omega), decide_eq_false (show ¬ m ≤ 600 by omega)]; simp
              rw [e]
              go_enter Tryd.func14, Tryd.ntmps14
              go_wp2
              go_ret
              exact ⟨rfl, rfl⟩
          · have e : fewB n m = false := by unfold fewB; rw [decide_eq_false (show ¬ n ≤ 30 by omega), decide_eq_false (show ¬ n < 140 by omega), decide_eq_false (show ¬ 512 < m by omega)]; simp
            rw [e]
            go_enter Tryd.func14, Tryd.ntmps14
            go_wp2
            go_ret
            exact ⟨rfl, rfl⟩
        · have e : fewB n m = false := by unfold fewB; rw [decide_eq_false (show ¬ n ≤ 30 by omega), decide_eq_false (show ¬ n < 140 by omega), decide_eq_false (show ¬ n ≤ 140 by omega)]; simp
          rw [e]
          go_enter Tryd.func14, Tryd.ntmps14
          go_wp2
          go_ret
          exact ⟨rfl, rfl⟩
    · have h7 : (n : Int) ≤ 140 ∨ ¬ (n : Int) ≤ 140 := by omega
      have h8 : (n : Int) ≤ 140 := by omega
      by_cases h5 : (512 : Int) < (m : Int)
      · by_cases h6 : (m : Int) ≤ 600
        · have e : fewB n m = true := by unfold fewB; rw [decide_eq_true (show n ≤ 140 by omega), decide_eq_true (show 512 < m by omega), decide_eq_true (show m ≤ 600 by omega)]; simp
          rw [e]
          go_enter Tryd.func14, Tryd.ntmps14
          go_wp2
          go_ret
          exact ⟨rfl, rfl⟩
        · have e : fewB n m = false := by unfold fewB; rw [decide_eq_false (show ¬ n ≤ 30 by omega), decide_eq_false (show ¬ m ≤ 600 by omega)]; simp
          rw [e]
          go_enter Tryd.func14, Tryd.ntmps14
          go_wp2
          go_ret
          exact ⟨rfl, rfl⟩
      · have e : fewB n m = false := by unfold fewB; rw [decide_eq_false (show ¬ n ≤ 30 by omega), decide_eq_false (show ¬ 128 < n by omega), decide_eq_false (show ¬ 512 < m by omega)]; simp
        rw [e]
        go_enter Tryd.func14, Tryd.ntmps14
        go_wp2
        go_ret
        exact ⟨rfl, rfl⟩
set_option maxRecDepth 20000 in
theorem hasL_any (A : Option Addr) (n c : Nat) (x : Int) (xs : List Int) (w : World) (hx : ReadI w w.heap.size A n xs) (hn : n ≤ maxLen) :
    Calls Tryd.prog 20 #[.slice A n c, .int .i64 x] w fun e w' => e = .returned (.bool (decide (x ∈ xs))) ∧ w = w' := by
  have hxl := hx.len
  unfold maxLen at hn
  obtain ⟨res, hres⟩ : ∃ res, decide (x ∈ xs) = res := ⟨_, rfl⟩
  rw [hres]
  have HRES := Lib.hid hres; have HX := Lib.hid hx; have HXL := Lib.hid hxl
  clear hres hx hxl
  go_enter Tryd.func20, Tryd.ntmps20
  go_wp2
  go_loopw [5] (fun i wr => ∃ k : Nat, k ≤ n ∧ i = .int .i64 k ∧ x ∉ xs.take k ∧ w = wr) (fun i _ => n - (intOf i).toNat)
  case atStart => exact ⟨0, by omega, rfl, by simp, rfl⟩
  case round =>
    obtain ⟨k, hk, rfl, ht, rfl⟩ := hrel
    have HT := Lib.hid ht
    clear ht
    by_cases hlt : k < n
    · have hkx : k < xs.length := by rw [HXL.out]; exact hlt
      obtain ⟨ad, rfl, had, hcx⟩ := ReadI.at_ (k := k) HX.out hkx
      have hsx := List.take_succ_eq_append_getElem hkx
      have hmem : xs[k] ∈ xs := List.getElem_mem hkx
      generalize xs[k] = y at hcx hsx hmem
      have HSX := Lib.hid hsx; have HM := Lib.hid hmem
      clear hsx hmem
      by_cases hxy : y = x
      · go_wp2
        go_ret
        exact ⟨by rw [← HRES.out, decide_eq_true (hxy ▸ HM.out)]; rfl, rfl⟩
      · go_wp2
        go_roundw
        case rel =>
          refine ⟨k + 1, by omega, by go_num, ?_, trivial⟩
          rw [HSX.out, List.mem_append, List.mem_singleton]
          exact fun h => h.elim HT.out (fun e => hxy e.symm)
        case measure => simp [intOf]; omega
    · obtain rfl : k = n := by omega
      go_wp2
      go_ret
      have := HT.out
      rw [List.take_of_length_le (by rw [HXL.out]; exact Nat.le_refl _)] at this
      exact ⟨by rw [← HRES.out, decide_eq_false this]; rfl, rfl⟩
end Go.Proofs.YtdelkgfodeilkaaDoor
