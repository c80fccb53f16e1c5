/-
  layer 36: what the statements themselves call: ints, five, Few. Conditions: lists of at most maxLen numbers.
-/
import Derived.Test.YtdelkgfodeilkaaDoorPtFive
import Derived.Test.YtdelkgfodeilkaaDoorPtM
import Derived.Deep.LoopGhost
namespace Go.Proofs.YtdelkgfodeilkaaDoor
open Go.RowKit Go.Lib

set_option maxRecDepth 20000 in
set_option maxHeartbeats 2000000 in
theorem ints_any (A B : Option Addr) (n c m d : Nat) (xs ys : List Int) (w : World) (hx : ReadI w w.heap.size A n xs) (hy : ReadI w w.heap.size B m ys) (hn : n ≤ maxLen) :
    Calls Tryd.prog 23 #[.slice A n c, .slice B m d] w fun e w' => e = .returned (.bool (decide (xs = ys))) ∧ Below w.heap.size w w' := by
  have hxl := hx.len
  have hyl := hy.len
  unfold maxLen at hn
  by_cases hnm : n = m
  · subst hnm
    obtain ⟨res, hres⟩ : ∃ res, decide (xs = ys) = res := ⟨_, rfl⟩
    rw [hres]
    have HRES := Lib.hid hres; have HX := Lib.hid hx; have HY := Lib.hid hy; have HXL := Lib.hid hxl; have HYL := Lib.hid hyl
    clear hres hx hy hxl hyl
    go_enter Tryd.func23, Tryd.ntmps23
    go_wp2
    go_loopw [5] (fun i wr => ∃ k : Nat, k ≤ n ∧ i = .int .i64 k ∧ xs.take k = ys.take k ∧ Below w.heap.size w wr) (fun i _ => n - (intOf i).toNat)
    case atStart => exact ⟨0, by omega, rfl, rfl, Below.refl _ _⟩
    case round =>
      obtain ⟨k, hk, rfl, ht, hb⟩ := hrel
      have HT := Lib.hid ht
      clear ht
      by_cases hlt : k < n
      · have hkx : k < xs.length := by rw [HXL.out]; exact hlt
        have hky : k < ys.length := by rw [HYL.out]; exact hlt
        obtain ⟨ad, rfl, had, hcx⟩ := ReadI.at_ (k := k) HX.out hkx
        obtain ⟨bd, rfl, hbd, hcy⟩ := ReadI.at_ (k := k) HY.out hky
        have hc1 := (hb.cell (p := ad.add k) (by rw [block_of_add]; exact had)).trans hcx
        have hc2 := (hb.cell (p := bd.add k) (by rw [block_of_add]; exact hbd)).trans hcy
        have hsx := List.take_succ_eq_append_getElem hkx
        have hsy := List.take_succ_eq_append_getElem hky
        have hne : xs[k] ≠ ys[k] → xs ≠ ys := fun h e => h (by subst e; rfl)
        generalize xs[k] = x at hc1 hsx hne
        generalize ys[k] = y at hc2 hsy hne
        have HSX := Lib.hid hsx; have HSY := Lib.hid hsy; have HNE := Lib.hid hne
        clear hsx hsy hne hcx hcy
        have hbd := hb.drew
        by_cases hxy : x = y
        · go_wp2
          go_region
          go_wp2
          go_roundw
          case rel => exact ⟨k + 1, by omega, by go_num, by rw [HSX.out, HSY.out, HT.out, hxy], hbd⟩
          case measure => simp [intOf]; omega
        · go_wp2
          go_region
          go_wp2
          go_ret
          exact ⟨by rw [← HRES.out, decide_eq_false (HNE.out hxy)]; rfl, hbd⟩
      · obtain rfl : k = n := by omega
        go_wp2
        go_ret
        have he : xs = ys := by
          have := HT.out
          rwa [List.take_of_length_le (by rw [HXL.out]; exact Nat.le_refl _), List.take_of_length_le (by rw [HYL.out]; exact Nat.le_refl _)] at this
        exact ⟨by rw [← HRES.out, decide_eq_true he]; rfl, hb⟩
  · have hd : decide (xs = ys) = false := decide_eq_false (fun e => hnm (by rw [← hxl, ← hyl, e]))
    rw [hd]
    have hnmI : ¬ (n : Int) = (m : Int) := by omega
    clear hx hy hxl hyl hd
    go_enter Tryd.func23, Tryd.ntmps23
    go_wp2
    go_ret
    exact ⟨rfl, Below.refl _ _⟩
theorem five_any (w : World) : Calls Tryd.prog 47 #[] w fun e w' => ∃ q1 q2, e = .returned (.tuple #[.slice (some ⟨q1, 0, none⟩) 5 5, .slice (some ⟨q2, 0, none⟩) 4 4]) ∧ ReadS w' w'.heap.size (some ⟨q1, 0, none⟩) 5 names5 ∧ Reads w' w'.heap.size 3 (some ⟨q2, 0, none⟩) 4 (roads5.flatMap roadV) ∧ Below w.heap.size w w' := by
  go_enter Tryd.func47, Tryd.ntmps47
  go_wp2
  go_ret2
  refine ⟨_, _, rfl, ?_, ?_, ?_⟩
  · refine ⟨rfl, fun _ => ⟨_, rfl, by simp only [World.size_alloc]; omega, fun j u hu => ?_⟩⟩
    rw [add_at]
    exact (((Blk.new w _ _).alloc _).cell j).trans (by rw [List.getElem?_toArray]; exact hu)
  · refine ⟨rfl, fun _ => ⟨_, rfl, by simp only [World.size_alloc]; omega, fun j u hu => ?_⟩⟩
    rw [add_at]
    have := (Blk.new (w.alloc (.cells #[.string ⟨#[97]⟩, .string ⟨#[98]⟩, .string ⟨#[99]⟩, .string ⟨#[100]⟩, .string ⟨#[101]⟩] 9)) 43 (roads5.flatMap roadV).toArray).cell j
    rw [World.size_alloc] at this
    exact this.trans (by simpa using hu)
  · exact ((Below.refl _ w).alloc (Nat.le_refl _) _).alloc (by simp) _
end Go.Proofs.YtdelkgfodeilkaaDoor
