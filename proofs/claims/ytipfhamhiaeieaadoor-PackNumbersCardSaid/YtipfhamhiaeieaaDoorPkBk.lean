/-
  layer 43: slices.Backward over patterns. Conditions: patterns that can be read.
-/
import Derived.Test.YtipfhamhiaeieaaDoorPkAl
import Derived.Test.YtipfhamhiaeieaaDoorRange
import Derived.Test.YtipfhamhiaeieaaDoorTurn
namespace Go.Proofs.YtipfhamhiaeieaaDoor
open Go.RowKit Go.Shelf Go.Lib
attribute [local go_sem] Oper.semAt_some

theorem backward_any (A : Option Addr) (n c : Nat) (w : World) : Calls Tryd.prog 90 #[.slice A n c] w fun e w' =>
    e = .returned (.func (.func 106) #[] #[.pointer (some ⟨w.heap.size, 0, none⟩)]) ∧ w' = w.alloc (.cells #[.slice A n c] 25) := by
  go_enter Tryd.func90, Tryd.ntmps90
  go_wp2
  go_ret
  exact ⟨rfl, rfl⟩
/-- The i-th of several rows of seven cells. -/
def agg7 (xs : List Value) (i : Nat) : Value := .agg #[xs[i * 7]!, xs[i * 7 + 1]!, xs[i * 7 + 2]!, xs[i * 7 + 3]!, xs[i * 7 + 4]!, xs[i * 7 + 5]!, xs[i * 7 + 6]!]
abbrev encB (xs : List Value) (n : Nat) (i : Fin n) : Array Value := #[.int .i64 (i.val : Int), agg7 xs i.val]
/-- The numbers from n - 1 down to 0. -/
def downB (n : Nat) : List (Fin n) := (List.finRange n).reverse
/-- What the iterator reads. -/
def InvB (A : Option Addr) (n c b B : Nat) (xs : List Value) (W : World) : Prop := Blk W b 25 #[.slice A n c] ∧ Reads W B 7 A n xs
set_option maxRecDepth 20000 in
set_option maxHeartbeats 4000000 in
theorem iterB (A : Option Addr) (n c b B : Nat) (xs : List Value) (w0 : World) (hI : InvB A n c b B xs w0) (hBs : B ≤ w0.heap.size) (hn : n ≤ maxLen) :
    IterAt Tryd.prog 106 #[.pointer (some ⟨b, 0, none⟩)] (encB xs n) (fun _ => False) (fun W W' => InvB A n c b B xs W → InvB A n c b B xs W') (fun zs => zs = downB n) (fun _ => True) n w0 := by
  intro l J Jx W hW hJ hJx hY h0
  refine callsIn_of_wp Tryd.func106 rfl trivial ?_ rfl
  simp only [Tryd.ntmps106, List.size_toArray, List.length_cons, List.length_nil, Nat.reduceAdd, Nat.reduceSub, Array.replicate_succ, Array.replicate_zero, List.push_toArray, List.append_toArray, List.nil_append, List.cons_append]
  have HY := Lib.hid hY; clear hY hJ hJx
  have hI1 : InvB A n c b B xs W := ⟨hI.1.below hW hI.1.lt, hI.2.below (hW.mono hBs)⟩
  have hxl := hI.2.1
  unfold maxLen at hn
  have hc0 := hI1.1.cell 0
  simp only [List.getElem?_toArray, List.getElem?_cons_zero] at hc0
  gi_wp2
  gi_loopw [3] (fun z wr => ∃ k : Nat, k ≤ n ∧ z = .int .i64 ((n : Int) - 1 - k) ∧ InvB A n c b B xs wr ∧ J ((downB n).take k) wr) (fun z _ => ((RowKit.intOf z) + 1).toNat)
  case atStart => exact ⟨0, by omega, by simp, hI1, h0⟩
  case round =>
    obtain ⟨k, hk, rfl, hB, hj⟩ := hrel
    by_cases hlt : k < n
    · obtain ⟨j, hjk⟩ : ∃ j : Nat, j + k + 1 = n := ⟨n - 1 - k, by omega⟩
      have hjn : j < n := by omega
      have ej : (n : Int) - 1 - k = (j : Int) := by omega
      rw [ej]
      have hjI : (j : Int) < (n : Int) := by omega
      obtain ⟨ad, rfl, had, hcell⟩ := hB.2.2 (by omega)
      have hx : ∀ t, t < 7 → wr.cell? (ad.add (j * 7 + t)) = some xs[j * 7 + t]! := fun t ht => hcell _ _ (by
        have : j * 7 + t < xs.length := by omega
        rw [getElem!_pos xs _ this, List.getElem?_eq_getElem this])
      have hc1 := hx 0 (by omega)
      have hc2 := hx 1 (by omega)
      have hc3 := hx 2 (by omega)
      have hc4 := hx 3 (by omega)
      have hc5 := hx 4 (by omega)
      have hc6 := hx 5 (by omega)
      have hc7 := hx 6 (by omega)
      rw [add_next ad (j * 7) 0] at hc2
      rw [add_next ad (j * 7) 1] at hc3
      rw [add_next ad (j * 7) 2] at hc4
      rw [add_next ad (j * 7) 3] at hc5
      rw [add_next ad (j * 7) 4] at hc6
      rw [add_next ad (j * 7) 5] at hc7
      have hlen : (downB n).length = n := by unfold downB; rw [List.length_reverse, List.length_finRange]
      have hY1 := HY.out ((downB n).take k) ⟨j, hjn⟩ wr hj (by rw [List.length_take, hlen]; omega)
      have hts : (downB n).take k ++ [⟨j, hjn⟩] = (downB n).take (k + 1) := by
        rw [List.take_succ_eq_append_getElem (by rw [hlen]; exact hlt)]
        congr 2
        unfold downB
        rw [List.getElem_reverse, List.getElem_finRange]
        ext; simp; omega
      rw [hts] at hY1
      simp only [Nat.add_zero] at hc1
      have hcb := hB.1.cell 0
      simp only [List.getElem?_toArray, List.getElem?_cons_zero] at hcb
      obtain ⟨fn, tmps, assign, body, hy, hR⟩ := hY1
      dsimp only [encB, agg7] at hy
      generalize xs[j * 7]! = v0 at *
      generalize xs[j * 7 + 1]! = v1 at *
      generalize xs[j * 7 + 2]! = v2 at *
      generalize xs[j * 7 + 3]! = v3 at *
      generalize xs[j * 7 + 4]! = v4 at *
      generalize xs[j * 7 + 5]! = v5 at *
      generalize xs[j * 7 + 6]! = v6 at *
      clear hts hj hcell hx hlen hc0 ej
      gi_wp2_with fail
      refine hR.mono ?_
      rintro e W3 (⟨rfl, hJ3, hk3⟩ | ⟨rfl, hJx3⟩)
      · have hB3 := hk3 hB
        clear hy hR hc1 hc2 hc3 hc4 hc5 hc6 hc7
        gi_wp2
        go_roundw
        case rel => exact ⟨k + 1, by omega, by congr 1 <;> omega, hB3, hJ3⟩
        case measure => simp [RowKit.intOf]
      · gi_wp2
        refine bodyPost_ret (results_none rfl _ _ _) rfl ?_
        exact ⟨⟨_, rfl⟩, .inr ⟨_, trivial, hJx3⟩⟩
    · obtain rfl : k = n := by omega
      rw [List.take_of_length_le (by unfold downB; rw [List.length_reverse, List.length_finRange]; exact Nat.le_refl _)] at hj
      have ez : (k : Int) - 1 - k = -1 := by omega
      rw [ez]
      clear ez
      gi_wp2
      go_end0
      exact ⟨⟨_, rfl⟩, .inl ⟨_, rfl, hj⟩⟩
end Go.Proofs.YtipfhamhiaeieaaDoor
