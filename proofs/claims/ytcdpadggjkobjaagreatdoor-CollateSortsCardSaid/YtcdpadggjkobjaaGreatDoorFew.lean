/-
  The statements' own 'few'. Conditions: each string is of the reach, 'most' at most 1000.
-/
import Derived.Test.YtcdpadggjkobjaaGreatDoorProg
import Derived.Test.YtcdpadggjkobjaaGreatDoorMem
namespace Go.Proofs.YtcdpadggjkobjaaGreatDoor
open Go.RowKit

def totalS (ss : List ByteArray) : Nat := (ss.map ByteArray.size).sum
def fewB (ss : List ByteArray) (most bytes : Int) : Bool := decide ((ss.length : Int) ≤ most) && decide ((totalS ss : Int) ≤ bytes)

theorem wrap_add (a b : Int) : wrap64 (wrap64 a + b) = wrap64 (a + b) := by unfold wrap64; omega
theorem totalS_succ (ss : List ByteArray) (k : Nat) (hk : k < ss.length) : totalS (ss.take (k + 1)) = totalS (ss.take k) + ss[k].size := by
  unfold totalS
  rw [List.take_succ_eq_append_getElem hk, List.map_append, List.sum_append]; simp
theorem totalS_le (ss : List ByteArray) (hs : ∀ s ∈ ss, okS s) : totalS ss ≤ ss.length * 140737488351232 := by
  unfold totalS
  induction ss with
  | nil => simp
  | cons a l ih =>
    have h1 := hs a (by simp)
    have h2 := ih (fun s h => hs s (by simp [h]))
    unfold okS at h1
    simp only [List.map_cons, List.sum_cons, List.length_cons, Nat.add_mul]
    omega
theorem fewB_long {ss : List ByteArray} {most bytes : Int} (h : most < ss.length) : fewB ss most bytes = false := by
  unfold fewB; rw [decide_eq_false (by omega)]; rfl
theorem fewB_short {ss : List ByteArray} {most bytes : Int} (h : (ss.length : Int) ≤ most) : fewB ss most bytes = decide ((totalS ss : Int) ≤ bytes) := by
  unfold fewB; rw [decide_eq_true h]; rfl

set_option maxHeartbeats 400000 in
theorem few_any (A : Option Addr) (n c : Nat) (ss : List ByteArray) (most bytes : Int) (w : World) (B : Nat) (hr : ReadS w B A n ss) (hs : ∀ s ∈ ss, okS s) (hn : n ≤ maxLen) (hm : most ≤ 1000) :
    Calls Tryz.prog 4 #[.slice A n c, .int .i64 most, .int .i64 bytes] w fun e w' => e = .returned (.bool (fewB ss most bytes)) ∧ w = w' := by
  unfold maxLen at hn
  have HL := Lib.hid hr.len
  go_enter Tryz.func4, Tryz.ntmps4
  go_wp2
  go_loop [7, 12] (fun t i => ∃ k : Nat, k ≤ n ∧ i = .int .i64 k ∧ t = .int .i64 (wrap64 (totalS (ss.take k)))) (fun _ i => n - (intOf i).toNat)
  case atStart => exact ⟨0, Nat.zero_le _, rfl, by simp [totalS, wrap64]⟩
  case round =>
    obtain ⟨k, hk, rfl, rfl⟩ := hrel
    by_cases hlt : k < n
    · obtain ⟨ad, rfl, _, hc⟩ := hr.at_ (k := k) (by rw [hr.len]; exact hlt)
      go_wp2
      go_round
      case rel => exact ⟨k + 1, by omega, by go_num, by rw [wrap_add, totalS_succ ss k (by rw [HL.out]; exact hlt)]; push_cast; rfl⟩
      case measure => simp [intOf]; omega
    · obtain rfl : k = n := by omega
      have ht : ss.take k = ss := List.take_of_length_le (by rw [HL.out]; exact Nat.le_refl _)
      have hb := totalS_le ss hs
      rw [ht]; clear ht
      by_cases hl : most < (k : Int)
      · go_wp2
        go_ret
        rw [fewB_long (by rw [HL.out]; exact hl)]; exact ⟨rfl, rfl⟩
      · have hw : wrap64 (totalS ss : Int) = totalS ss := IntWalk.wrap64_in _ ⟨by omega, by rw [HL.out] at hb; omega⟩
        rw [hw]; clear hw hb
        go_wp2
        go_ret
        rw [fewB_short (by rw [HL.out]; omega)]; exact ⟨rfl, rfl⟩
end Go.Proofs.YtcdpadggjkobjaaGreatDoor
