/-
  The reference's Split and Key of layer 39; slices.Equal at strings and ints. Conditions: an alphabet in memory as New makes it; lengths of at most maxLen.
-/
import Derived.Test.YtcdpadggjkobjaaGreatDoorRef4
import Derived.BigQuiet
import Derived.Deep.QuietTactic
namespace Go.Proofs.YtcdpadggjkobjaaGreatDoor
open Go.RowKit

def SplitPost (w : World) (r : Int × List (ByteArray × Int)) (e : Ending) (w' : World) : Prop :=
  ∃ v1, e = .returned (.tuple #[v1, .int .i64 r.1]) ∧ w'.ownsRow w.heap.size 9 1 v1 r.2.length (strs (letS r.2)) ∧ Below w.heap.size w w'
def KeyPost (w : World) (r : Int × List (ByteArray × Int)) (e : Ending) (w' : World) : Prop :=
  ∃ v2, e = .returned (.tuple #[v2, .int .i64 r.1]) ∧ w'.ownsRow w.heap.size 3 1 v2 r.2.length (ints (keyS r.2)) ∧ Below w.heap.size w w'

/-- A call that only reads. -/
def Quietly (w : World) (v : Value) (e : Ending) (w' : World) : Prop := e = .returned v ∧ ∃ q, w' = w.drewN q
theorem eq_of_take {α : Type} {a b : List α} {n : Nat} (ha : a.length = n) (hb : b.length = n) (h : a.take n = b.take n) : a = b := by
  rw [List.take_of_length_le (by omega), List.take_of_length_le (by omega)] at h; exact h

set_option maxRecDepth 20000 in
set_option maxHeartbeats 2000000 in
theorem equalS_any (A B : Option Addr) (n m c d : Nat) (xs ys : List ByteArray) (w : World) (K L : Nat) (hx : ReadS w K A n xs) (hy : ReadS w L B m ys) (hn : n ≤ maxLen) :
    Calls Tryz.prog 16 #[.slice A n c, .slice B m d] w (Quietly w (.bool (decide (xs = ys)))) := by
  unfold maxLen at hn
  have hxl := hx.len
  have hyl := hy.len
  by_cases hl : n = m
  · subst hl
    have HX := Lib.hid hxl; have HY := Lib.hid hyl
    clear hxl hyl
    have hlb : ((n : Int) != n) = false := by simp
    go_enter Tryz.func16, Tryz.ntmps16
    go_wp2
    go_loopw [13] (fun i wr => ∃ (k q : Nat), k ≤ n ∧ i = .int .i64 k ∧ wr = w.drewN q ∧ xs.take k = ys.take k) (fun i _ => n - (intOf i).toNat)
    case atStart => exact ⟨0, 0, by omega, rfl, rfl, by simp⟩
    case round =>
      obtain ⟨k, q, hk, rfl, rfl, he⟩ := hrel
      have HE := Lib.hid he; clear he
      by_cases hlt : k < n
      · have hkx : k < xs.length := by rw [HX.out]; exact hlt
        have hky : k < ys.length := by rw [HY.out]; exact hlt
        obtain ⟨ad, rfl, _, hcx⟩ := hx.at_ (k := k) hkx
        obtain ⟨ad', rfl, _, hcy⟩ := hy.at_ (k := k) hky
        by_cases hv : xs[k] = ys[k]
        · have hb : (!(xs[k].toList == ys[k].toList)) = false := by rw [hv]; simp
          have hn' : xs.take (k + 1) = ys.take (k + 1) := by
            rw [List.take_succ_eq_append_getElem hkx, List.take_succ_eq_append_getElem hky, HE.out, hv]
          have HN := Lib.hid hn'; clear hn' hv
          generalize xs[k] = x at hcx hb
          generalize ys[k] = y at hcy hb
          go_wp2_with fail
          go_quiet (fail)
          go_wp2
          go_roundw
          case rel => exact ⟨k + 1, _, by omega, by go_num, rfl, HN.out⟩
          case measure => simp [intOf]; omega
        · have hb : (!(xs[k].toList == ys[k].toList)) = true := by
            have : (xs[k].toList == ys[k].toList) = false := by
              rw [beq_eq_false_iff_ne]; intro h; exact hv (bl_inj (by rw [bl, bl, ← ByteArray.toList_eq, ← ByteArray.toList_eq]; exact h))
            rw [this]; rfl
          have hn' : decide (xs = ys) = false := by
            rw [decide_eq_false_iff_not]; rintro rfl; exact hv rfl
          have HN := Lib.hid hn'; clear hn' hv
          generalize xs[k] = x at hcx hb
          generalize ys[k] = y at hcy hb
          go_wp2_with fail
          go_quiet (fail)
          go_wp2
          go_ret
          rw [HN.out]; exact ⟨rfl, _, World.drewN_drewN _ _ _⟩
      · obtain rfl : k = n := by omega
        have hE : decide (xs = ys) = true := decide_eq_true (eq_of_take HX.out HY.out HE.out)
        have HF := Lib.hid hE; clear hE
        go_wp2
        go_ret
        rw [HF.out]; exact ⟨rfl, _, rfl⟩
  · have hd : decide (xs = ys) = false := by
      rw [decide_eq_false_iff_not]; rintro rfl; omega
    have HD := Lib.hid hd
    have hlb : ((n : Int) != m) = true := by rw [bne_iff_ne]; omega
    clear hd hxl hyl hx hy
    go_enter Tryz.func16, Tryz.ntmps16
    go_wp2
    go_ret
    rw [HD.out]; exact ⟨rfl, 0, rfl⟩

set_option maxRecDepth 20000 in
set_option maxHeartbeats 2000000 in
theorem equalI_any (A B : Option Addr) (n m c d : Nat) (xs ys : List Int) (w : World) (K L : Nat) (hx : ReadI w K A n xs) (hy : ReadI w L B m ys) (hn : n ≤ maxLen) :
    Calls Tryz.prog 25 #[.slice A n c, .slice B m d] w (Quietly w (.bool (decide (xs = ys)))) := by
  unfold maxLen at hn
  have hxl := hx.len
  have hyl := hy.len
  by_cases hl : n = m
  · subst hl
    have HX := Lib.hid hxl; have HY := Lib.hid hyl
    clear hxl hyl
    have hlb : ((n : Int) != n) = false := by simp
    go_enter Tryz.func25, Tryz.ntmps25
    go_wp2
    go_loopw [13] (fun i wr => ∃ (k q : Nat), k ≤ n ∧ i = .int .i64 k ∧ wr = w.drewN q ∧ xs.take k = ys.take k) (fun i _ => n - (intOf i).toNat)
    case atStart => exact ⟨0, 0, by omega, rfl, rfl, by simp⟩
    case round =>
      obtain ⟨k, q, hk, rfl, rfl, he⟩ := hrel
      have HE := Lib.hid he; clear he
      by_cases hlt : k < n
      · have hkx : k < xs.length := by rw [HX.out]; exact hlt
        have hky : k < ys.length := by rw [HY.out]; exact hlt
        obtain ⟨ad, rfl, _, hcx⟩ := hx.at_ (k := k) hkx
        obtain ⟨ad', rfl, _, hcy⟩ := hy.at_ (k := k) hky
        by_cases hv : xs[k] = ys[k]
        · have hb : (xs[k] != ys[k]) = false := by rw [hv]; simp
          have hn' : xs.take (k + 1) = ys.take (k + 1) := by
            rw [List.take_succ_eq_append_getElem hkx, List.take_succ_eq_append_getElem hky, HE.out, hv]
          have HN := Lib.hid hn'; clear hn' hv
          generalize xs[k] = x at hcx hb
          generalize ys[k] = y at hcy hb
          go_wp2_with fail
          go_quiet (fail)
          go_wp2
          go_roundw
          case rel => exact ⟨k + 1, _, by omega, by go_num, rfl, HN.out⟩
          case measure => simp [intOf]; omega
        · have hb : (xs[k] != ys[k]) = true := by rw [bne_iff_ne]; exact hv
          have hn' : decide (xs = ys) = false := by
            rw [decide_eq_false_iff_not]; rintro rfl; exact hv rfl
          have HN := Lib.hid hn'; clear hn' hv
          generalize xs[k] = x at hcx hb
          generalize ys[k] = y at hcy hb
          go_wp2_with fail
          go_quiet (fail)
          go_wp2
          go_ret
          rw [HN.out]; exact ⟨rfl, _, World.drewN_drewN _ _ _⟩
      · obtain rfl : k = n := by omega
        have hE : decide (xs = ys) = true := decide_eq_true (eq_of_take HX.out HY.out HE.out)
        have HF := Lib.hid hE; clear hE
        go_wp2
        go_ret
        rw [HF.out]; exact ⟨rfl, _, rfl⟩
  · have hd : decide (xs = ys) = false := by
      rw [decide_eq_false_iff_not]; rintro rfl; omega
    have HD := Lib.hid hd
    have hlb : ((n : Int) != m) = true := by rw [bne_iff_ne]; omega
    clear hd hxl hyl hx hy
    go_enter Tryz.func25, Tryz.ntmps25
    go_wp2
    go_ret
    rw [HD.out]; exact ⟨rfl, 0, rfl⟩
end Go.Proofs.YtcdpadggjkobjaaGreatDoor
