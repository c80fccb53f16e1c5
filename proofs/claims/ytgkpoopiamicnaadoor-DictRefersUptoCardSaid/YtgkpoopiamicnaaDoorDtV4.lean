/-
  Layer 40: slices.SortFunc's heapSort on a row of texts, compared by a method. Conditions: indices in the row.
-/
import Derived.Test.YtgkpoopiamicnaaDoorDtV3
namespace Go.Proofs.YtgkpoopiamicnaaDoor
open Go.RowKit Go.Lib
section
variable {α : Type} [Inhabited α] {enc : α → ByteArray} {B : Nat} {w0 W W' : World} {blk : Nat} {d : Array α}
theorem siftDown_size (lt : α → α → Bool) (hi first root : Nat) (d : Array α) : (Sort.siftDown lt hi first root d).size = d.size := by
  fun_induction Sort.siftDown lt hi first root d <;> simp_all [Sort.size_swp]
set_option maxRecDepth 20000 in
set_option maxHeartbeats 8000000 in
theorem vheap (cf : α → α → Int) (g : Nat) (hC : CmpM enc cf B w0 g) (cap a b : Nat) (hab : a < b) (hb : b ≤ d.size) (hsz : d.size ≤ 1000000) (h : StR enc B w0 blk d W) :
    Calls Tryd.prog 80 #[.slice (some ⟨blk, 0, none⟩) d.size cap, .int .i64 a, .int .i64 b, ordV g] W fun e W' => e = .returned (.tuple #[]) ∧ StR enc B w0 blk (Sort.heapSort (ltC cf) d a b) W' := by
  have H := Lib.hid h; have HC := Lib.hid hC
  obtain ⟨N, hN⟩ : ∃ N, d.size = N := ⟨_, rfl⟩
  have HN := Lib.hid hN
  rw [hN] at hb hsz ⊢
  obtain ⟨n, hn⟩ : ∃ n, b - a = n := ⟨_, rfl⟩
  obtain ⟨m, hm⟩ : ∃ m, (n - 1) / 2 = m := ⟨_, rfl⟩
  have hnz : (b : Int) - (a : Int) = (n : Int) := by omega
  have hmz : ((n : Int) - 1).tdiv 2 = (m : Int) := by
    rw [show (n : Int) - 1 = ((n - 1 : Nat) : Int) by omega, ← hm]
    rfl
  have wn : IntKind.i64.wrap (n : Int) = (n : Int) := by rw [IntKind.wrap_i64]; omega
  have wm : IntKind.i64.wrap (m : Int) = (m : Int) := by rw [IntKind.wrap_i64]; omega
  have han : a + n ≤ N := by omega
  have hn1 : 1 ≤ n := by omega
  have hmn : m < n := by omega
  have HM := Lib.hid hm; have HNN := Lib.hid hn
  clear h hN hC hm
  go_enter Tryd.func80, Tryd.ntmps80
  go_wp2
  go_loopw [11] (fun v11 wr => ∃ (k : Nat) (dk : Array α), v11 = .int .i64 ((k : Int) - 1) ∧ dk.size = N ∧ k ≤ m + 1 ∧ StR enc B w0 blk dk wr ∧ Hid (Sort.heapBuild (ltC cf) n a k dk = Sort.heapBuild (ltC cf) n a (m + 1) d)) (fun v11 _ => (RowKit.intOf v11 + 1).toNat)
  case atStart => exact ⟨m + 1, d, by go_num, HN.out, by omega, H.out, rfl⟩
  case round =>
    obtain ⟨k, dk, rfl, hdk, hkm, hst, HE⟩ := hrel
    have HDK := Lib.hid hdk; have HST := Lib.hid hst
    clear hst
    by_cases hk : 0 < k
    · obtain ⟨k1, rfl⟩ : ∃ x, k = x + 1 := ⟨k - 1, by omega⟩
      have hkz : (0 : Int) ≤ (k1 : Int) := by omega
      have hke : ((k1 + 1 : Nat) : Int) - 1 = (k1 : Int) := by omega
      have hcall := vsift cf g HC.out cap n a k1 (by rw [HDK.out]; omega) (by omega) (by rw [HDK.out]; omega) HST.out
      rw [hdk] at hcall
      clear hdk
      rw [hke]
      go_wp2_with fail
      refine hcall.mono ?_
      rintro e w1 ⟨rfl, hst1⟩
      have HST1 := Lib.hid hst1
      clear hcall hst1
      go_wp2
      go_roundw
      case rel => exact ⟨k1, Sort.siftDown (ltC cf) n a k1 dk, by go_num, by rw [siftDown_size]; exact HDK.out, by omega, HST1.out, by show _ = _; rw [← HE.out]; rfl⟩
      case measure => simp [RowKit.intOf] <;> omega
    · obtain rfl : k = 0 := by omega
      have hd1 : dk = Sort.heapBuild (ltC cf) n a (m + 1) d := HE.out
      have HD1 := Lib.hid hd1
      clear hd1 hdk
      rw [show ((0 : Nat) : Int) - 1 = -1 from rfl]
      go_wp2
      go_loopw [12] (fun v12 wr => ∃ (k : Nat) (dj : Array α), v12 = .int .i64 ((k : Int) - 1) ∧ dj.size = N ∧ k ≤ n ∧ StR enc B w0 blk dj wr ∧ Hid (Sort.heapPop (ltC cf) a k dj = Sort.heapPop (ltC cf) a n dk)) (fun v12 _ => (RowKit.intOf v12 + 1).toNat)
      case atStart => exact ⟨n, dk, by go_num, HDK.out, by omega, HST.out, rfl⟩
      case round =>
        obtain ⟨k, dj, rfl, hdj, hkn, hst, HE2⟩ := hrel
        have HDJ := Lib.hid hdj; have HST2 := Lib.hid hst
        clear hst
        by_cases hk : 0 < k
        · obtain ⟨k1, rfl⟩ : ∃ x, k = x + 1 := ⟨k - 1, by omega⟩
          obtain ⟨q, hq⟩ : ∃ q, a + k1 = q := ⟨_, rfl⟩
          have hkz : (0 : Int) ≤ (k1 : Int) := by omega
          have hke : ((k1 + 1 : Nat) : Int) - 1 = (k1 : Int) := by omega
          have hqz : (a : Int) + (k1 : Int) = (q : Int) := by omega
          have wq := wrapN (n := q) (by omega)
          obtain ⟨x, hx⟩ : ∃ x, enc dj[a]! = x := ⟨_, rfl⟩
          obtain ⟨y, hy⟩ : ∃ y, enc dj[q]! = y := ⟨_, rfl⟩
          have haN : a < N := by omega
          have hqN : q < N := by omega
          obtain ⟨c1, f1, i0⟩ := HST2.out.cells hdj haN hx
          obtain ⟨c2, f2, j0⟩ := HST2.out.cells hdj hqN hy
          obtain ⟨u, c3⟩ := HST2.out.two (i := a) (j := q) (by omega) (by omega) (.string y)
          have hsw := HST2.out.swapN hdj haN hqN hx hy
          have hcall := vsift cf g HC.out cap k1 a 0 (by rw [Sort.size_swp, HDJ.out]; omega) (by omega) (by rw [Sort.size_swp, HDJ.out]; omega) hsw
          rw [Sort.size_swp, hdj] at hcall
          clear hdj hsw hx hy
          have HQ := Lib.hid hq
          clear hq
          rw [hke]
          go_wp2_with fail
          go_region
          all_goals go_wp2_with fail
          refine hcall.mono ?_
          rintro e w1 ⟨rfl, hst1⟩
          have HST1 := Lib.hid hst1
          clear hcall hst1 c1 f1 c2 f2 c3
          go_wp2
          go_roundw
          case rel => exact ⟨k1, _, by go_num, by rw [siftDown_size, Sort.size_swp]; exact HDJ.out, by omega, HST1.out, by show _ = _; rw [← HE2.out, ← HQ.out]; rfl⟩
          case measure => simp [RowKit.intOf] <;> omega
        · obtain rfl : k = 0 := by omega
          clear hdj
          go_wp2
          go_end0
          exact ⟨rfl, by
            unfold Sort.heapSort
            rw [HNN.out, HM.out, ← HD1.out, ← HE2.out]
            exact HST2.out⟩
end
end Go.Proofs.YtgkpoopiamicnaaDoor
