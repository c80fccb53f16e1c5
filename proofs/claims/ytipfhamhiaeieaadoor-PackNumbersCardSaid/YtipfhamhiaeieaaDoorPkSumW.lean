/-
  layer 43: Sum of the program. Conditions: bytes that can be read.
-/
import Derived.Test.YtipfhamhiaeieaaDoorProg
import Derived.WalkKit
import Derived.Test.YtipfhamhiaeieaaDoorPkSum
import Derived.Test.YtipfhamhiaeieaaDoorMem
import Derived.Test.YtipfhamhiaeieaaDoorOpen
import Derived.Laws.BitsAllLaws
namespace Go.Proofs.YtipfhamhiaeieaaDoor
open Go.RowKit Go.Lib

theorem crcBits_succ : ∀ (k r : Nat), crcBits (k + 1) r = crcBit (crcBits k r)
  | 0, _ => rfl
  | k + 1, r => by
    show crcBits (k + 1) (crcBit r) = _
    rw [crcBits_succ k]; rfl
theorem bit_step {X : Nat} (h : X < 4294967296) : bits .xor .u32 ((X : Int) / 2) (bits .and .u32 3988292384 (-((X : Int) % 2) % 4294967296)) = ((crcBit X : Nat) : Int) := by
  have e : (X : Int) / 2 = ((X / 2 : Nat) : Int) := by omega
  rw [e]
  unfold crcBit crcP
  by_cases h1 : X % 2 = 1
  · rw [if_pos h1, show (-((X : Int) % 2) % 4294967296) = 4294967295 by omega, show bits .and .u32 3988292384 4294967295 = ((3988292384 : Nat) : Int) by decide]
    exact u32_xor_nat (X / 2) 3988292384 (by omega) (by decide)
  · rw [if_neg h1, show (-((X : Int) % 2) % 4294967296) = 0 by omega, show bits .and .u32 3988292384 0 = ((0 : Nat) : Int) by decide]
    have := u32_xor_nat (X / 2) 0 (by omega) (by decide)
    simpa using this
set_option maxRecDepth 20000 in
set_option maxHeartbeats 4000000 in
theorem sum_any (A : Option Addr) (n c : Nat) (xs : List UInt8) (w : World) (hx : ReadB w w.heap.size A n xs) (hn : n ≤ maxLen) :
    Calls Tryd.prog 19 #[.slice A n c] w fun e w' => e = .returned (.int .u32 (sumB (xs.map UInt8.toNat) : Nat)) ∧ w = w' := by
  unfold maxLen at hn
  obtain ⟨res, hres⟩ : ∃ res : Nat, sumB (xs.map UInt8.toNat) = res := ⟨_, rfl⟩
  rw [hres]
  have HX := Lib.hid hx; have HRES := Lib.hid hres
  clear hx hres
  go_enter Tryd.func19, Tryd.ntmps19
  have hxl := HX.out.len
  go_wp2
  go_loopw [3, 8] (fun r i wr => ∃ k : Nat, k ≤ n ∧ i = .int .i64 k ∧ r = .int .u32 (crcAll ones ((xs.map UInt8.toNat).take k) : Nat) ∧ w = wr) (fun _ i _ => n - (intOf i).toNat)
  case atStart => exact ⟨0, by omega, rfl, rfl, rfl⟩
  case round =>
    obtain ⟨k, hk, rfl, rfl, rfl⟩ := hrel
    by_cases hlt : k < n
    · have hkl : k < xs.length := by omega
      obtain ⟨ad, rfl, had, hcx⟩ := ReadB.at_ (k := k) HX.out hkl
      have hkI : (k : Int) < (n : Int) := by omega
      have hR : crcAll ones ((xs.map UInt8.toNat).take k) < 4294967296 := crcAll_lt _ (by decide) (fun c hc => by
        obtain ⟨x, _, rfl⟩ := List.mem_map.1 (List.mem_of_mem_take hc)
        exact x.toNat_lt)
      have hst : crcAll ones ((xs.map UInt8.toNat).take (k + 1)) = crcByte (crcAll ones ((xs.map UInt8.toNat).take k)) xs[k].toNat := by
        rw [List.take_succ_eq_append_getElem (by simpa using hkl)]
        unfold crcAll
        rw [List.foldl_append, List.foldl_cons, List.foldl_nil, List.getElem_map]
      have hc256 := xs[k].toNat_lt
      generalize xs[k].toNat = cc at hcx hst hc256
      generalize crcAll ones ((xs.map UInt8.toNat).take k) = R at hR hst ⊢
      have HST := Lib.hid hst
      have hxor := u32_xor_nat R cc hR (by omega)
      clear hst
      have hY : R ^^^ cc < 4294967296 := Nat.xor_lt_two_pow (n := 32) hR (by omega)
      go_wp2
      generalize hYe : R ^^^ cc = Y at *
      have HY := Lib.hid hYe
      clear hYe
      clear hxor
      go_loopw [3, 16] (fun r i wr => ∃ j : Nat, j ≤ 8 ∧ i = .int .i64 j ∧ r = .int .u32 (crcBits j Y : Nat) ∧ w = wr) (fun _ i _ => 8 - (intOf i).toNat)
      case atStart => exact ⟨0, by omega, rfl, rfl, rfl⟩
      case round =>
        obtain ⟨j, hj, rfl, rfl, rfl⟩ := hrel
        by_cases hlt2 : j < 8
        · have hX : crcBits j Y < 4294967296 := crcBits_lt j hY
          have hst2 := crcBits_succ j Y
          generalize crcBits j Y = X at hX hst2 ⊢
          have HST2 := Lib.hid hst2
          have hbs := bit_step hX
          have hand : bits .and .u32 (X : Int) 1 = (X : Int) % 2 := by
            have := u32_and_nat X 1 hX (by decide)
            rw [Nat.and_one_is_mod] at this
            simpa using this
          clear hst2
          go_wp2
          go_roundw
          case rel => exact ⟨j + 1, by omega, by go_num, by rw [HST2.out, ← hbs], trivial⟩
          case measure => simp [intOf]; omega
        · obtain rfl : j = 8 := by omega
          go_wp2
          go_roundw
          case rel => exact ⟨k + 1, by omega, by go_num, by rw [HST.out]; unfold crcByte; rw [HY.out], trivial⟩
          case measure => simp [intOf]; omega
    · obtain rfl : k = n := by omega
      rw [List.take_of_length_le (by rw [List.length_map]; omega)]
      have hr := HRES.out
      unfold sumB at hr
      have hlt3 : crcAll ones (xs.map UInt8.toNat) < 4294967296 := crcAll_lt _ (by decide) (fun c hc => by
        obtain ⟨x, _, rfl⟩ := List.mem_map.1 hc
        exact x.toNat_lt)
      generalize crcAll ones (xs.map UInt8.toNat) = R at hr hlt3 ⊢
      have hm : bits .xor .u32 IntKind.u32.max (R : Int) = ((ones ^^^ R : Nat) : Int) := u32_xor_nat 4294967295 R (by decide) hlt3
      go_wp2
      go_ret
      exact ⟨by rw [← hr, ← hm]; rfl, rfl⟩
end Go.Proofs.YtipfhamhiaeieaaDoor
