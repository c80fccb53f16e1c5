/-
  layer 43: Sum of the program. Conditions: bytes that can be read.
-/
import Derived.Test.YtipfhamhiaeieaaDoorProg
import Derived.WalkKit
import Derived.Test.YtipfhamhiaeieaaDoorZbam
import Derived.Test.YtipfhamhiaeieaaDoorZbaa
import Derived.Laws.BitsAllLaws
import Derived.Test.YtipfhamhiaeieaaDoorZbak
import Derived.Test.YtipfhamhiaeieaaDoorZbah
namespace Go.Proofs.YtipfhamhiaeieaaDoor
open Go.RowKit Go.Lib

theorem crcBits_succ : ∀ (k r : Nat), crcBits (k + 1) r = crcBit (crcBits k r)
  | 0, _ => rfl
  | k + 1, r => by
    show crcBits (k + 1) (crcBit r) = _
    rw [crcBits_succ k]; rfl
theorem bit_step {X : Nat} (h : X < 4294967296) : bits .xor .u32 ((X : Int) / 2) (bits .and .u32 3988292384 (-((X : Int) % 2) % 4294967296)) = ((crcBit X : Nat) : Int) := by
  have e : (X : Int) / 2 = ((X / 2 : Nat) : Int) := by omega
  rw [e]
  unfold crcBit crcP
  by_cases h1 : X % 2 = 1
  · rw [if_pos h1, show (-((X : Int) % 2) % 4294967296) = 4294967295 by omega, show bits .and .u32 3988292384 4294967295 = ((3988292384 : Nat) : Int) by decide]
    exact u32_xor_nat (X / 2) 3988292384 (by omega) (by decide)
  · rw [if_neg h1, show (-((X : Int) % 2) % 4294967296) = 0 by omega, show bits .and .u32 3988292384 0 = ((0 : Nat) : Int) by decide]
    have := u32_xor_nat (X / 2) 0 (by omega) (by decide)
    simpa using this
set_option maxRecDepth 20000 in
set_option maxHeartbeats 4000000 in
theorem sum_any (A : Option Addr) (n c : Nat) (xs : List UInt8) (w : World) (hx : ReadB w w.heap.size A n xs) (hn : n ≤ maxLen) :
    Calls Tryd.prog 19 #[.slice A n c] w fun e w' => e = .returned (.int .u32 (sumB (xs.map UInt8.toNat) : Nat)) ∧ w = w' := by
  unfold maxLen at hn
  obtain ⟨res, hres⟩ : ∃ res : Nat, sumB (xs.map UInt8.toNat) = res := ⟨_, rfl⟩
  rw [hres]
  have HX := Lib.hid hx; have HRES := Lib.hid hres
  clear hx hres
  go_enter Tryd.func19, Tryd.ntmps19
  have hxl := HX.out.len
  go_wp2
  go_loopw [3, 8] (fun r i wr => ∃ k : Nat, k ≤ n ∧ i = .int .i64 k ∧ r = .int .u32 (crcAll ones ((xs.map UInt8.toNat).take k) : Nat) ∧ w = wr) (fun _ i _ => n - (RowKit.intOf i).toNat)
  case atStart => exact ⟨0, by omega, rfl, rfl, rfl⟩
  case round =>
    obtain ⟨k, hk, rfl, rfl, rfl⟩ := hrel
    by_cases hlt : k < n
    · have hkl : k < xs.length := by omega
      obtain ⟨ad, rfl, had, hcx⟩ := ReadB.at_ (k := k) HX.out hkl
      have hkI : (k : Int) < (n : Int) := by omega
      have hR : crcAll ones ((xs.map UInt8.toNat).take k) < 4294967296 := crcAll_lt _ (by decide) (fun c hc => by
        obtain ⟨x, _, rfl⟩ := List.mem_map.1 (List.mem_of_mem_take hc)
        exact x.toNat_lt)
      have hst : crcAll ones ((xs.map UInt8.toNat).take (k + 1)) = crcByte (crcAll ones ((xs.map UInt8.toNat).take k)) xs[k].toNat := by
        rw [List.take_succ_eq_append_getElem (by simpa using hkl)]
        unfold crcAll
        rw [List.foldl_append, List.foldl_cons, List.foldl_nil, List.getElem_map]
      have hc256 := xs[k].toNat_lt
      generalize xs[k].toNat = cc at hcx hst hc256
      generalize crcAll ones ((xs.map UInt8.toNat).take k) = R at hR hst ⊢
      have HST := Lib.hid hst
      have hxor := u32_xor_nat R cc hR (by omega)
      clear hst
      have hY : R ^^^ cc < 4294967296 := Nat.xor_lt_two_pow (n := 32) hR (by omega)
      go_wp2
      generalize hYe : R ^^^ cc = Y at *
      have HY := Lib.hid hYe
      clear hYe
      clear hxor
      go_loopw [3, 16] (fun r i wr => ∃ j : Nat, j ≤ 8 ∧ i = .int .i64 j ∧ r = .int .u32 (crcBits j Y : Nat) ∧ w = wr) (fun _ i _ => 8 - (RowKit.intOf i).toNat)
      case atStart => exact ⟨0, by omega, rfl, rfl, rfl⟩
      case round =>
        obtain ⟨j, hj, rfl, rfl, rfl⟩ := hrel
        by_cases hlt2 : j < 8
        · have hX : crcBits j Y < 4294967296 := crcBits_lt j hY
          have hst2 := crcBits_succ j Y
          generalize crcBits j Y = X at hX hst2 ⊢
          have HST2 := Lib.hid hst2
          have hbs := bit_step hX
          have hand : bits .and .u32 (X : Int) 1 = (X : Int) % 2 := by
            have := u32_and_nat X 1 hX (by decide)
            rw [Nat.and_one_is_mod] at this
            simpa using this
          clear hst2
          go_wp2
          go_roundw
          case rel => exact ⟨j + 1, by omega, by go_num, by rw [HST2.out, ← hbs], trivial⟩
          case measure => simp [RowKit.intOf]; omega
        · obtain rfl : j = 8 := by omega
          go_wp2
          go_roundw
          case rel => exact ⟨k + 1, by omega, by go_num, by rw [HST.out]; unfold crcByte; rw [HY.out], trivial⟩
          case measure => simp [RowKit.intOf]; omega
    · obtain rfl : k = n := by omega
      rw [List.take_of_length_le (by rw [List.length_map]; omega)]
      have hr := HRES.out
      unfold sumB at hr
      have hlt3 : crcAll ones (xs.map UInt8.toNat) < 4294967296 := crcAll_lt _ (by decide) (fun c hc => by
        obtain ⟨x, _, rfl⟩ := List.mem_map.1 hc
        exact x.toNat_lt)
      generalize crcAll ones (xs.map UInt8.toNat) = R at hr hlt3 ⊢
      have hm : bits .xor .u32 IntKind.u32.max (R : Int) = ((ones ^^^ R : Nat) : Int) := u32_xor_nat 4294967295 R (by decide) hlt3
      go_wp2
      go_ret
      exact ⟨by rw [← hr, ← hm]; rfl, rfl⟩
end Go.Proofs.YtipfhamhiaeieaaDoor
namespace Go.Proofs.YtipfhamhiaeieaaDoor
open Go.RowKit Go.Lib

theorem setRow_new (w : World) (c c' : Array Value) (t : TypeId) : (w.alloc (.cells c t)).setRow w.heap.size c' = w.alloc (.cells c' t) := by
  simp only [World.setRow, World.alloc]
  congr 1
  apply Array.ext_getElem?
  intro i
  rw [Array.getElem?_modify]
  by_cases h : w.heap.size = i
  · subst h
    simp
  · have h' : ¬ i = w.heap.size := fun e => h e.symm
    simp [h, h', Array.getElem?_push]
/-- A store of a whole row into the block that was made last. -/
theorem store_new {P : Program} {ops : Array Oper} {rest : List Oper} {o : Oper} {a : Act} {w : World} {c cs : Array Value} {Q : Exit → Act → World → Prop} (hgd : o.guard = none) (ty : TypeId) (x y : Operand) (ho : o.op = .store ty x y)
    (hx : a.eval x = .pointer (some ⟨w.heap.size, 0, none⟩)) (hy : a.eval y = .agg cs) (hi : (P.info? ty).map (·.size) = some cs.size) (hc : c.size = cs.size) (h1 : cs.all (·.oneCell') = true)
    (h : wpList P ops Q rest (a.put o.dst undef) (w.alloc (.cells cs ty))) : wpList P ops Q (o :: rest) a (w.alloc (.cells c ty)) := by
  refine wpList_plain hgd fun _ hK => ?_
  unfold Oper.wp execOp
  simp only [ho, hx, hy, Instr.storeAt, Instr.sureAddr, Sem.run_bind, Sem.run_pure, Result.andThen_ok, run_storeVar_row _ _ ty ty c cs (heap_alloc_new w _) hi hc h1, setRow_new]
  exact hK _ _ h
theorem reads_lit (w : World) (t : TypeId) (k n : Nat) (xs : List Value) (hl : xs.length = n * k) : Reads (w.alloc (.cells xs.toArray t)) (w.heap.size + 1) k (some ⟨w.heap.size, 0, none⟩) n xs :=
  ⟨hl, fun _ => ⟨_, rfl, Nat.lt_succ_self _, fun j u hu => by rw [add_at, (Blk.new w t xs.toArray).cell j]; simpa using hu⟩⟩
/-- The law that works packs. -/
def lawT : Lw := ⟨⟨#[86]⟩, .mk 1 (4, 0) false 0 0 [], .mk 1 (4, 0) false 0 0 [], [(2, 0)], [⟨0, 0, (1, 0), 0, 0⟩], 1⟩
/-- What works made ahead of its calls. -/
structure WF (w W : World) (cs : List Value) : Prop where
  below : Below w.heap.size w W
  lt : w.heap.size + 6 ≤ W.heap.size
  b1 : Blk W w.heap.size 24 #[.int .u32 2, .int .u32 5]
  b2 : Blk W (w.heap.size + 1) 24 #[.int .u32 5, .int .u32 2]
  b5 : Blk W (w.heap.size + 1 + 1 + 1 + 1 + 1) 31 cs.toArray
  law : LawC W (w.heap.size + 6) lawT cs
theorem WF.next {w W W' : World} {cs : List Value} (h : WF w W cs) (hb : Below W.heap.size W W') : WF w W' cs :=
  ⟨h.below.trans (hb.mono h.below.size), by have := h.lt; have := hb.size; omega, h.b1.below hb h.b1.lt, h.b2.below hb h.b2.lt, h.b5.below hb h.b5.lt, h.law.below (hb.mono h.lt)⟩
theorem WF.alloc {w W : World} {cs : List Value} (h : WF w W cs) (o : Obj) : WF w (W.alloc o) cs := h.next ((Below.refl _ W).alloc (Nat.le_refl _) o)
theorem works_start (w : World) : ∃ W cs, ((((((w.alloc (.cells #[.int .u32 2, .int .u32 5] 24)).alloc (.cells #[.int .u32 5, .int .u32 2] 24)).alloc (.cells #[.int .i64 1, .int .u32 4, .int .u32 0, .bool false, .int .i64 0, .int .i64 0, .slice none 0 0] 27)).alloc (.cells #[.int .u32 2, .int .u32 0] 24)).alloc
    (.cells #[.int .i64 0, .int .u32 0, .int .u32 1, .int .u32 0, .int .u32 0, .int .i64 0] 60)).alloc (.cells #[.string { data := #[86] }, .int .i64 1, .int .u32 4, .int .u32 0, .bool false, .int .i64 0, .int .i64 0, .slice none 0 0, .int .i64 1, .int .u32 4, .int .u32 0, .bool false, .int .i64 0, .int .i64 0, .slice none 0 0,
      .slice (some { block := w.heap.size + 1 + 1 + 1, off := 0 }) 1 1, .slice (some { block := w.heap.size + 1 + 1 + 1 + 1, off := 0 }) 1 1, .int .i64 1] 31)) = W ∧ WF w W cs ∧ W.heap.size = w.heap.size + 1 + 1 + 1 + 1 + 1 + 1 := by
  refine ⟨_, [.string { data := #[86] }, .int .i64 1, .int .u32 4, .int .u32 0, .bool false, .int .i64 0, .int .i64 0, .slice none 0 0, .int .i64 1, .int .u32 4, .int .u32 0, .bool false, .int .i64 0, .int .i64 0, .slice none 0 0,
      .slice (some { block := w.heap.size + 1 + 1 + 1, off := 0 }) 1 1, .slice (some { block := w.heap.size + 1 + 1 + 1 + 1, off := 0 }) 1 1, .int .i64 1], rfl, ?_, by simp only [World.size_alloc]⟩
  have e1 := Below.refl w.heap.size w
  have f1 := Blk.new w 24 #[.int .u32 2, .int .u32 5]
  have e2 := e1.alloc (Nat.le_refl _) (.cells #[.int .u32 2, .int .u32 5] 24)
  have z2 : (w.alloc (.cells #[.int .u32 2, .int .u32 5] 24)).heap.size = w.heap.size + 1 := World.size_alloc _ _
  generalize w.alloc (.cells #[.int .u32 2, .int .u32 5] 24) = W1 at *
  have f2 := Blk.new W1 24 #[.int .u32 5, .int .u32 2]
  replace f1 := f1.alloc (.cells #[.int .u32 5, .int .u32 2] 24)
  have e3 := e2.alloc (by omega) (.cells #[.int .u32 5, .int .u32 2] 24)
  have z3 : (W1.alloc (.cells #[.int .u32 5, .int .u32 2] 24)).heap.size = w.heap.size + 1 + 1 := by rw [World.size_alloc, z2]
  rw [z2] at f2
  generalize W1.alloc (.cells #[.int .u32 5, .int .u32 2] 24) = W2 at *
  replace f1 := f1.alloc (.cells #[.int .i64 1, .int .u32 4, .int .u32 0, .bool false, .int .i64 0, .int .i64 0, .slice none 0 0] 27)
  replace f2 := f2.alloc (.cells #[.int .i64 1, .int .u32 4, .int .u32 0, .bool false, .int .i64 0, .int .i64 0, .slice none 0 0] 27)
  have e4 := e3.alloc (by omega) (.cells #[.int .i64 1, .int .u32 4, .int .u32 0, .bool false, .int .i64 0, .int .i64 0, .slice none 0 0] 27)
  have z4 : (W2.alloc (.cells #[.int .i64 1, .int .u32 4, .int .u32 0, .bool false, .int .i64 0, .int .i64 0, .slice none 0 0] 27)).heap.size = w.heap.size + 1 + 1 + 1 := by rw [World.size_alloc, z3]
  generalize W2.alloc (.cells #[.int .i64 1, .int .u32 4, .int .u32 0, .bool false, .int .i64 0, .int .i64 0, .slice none 0 0] 27) = W3 at *
  have r4 := reads_lit W3 24 2 1 [.int .u32 2, .int .u32 0] rfl
  replace f1 := f1.alloc (.cells #[.int .u32 2, .int .u32 0] 24)
  replace f2 := f2.alloc (.cells #[.int .u32 2, .int .u32 0] 24)
  have e5 := e4.alloc (by omega) (.cells #[.int .u32 2, .int .u32 0] 24)
  have z5 : (W3.alloc (.cells #[.int .u32 2, .int .u32 0] 24)).heap.size = w.heap.size + 1 + 1 + 1 + 1 := by rw [World.size_alloc, z4]
  rw [z4] at r4
  generalize W3.alloc (.cells #[.int .u32 2, .int .u32 0] 24) = W4 at *
  have r5 := reads_lit W4 60 6 1 [.int .i64 0, .int .u32 0, .int .u32 1, .int .u32 0, .int .u32 0, .int .i64 0] rfl
  replace r4 := r4.alloc (by omega) (.cells #[.int .i64 0, .int .u32 0, .int .u32 1, .int .u32 0, .int .u32 0, .int .i64 0] 60)
  replace f1 := f1.alloc (.cells #[.int .i64 0, .int .u32 0, .int .u32 1, .int .u32 0, .int .u32 0, .int .i64 0] 60)
  replace f2 := f2.alloc (.cells #[.int .i64 0, .int .u32 0, .int .u32 1, .int .u32 0, .int .u32 0, .int .i64 0] 60)
  have e6 := e5.alloc (by omega) (.cells #[.int .i64 0, .int .u32 0, .int .u32 1, .int .u32 0, .int .u32 0, .int .i64 0] 60)
  have z6 : (W4.alloc (.cells #[.int .i64 0, .int .u32 0, .int .u32 1, .int .u32 0, .int .u32 0, .int .i64 0] 60)).heap.size = w.heap.size + 1 + 1 + 1 + 1 + 1 := by rw [World.size_alloc, z5]
  rw [z5] at r5
  generalize W4.alloc (.cells #[.int .i64 0, .int .u32 0, .int .u32 1, .int .u32 0, .int .u32 0, .int .i64 0] 60) = W5 at *
  generalize hO : Obj.cells #[.string { data := #[86] }, .int .i64 1, .int .u32 4, .int .u32 0, .bool false, .int .i64 0, .int .i64 0, .slice none 0 0, .int .i64 1, .int .u32 4, .int .u32 0, .bool false, .int .i64 0, .int .i64 0, .slice none 0 0,
      .slice (some { block := w.heap.size + 1 + 1 + 1, off := 0 }) 1 1, .slice (some { block := w.heap.size + 1 + 1 + 1 + 1, off := 0 }) 1 1, .int .i64 1] 31 = ob
  have hnw : (W5.alloc ob).heap[W5.heap.size]? = some ob := heap_alloc_new W5 ob
  rw [z6] at hnw
  refine ⟨e6.alloc (by omega) _, by rw [World.size_alloc, z6]; omega, f1.alloc _, f2.alloc _, by rw [← hO] at hnw ⊢; exact hnw, ?_⟩
  refine ⟨[.int .i64 1, .int .u32 4, .int .u32 0, .bool false, .int .i64 0, .int .i64 0, .slice none 0 0], [.int .i64 1, .int .u32 4, .int .u32 0, .bool false, .int .i64 0, .int .i64 0, .slice none 0 0], some ⟨w.heap.size + 1 + 1 + 1, 0, none⟩, 1, some ⟨w.heap.size + 1 + 1 + 1 + 1, 0, none⟩, 1, rfl, ?_, ?_, ?_, ?_, ?_, ?_, ?_, ?_⟩
  · exact patC_mk.2 ⟨none, 0, [], rfl, by unfold ok32 is32; decide, by decide, by decide, Reads.none_, patsC_nil.2 rfl⟩
  · exact patC_mk.2 ⟨none, 0, [], rfl, by unfold ok32 is32; decide, by decide, by decide, Reads.none_, patsC_nil.2 rfl⟩
  · exact (r4.alloc (by omega) _).more (by omega)
  · exact (r5.alloc (by omega) _).more (by omega)
  · intro s hs; simp only [lawT, List.mem_singleton] at hs; subst hs; unfold ok32 is32; decide
  · intro x hx; simp only [lawT, List.mem_singleton] at hx; subst hx; unfold ok32 is32; decide
  · decide
  · decide
set_option maxRecDepth 20000 in
theorem putW_T : putW [(2, 5), (5, 2)] = [2, 2, 5, 5, 2] := by decide
set_option maxRecDepth 20000 in
theorem wordE_T : wordE [(2, 5), (5, 2)] = 0 := by decide
set_option maxRecDepth 20000 in
theorem getW_T : getW [2, 2, 5, 5, 2, 99] = ([(2, 5), (5, 2)], 5, 0) := by decide
set_option maxRecDepth 20000 in
theorem lawE_T : lawE lawT = 0 := by decide
set_option maxRecDepth 20000 in
theorem putL_T : putL lawT = [1, 86, 1, 4, 0, 0, 1, 4, 0, 0, 1, 2, 0, 1, 1, 0, 1, 0, 0, 0, 1] := by decide
set_option maxRecDepth 20000 in
theorem sumB_T : sumB [49, 50, 51, 52, 53, 54, 55, 56, 57] = 3421780262 := by decide
end Go.Proofs.YtipfhamhiaeieaaDoor
