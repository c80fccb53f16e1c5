/-
 layer 43: Sum of the program. Conditions: bytes that can be read.
-/
import Derived.Test.YtmepaeahchiglaaGreatDoorZdbd
import Derived.Lib.SlBytesConst
set_option maxRecDepth 20000
set_option maxHeartbeats 4000000
set_option linter.unusedSimpArgs false
namespace Go.Proofs.YtmepaeahchiglaaGreatDoor
open Go.RowKit Go.Lib
theorem lL : ∀ (k r : Nat), fV (k + 1) r = jK (fV k r)
 | 0, _ => rfl
 | k + 1, r => by
   show fV (k + 1) (jK r) = _
   rw [lL k]; rfl
theorem Ku {X : Nat} (h : X < 4294967296) : bits .xor .u32 ((X : Int) / 2) (bits .and .u32 3988292384 (-((X : Int) % 2) % 4294967296)) = ((jK X : Nat) : Int) := by
 have e : (X : Int) / 2 = ((X / 2 : Nat) : Int) := by omega
 rw [e]
 unfold jK ML
 by_cases h1 : X % 2 = 1
 ·rw [if_pos h1, show (-((X : Int) % 2) % 4294967296) = 4294967295 by omega, show bits .and .u32 3988292384 4294967295 = ((3988292384 : Nat) : Int) by decide]
  exact u32_xor_nat (X / 2) 3988292384 (by omega) (by decide)
 ·rw [if_neg h1, show (-((X : Int) % 2) % 4294967296) = 0 by omega, show bits .and .u32 3988292384 0 = ((0 : Nat) : Int) by decide]
  have := u32_xor_nat (X / 2) 0 (by omega) (by decide)
  simpa using this
theorem EN (A : Option Addr) (n c : Nat) (xs : List UInt8) (w : World) (hx : ReadB w w.heap.size A n xs) (hn : n ≤ maxLen) :
 Calls Tryz.prog 19 #[.slice A n c] w fun e w' => e = .returned (.int .u32 (oD (xs.map UInt8.toNat) : Nat)) ∧ w = w' := by
 unfold maxLen at hn
 obtain ⟨res, hres⟩ : ∃ res : Nat, oD (xs.map UInt8.toNat) = res := ⟨_, rfl⟩
 rw [hres]
 have HX := qh hx; have bT := qh hres
 clear hx hres
 go_enter Tryz.func19, Tryz.ntmps19
 have hxl := HX.out.len
 go_wp2
 go_loopw [3, 8] (fun r i wr => ∃ k : Nat, k ≤ n ∧ i = .int .i64 k ∧ r = .int .u32 (eD ones ((xs.map UInt8.toNat).take k) : Nat) ∧ w = wr) (fun _ i _ => n - (RowKit.intOf i).toNat)
 case atStart => exact ⟨0, by omega, rfl, rfl, rfl⟩
 case round =>
  obtain ⟨k, hk, rfl, rfl, rfl⟩ := hrel
  by_cases hlt : k < n
  ·have bB : k < xs.length := by omega
   obtain ⟨ad, rfl, had, hcx⟩ := ReadB.at_ (k := k) HX.out bB
   have cB : (k : Int) < (n : Int) := by omega
   have hR : eD ones ((xs.map UInt8.toNat).take k) < 4294967296 := jo _ (by decide) (fun c hc => by
    obtain ⟨x, _, rfl⟩ := List.mem_map.1 (List.mem_of_mem_take hc)
    exact x.toNat_lt)
   have aF : eD ones ((xs.map UInt8.toNat).take (k + 1)) = nN (eD ones ((xs.map UInt8.toNat).take k)) xs[k].toNat := by
    rw [List.take_succ_eq_append_getElem (by simpa using bB)]
    unfold eD
    rw [List.foldl_append, List.foldl_cons, List.foldl_nil, List.getElem_map]
   have hc256 := xs[k].toNat_lt
   generalize xs[k].toNat = cc at hcx aF hc256
   generalize eD ones ((xs.map UInt8.toNat).take k) = R at hR aF ⊢
   have bL := qh aF
   have OB := u32_xor_nat R cc hR (by omega)
   clear aF
   have hY : R ^^^ cc < 4294967296 := Nat.xor_lt_two_pow (n := 32) hR (by omega)
   go_wp2
   generalize RH : R ^^^ cc = Y at *
   have HY := qh RH
   clear RH
   clear OB
   go_loopw [3, 16] (fun r i wr => ∃ j : Nat, j ≤ 8 ∧ i = .int .i64 j ∧ r = .int .u32 (fV j Y : Nat) ∧ w = wr) (fun _ i _ => 8 - (RowKit.intOf i).toNat)
   case atStart => exact ⟨0, by omega, rfl, rfl, rfl⟩
   case round =>
    obtain ⟨j, hj, rfl, rfl, rfl⟩ := hrel
    by_cases hlt2 : j < 8
    ·have hX : fV j Y < 4294967296 := lM j hY
     have hst2 := lL j Y
     generalize fV j Y = X at hX hst2 ⊢
     have dz := qh hst2
     have hbs := Ku hX
     have hand : bits .and .u32 (X : Int) 1 = (X : Int) % 2 := by
      have := u32_and_nat X 1 hX (by decide)
      rw [Nat.and_one_is_mod] at this
      simpa using this
     clear hst2
     go_wp2
     go_roundw
     case rel => exact ⟨j + 1, by omega, by go_num, by rw [dz.out, ← hbs], trivial⟩
     case measure => simp [RowKit.intOf]; omega
    ·obtain rfl : j = 8 := by omega
     go_wp2
     go_roundw
     case rel => exact ⟨k + 1, by omega, by go_num, by rw [bL.out]; unfold nN; rw [HY.out], trivial⟩
     case measure => simp [RowKit.intOf]; omega
  ·obtain rfl : k = n := by omega
   rw [List.take_of_length_le (by rw [List.length_map]; omega)]
   have hr := bT.out
   unfold oD at hr
   have hlt3 : eD ones (xs.map UInt8.toNat) < 4294967296 := jo _ (by decide) (fun c hc => by
    obtain ⟨x, _, rfl⟩ := List.mem_map.1 hc
    exact x.toNat_lt)
   generalize eD ones (xs.map UInt8.toNat) = R at hr hlt3 ⊢
   have hm : bits .xor .u32 IntKind.u32.max (R : Int) = ((ones ^^^ R : Nat) : Int) := u32_xor_nat 4294967295 R (by decide) hlt3
   go_wp2
   go_ret
   exact ⟨by rw [← hr, ← hm]; rfl, rfl⟩
theorem Da (w : World) (c c' : Array Value) (t : TypeId) : (w.alloc (.cells c t)).setRow w.heap.size c' = w.alloc (.cells c' t) := by
 simp only [World.setRow, World.alloc]
 congr 1
 apply Array.ext_getElem?
 intro i
 rw [Array.getElem?_modify]
 by_cases h : w.heap.size = i
 ·subst h
  simp
 ·have h' : ¬ i = w.heap.size := fun e => h e.symm
  simp [h, h', Array.getElem?_push]
theorem FX {P : Program} {ops : Array Oper} {rest : List Oper} {o : Oper} {a : Act} {w : World} {c cs : Array Value} {Q : Exit → Act → World → Prop} (hgd : o.guard = none) (ty : TypeId) (x y : Operand) (ho : o.op = .store ty x y)
 (hx : a.eval x = .pointer (some ⟨w.heap.size, 0, none⟩)) (hy : a.eval y = .agg cs) (hi : (P.info? ty).map (·.size) = some cs.size) (hc : c.size = cs.size) (h1 : cs.all (·.oneCell') = true)
 (h : wpList P ops Q rest (a.put o.dst undef) (w.alloc (.cells cs ty))) : wpList P ops Q (o :: rest) a (w.alloc (.cells c ty)) := by
 refine wpList_plain hgd fun _ hK => ?_
 unfold Oper.wp execOp
 simp only [ho, hx, hy, Instr.storeAt, Instr.sureAddr, Sem.run_bind, Sem.run_pure, Result.andThen_ok, run_storeVar_row _ _ ty ty c cs (heap_alloc_new w _) hi hc h1, Da]
 exact hK _ _ h
theorem iq (w : World) (t : TypeId) (k n : Nat) (xs : List Value) (hl : xs.length = n * k) : Reads (w.alloc (.cells xs.toArray t)) (w.heap.size + 1) k (some ⟨w.heap.size, 0, none⟩) n xs :=
 ⟨hl, fun _ => ⟨_, rfl, Nat.lt_succ_self _, fun j u hu => by rw [add_at, (Blk.new w t xs.toArray).cell j]; simpa using hu⟩⟩
def GI : Lw := ⟨⟨#[86]⟩, .mk 1 (4, 0) false 0 0 [], .mk 1 (4, 0) false 0 0 [], [(2, 0)], [⟨0, 0, (1, 0), 0, 0⟩], 1⟩
structure WF (w W : World) (cs : List Value) : Prop where
 below : Below w.heap.size w W
 lt : w.heap.size + 6 ≤ W.heap.size
 b1 : Blk W w.heap.size 55 #[.int .u32 2, .int .u32 5]
 b2 : Blk W (w.heap.size + 1) 55 #[.int .u32 5, .int .u32 2]
 b5 : Blk W (w.heap.size + 1 + 1 + 1 + 1 + 1) 62 cs.toArray
 law : fI W (w.heap.size + 6) GI cs
theorem WF.next {w W W' : World} {cs : List Value} (h : WF w W cs) (hb : Below W.heap.size W W') : WF w W' cs :=
 ⟨h.below.trans (hb.mono h.below.size), by have := h.lt; have := hb.size; omega, h.b1.below hb h.b1.lt, h.b2.below hb h.b2.lt, h.b5.below hb h.b5.lt, h.law.below (hb.mono h.lt)⟩
theorem WF.alloc {w W : World} {cs : List Value} (h : WF w W cs) (o : Obj) : WF w (W.alloc o) cs := h.next ((Below.refl _ W).alloc (Nat.le_refl _) o)
theorem zX (w : World) : ∃ W cs, ((((((w.alloc (.cells #[.int .u32 2, .int .u32 5] 55)).alloc (.cells #[.int .u32 5, .int .u32 2] 55)).alloc (.cells #[.int .i64 1, .int .u32 4, .int .u32 0, .bool false, .int .i64 0, .int .i64 0, .slice none 0 0] 58)).alloc (.cells #[.int .u32 2, .int .u32 0] 55)).alloc
 (.cells #[.int .i64 0, .int .u32 0, .int .u32 1, .int .u32 0, .int .u32 0, .int .i64 0] 90)).alloc (.cells #[.string { data := #[86] }, .int .i64 1, .int .u32 4, .int .u32 0, .bool false, .int .i64 0, .int .i64 0, .slice none 0 0, .int .i64 1, .int .u32 4, .int .u32 0, .bool false, .int .i64 0, .int .i64 0, .slice none 0 0,
   .slice (some { block := w.heap.size + 1 + 1 + 1, off := 0 }) 1 1, .slice (some { block := w.heap.size + 1 + 1 + 1 + 1, off := 0 }) 1 1, .int .i64 1] 62)) = W ∧ WF w W cs ∧ W.heap.size = w.heap.size + 1 + 1 + 1 + 1 + 1 + 1 := by
 refine ⟨_, [.string { data := #[86] }, .int .i64 1, .int .u32 4, .int .u32 0, .bool false, .int .i64 0, .int .i64 0, .slice none 0 0, .int .i64 1, .int .u32 4, .int .u32 0, .bool false, .int .i64 0, .int .i64 0, .slice none 0 0,
  .slice (some { block := w.heap.size + 1 + 1 + 1, off := 0 }) 1 1, .slice (some { block := w.heap.size + 1 + 1 + 1 + 1, off := 0 }) 1 1, .int .i64 1], rfl, ?_, by simp only [World.size_alloc]⟩
 have e1 := Below.refl w.heap.size w
 have f1 := Blk.new w 55 #[.int .u32 2, .int .u32 5]
 have e2 := e1.alloc (Nat.le_refl _) (.cells #[.int .u32 2, .int .u32 5] 55)
 have z2 : (w.alloc (.cells #[.int .u32 2, .int .u32 5] 55)).heap.size = w.heap.size + 1 := World.size_alloc _ _
 generalize w.alloc (.cells #[.int .u32 2, .int .u32 5] 55) = W1 at *
 have f2 := Blk.new W1 55 #[.int .u32 5, .int .u32 2]
 replace f1 := f1.alloc (.cells #[.int .u32 5, .int .u32 2] 55)
 have e3 := e2.alloc (by omega) (.cells #[.int .u32 5, .int .u32 2] 55)
 have z3 : (W1.alloc (.cells #[.int .u32 5, .int .u32 2] 55)).heap.size = w.heap.size + 1 + 1 := by rw [World.size_alloc, z2]
 rw [z2] at f2
 generalize W1.alloc (.cells #[.int .u32 5, .int .u32 2] 55) = W2 at *
 replace f1 := f1.alloc (.cells #[.int .i64 1, .int .u32 4, .int .u32 0, .bool false, .int .i64 0, .int .i64 0, .slice none 0 0] 58)
 replace f2 := f2.alloc (.cells #[.int .i64 1, .int .u32 4, .int .u32 0, .bool false, .int .i64 0, .int .i64 0, .slice none 0 0] 58)
 have e4 := e3.alloc (by omega) (.cells #[.int .i64 1, .int .u32 4, .int .u32 0, .bool false, .int .i64 0, .int .i64 0, .slice none 0 0] 58)
 have z4 : (W2.alloc (.cells #[.int .i64 1, .int .u32 4, .int .u32 0, .bool false, .int .i64 0, .int .i64 0, .slice none 0 0] 58)).heap.size = w.heap.size + 1 + 1 + 1 := by rw [World.size_alloc, z3]
 generalize W2.alloc (.cells #[.int .i64 1, .int .u32 4, .int .u32 0, .bool false, .int .i64 0, .int .i64 0, .slice none 0 0] 58) = W3 at *
 have r4 := iq W3 55 2 1 [.int .u32 2, .int .u32 0] rfl
 replace f1 := f1.alloc (.cells #[.int .u32 2, .int .u32 0] 55)
 replace f2 := f2.alloc (.cells #[.int .u32 2, .int .u32 0] 55)
 have e5 := e4.alloc (by omega) (.cells #[.int .u32 2, .int .u32 0] 55)
 have z5 : (W3.alloc (.cells #[.int .u32 2, .int .u32 0] 55)).heap.size = w.heap.size + 1 + 1 + 1 + 1 := by rw [World.size_alloc, z4]
 rw [z4] at r4
 generalize W3.alloc (.cells #[.int .u32 2, .int .u32 0] 55) = W4 at *
 have r5 := iq W4 90 6 1 [.int .i64 0, .int .u32 0, .int .u32 1, .int .u32 0, .int .u32 0, .int .i64 0] rfl
 replace r4 := r4.alloc (by omega) (.cells #[.int .i64 0, .int .u32 0, .int .u32 1, .int .u32 0, .int .u32 0, .int .i64 0] 90)
 replace f1 := f1.alloc (.cells #[.int .i64 0, .int .u32 0, .int .u32 1, .int .u32 0, .int .u32 0, .int .i64 0] 90)
 replace f2 := f2.alloc (.cells #[.int .i64 0, .int .u32 0, .int .u32 1, .int .u32 0, .int .u32 0, .int .i64 0] 90)
 have e6 := e5.alloc (by omega) (.cells #[.int .i64 0, .int .u32 0, .int .u32 1, .int .u32 0, .int .u32 0, .int .i64 0] 90)
 have z6 : (W4.alloc (.cells #[.int .i64 0, .int .u32 0, .int .u32 1, .int .u32 0, .int .u32 0, .int .i64 0] 90)).heap.size = w.heap.size + 1 + 1 + 1 + 1 + 1 := by rw [World.size_alloc, z5]
 rw [z5] at r5
 generalize W4.alloc (.cells #[.int .i64 0, .int .u32 0, .int .u32 1, .int .u32 0, .int .u32 0, .int .i64 0] 90) = W5 at *
 generalize hO : Obj.cells #[.string { data := #[86] }, .int .i64 1, .int .u32 4, .int .u32 0, .bool false, .int .i64 0, .int .i64 0, .slice none 0 0, .int .i64 1, .int .u32 4, .int .u32 0, .bool false, .int .i64 0, .int .i64 0, .slice none 0 0,
  .slice (some { block := w.heap.size + 1 + 1 + 1, off := 0 }) 1 1, .slice (some { block := w.heap.size + 1 + 1 + 1 + 1, off := 0 }) 1 1, .int .i64 1] 62 = ob
 have hnw : (W5.alloc ob).heap[W5.heap.size]? = some ob := heap_alloc_new W5 ob
 rw [z6] at hnw
 refine ⟨e6.alloc (by omega) _, by rw [World.size_alloc, z6]; omega, f1.alloc _, f2.alloc _, by rw [← hO] at hnw ⊢; exact hnw, ?_⟩
 refine ⟨[.int .i64 1, .int .u32 4, .int .u32 0, .bool false, .int .i64 0, .int .i64 0, .slice none 0 0], [.int .i64 1, .int .u32 4, .int .u32 0, .bool false, .int .i64 0, .int .i64 0, .slice none 0 0], some ⟨w.heap.size + 1 + 1 + 1, 0, none⟩, 1, some ⟨w.heap.size + 1 + 1 + 1 + 1, 0, none⟩, 1, rfl, ?_, ?_, ?_, ?_, ?_, ?_, ?_, ?_⟩
 ·exact gN.2 ⟨none, 0, [], rfl, by unfold ok32 is32; decide, by decide, by decide, Reads.none_, dZ.2 rfl⟩
 ·exact gN.2 ⟨none, 0, [], rfl, by unfold ok32 is32; decide, by decide, by decide, Reads.none_, dZ.2 rfl⟩
 ·exact (r4.alloc (by omega) _).more (by omega)
 ·exact (r5.alloc (by omega) _).more (by omega)
 ·intro s hs; simp only [GI, List.mem_singleton] at hs; subst hs; unfold ok32 is32; decide
 ·intro x hx; simp only [GI, List.mem_singleton] at hx; subst hx; unfold ok32 is32; decide
 ·decide
 ·decide
theorem Om : L9 [(2, 5), (5, 2)] = [2, 2, 5, 5, 2] := by decide
theorem LJ : bF [(2, 5), (5, 2)] = 0 := by decide
theorem O0 : O1 [2, 2, 5, 5, 2, 99] = ([(2, 5), (5, 2)], 5, 0) := by decide
theorem Oy : nR GI = 0 := by decide
theorem Oo : Ma GI = [1, 86, 1, 4, 0, 0, 1, 4, 0, 0, 1, 2, 0, 1, 1, 0, 1, 0, 0, 0, 1] := by decide
theorem Oh : oD [49, 50, 51, 52, 53, 54, 55, 56, 57] = 3421780262 := by decide
theorem qV {w : World} {base : Nat} {e : TypeId} {size n : Nat} {v : Value} {xs : List Value} (h : w.ownsRow base e size v n xs) : ∃ A c, v = .slice A n c ∧ n ≤ c ∧ c ≤ maxLen ∧ Reads w w.heap.size size A n xs := by
 obtain ⟨A, c, rfl, h1, h2⟩ := ownsRow_form h
 exact ⟨A, c, rfl, h1, h2, Reads.of_own h⟩
theorem mW {l : List Nat} (h : l.all (fun b => decide (b < 256)) = true) : ∀ b ∈ l, b < 256 := fun b hb => by simpa using List.all_eq_true.1 h b hb
theorem Dg (w : World) (t : TypeId) (k n : Nat) (xs : List Value) (fr : Nat × Nat) (hl : xs.length = n * k) : Reads (w.alloc (.cells xs.toArray t fr)) (w.heap.size + 1) k (some ⟨w.heap.size, 0, none⟩) n xs :=
 ⟨hl, fun _ => ⟨_, rfl, Nat.lt_succ_self _, fun j u hu => by rw [add_at, cell_of_row _ _ _ _ t fr (heap_alloc_new w _)]; simpa using hu⟩⟩
theorem FO (w : World) : Calls Tryz.prog 9 #[] w fun e w' => e = .returned (.bool true) ∧ Below w.heap.size w w' := by
 have bL := qh (zX w)
 go_enter Tryz.func9, Tryz.ntmps9
 go_wp2_with (refine FX rfl _ _ _ rfl rfl rfl (by kernel_rfl) rfl rfl ?_; simp only [Act.put, gq1])
 obtain ⟨W, cs, hW, hF, hz⟩ := bL.out
 rw [hW]
 clear hW bL
 have hr := iq W 55 2 2 [.int .u32 2, .int .u32 5, .int .u32 5, .int .u32 2] rfl
 rw [hz] at hr
 have hF1 := hF.alloc (.cells #[.int .u32 2, .int .u32 5, .int .u32 5, .int .u32 2] 55)
 have hz1 : (W.alloc (.cells #[.int .u32 2, .int .u32 5, .int .u32 5, .int .u32 2] 55)).heap.size = w.heap.size + 1 + 1 + 1 + 1 + 1 + 1 + 1 := by rw [World.size_alloc, hz]
 generalize W.alloc (.cells #[.int .u32 2, .int .u32 5, .int .u32 5, .int .u32 2] 55) = W1 at *
 have hput := Bf (some ⟨w.heap.size + 1 + 1 + 1 + 1 + 1 + 1, 0, none⟩) 2 2 _ [(2, 5), (5, 2)] W1 hr (by omega) (by decide) (by intro s hs; simp only [List.mem_cons, List.not_mem_nil, or_false] at hs; rcases hs with rfl | rfl <;> (unfold ok32 is32; decide))
 rw [Om, LJ] at hput
 have Nf := qh hF1
 clear hF hF1 hr hz
 refine hput.mono ?_
 clear hput
 rintro e w2 ⟨v5, rfl, ho5, hb2⟩
 have hF2 := Nf.out.next hb2
 obtain ⟨A5, c5, rfl, hn5, hc5, hr5⟩ := qV ho5
 have ZH := qh hF2; have VI : Hid (Reads w2 w2.heap.size 1 A5 5 (List.map bv [2, 2, 5, 5, 2])) := qh hr5
 clear ho5 hr5 hb2 hF2 hz1
 go_wp2_with fail
 have hr := iq w2 5 1 6 [.int .u8 2, .int .u8 2, .int .u8 5, .int .u8 5, .int .u8 2, .int .u8 99] rfl
 have hb := (Below.refl w2.heap.size w2).alloc (Nat.le_refl _) (.cells #[.int .u8 2, .int .u8 2, .int .u8 5, .int .u8 5, .int .u8 2, .int .u8 99] 5)
 have hz3 : (w2.alloc (.cells #[.int .u8 2, .int .u8 2, .int .u8 5, .int .u8 5, .int .u8 2, .int .u8 99] 5)).heap.size = w2.heap.size + 1 := World.size_alloc _ _
 generalize w2.alloc (.cells #[.int .u8 2, .int .u8 2, .int .u8 5, .int .u8 5, .int .u8 2, .int .u8 99] 5) = w3 at *
 have fG := BQ w3 (some ⟨w2.heap.size, 0, none⟩) 6 6 _ [2, 2, 5, 5, 2, 99] hr (by omega) (by decide) (by decide) (by decide) (mW (by decide))
 rw [O0] at fG
 replace fG : Calls Tryz.prog 24 #[.slice (some ⟨w2.heap.size, 0, none⟩) 6 6] w3 (fun e w' => ∃ v, e = .returned (.tuple #[v, .int .i64 5, .int .i64 0]) ∧ w'.ownsRow w3.heap.size 55 2 v 2 ([((2 : Nat), (5 : Nat)), (5, 2)].flatMap gL) ∧ Below w3.heap.size w3 w') := fG
 have HB3 := qh hb; have ZG := qh (ZH.out.next hb); have Ur := qh (VI.out.below hb)
 clear hb hr hz3 ZH VI
 refine fG.mono ?_
 clear fG
 rintro e w4 ⟨v7, rfl, ho7, hb4⟩
 obtain ⟨A7, c7, rfl, hn7, hc7, hr7⟩ := qV ho7
 have Qt := qh (ZG.out.next hb4); have Uq := qh ((Ur.out.below (hb4.mono HB3.out.size)).more (Nat.le_trans HB3.out.size hb4.size)); have VH : Hid (Reads w4 w4.heap.size 2 A7 2 ([((2 : Nat), (5 : Nat)), (5, 2)].flatMap gL)) := qh hr7
 clear hb4 ho7 hr7 Ur ZG HB3
 have gu := qh (fC Qt.out.law)
 have mh := qh Qt.out.b5
 go_wp2_with (refine iP rfl _ rfl _ rfl _ gu.out mh.out ?_; simp only [Act.put, gq1])
 have hpl := Dk w4 (w.heap.size + 6) GI cs Qt.out.law Qt.out.lt (by decide)
 rw [Oo, Oy] at hpl
 refine hpl.mono ?_
 clear hpl
 rintro e w5 ⟨v10, rfl, ho10, hb5⟩
 obtain ⟨ZN, c10, rfl, hn10, hc10, hr10⟩ := qV ho10
 have ZF := qh (Qt.out.next hb5); have Uo := qh ((Uq.out.below hb5).more hb5.size); have Um := qh ((VH.out.below hb5).more hb5.size)
 have Us : Hid (Reads w5 w5.heap.size 1 ZN 21 (List.map bv [1, 86, 1, 4, 0, 0, 1, 4, 0, 0, 1, 2, 0, 1, 1, 0, 1, 0, 0, 0, 1])) := qh hr10
 clear hb5 ho10 hr10 Uq VH Qt mh
 go_wp2_with fail
 have hr := iq w5 5 1 5 [.int .u8 2, .int .u8 2, .int .u8 5, .int .u8 5, .int .u8 2] rfl
 have hb := (Below.refl w5.heap.size w5).alloc (Nat.le_refl _) (.cells #[.int .u8 2, .int .u8 2, .int .u8 5, .int .u8 5, .int .u8 2] 5)
 have heq1 := mV A5 (some ⟨w5.heap.size, 0, none⟩) 5 5 c5 5 (w5.heap.size + 1) [2, 2, 5, 5, 2] [2, 2, 5, 5, 2] _ ((Uo.out.below hb).more (by omega)) hr (mW (by decide)) (mW (by decide))
 rw [decide_eq_true rfl] at heq1
 have PV := qh (ZF.out.next hb); have Ps := qh ((Um.out.below hb).more hb.size); have KR := qh ((Us.out.below hb).more hb.size)
 refine heq1.mono ?_
 clear heq1 hr hb Uo Um Us ZF
 rintro e w6 ⟨rfl, hw6⟩
 rw [hw6] at PV Ps KR
 clear hw6
 have k1 := PV.out.b1.cell 0
 have k2 := PV.out.b1.cell 1
 have k3 := PV.out.b2.cell 0
 have k4 := PV.out.b2.cell 1
 simp only [gq2] at k1 k2 k3 k4
 go_wp2_with fail
 have hr := iq w6 55 2 2 [.int .u32 2, .int .u32 5, .int .u32 5, .int .u32 2] rfl
 have hb := (Below.refl w6.heap.size w6).alloc (Nat.le_refl _) (.cells #[.int .u32 2, .int .u32 5, .int .u32 5, .int .u32 2] 55)
 have hz : (w6.alloc (.cells #[.int .u32 2, .int .u32 5, .int .u32 5, .int .u32 2] 55)).heap.size = w6.heap.size + 1 := World.size_alloc _ _
 have heq2 := pq A7 (some ⟨w6.heap.size, 0, none⟩) 2 2 c7 2 (w6.heap.size + 1) [(2, 5), (5, 2)] [(2, 5), (5, 2)] _ ((Ps.out.below hb).more (by omega)) hr (by rw [hz]; exact Nat.le_refl _) (by decide)
 rw [decide_eq_true rfl] at heq2
 have ZE := PV.out.next hb; have NT := (KR.out.below hb).more hb.size
 generalize w6.alloc (.cells #[.int .u32 2, .int .u32 5, .int .u32 5, .int .u32 2] 55) = w7 at *
 have Vb := qh ZE; have KQ := qh NT
 refine heq2.mono ?_
 clear heq2 hr hb Ps KR PV k1 k2 k3 k4 ZE NT hz
 rintro e w8 ⟨rfl, _, hb8⟩
 have ZC := qh (Vb.out.next hb8); have NS := qh ((KQ.out.below hb8)); have hz8 := hb8.size
 have Zh := qh hz8
 clear hb8 Vb KQ hz8
 go_wp2_with fail
 have hr := iq w8 5 1 21 [.int .u8 1, .int .u8 86, .int .u8 1, .int .u8 4, .int .u8 0, .int .u8 0, .int .u8 1, .int .u8 4, .int .u8 0, .int .u8 0, .int .u8 1, .int .u8 2, .int .u8 0, .int .u8 1, .int .u8 1, .int .u8 0, .int .u8 1, .int .u8 0, .int .u8 0, .int .u8 0, .int .u8 1] rfl
 have hb := (Below.refl w8.heap.size w8).alloc (Nat.le_refl _) (.cells #[.int .u8 1, .int .u8 86, .int .u8 1, .int .u8 4, .int .u8 0, .int .u8 0, .int .u8 1, .int .u8 4, .int .u8 0, .int .u8 0, .int .u8 1, .int .u8 2, .int .u8 0, .int .u8 1, .int .u8 1, .int .u8 0, .int .u8 1, .int .u8 0, .int .u8 0, .int .u8 0, .int .u8 1] 5)
 have hz := Zh.out
 have hsz : (w8.alloc (.cells #[.int .u8 1, .int .u8 86, .int .u8 1, .int .u8 4, .int .u8 0, .int .u8 0, .int .u8 1, .int .u8 4, .int .u8 0, .int .u8 0, .int .u8 1, .int .u8 2, .int .u8 0, .int .u8 1, .int .u8 1, .int .u8 0, .int .u8 1, .int .u8 0, .int .u8 0, .int .u8 0, .int .u8 1] 5)).heap.size = w8.heap.size + 1 := World.size_alloc _ _
 have hbq := mV ZN (some ⟨w8.heap.size, 0, none⟩) 21 21 c10 21 (w8.heap.size + 1) [1, 86, 1, 4, 0, 0, 1, 4, 0, 0, 1, 2, 0, 1, 1, 0, 1, 0, 0, 0, 1] [1, 86, 1, 4, 0, 0, 1, 4, 0, 0, 1, 2, 0, 1, 1, 0, 1, 0, 0, 0, 1] _ (((NS.out.more hz).below hb).more (by omega)) hr (mW (by decide)) (mW (by decide))
 rw [decide_eq_true rfl] at hbq
 have Yx := qh (ZC.out.next hb)
 refine hbq.mono ?_
 clear hbq hr hb hz hsz NS Zh ZC
 rintro e w9 ⟨rfl, hw9⟩
 rw [hw9] at Yx
 clear hw9
 have kc := fun (W : World) (C : Array Value) (n c : Nat) => Lib.run_convert_bytes_const (P := Tryz.prog) W 36 5 C n c Tryz.underlying36 Tryz.underlying5
 go_wp2_with fail
 clear kc
 have hr : ReadB (w9.alloc (.cells #[.int .u8 49, .int .u8 50, .int .u8 51, .int .u8 52, .int .u8 53, .int .u8 54, .int .u8 55, .int .u8 56, .int .u8 57] 5 (9, 9 + 1))) (w9.alloc (.cells #[.int .u8 49, .int .u8 50, .int .u8 51, .int .u8 52, .int .u8 53, .int .u8 54, .int .u8 55, .int .u8 56, .int .u8 57] 5 (9, 9 + 1))).heap.size (some ⟨w9.heap.size, 0, none⟩) 9 [49, 50, 51, 52, 53, 54, 55, 56, 57] := by
  rw [World.size_alloc]
  exact Dg w9 5 1 9 [.int .u8 49, .int .u8 50, .int .u8 51, .int .u8 52, .int .u8 53, .int .u8 54, .int .u8 55, .int .u8 56, .int .u8 57] _ rfl
 have hsum := EN (some ⟨w9.heap.size, 0, none⟩) 9 9 _ _ hr (by decide)
 rw [show ([49, 50, 51, 52, 53, 54, 55, 56, 57] : List UInt8).map UInt8.toNat = [49, 50, 51, 52, 53, 54, 55, 56, 57] from rfl, Oh] at hsum
 have Vd := qh (Yx.out.alloc (.cells #[.int .u8 49, .int .u8 50, .int .u8 51, .int .u8 52, .int .u8 53, .int .u8 54, .int .u8 55, .int .u8 56, .int .u8 57] 5 (9, 9 + 1)))
 refine hsum.mono ?_
 clear hsum hr Yx
 rintro e w10 ⟨rfl, hw10⟩
 rw [hw10] at Vd
 clear hw10
 go_wp2
 go_ret
 exact ⟨rfl, Vd.out.below⟩
theorem Kg (n : Nat) (hn : n < 4294967296) (w : World) : Calls Tryz.prog 37 #[.int .u32 (n : Int)] w (Lm w (eH n)) := by
 go_enter Tryz.func37, Tryz.ntmps37
 go_wp2
 go_ret
 refine ⟨_, rfl, ?_, (Below.refl w.heap.size w).alloc (Nat.le_refl _) _⟩
 have e : (n : Int) / 16777216 = ((n / 16777216 % 256 : Nat) : Int) := by omega
 rw [e]
 exact World.ownsRow_lit (base := w.heap.size) (e := 5) (size := 1) w ((eH n).map bv).toArray 4 (Nat.le_refl _) (by unfold maxLen; omega) rfl
def sK : List Nat := [97, 98, 108, 49]
theorem yT {b : List Nat} (h : ∀ c ∈ b, c < 256) : oD b < 4294967296 := by
 unfold oD
 exact Nat.xor_lt_two_pow (n := 32) (by decide) (jo b (by decide) h)
theorem tV {l : List Nat} (h : ∀ c ∈ l, c < 256) : (l.map UInt8.ofNat).map UInt8.toNat = l := by
 induction l with
 | nil => rfl
 | cons c l ih =>
   rw [List.map_cons, List.map_cons, ih fun d hd => h d (List.mem_cons_of_mem _ hd)]
   have := h c (List.mem_cons_self ..)
   congr 1
   simp; omega
theorem uL {w : World} {B n : Nat} {A : Option Addr} {l : List Nat} (h : Reads w B 1 A n (l.map bv)) (hl : ∀ c ∈ l, c < 256) : ReadB w B A n (l.map UInt8.ofNat) := by
 have e : (l.map UInt8.ofNat).map (fun u : UInt8 => Value.int .u8 (u.toNat : Int)) = l.map bv := by
  rw [List.map_map]
  refine List.map_congr_left fun c hc => ?_
  have := hl c hc
  show Value.int .u8 _ = Value.int .u8 _
  simp
  omega
 unfold ReadB
 rw [e]
 exact h
def wN {α : Type} (get : Rdr α) : Prop := ∀ b x r, get b = some (x, r) → ∃ a, b = a ++ r
theorem fP {α : Type} (x : α) : wN (fun r => some (x, r)) := fun b y r h => by
 injection h with h
 obtain ⟨_, rfl⟩ := Prod.mk.inj h
 exact ⟨[], rfl⟩
theorem aN {α β : Type} {g : Rdr α} {f : α → Rdr β} (h1 : wN g) (h2 : ∀ x, wN (f x)) : wN (thenR g f) := fun b y r h => by
 obtain ⟨x, s, e1, e2⟩ := thenR_out h
 obtain ⟨a, rfl⟩ := h1 _ _ _ e1
 obtain ⟨a', rfl⟩ := h2 _ _ _ _ e2
 exact ⟨a ++ a', by rw [List.append_assoc]⟩
theorem xL : ∀ f k acc, wN (readK f k acc)
 | 0, k, acc => fun b x r h => by cases h
 | f + 1, k, acc => fun b x r h => by
   cases b with
   | nil => cases h
   | cons b l =>
     have h' : (if 128 ≤ b then readK f (k + 1) (acc + 128 ^ k * (b % 128)) l else if (b = 0 ∧ 0 < k) ∨ 4294967296 ≤ acc + 128 ^ k * b then none else some (acc + 128 ^ k * b, l)) = some (x, r) := h
     split at h'
     ·obtain ⟨a, rfl⟩ := xL f _ _ _ _ _ h'
      exact ⟨b :: a, rfl⟩
     ·split at h'
      ·cases h'
      ·injection h' with h'
       obtain ⟨_, rfl⟩ := Prod.mk.inj h'
       exact ⟨[b], rfl⟩
theorem fQ : wN readN := xL _ _ _
theorem qI : wN countR := aN fQ fun n b x r h => by
 have h' : (if n ≤ b.length then some (n, b) else none) = some (x, r) := h
 split at h'
 ·injection h' with h'
  obtain ⟨_, rfl⟩ := Prod.mk.inj h'
  exact ⟨[], rfl⟩
 ·cases h'
theorem yU : wN sndR := aN fQ fun _ => aN fQ fun _ => fP _
theorem Ai : wN jZ := aN fQ fun n b x r h => by
 have h' : (if 1 < n then none else some (decide (n = 1), b)) = some (x, r) := h
 split at h'
 ·cases h'
 ·injection h' with h'
  obtain ⟨_, rfl⟩ := Prod.mk.inj h'
  exact ⟨[], rfl⟩
theorem Ah {α : Type} {get : Rdr α} (h : wN get) : ∀ n, wN (manyR get n)
 | 0 => fP _
 | n + 1 => aN h fun _ => aN (Ah h n) fun _ => fP _
theorem Af {α : Type} {get : Rdr α} (h : wN get) : wN (someR get) := aN qI fun n => Ah h n
theorem qH {get : Nat → Rdr (Pt × Nat)} (h : ∀ l, wN (get l)) : ∀ n l, wN (manyS get n l)
 | 0, _ => fP _
 | n + 1, l => aN (h l) fun _ => aN (qH h n _) fun _ => fP _
theorem IQ {get : Nat → Rdr (Pt × Nat)} (h : ∀ l, wN (get l)) (left : Nat) : wN (mM get left) := aN fQ fun k => by
 by_cases k1 : k = 1
 ·rw [if_pos k1]; exact aN yU fun _ => aN Ai fun _ => fP _
 ·rw [if_neg k1]
  by_cases k3 : k = 3 ∨ k = 4
  ·rw [if_pos k3]; exact aN qI fun n => aN (qH h n left) fun _ => fP _
  ·rw [if_neg k3]
   by_cases k5 : k = 5
   ·rw [if_pos k5]; exact aN fQ fun _ => aN fQ fun _ => aN (qH h 1 left) fun _ => fP _
   ·rw [if_neg k5]; exact fP _
theorem EO : ∀ f left, wN (fD f left)
 | 0, _ => fun b x r h => by cases h
 | f + 1, 0 => fun b x r h => by rw [nG] at h; cases h
 | f + 1, left + 1 => fun b x r h => by rw [nH] at h; exact IQ (EO f) left b x r h
theorem IP : wN bg := aN qI fun n b x r h => by
 injection h with h
 obtain ⟨_, rfl⟩ := Prod.mk.inj h
 exact ⟨b.take n, (List.take_append_drop n b).symm⟩
theorem LU : wN ja := aN fQ fun _ => aN fQ fun _ => aN yU fun _ => aN fQ fun _ => aN fQ fun _ => fP _
theorem Ag : wN kJ := aN (EO _ _) fun _ => fP _
theorem LV : wN jH := aN IP fun _ => aN Ag fun _ => aN Ag fun _ => aN (Af yU) fun _ => aN (Af LU) fun _ => aN fQ fun _ => fP _
theorem IK : lQ lC fun x m => x.1.size ≤ m ∧ ok32 x.2 := fun b y r hb h => by
 obtain ⟨s, r1, e1, h⟩ := thenR_out h
 obtain ⟨x, r2, e2, h⟩ := thenR_out h
 obtain ⟨p1, p2, p3⟩ := jh b s r1 hb e1
 obtain ⟨q1, q2, q3⟩ := tZ r1 x r2 p2 e2
 obtain ⟨rfl, k2, k3⟩ := eU h q2
 exact ⟨⟨p1, q1⟩, k2, by omega⟩
theorem IL : lQ lX fun x m => x.text.size ≤ m ∧ is32 x.clear ∧ ok32 x.set := fun b y r hb h => by
 obtain ⟨s, r1, e1, h⟩ := thenR_out h
 obtain ⟨c, r2, e2, h⟩ := thenR_out h
 obtain ⟨x, r3, e3, h⟩ := thenR_out h
 obtain ⟨p1, p2, p3⟩ := jh b s r1 hb e1
 obtain ⟨q1, q2, q3⟩ := oZ r1 c r2 p2 e2
 obtain ⟨t1, t2, t3⟩ := tZ r2 x r3 q2 e3
 obtain ⟨rfl, k2, k3⟩ := eU h t2
 exact ⟨⟨p1, q1, t1⟩, k2, by omega⟩
theorem LP : lQ CF fun x m => x.2.size ≤ m := fun b y r hb h => by
 obtain ⟨k, r1, e1, h⟩ := thenR_out h
 obtain ⟨s, r2, e2, h⟩ := thenR_out h
 obtain ⟨p1, p2, p3⟩ := oZ b k r1 hb e1
 obtain ⟨q1, q2, q3⟩ := jh r1 s r2 p2 e2
 obtain ⟨rfl, k2, k3⟩ := eU h q2
 exact ⟨by show s.size ≤ _; omega, k2, by omega⟩
theorem IM : lQ lG fun k _ => 0 ≤ k ∧ k < 4294967296 := fun b y r hb h => by
 obtain ⟨k, r1, e1, h⟩ := thenR_out h
 obtain ⟨p1, p2, p3⟩ := oZ b k r1 hb e1
 obtain ⟨rfl, k2, k3⟩ := eU h p2
 have : k < 4294967296 := p1
 exact ⟨by omega, k2, by omega⟩
theorem FU : lQ wordR fun l _ => ∀ s ∈ l, ok32 s := fun b y r hb h => by
 obtain ⟨⟨-, p1⟩, p2, p3⟩ := dY tZ (fun _ _ _ h _ => h) b y r hb h
 exact ⟨p1, p2, p3⟩
theorem FW : lQ jZ fun _ _ => True := fun b x r hb h => by
 obtain ⟨a, rfl⟩ := Ai b x r h
 exact ⟨trivial, fun c hc => hb c (by simp [hc]), by simp⟩
theorem xK : lQ gG fun f _ => (f.has = false → f.w = []) ∧ ∀ s ∈ f.w, ok32 s := fun b y r hb h => by
 obtain ⟨fl, r1, e1, h⟩ := thenR_out h
 obtain ⟨-, p2, p3⟩ := FW b fl r1 hb e1
 cases fl with
 | true =>
   simp only [if_true] at h
   obtain ⟨x, r2, e2, h⟩ := thenR_out h
   obtain ⟨q1, q2, q3⟩ := FU r1 x r2 p2 e2
   obtain ⟨rfl, k2, k3⟩ := eU h q2
   exact ⟨⟨fun e => (by cases e), q1⟩, k2, by omega⟩
 | false =>
   simp only [Bool.false_eq_true, if_false] at h
   obtain ⟨rfl, k2, k3⟩ := eU h p2
   exact ⟨⟨fun _ => rfl, fun s hs => (by cases hs)⟩, k2, by omega⟩
theorem LQ : lQ Ce fun x m => x.bX.size ≤ m ∧ ∀ f ∈ x.bU, (f.has = false → f.w = []) ∧ ∀ s ∈ f.w, ok32 s := fun b y r hb h => by
 obtain ⟨s, r1, e1, h⟩ := thenR_out h
 obtain ⟨l, r2, e2, h⟩ := thenR_out h
 obtain ⟨p1, p2, p3⟩ := jh b s r1 hb e1
 obtain ⟨⟨-, q1⟩, q2, q3⟩ := dY xK (fun _ _ _ h _ => h) r1 l r2 p2 e2
 obtain ⟨rfl, k2, k3⟩ := eU h q2
 exact ⟨⟨p1, q1⟩, k2, by omega⟩
theorem CU : lQ jH fun l m => l.name.size ≤ m := fun b y r hb h => by
 obtain ⟨a, e⟩ := LV b y r h
 obtain ⟨s, r1, e1, h⟩ := thenR_out h
 obtain ⟨x1, r2, -, h⟩ := thenR_out h
 obtain ⟨x2, r3, -, h⟩ := thenR_out h
 obtain ⟨x3, r4, -, h⟩ := thenR_out h
 obtain ⟨x4, r5, -, h⟩ := thenR_out h
 obtain ⟨x5, r6, -, h⟩ := thenR_out h
 obtain ⟨p1, p2, p3⟩ := jh b s r1 hb e1
 injection h with h
 obtain ⟨rfl, -⟩ := Prod.mk.inj h
 exact ⟨p1, fun c hc => hb c (by rw [e]; simp [hc]), by rw [e]; simp⟩
structure Pg (p : Pj) (m : Nat) : Prop where
 o1 : ∀ s ∈ p.aK, s.size ≤ m
 o2 : ∀ x ∈ p.aG, x.1.size ≤ m ∧ ok32 x.2
 o3 : ∀ x ∈ p.marks, x.text.size ≤ m ∧ is32 x.clear ∧ ok32 x.set
 o4 : ∀ x ∈ p.tree, x.2.size ≤ m
 o5 : ∀ l ∈ p.au, l.name.size ≤ m
 o6 : ∀ l ∈ p.on, l.length ≤ m ∧ ∀ k ∈ l, 0 ≤ k ∧ k < 4294967296
 o7 : ∀ f ∈ p.aA, (f.has = false → f.w = []) ∧ ∀ s ∈ f.w, ok32 s
 o8 : ∀ x ∈ p.entries, x.bX.size ≤ m ∧ ∀ f ∈ x.bU, (f.has = false → f.w = []) ∧ ∀ s ∈ f.w, ok32 s
theorem FV : lQ qa fun h m => (∀ x ∈ h.tree, x.2.size ≤ m) ∧ (∀ l ∈ h.au, l.name.size ≤ m) ∧ h.on.length = h.tree.length ∧ ∀ l ∈ h.on, l.length ≤ m ∧ ∀ k ∈ l, 0 ≤ k ∧ k < 4294967296 := fun b y r hb h => by
 obtain ⟨t, r1, e1, h⟩ := thenR_out h
 obtain ⟨l, r2, e2, h⟩ := thenR_out h
 obtain ⟨o, r3, e3, h⟩ := thenR_out h
 obtain ⟨⟨-, p1⟩, p2, p3⟩ := dY LP (fun _ _ _ h1 h2 => Nat.le_trans h1 h2) b t r1 hb e1
 obtain ⟨⟨-, q1⟩, q2, q3⟩ := dY CU (fun _ _ _ h1 h2 => Nat.le_trans h1 h2) r1 l r2 p2 e2
 obtain ⟨⟨t0, t1⟩, t2, t3⟩ := qG (dY IM (fun _ _ _ h _ => h)) (fun _ _ _ h1 h2 => ⟨Nat.le_trans h1.1 h2, h1.2⟩) t.length r2 o r3 q2 e3
 obtain ⟨rfl, k2, k3⟩ := eU h t2
 exact ⟨⟨p1, fun x hx => Nat.le_trans (q1 x hx) p3, t0, fun x hx => ⟨Nat.le_trans (t1 x hx).1 (by omega), (t1 x hx).2⟩⟩, k2, by omega⟩
theorem qF : lQ iN fun p m => Pg p m ∧ p.on.length = p.tree.length := fun b y r hb h => by
 obtain ⟨f, r1, e1, h⟩ := thenR_out h
 obtain ⟨s, r2, e2, h⟩ := thenR_out h
 obtain ⟨m, r3, e3, h⟩ := thenR_out h
 obtain ⟨hh, r4, e4, h⟩ := thenR_out h
 obtain ⟨q, r5, e5, h⟩ := thenR_out h
 obtain ⟨e, r6, e6, h⟩ := thenR_out h
 obtain ⟨⟨-, a1⟩, a2, a3⟩ := dY jh (fun _ _ _ h1 h2 => Nat.le_trans h1 h2) b f r1 hb e1
 obtain ⟨⟨-, b1⟩, b2, b3⟩ := dY IK (fun _ _ _ h1 h2 => ⟨Nat.le_trans h1.1 h2, h1.2⟩) r1 s r2 a2 e2
 obtain ⟨⟨-, c1⟩, c2, c3⟩ := dY IL (fun _ _ _ h1 h2 => ⟨Nat.le_trans h1.1 h2, h1.2⟩) r2 m r3 b2 e3
 obtain ⟨⟨d1, d4, d5, d6⟩, d2, d3⟩ := FV r3 hh r4 c2 e4
 obtain ⟨⟨-, f1⟩, f2, f3⟩ := dY xK (fun _ _ _ h _ => h) r4 q r5 d2 e5
 obtain ⟨⟨-, g1⟩, g2, g3⟩ := dY LQ (fun _ _ _ h1 h2 => ⟨Nat.le_trans h1.1 h2, h1.2⟩) r5 e r6 f2 e6
 obtain ⟨rfl, k2, k3⟩ := eU h g2
 refine ⟨⟨⟨a1, fun x hx => ⟨Nat.le_trans (b1 x hx).1 (by omega), (b1 x hx).2⟩, fun x hx => ⟨Nat.le_trans (c1 x hx).1 (by omega), (c1 x hx).2⟩, fun x hx => Nat.le_trans (d1 x hx) (by omega), fun x hx => Nat.le_trans (d4 x hx) (by omega), fun x hx => ⟨Nat.le_trans (d6 x hx).1 (by omega), (d6 x hx).2⟩, f1, fun x hx => ⟨Nat.le_trans (g1 x hx).1 (by omega), (g1 x hx).2⟩⟩, d5⟩, k2, by omega⟩
theorem Pg.rd {p : Pj} {m : Nat} (h : Pg p m) (hm : m ≤ 1000000000) : Ct p :=
 ⟨fun s hs => by have := h.o1 s hs; unfold maxLen; omega, fun x hx => ⟨by have := (h.o2 x hx).1; unfold maxLen; omega, (h.o2 x hx).2⟩, fun x hx => ⟨(h.o3 x hx).2.1, (h.o3 x hx).2.2, by have := (h.o3 x hx).1; unfold maxLen; omega⟩, fun x hx => by have := h.o4 x hx; unfold maxLen; omega,
   fun l hl => by have := h.o5 l hl; unfold maxLen; omega, fun l hl => Nat.le_trans (h.o6 l hl).1 hm, fun f hf => (h.o7 f hf).2, fun x hx => ⟨by have := (h.o8 x hx).1; unfold maxLen; omega, fun f hf => ((h.o8 x hx).2 f hf).2⟩⟩
def rR : Pj := ⟨[], [], [], [], [], [], [], []⟩
def Ky : Option (Pj × List Nat) → Pj × Int
 | some (p, []) => if iX p = 0 then (p, 0) else (rR, iX p)
 | _ => (rR, 10)
def mR (bs : List Nat) : Pj × Int :=
 if bs.length < 8 ∨ bs.take 4 ≠ sK then (rR, 10)
 else if bs.drop (bs.length - 4) ≠ eH (oD (bs.take (bs.length - 4))) then (rR, 13)
 else Ky (iN ((bs.take (bs.length - 4)).drop 4))
section
variable {bs : List Nat} {n : Nat}
theorem vQ (h : bs.length < 8) : mR bs = (rR, 10) := by unfold mR; rw [if_pos (.inl h)]
theorem BS (h : bs.take 4 ≠ sK) : mR bs = (rR, 10) := by unfold mR; rw [if_pos (.inr h)]
theorem BR (h1 : ¬ bs.length < 8) (h2 : bs.take 4 = sK) (h3 : bs.drop (bs.length - 4) ≠ eH (oD (bs.take (bs.length - 4)))) : mR bs = (rR, 13) := by
 unfold mR
 rw [if_neg (by rintro (h | h); exact h1 h; exact h h2), if_pos h3]
theorem yD (h1 : ¬ bs.length < 8) (h2 : bs.take 4 = sK) (h3 : bs.drop (bs.length - 4) = eH (oD (bs.take (bs.length - 4)))) : mR bs = Ky (iN ((bs.take (bs.length - 4)).drop 4)) := by
 unfold mR
 rw [if_neg (by rintro (h | h); exact h1 h; exact h h2), if_neg (fun h => h h3)]
end
end Go.Proofs.YtmepaeahchiglaaGreatDoor
