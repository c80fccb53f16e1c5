/-
 layer 3: Add of the program. Conditions: an inventory in memory.
-/
import Derived.Test.YtmepaeahchiglaaGreatDoorZdba
import Derived.WideKeyEntry
set_option maxRecDepth 20000
set_option maxHeartbeats 4000000
set_option linter.unusedSimpArgs false
namespace Go.Proofs.YtmepaeahchiglaaGreatDoor
open Go.RowKit Go.Lib
theorem DK {w : World} {b g : Nat} {es : Array MapEntry} {clock : Nat} {t : TypeId} {cs : Array Value} (h : w.heap[b]? = some (.map es clock)) (hb : Blk w g t cs) : g ≠ b := fun e => by
 unfold Blk at hb
 rw [e, h] at hb
 cases hb
theorem di {w : World} {b base n k : Nat} {es : Array MapEntry} {clock : Nat} {e : TypeId} {v : Value} {xs : List Value} (h : w.heap[b]? = some (.map es clock)) (ho : w.ownsRow base e k v n xs) : v.ownBlock ≠ some b := fun hk => by
 rcases ho.2 with ⟨rfl, _⟩ | ⟨q, cap, cur, rfl, _, h6, _⟩
 ·cases hk
 ·simp only [Value.ownBlock, Option.some.injEq] at hk
  subst hk
  rw [h6] at h; cases h
theorem bC.ne_ {w : World} {b g n : Nat} {f : ByteArray → Option Int} {t : TypeId} {cs : Array Value} (h : bC w b n f) (hb : Blk w g t cs) : g ≠ b := by
 obtain ⟨es, clock, h⟩ := h.isMap
 exact DK h hb
theorem bI.ne_ {w : World} {b g n : Nat} {f : Snd → Option Int} {t : TypeId} {cs : Array Value} (h : bI w b n f) (hb : Blk w g t cs) : g ≠ b := by
 obtain ⟨es, clock, h⟩ := h.isMap
 exact DK h hb
theorem bC.DJ {w : World} {b n base m k : Nat} {f : ByteArray → Option Int} {e : TypeId} {v : Value} {xs : List Value} (h : bC w b n f) (ho : w.ownsRow base e k v m xs) : v.ownBlock ≠ some b := by
 obtain ⟨es, clock, h⟩ := h.isMap
 exact di h ho
theorem bI.DJ {w : World} {b n base m k : Nat} {f : Snd → Option Int} {e : TypeId} {v : Value} {xs : List Value} (h : bI w b n f) (ho : w.ownsRow base e k v m xs) : v.ownBlock ≠ some b := by
 obtain ⟨es, clock, h⟩ := h.isMap
 exact di h ho
theorem II : EE 209 tY := ⟨enters_of Tryz.func209 (by kernel_rfl) rfl, LM⟩
def tO (w : World) (S : Nat → Prop) (g : Nat) (fs : List ByteArray) (L : List fw) (sym : ByteArray) (s : Snd) (e : Ending) (w' : World) : Prop :=
 e = .returned (.int .i64 (gX fs.length L sym s)) ∧ gU w' (fun b => S b ∨ ni w w' b) g fs (sO fs.length L (sym, s)) ∧ bA S w w'
theorem Pb {w w' : World} {S : Nat → Prop} {g : Nat} {fs : List ByteArray} {L : List fw} {sym : ByteArray} {s : Snd} (x : Int) (h : gU w S g fs L) (hb : Below w.heap.size w w') (hx : gX fs.length L sym s = x) (h0 : x ≠ 0) : tO w S g fs L sym s (.returned (.int .i64 x)) w' := by
 refine ⟨by rw [hx], ?_, .of_below hb⟩
 have e : sO fs.length L (sym, s) = L := by unfold sO; rw [if_neg (by rw [hx]; exact h0)]
 rw [e]
 exact (h.below hb).mono fun b hb => .inl hb
theorem xI {L : List fw} {f : ByteArray → Option Int} {sym : ByteArray} {s : Snd} (h : Co L f) (hn : fH L (bs sym) = false) : Co (L ++ [(sym, s)]) (fun t => if t = sym then some (L.length : Int) else f t) := by
 intro t
 have hany : fH (L ++ [(sym, s)]) (bs t) = (fH L (bs t) || decide (bs sym = bs t)) := by unfold fH; rw [List.any_append]; simp
 by_cases e : t = sym
 ·subst e
  refine ⟨by simp [hany], fun i hi => ⟨L.length, (t, s), ?_, by simp, rfl, ?_⟩⟩
  ·simp only [↓reduceIte, Option.some.injEq] at hi; exact hi.symm
  ·unfold sW
   rw [List.find?_append]
   have hf : (L.find? fun x => decide (bs x.1 = bs t)) = none := List.find?_eq_none.2 fun x hx => by
    unfold fH at hn
    simpa using List.any_eq_false.1 hn x hx
   rw [hf]; simp
 ·have hne : ¬ bs sym = bs t := fun h => e (Kt h.symm)
  obtain ⟨h1, h2⟩ := h t
  simp only [if_neg e]
  refine ⟨by rw [hany, h1, decide_eq_false hne, Bool.or_false], fun i hi => ?_⟩
  obtain ⟨k, x, hik, hx, hxt, hs⟩ := h2 i hi
  refine ⟨k, x, hik, by rw [List.getElem?_append_left (List.getElem?_eq_some_iff.1 hx).1]; exact hx, hxt, ?_⟩
  rw [← hs]
  unfold sW
  rw [List.find?_append]
  cases hf : L.find? fun x => decide (bs x.1 = bs t) with
  | some y => rfl
  | none =>
    have := List.find?_eq_none.1 hf x (List.mem_of_getElem? hx)
    rw [hxt] at this
    simp at this
theorem yn {L : List fw} {sym : ByteArray} {s : Snd} (h : (L.map fun x => bs x.1).Nodup) (hn : fH L (bs sym) = false) : ((L ++ [(sym, s)]).map fun x => bs x.1).Nodup := by
 rw [List.map_append, List.nodup_append]
 refine ⟨h, by simp, ?_⟩
 intro a ha b hb e
 obtain ⟨x, hx, rfl⟩ := List.mem_map.1 ha
 simp only [List.map_cons, List.map_nil, List.mem_singleton] at hb
 unfold fH at hn
 have := List.any_eq_false.1 hn x hx
 simp only [decide_eq_true_eq] at this
 exact this (e.trans hb)
theorem xE {L : List fw} {f : Snd → Option Int} {sym : ByteArray} {s : Snd} (h : Cn L f) : Cn (L ++ [(sym, s)]) (fun t => if t = s then some (L.length : Int) else f t) := by
 intro t
 have hany : lI (L ++ [(sym, s)]) t = (lI L t || decide (s = t)) := by unfold lI; rw [List.any_append]; simp
 by_cases e : t = s
 ·subst e; simp [hany]
 ·rw [hany, decide_eq_false (fun h => e h.symm), Bool.or_false]
  simp only [if_neg e]
  exact h t
theorem MP {w : World} {S : Nat → Prop} {g : Nat} {fs : List ByteArray} {L : List fw} (sym : ByteArray) (s : Snd) (h : gU w S g fs L) (hS : ∀ b, S b → b < w.heap.size) (hs : ok32 s) (hsy : sym.size ≤ maxLen) :
 Calls Tryz.prog 171 #[af g, .string sym, jy s] w (tO w S g fs L sym s) := by
 obtain ⟨i0, hi, hz0, hz1, hz2⟩ := info_parts (show (Tryz.prog.info? 74).map (fun i => (i.zero, i.size, i.bytes)) = some (some (.agg #[.string ByteArray.empty, .int .u32 0, .int .u32 0]), 3, 24) by kernel_rfl)
 have hb0 := (Below.refl w.heap.size w).alloc (Nat.le_refl _) (.cells #[.int .u32 s.1, .int .u32 s.2] 55)
 have hx0 := Blk.new w 55 #[.int .u32 s.1, .int .u32 s.2]
 have h1 := h.below hb0
 have hmd := vo h1
 have hcs := qi _ _ 4 sym (w.alloc (.cells #[.int .u32 s.1, .int .u32 s.2] 55)) II hsy
 have hbg := Cj s h1 hs
 have aS := fun x (w' : World) hb hx h0 => Pb (w' := w') (sym := sym) (s := s) x h hb hx h0
 have hE1 : iO sym = false → gX fs.length L sym s = 15 := fun h => by unfold gX; rw [h]; rfl
 have hE2 : iO sym = true → dJ fs.length s = false → gX fs.length L sym s = 14 := fun h h2 => by unfold gX; rw [h, h2]; rfl
 have RN : iO sym = true → dJ fs.length s = true → (fH L (bs sym) || lI L s) = true → gX fs.length L sym s = 6 := fun h h2 h3 => by unfold gX; rw [h, h2, h3]; rfl
 have RL : iO sym = true → dJ fs.length s = true → (fH L (bs sym) || lI L s) = false → gX fs.length L sym s = if L.length = 256 then 4 else 0 := fun h h2 h3 => by unfold gX; rw [h, h2, h3]; rfl
 obtain ⟨W0, hW0⟩ : ∃ W, w.alloc (.cells #[.int .u32 s.1, .int .u32 s.2] 55) = W := ⟨_, rfl⟩
 have hsz0 : W0.heap.size = w.heap.size + 1 := by rw [← hW0]; simp
 have hok : gT tY 4 sym = iO sym := rfl
 rw [hok] at hcs
 rw [hW0] at hb0 hx0 h1 hmd hcs hbg
 have HW0 := qh hW0; have HB0 := qh hb0; have HX0 := qh hx0; have H1 := qh h1; have EF := qh hmd; have nW := qh hcs; have Li := qh hbg; have cu := qh aS; have rD := qh hE1; have HE2 := qh hE2; have nV := qh RN; have sj := qh RL; have HH := qh h; have HS := qh hS
 have hl256 := h.ok.l256
 clear hW0 hb0 hx0 h1 hmd hcs hbg aS hE1 hE2 RN RL h hok hS
 unfold maxLen at hsy
 cases gI : iO sym with
 | false =>
   rw [gI] at nW
   have HE := qh (rD.out gI)
   clear gI
   go_enter Tryz.func171, Tryz.ntmps171
   go_wp2_with fail
   rw [HW0.out]
   go_wp2_with (first | (go_at_call 208; refine EF.out.mono ?_; rintro e w' ⟨rfl, rfl⟩) | (go_at_call 206; refine nW.out.mono ?_; rintro e w' ⟨rfl, rfl⟩))
   go_ret
   exact cu.out 15 _ HB0.out HE.out (by decide)
 | true =>
   rw [gI] at nW
   cases dV : dJ fs.length s with
   | false =>
     have HE := qh (HE2.out gI dV)
     rw [dV] at Li
     clear gI dV
     go_enter Tryz.func171, Tryz.ntmps171
     go_wp2_with fail
     rw [HW0.out]
     have c0 := HX0.out.cell 0
     have c1 := HX0.out.cell 1
     simp only [gq2] at c0 c1
     go_wp2_with (first | (go_at_call 208; refine EF.out.mono ?_; rintro e w' ⟨rfl, rfl⟩) | (go_at_call 206; refine nW.out.mono ?_; rintro e w' ⟨rfl, rfl⟩))
     refine Li.out.mono ?_
     rintro e w2 ⟨rfl, hb2⟩
     have HB2 := qh (HB0.out.trans (hb2.mono (by omega)))
     clear hb2 c0 c1
     go_wp2
     go_ret
     exact cu.out 14 _ HB2.out HE.out (by decide)
   | true =>
     rw [dV] at Li
     have Ng := qh (nV.out gI dV); have PY := qh (sj.out gI dV); have sV := qh gI; have P7 := qh dV
     clear gI dV rD HE2 nV sj
     go_enter Tryz.func171, Tryz.ntmps171
     go_wp2_with fail
     rw [HW0.out]
     have c0 := HX0.out.cell 0
     have c1 := HX0.out.cell 1
     simp only [gq2] at c0 c1
     go_wp2_with (first | (go_at_call 208; refine EF.out.mono ?_; rintro e w' ⟨rfl, rfl⟩) | (go_at_call 206; refine nW.out.mono ?_; rintro e w' ⟨rfl, rfl⟩))
     refine Li.out.mono ?_
     rintro e w2 ⟨rfl, hb2⟩
     clear c0 c1
     have h2 := H1.out.below hb2
     have hx2 := HX0.out.below hb2 (by omega)
     have hbb2 := HB0.out.trans (hb2.mono (by omega))
     have hs2 := hb2.size
     obtain ⟨A, c, v, b1, b2, b3, f1, f2, f3, ⟨k1, k2⟩, ⟨k3, k4⟩, ⟨k5, k6⟩, ⟨k7, k8⟩, ⟨k9, k10, k11⟩, ⟨k12, k13, k14⟩, ⟨k15, QU, JD⟩, k16⟩ := h2
     obtain ⟨A2, c2, rfl, e1, e2⟩ := ownsRow_form k5
     have g2 := k1.cell 2
     have g3 := k1.cell 3
     have g4 := k1.cell 4
     have d0 := hx2.cell 0
     have d1 := hx2.cell 1
     simp only [gq2] at g2 g3 g4 d0 d1
     have hl1 := k9.look sym (by unfold maxLen; omega)
     have hl2 : ∀ k, (Instr.lookup 263 (.map (some b3)) (.agg #[.int .u32 s.1, .int .u32 s.2]) true).run Tryz.prog (w2.drewN k) = .ok (.tuple #[.int .i64 ((f3 s).getD 0), .bool (f3 s).isSome]) (w2.drewN k) := fun k => bI.look (w := w2.drewN k) (show bI (w2.drewN k) b3 L.length f3 from k12) s hs
     obtain ⟨q1, q2⟩ := k11 sym
     have q3 := k14 s
     have hsz2 : W0.heap.size ≤ w2.heap.size := hs2
     have HB2 := qh hbb2; have wO := qh hx2
     have K1 := qh k1; have K3 := qh k3; have K5 := qh k5; have K6 := qh k6; have K7 := qh k7; have K9 := qh k9; have K11 := qh k11; have Qi := qh k12; have K14 := qh k14; have MR := qh k16; have Q2 := qh q2; have K8 := qh k8; have Zg := qh k10; have Zf := qh k13; have K2 := qh k2
     clear hb2 hbb2 hx2 hs2 k1 k2 k3 k5 k6 k7 k8 k9 k10 k11 k12 k13 k14 k16 q2 Li nW EF HX0 H1
     cases hff2 : f2 sym with
     | some i2 =>
       rw [hff2] at hl1 q1
       simp only [Option.getD_some, Option.isSome_some] at hl1 q1
       have HE := qh (Ng.out (by rw [← q1]; rfl))
       cases hff3 : f3 s with
       | some i3 =>
         rw [hff3] at hl2
         simp only [Option.getD_some, Option.isSome_some] at hl2
         clear q1 q3 hff2 hff3
         go_wp2
         go_quiet (fail)
         have hb3 : Below w.heap.size w (w2.drewN nq) := ⟨HB2.out.os, HB2.out.tape, HB2.out.output, HB2.out.size, HB2.out.block⟩
         have HB3 := qh hb3
         clear hb3
         go_wp2
         go_ret
         exact cu.out 6 _ HB3.out HE.out (by decide)
       | none =>
         rw [hff3] at hl2
         simp only [Option.getD_none, Option.isSome_none] at hl2
         clear q1 q3 hff2 hff3
         go_wp2
         go_quiet (fail)
         have hb3 : Below w.heap.size w (w2.drewN nq) := ⟨HB2.out.os, HB2.out.tape, HB2.out.output, HB2.out.size, HB2.out.block⟩
         have HB3 := qh hb3
         clear hb3
         go_wp2
         go_ret
         exact cu.out 6 _ HB3.out HE.out (by decide)
     | none =>
       rw [hff2] at hl1 q1
       simp only [Option.getD_none, Option.isSome_none] at hl1 q1
       cases hff3 : f3 s with
       | some i3 =>
         rw [hff3] at hl2 q3
         simp only [Option.getD_some, Option.isSome_some] at hl2 q3
         have HE := qh (Ng.out (by rw [← q3]; simp))
         clear q1 q3 hff2 hff3
         go_wp2
         go_quiet (fail)
         have hb3 : Below w.heap.size w (w2.drewN nq) := ⟨HB2.out.os, HB2.out.tape, HB2.out.output, HB2.out.size, HB2.out.block⟩
         have HB3 := qh hb3
         clear hb3
         go_wp2
         go_ret
         exact cu.out 6 _ HB3.out HE.out (by decide)
       | none =>
         rw [hff3] at hl2 q3
         simp only [Option.getD_none, Option.isSome_none] at hl2 q3
         have hE := PY.out (by rw [← q1, ← q3]; rfl)
         have MV := qh q1.symm
         clear q1 q3 hff2 hff3
         by_cases h256 : L.length = 256
         ·have vK : ((L.length : Int) == 256) = true := by rw [beq_iff_eq]; omega
          rw [if_pos h256] at hE
          have HE := qh hE
          clear hE h256
          go_wp2
          go_quiet (fail)
          have hb3 : Below w.heap.size w (w2.drewN nq) := ⟨HB2.out.os, HB2.out.tape, HB2.out.output, HB2.out.size, HB2.out.block⟩
          have HB3 := qh hb3
          clear hb3
          go_wp2
          go_ret
          exact cu.out 4 _ HB3.out HE.out (by decide)
         ·have vK : ((L.length : Int) == 256) = false := by rw [beq_eq_false_iff_ne]; omega
          rw [if_neg h256] at hE
          have HE := qh hE
          clear hE
          go_wp2
          go_quiet (fail)
          obtain ⟨w3, hw3⟩ : ∃ W, w2.drewN nq = W := ⟨_, rfl⟩
          have hd : bA (fun _ => False) w2 w3 := by rw [← hw3]; exact (bA.refl _ _).drewN _
          have g2' : w3.cell? ⟨g, 2, none⟩ = some (.slice A2 L.length c2) := by rw [← hw3]; exact g2
          have g3' : w3.cell? ⟨g, 3, none⟩ = some (.map (some b2)) := by rw [← hw3]; exact g3
          have HD := qh hd
          rw [hw3]
          clear hw3 hd g2 g3 g4 d0 d1 hl1 hl2
          go_wp2
          refine region_tail 10 (by kernel_rfl) (by kernel_rfl) ?_
          simp only [List.take_succ_cons, List.take_zero, List.drop_succ_cons, List.drop_zero]
          still_step
          still_step
          still_step
          still_step
          still_step
          still_step
          still_step
          still_step
          still_step
          still_step
          refine wpStill_nil ?_
          have hm3 : bC w3 b2 L.length f2 := K9.out.dQ HD.out (fun h => h)
          have Rm : bC w3.drew b2 L.length f2 := hm3
          have hgl := K1.out.lt
          have hb2l := K9.out.lt
          have hb3l := Qi.out.lt
          have hne2 := K9.out.ne_ K1.out
          have hne3 := Qi.out.ne_ K1.out
          have hnx2 := K9.out.ne_ wO.out
          have hnx3 := Qi.out.ne_ wO.out
          have hno2 := K9.out.DJ K5.out
          have hno3 := Qi.out.DJ K5.out
          have hgx : g ≠ w.heap.size := fun e => by have := HH.out.lt.1; omega
          go_wp2_with (refine lh rfl _ _ _ rfl _ _ _ rfl Rm (by unfold maxLen; omega) sym (by unfold maxLen; omega) (L.length : Int) (wf64 (by omega)) rfl rfl ?_; intro w4 hmap4 hgrow4)
          have hc4 : bA (fun b => b = b2) w2 w4 := ((HD.out.mono (fun _ _ h => h.elim)).drewN 1).grown hgrow4 (fun k hk => by injection hk with hk; exact .inl hk.symm)
          have hx4 : Blk w4 w.heap.size 55 #[.int .u32 s.1, .int .u32 s.2] := wO.out.dQ hc4 hnx2
          have hg4 := K1.out.dQ hc4 hne2
          have g2 := hg4.cell 2
          have g4 := hg4.cell 4
          have d0 := hx4.cell 0
          have d1 := hx4.cell 1
          simp only [gq2] at g2 g4 d0 d1
          have Rq : bI w4 b3 L.length f3 := Qi.out.dQ hc4 (fun (e : b3 = b2) => JD e.symm)
          have hk4 : bI w4.drew b3 L.length f3 := Rq
          clear Rq
          have HC4 := qh hc4; have Po := qh hx4; have HM4 := qh hmap4; have VT := qh hg4
          have hsz4 := hc4.size
          clear hm3 Rm hc4 hx4 hmap4 hg4 hgrow4 HD g2' g3'
          refine region_tail 10 (by kernel_rfl) (by kernel_rfl) ?_
          simp only [List.take_succ_cons, List.take_zero, List.drop_succ_cons, List.drop_zero]
          still_step
          still_step
          still_step
          still_step
          still_step
          still_step
          still_step
          still_step
          still_step
          still_step
          refine wpStill_nil ?_
          go_wp2_with (refine su rfl _ _ _ rfl _ _ _ rfl hk4 (by unfold maxLen; omega) s hs (L.length : Int) (wf64 (by omega)) rfl rfl ?_; intro w5 hmap5 hgrow5)
          have hc5 : bA (fun b => b = b3) w4 w5 := ((bA.refl _ w4).drewN 1).grown hgrow5 (fun k hk => by injection hk with hk; exact .inl hk.symm)
          have hx5 : Blk w5 w.heap.size 55 #[.int .u32 s.1, .int .u32 s.2] := Po.out.dQ hc5 hnx3
          have hg5 := VT.out.dQ hc5 hne3
          have hm5 := HM4.out.dQ hc5 JD
          have hc25 := (HC4.out.mono (T := fun b => b = b2 ∨ b = b3) (fun _ _ h => .inl h)).new hc5 (fun i _ h => .inr h)
          have hsz5 := hc25.size
          have ho5 := bH K5.out hc25 (fun k hk e => by
           rcases e with rfl | rfl
           ·exact hno2 hk
           ·exact hno3 hk)
          have g2 := hg5.cell 2
          have d0 := hx5.cell 0
          have d1 := hx5.cell 1
          simp only [gq2] at g2 d0 d1
          have M8 := qh (show w5.drew.ownsRow 0 74 3 (.slice A2 L.length c2) L.length (L.flatMap eP) from ho5); have Oa := qh hg5; have VM := qh hm5; have yN := qh hmap5; have yL := qh hx5; have Le := qh hc25
          have hrn := az w5.drew 74 (eP (sym, s)) 3 1 rfl
          have dR := qh hrn
          clear hc5 hx5 hg5 hm5 hmap5 hc25 ho5 hgrow5 hk4 hrn
          obtain ⟨w6, hw6⟩ : ∃ W, w5.drew = W := ⟨_, rfl⟩
          have hx6 : Blk w5.drew w.heap.size 55 #[.int .u32 s.1, .int .u32 s.2] := yL.out
          have hg6 : Blk w5.drew g 265 #[.slice A fs.length c, .map (some b1), .slice A2 L.length c2, .map (some b2), .map (some b3)] := Oa.out
          refine wp_region_held_drew (S := (fun W => W.cell? ⟨w.heap.size, 0, none⟩ = some (.int .u32 s.1) ∧ W.cell? ⟨w.heap.size, 1, none⟩ = some (.int .u32 s.2))) (by kernel_rfl) ?_ (fun ah => ?_)
          ·exact ⟨d0, d1⟩
          have hkeep : ∀ W, bA (fun b => b = g ∨ (Value.slice A2 L.length c2).ownBlock = some b) w5.drew W → W.cell? ⟨w.heap.size, 0, none⟩ = some (.int .u32 s.1) ∧ W.cell? ⟨w.heap.size, 1, none⟩ = some (.int .u32 s.2) := fun W hc => by
           have hxo := own_blk_ne M8.out hx6 (by decide)
           have Qd := hx6.dQ hc (fun e => by
            rcases e with e | e
            ·exact hgx e.symm
            ·exact hxo e)
           have d0 := Qd.cell 0
           have d1 := Qd.cell 1
           simp only [gq2] at d0 d1
           exact ⟨d0, d1⟩
          have bR := qh hkeep
          have CE := qh hg6
          have Zv : Hid (bC w5.drew b2 (L.length + 1) (fun t => if t = sym then some (L.length : Int) else f2 t)) := qh VM.out
          have Im : Hid (bI w5.drew b3 (L.length + 1) (fun t => if t = s then some (L.length : Int) else f3 t)) := qh yN.out
          rw [hw6] at M8 dR bR ah CE Zv Im ⊢
          have g2 := CE.out.cell 2
          have fr2 := CE.out.frozen 2
          simp only [gq2] at g2
          have C0 := qh (bA.refl (fun b => b = g ∨ (Value.slice A2 L.length c2).ownBlock = some b) w6)
          have C1 := qh (C0.out.alloc (.cells #[.string sym, .int .u32 s.1, .int .u32 s.2] 74))
          have hc6 : bA (fun b => b = b2 ∨ b = b3) w2 w6 := by rw [← hw6]; exact Le.out.drewN 1
          have Vf := qh hc6
          have hsz6 := hc6.size
          have hgl6 : g < w6.heap.size := by omega
          clear hx6 hg6 hkeep d0 d1 hw6 Oa yL Le hc6
          iterate 4
           refine tkH 0 (v := ?_) rfl (fun _ _ _ h => h) ?_ ?_
           rotate_left
           ·intro w hSw; (try dsimp only at hSw); (try simp only [tkN, gq3, gq1]); go_simp <;> with_reducible rfl
           try simp only [tkN, Act.put, gq3, gq1]
          iterate 3
           refine tkH 5 (v := ?_) rfl (fun _ _ _ h => h) ?_ ?_
           rotate_left
           ·intro w hSw; (try dsimp only at hSw); (try simp only [tkN, gq3, gq1]); go_simp <;> with_reducible rfl
           try simp only [tkN, Act.put, gq3, gq1]
          have iQ : ∀ (w7 : World) (v7 : Value) (w8 : World), w7.ownsRow 0 74 3 v7 (L.length + 1) (L.flatMap eP ++ eP (sym, s)) → (v7.ownBlock = (Value.slice A2 L.length c2).ownBlock ∨ v7.ownBlock = some (w6.heap.size + 1)) → Blk w7 g 265 #[.slice A fs.length c, .map (some b1), .slice A2 L.length c2, .map (some b2), .map (some b3)] →
           w7.setCell ⟨g, 2, none⟩ v7 = w8 → bA (fun b => b = g ∨ (Value.slice A2 L.length c2).ownBlock = some b) w6 w8 → tO w S g fs L sym s (.returned (.int .i64 0)) w8 := fun w7 v7 w8 ho7 hor hg7 he hc8 => by
           have hsz8 := hc8.size
           have hG := CE.out.lt
           have hadd : sO fs.length L (sym, s) = L ++ [(sym, s)] := by unfold sO; rw [if_pos HE.out]
           have hfl : (L ++ [(sym, s)]).length = L.length + 1 := by simp
           have hT : bA (fun b => (b = b2 ∨ b = b3) ∨ (b = g ∨ (Value.slice A2 L.length c2).ownBlock = some b)) w2 w8 := (Vf.out.mono (fun _ _ h => .inl h)).new hc8 (fun i _ h => .inr h)
           have hv7 : v7.ownBlock ≠ some g := own_blk_ne ho7 hg7 (by decide)
           have ho8 : w8.ownsRow 0 74 3 v7 (L.length + 1) ((L ++ [(sym, s)]).flatMap eP) := by
            rw [← he, List.flatMap_append]
            have e : [(sym, s)].flatMap eP = eP (sym, s) := by simp
            rw [e]
            exact bH ho7 ((bA.refl (fun b => b = g) w7).setCell (p := ⟨g, 2, none⟩) (.inl rfl) v7) (fun k hk e => hv7 (e ▸ hk))
           have hg8 : Blk w8 g 265 #[.slice A fs.length c, .map (some b1), v7, .map (some b2), .map (some b3)] := by
            rw [← he]; simpa using hg7.set_ 2 v7
           have hl8 : ∀ b, v7.ownBlock = some b → b < w8.heap.size := fun b hb => (ho8.lt b hb).2
           have J5 := uS K3.out K5.out (by decide)
           have Rk : ∀ b es clock, w2.heap[b]? = some (.map es clock) → (b ≠ b2 ∧ b ≠ b3) → ¬ ((b = b2 ∨ b = b3) ∨ (b = g ∨ (Value.slice A2 L.length c2).ownBlock = some b)) := fun b es clock h1 h2 h3 => by
            rcases h3 with (h3 | h3) | (h3 | h3)
            ·exact h2.1 h3
            ·exact h2.2 h3
            ·exact DK h1 K1.out h3.symm
            ·exact di h1 K5.out h3
           obtain ⟨es1, cl1, hm1⟩ := K7.out.isMap
           have hq2 : bC w8 b2 (L ++ [(sym, s)]).length (fun t => if t = sym then some (L.length : Int) else f2 t) := by
            rw [hfl]
            refine Zv.out.dQ hc8 (fun h => ?_)
            rcases h with h | h
            ·exact hne2 h.symm
            ·exact hno2 h
           have hq3 : bI w8 b3 (L ++ [(sym, s)]).length (fun t => if t = s then some (L.length : Int) else f3 t) := by
            rw [hfl]
            refine Im.out.dQ hc8 (fun h => ?_)
            rcases h with h | h
            ·exact hne3 h.symm
            ·exact hno3 h
           refine ⟨by rw [HE.out], ?_, ?_⟩
           ·rw [hadd]
            refine ⟨A, c, v7, b1, b2, b3, f1, _, _, ⟨hg8, .inl K2.out⟩, ⟨bH K3.out hT (fun k hk h => ?_), fun b hb => .inl (k4 b hb)⟩, ⟨by rw [hfl]; exact ho8, fun b hb => ?_⟩, ⟨K7.out.dQ hT (Rk _ _ _ hm1 ⟨k15, QU⟩), .inl K8.out⟩, ⟨hq2, .inl Zg.out, xI K11.out MV.out⟩, ⟨hq3, .inl Zf.out, xE K14.out⟩, ⟨k15, QU, JD⟩, ⟨MR.out.f24, MR.out.O3, by rw [hfl]; omega, fun x hx => ?_, yn MR.out.nd MV.out⟩⟩
            ·rcases h with (h | h) | (h | h)
             ·obtain ⟨es, clock, hb⟩ := K9.out.isMap; exact di hb K3.out (h ▸ hk)
             ·obtain ⟨es, clock, hb⟩ := Qi.out.isMap; exact di hb K3.out (h ▸ hk)
             ·exact own_blk_ne K3.out K1.out (by decide) (h ▸ hk)
             ·rcases J5 with e | e
              ·rw [e] at hk; cases hk
              ·exact e (hk.trans h.symm)
            ·rcases hor with e | e
             ·exact .inl (K6.out b (by rw [← e]; exact hb))
             ·rw [hb] at e
              injection e with e
              exact .inr ⟨by omega, hl8 b hb⟩
            ·rcases List.mem_append.1 hx with hx | hx
             ·exact MR.out.sym x hx
             ·rw [List.mem_singleton.1 hx]; exact ⟨sV.out, P7.out, hs⟩
           ·refine (bA.of_below HB2.out).new hT (fun i _ h => ?_)
            rcases h with (h | h) | (h | h)
            ·rw [h]; exact Zg.out
            ·rw [h]; exact Zf.out
            ·rw [h]; exact K2.out
            ·exact K6.out _ h
          have kE := qh iQ
          clear iQ
          refine rdJ 4 8 (fun K hK => ?_) fun K hK => ?_
          ·go_simp
           refine hK.out _ _ ?_ (fun aJ => ?_)
           ·(try dsimp only)
            exact bR.out _ (by first | exact C0.out | exact C1.out | exact C2.out | exact C3.out)
           clear hK K ah; rename _ => ah
           refine rdH 8 fun K hK => ?_
           go_simp
           refine hK.out _ _ ?_ (fun aJ => ?_)
           ·(try dsimp only)
            exact bR.out _ (by first | exact C0.out | exact C1.out | exact C2.out | exact C3.out)
           clear hK K ah; rename _ => ah
           refine rdH 9 fun K hK => ?_
           refine step_append_any _ rfl _ _ 23 rfl 0 74 i0 (.agg #[.string ByteArray.empty, .int .u32 0, .int .u32 0]) 3 24 Tryz.underlying23 hi hz0 hz1 hz2 rfl (by decide) _ _ _ rfl (M8.out.alloc _) _ _ _ _ (eP (sym, s)) rfl dR.out (by simp [Value.oneCell']) (by unfold maxLen; omega) (by omega) (by omega) ?_
           intro v7 w7 hown7 hgrow7 hor7
           have C2 := qh (C1.out.grown hgrow7 (fun k hk => .inl (.inr hk)))
           refine hK.out _ _ ?_ (fun aJ => ?_)
           ·(try dsimp only)
            exact bR.out _ (by first | exact C0.out | exact C1.out | exact C2.out | exact C3.out)
           clear hK K ah; rename _ => ah
           obtain ⟨A7, c7, rfl, e71, e72⟩ := ownsRow_form hown7
           have hg7 := (CE.out.alloc (.cells #[.string sym, .int .u32 s.1, .int .u32 s.2] 74)).grown hgrow7 (fun e => by have := own_blk_ne M8.out CE.out (by decide); exact this e.symm)
           have g27 := hg7.cell 2
           have fr27 := hg7.frozen 2
           simp only [gq2] at g27
           have C3 := qh (C2.out.setCell (p := ⟨g, 2, none⟩) (.inl (.inl rfl)) (.slice A7 (L.length + 1) c7))
           have ay := kE.out _ _ _ hown7 (hor7.imp id (fun e => e.trans (by rw [World.size_alloc]))) hg7 rfl C3.out
           have aD := qh ay
           clear hown7 hgrow7 hg7 hor7 ay
           iterate 2
            refine tkH 10 (v := ?_) rfl (fun _ _ _ h => h) ?_ ?_
            rotate_left
            ·intro w hSw; (try dsimp only at hSw); (try simp only [tkN, gq3, gq1]); go_simp <;> with_reducible rfl
            try simp only [tkN, Act.put, gq3, gq1]
           refine rdH 12 fun K hK => ?_
           go_simp
           refine hK.out _ _ ?_ (fun aJ => ?_)
           ·(try dsimp only)
            exact bR.out _ (by first | exact C0.out | exact C1.out | exact C2.out | exact C3.out)
           clear hK K ah; rename _ => ah
           refine wpAnyH_done (by kernel_rfl) ?_ _
           clear ah g27 fr27
           go_wp2
           go_ret
           exact aD.out
          ·go_simp
           refine hK.out _ _ ?_ (fun aJ => ?_)
           ·(try dsimp only)
            exact bR.out _ (by first | exact C0.out | exact C1.out | exact C2.out | exact C3.out)
           clear hK K ah; rename _ => ah
           refine rdH 4 fun K hK => ?_
           go_simp
           refine hK.out _ _ ?_ (fun aJ => ?_)
           ·(try dsimp only)
            exact bR.out _ (by first | exact C0.out | exact C1.out | exact C2.out | exact C3.out)
           clear hK K ah; rename _ => ah
           refine rdH 9 fun K hK => ?_
           refine step_append_any _ rfl _ _ 23 rfl 0 74 i0 (.agg #[.string ByteArray.empty, .int .u32 0, .int .u32 0]) 3 24 Tryz.underlying23 hi hz0 hz1 hz2 rfl (by decide) _ _ _ rfl (M8.out.alloc _) _ _ _ _ (eP (sym, s)) rfl dR.out (by simp [Value.oneCell']) (by unfold maxLen; omega) (by omega) (by omega) ?_
           intro v7 w7 hown7 hgrow7 hor7
           have C2 := qh (C1.out.grown hgrow7 (fun k hk => .inl (.inr hk)))
           refine hK.out _ _ ?_ (fun aJ => ?_)
           ·(try dsimp only)
            exact bR.out _ (by first | exact C0.out | exact C1.out | exact C2.out | exact C3.out)
           clear hK K ah; rename _ => ah
           obtain ⟨A7, c7, rfl, e71, e72⟩ := ownsRow_form hown7
           have hg7 := (CE.out.alloc (.cells #[.string sym, .int .u32 s.1, .int .u32 s.2] 74)).grown hgrow7 (fun e => by have := own_blk_ne M8.out CE.out (by decide); exact this e.symm)
           have g27 := hg7.cell 2
           have fr27 := hg7.frozen 2
           simp only [gq2] at g27
           have C3 := qh (C2.out.setCell (p := ⟨g, 2, none⟩) (.inl (.inl rfl)) (.slice A7 (L.length + 1) c7))
           have ay := kE.out _ _ _ hown7 (hor7.imp id (fun e => e.trans (by rw [World.size_alloc]))) hg7 rfl C3.out
           have aD := qh ay
           clear hown7 hgrow7 hg7 hor7 ay
           iterate 2
            refine tkH 10 (v := ?_) rfl (fun _ _ _ h => h) ?_ ?_
            rotate_left
            ·intro w hSw; (try dsimp only at hSw); (try simp only [tkN, gq3, gq1]); go_simp <;> with_reducible rfl
            try simp only [tkN, Act.put, gq3, gq1]
           refine rdH 12 fun K hK => ?_
           go_simp
           refine hK.out _ _ ?_ (fun aJ => ?_)
           ·(try dsimp only)
            exact bR.out _ (by first | exact C0.out | exact C1.out | exact C2.out | exact C3.out)
           clear hK K ah; rename _ => ah
           refine wpAnyH_done (by kernel_rfl) ?_ _
           clear ah g27 fr27
           go_wp2
           go_ret
           exact aD.out
end Go.Proofs.YtmepaeahchiglaaGreatDoor
namespace Go.Proofs.YtmepaeahchiglaaGreatDoor
open Go.RowKit Go.Maps Go.WideMaps
open Go.ChangeMaps (setBlock heap_setBlock_same heap_setBlock_other)
section
variable {H : Type} {P : Program} {R : Value → Option (DataW H × List MemPlace)}
theorem mH {w : World} {b clock : Nat} {es : Array MapEntry} (hb : w.heap[b]? = some (.map es clock)) (o' : Obj) : w.grownBy (setBlock w b o') (some b) :=
 ⟨rfl, rfl, rfl, by simp [setBlock], fun i _ hi => heap_setBlock_other hb _ (fun e => hi (by rw [e]))⟩
theorem oh {w : World} {t k e : TypeId} {b n : Nat} {D : DataW H} (h : w.ownsMap P k R b n D) (K : KeyLaw P k) (ht : P.underlying t = some (.map k e)) {z : Value} (hz : ∀ u : World, (zeroValue e).run P u = .ok z u) (hn : n < maxLen) {key : Value} {kl : Lit} (hkey : keyOf P k key = some kl) :
 ∃ (v0 : Value) (st : Nat) (w1 : World), (Instr.mapEntry t (.map (some b)) key).run P w = .ok (.tuple #[v0, goInt st]) w1 ∧ w.grownBy w1 (some b) ∧
  ∀ (w2 : World) (val : Value) d ps, w2.heap[b]? = w1.heap[b]? → R val = some (d, ps) → ∃ w3, (Instr.entryStore t (.map (some b)) (goInt st) val).run P w2 = .ok () w3 ∧ w3.ownsMap P k R b (n + 1) (D.put kl d) ∧ w2.grownBy w3 (some b) := by
 have h' := h
 obtain ⟨es, clock, hb, F, hs, hD⟩ := h
 obtain ⟨v0, st, es1, clock1, hrun, _, aF⟩ := WideElems.entry_then_store K ht hz hb F hkey
 refine ⟨v0, st, _, hrun, mH hb _, fun w2 val d ps hw2 hR => ?_⟩
 rw [heap_setBlock_same hb] at hw2
 obtain ⟨es', clock', hr1, hr2⟩ := aF w2 val hw2
 obtain ⟨w', hr3, ho, _⟩ := h'.store (Keyed.of_law K) ht hn hkey hR
 rw [hr2] at hr3
 injection hr3 with _ hr3
 subst hr3
 obtain ⟨es'', clock'', Mw, F'', Wz, Xl⟩ := ho
 rw [heap_setBlock_same hb] at Mw
 injection Mw with Mw
 injection Mw with e1 e2
 subst e1 e2
 exact ⟨_, hr1, ⟨es', clock', heap_setBlock_same hw2 _, F'', Wz, Xl⟩, mH hw2 _⟩
theorem nY {ops : Array Oper} {o : Oper} {a : Act} {w w1 : World} {K : Act → World → Prop} {Q : Exit → Act → World → Prop} {E : Prop} {v : Value} (hg : o.guard = none) (t : TypeId) (m x : Operand) (hop : o.op = .mapEntry t m x) (hrun : (Instr.mapEntry t (a.eval m) (a.eval x)).run P w = .ok v w1)
 (h : K (a.put o.dst v) w1) : if Region.wanted o (yielded ops a.tmps) = true then Oper.wp P o a w K Q else E := by
 have hw : Region.wanted o (yielded ops a.tmps) = true := by simp [Region.wanted, hg]
 rw [if_pos hw]
 unfold Oper.wp execOp
 simp only [hop, Sem.run_bind, Sem.run_pure, Result.andThen_ok, hrun]
 exact h
theorem lT {ops : Array Oper} {o : Oper} {a : Act} {w w1 : World} {K : Act → World → Prop} {Q : Exit → Act → World → Prop} {E : Prop} (hg : o.guard = none) (t : TypeId) (m s x : Operand) (hop : o.op = .entryStore t m s x) (hrun : (Instr.entryStore t (a.eval m) (a.eval s) (a.eval x)).run P w = .ok () w1)
 (h : K (a.put o.dst undef) w1) : if Region.wanted o (yielded ops a.tmps) = true then Oper.wp P o a w K Q else E := by
 have hw : Region.wanted o (yielded ops a.tmps) = true := by simp [Region.wanted, hg]
 rw [if_pos hw]
 unfold Oper.wp execOp
 simp only [hop, Sem.run_bind, Sem.run_pure, Result.andThen_ok, hrun]
 exact h
end
theorem bC.entry {w : World} {b n : Nat} {f : ByteArray → Option Int} (h : bC w b n f) (hn : n < maxLen) (s : ByteArray) (hs : s.size ≤ maxLen) :
 ∃ (v0 : Value) (st : Nat) (w1 : World), (Instr.mapEntry 240 (.map (some b)) (.string s)).run Tryz.prog w = .ok (.tuple #[v0, .int .i64 st]) w1 ∧ w.grownBy w1 (some b) ∧
  ∀ (w2 : World) (i : Int), w2.heap[b]? = w1.heap[b]? → (Lit.int .i64 i).wf = true → ∃ w3, (Instr.entryStore 240 (.map (some b)) (.int .i64 st) (.int .i64 i)).run Tryz.prog w2 = .ok () w3 ∧ bC w3 b (n + 1) (fun t => if t = s then some i else f t) ∧ w2.grownBy w3 (some b) := by
 obtain ⟨D, h1, h2, h3⟩ := h
 obtain ⟨v0, st, w1, hr, hg, hs2⟩ := oh h1 (string_law Tryz.underlying9) Tryz.underlying240 mi hn (gm hs)
 refine ⟨v0, st, w1, hr, hg, fun w2 i hw2 hi => ?_⟩
 obtain ⟨w3, hr3, ho, hg3⟩ := hs2 w2 (.int .i64 i) (.lit (.int .i64 i)) [] hw2 (plainElem_int Tryz.underlying3 hi)
 refine ⟨w3, hr3, ⟨_, ho, h2.put _ _, fun t => ?_⟩, hg3⟩
 have vH : WideAt.IsKeyLit (.string s.data.toList) := by first | trivial | rfl | (unfold WideAt.IsKeyLit; trivial)
 by_cases e : t = s
 ·subst e
  simp only [↓reduceIte]
  exact ⟨has_put_same h2 vH _, fun v hv => by injection hv with hv; subst hv; exact atKey_put_same h2 vH _ _⟩
 ·simp only [if_neg e]
  have hne : (Lit.string t.data.toList) ≠ .string s.data.toList := fun h => e (by injection h with h; exact str_eq h)
  rw [has_put_other hne, atKey_put_other hne]
  exact h3 t
theorem bI.entry {w : World} {b n : Nat} {f : Snd → Option Int} (h : bI w b n f) (hn : n < maxLen) (s : Snd) (hs : ok32 s) :
 ∃ (v0 : Value) (st : Nat) (w1 : World), (Instr.mapEntry 263 (.map (some b)) (jy s)).run Tryz.prog w = .ok (.tuple #[v0, .int .i64 st]) w1 ∧ w.grownBy w1 (some b) ∧
  ∀ (w2 : World) (i : Int), w2.heap[b]? = w1.heap[b]? → (Lit.int .i64 i).wf = true → ∃ w3, (Instr.entryStore 263 (.map (some b)) (.int .i64 st) (.int .i64 i)).run Tryz.prog w2 = .ok () w3 ∧ bI w3 b (n + 1) (fun t => if t = s then some i else f t) ∧ w2.grownBy w3 (some b) := by
 obtain ⟨D, h1, h2, h3⟩ := h
 obtain ⟨v0, st, w1, hr, hg, hs2⟩ := oh h1 Jz Tryz.underlying263 mi hn (mQ hs)
 refine ⟨v0, st, w1, hr, hg, fun w2 i hw2 hi => ?_⟩
 obtain ⟨w3, hr3, ho, hg3⟩ := hs2 w2 (.int .i64 i) (.lit (.int .i64 i)) [] hw2 (plainElem_int Tryz.underlying3 hi)
 refine ⟨w3, hr3, ⟨_, ho, h2.put _ _, fun t ht => ?_⟩, hg3⟩
 have vH : WideAt.IsKeyLit (CG s) := by first | trivial | rfl | (unfold WideAt.IsKeyLit; trivial)
 by_cases e : t = s
 ·subst e
  simp only [↓reduceIte]
  exact ⟨has_put_same h2 vH _, fun v hv => by injection hv with hv; subst hv; exact atKey_put_same h2 vH _ _⟩
 ·simp only [if_neg e]
  have hne : CG t ≠ CG s := fun h => e (Fa ht hs h)
  rw [has_put_other hne, atKey_put_other hne]
  exact h3 t ht
end Go.Proofs.YtmepaeahchiglaaGreatDoor
