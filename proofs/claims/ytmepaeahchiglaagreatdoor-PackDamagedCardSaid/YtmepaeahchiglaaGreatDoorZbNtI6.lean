/-
  layer 3: Add of the program. Conditions: an inventory in memory.
-/
import Derived.Test.YtmepaeahchiglaaGreatDoorZbaq
import Derived.Deep.RegionHeldLaw
namespace Go.Proofs.YtmepaeahchiglaaGreatDoor
open Go.RowKit Go.Lib

theorem map_ne {w : World} {b g : Nat} {es : Array MapEntry} {clock : Nat} {t : TypeId} {cs : Array Value} (h : w.heap[b]? = some (.map es clock)) (hb : Blk w g t cs) : g ≠ b := fun e => by
  unfold Blk at hb
  rw [e, h] at hb
  cases hb
theorem map_own_ne {w : World} {b base n k : Nat} {es : Array MapEntry} {clock : Nat} {e : TypeId} {v : Value} {xs : List Value} (h : w.heap[b]? = some (.map es clock)) (ho : w.ownsRow base e k v n xs) : v.ownBlock ≠ some b := fun hk => by
  rcases ho.2 with ⟨rfl, _⟩ | ⟨q, cap, cur, rfl, _, h6, _⟩
  · cases hk
  · simp only [Value.ownBlock, Option.some.injEq] at hk
    subst hk
    rw [h6] at h; cases h
theorem MapSI.ne_ {w : World} {b g n : Nat} {f : ByteArray → Option Int} {t : TypeId} {cs : Array Value} (h : MapSI w b n f) (hb : Blk w g t cs) : g ≠ b := by
  obtain ⟨es, clock, h⟩ := h.isMap
  exact map_ne h hb
theorem MapKI.ne_ {w : World} {b g n : Nat} {f : Snd → Option Int} {t : TypeId} {cs : Array Value} (h : MapKI w b n f) (hb : Blk w g t cs) : g ≠ b := by
  obtain ⟨es, clock, h⟩ := h.isMap
  exact map_ne h hb
theorem MapSI.ne_own {w : World} {b n base m k : Nat} {f : ByteArray → Option Int} {e : TypeId} {v : Value} {xs : List Value} (h : MapSI w b n f) (ho : w.ownsRow base e k v m xs) : v.ownBlock ≠ some b := by
  obtain ⟨es, clock, h⟩ := h.isMap
  exact map_own_ne h ho
theorem MapKI.ne_own {w : World} {b n base m k : Nat} {f : Snd → Option Int} {e : TypeId} {v : Value} {xs : List Value} (h : MapKI w b n f) (ho : w.ownsRow base e k v m xs) : v.ownBlock ≠ some b := by
  obtain ⟨es, clock, h⟩ := h.isMap
  exact map_own_ne h ho
theorem sym_kind : KindOf 209 symC := ⟨enters_of Tryz.func209 (by kernel_rfl) rfl, sym_any⟩
def AddPost (w : World) (S : Nat → Prop) (g : Nat) (fs : List ByteArray) (L : List Nam) (sym : ByteArray) (s : Snd) (e : Ending) (w' : World) : Prop :=
  e = .returned (.int .i64 (addE fs.length L sym s)) ∧ InvM w' (fun b => S b ∨ NewB4 w w' b) g fs (addL fs.length L (sym, s)) ∧ ChgS S w w'
theorem add_no {w w' : World} {S : Nat → Prop} {g : Nat} {fs : List ByteArray} {L : List Nam} {sym : ByteArray} {s : Snd} (x : Int) (h : InvM w S g fs L) (hb : Below w.heap.size w w') (hx : addE fs.length L sym s = x) (h0 : x ≠ 0) : AddPost w S g fs L sym s (.returned (.int .i64 x)) w' := by
  refine ⟨by rw [hx], ?_, .of_below hb⟩
  have e : addL fs.length L (sym, s) = L := by unfold addL; rw [if_neg (by rw [hx]; exact h0)]
  rw [e]
  exact (h.below hb).mono fun b hb => .inl hb
/-- What an added sound does to the maps' words. -/
theorem symOf_add {L : List Nam} {f : ByteArray → Option Int} {sym : ByteArray} {s : Snd} (h : SymOf L f) (hn : hasSym L (bs sym) = false) : SymOf (L ++ [(sym, s)]) (fun t => if t = sym then some (L.length : Int) else f t) := by
  intro t
  have hany : hasSym (L ++ [(sym, s)]) (bs t) = (hasSym L (bs t) || decide (bs sym = bs t)) := by unfold hasSym; rw [List.any_append]; simp
  by_cases e : t = sym
  · subst e
    refine ⟨by simp [hany], fun i hi => ⟨L.length, (t, s), ?_, by simp, rfl, ?_⟩⟩
    · simp only [↓reduceIte, Option.some.injEq] at hi; exact hi.symm
    · unfold soundOf
      rw [List.find?_append]
      have hf : (L.find? fun x => decide (bs x.1 = bs t)) = none := List.find?_eq_none.2 fun x hx => by
        unfold hasSym at hn
        simpa using List.any_eq_false.1 hn x hx
      rw [hf]; simp
  · have hne : ¬ bs sym = bs t := fun h => e (bs_inj h.symm)
    obtain ⟨h1, h2⟩ := h t
    simp only [if_neg e]
    refine ⟨by rw [hany, h1, decide_eq_false hne, Bool.or_false], fun i hi => ?_⟩
    obtain ⟨k, x, hik, hx, hxt, hs⟩ := h2 i hi
    refine ⟨k, x, hik, by rw [List.getElem?_append_left (List.getElem?_eq_some_iff.1 hx).1]; exact hx, hxt, ?_⟩
    rw [← hs]
    unfold soundOf
    rw [List.find?_append]
    cases hf : L.find? fun x => decide (bs x.1 = bs t) with
    | some y => rfl
    | none =>
      have := List.find?_eq_none.1 hf x (List.mem_of_getElem? hx)
      rw [hxt] at this
      simp at this
theorem nodup_add {L : List Nam} {sym : ByteArray} {s : Snd} (h : (L.map fun x => bs x.1).Nodup) (hn : hasSym L (bs sym) = false) : ((L ++ [(sym, s)]).map fun x => bs x.1).Nodup := by
  rw [List.map_append, List.nodup_append]
  refine ⟨h, by simp, ?_⟩
  intro a ha b hb e
  obtain ⟨x, hx, rfl⟩ := List.mem_map.1 ha
  simp only [List.map_cons, List.map_nil, List.mem_singleton] at hb
  unfold hasSym at hn
  have := List.any_eq_false.1 hn x hx
  simp only [decide_eq_true_eq] at this
  exact this (e.trans hb)
theorem valOf_add {L : List Nam} {f : Snd → Option Int} {sym : ByteArray} {s : Snd} (h : ValOf L f) : ValOf (L ++ [(sym, s)]) (fun t => if t = s then some (L.length : Int) else f t) := by
  intro t
  have hany : hasVal (L ++ [(sym, s)]) t = (hasVal L t || decide (s = t)) := by unfold hasVal; rw [List.any_append]; simp
  by_cases e : t = s
  · subst e; simp [hany]
  · rw [hany, decide_eq_false (fun h => e h.symm), Bool.or_false]
    simp only [if_neg e]
    exact h t
set_option linter.unusedSimpArgs false in
set_option maxRecDepth 20000 in
set_option maxHeartbeats 4000000 in
theorem add_any {w : World} {S : Nat → Prop} {g : Nat} {fs : List ByteArray} {L : List Nam} (sym : ByteArray) (s : Snd) (h : InvM w S g fs L) (hS : ∀ b, S b → b < w.heap.size) (hs : ok32 s) (hsy : sym.size ≤ maxLen) :
    Calls Tryz.prog 171 #[wptr g, .string sym, sndV s] w (AddPost w S g fs L sym s) := by
  obtain ⟨i0, hi, hz0, hz1, hz2⟩ := info_parts (show (Tryz.prog.info? 74).map (fun i => (i.zero, i.size, i.bytes)) = some (some (.agg #[.string ByteArray.empty, .int .u32 0, .int .u32 0]), 3, 24) by kernel_rfl)
  have hb0 := (Below.refl w.heap.size w).alloc (Nat.le_refl _) (.cells #[.int .u32 s.1, .int .u32 s.2] 55)
  have hx0 := Blk.new w 55 #[.int .u32 s.1, .int .u32 s.2]
  have h1 := h.below hb0
  have hmd := made_any h1
  have hcs := consists_any _ _ 4 sym (w.alloc (.cells #[.int .u32 s.1, .int .u32 s.2] 55)) sym_kind hsy
  have hbg := belongs_any s h1 hs
  have hno := fun x (w' : World) hb hx h0 => add_no (w' := w') (sym := sym) (s := s) x h hb hx h0
  have hE1 : okSym sym = false → addE fs.length L sym s = 15 := fun h => by unfold addE; rw [h]; rfl
  have hE2 : okSym sym = true → belongs fs.length s = false → addE fs.length L sym s = 14 := fun h h2 => by unfold addE; rw [h, h2]; rfl
  have hE3 : okSym sym = true → belongs fs.length s = true → (hasSym L (bs sym) || hasVal L s) = true → addE fs.length L sym s = 6 := fun h h2 h3 => by unfold addE; rw [h, h2, h3]; rfl
  have hE4 : okSym sym = true → belongs fs.length s = true → (hasSym L (bs sym) || hasVal L s) = false → addE fs.length L sym s = if L.length = 256 then 4 else 0 := fun h h2 h3 => by unfold addE; rw [h, h2, h3]; rfl
  obtain ⟨W0, hW0⟩ : ∃ W, w.alloc (.cells #[.int .u32 s.1, .int .u32 s.2] 55) = W := ⟨_, rfl⟩
  have hsz0 : W0.heap.size = w.heap.size + 1 := by rw [← hW0]; simp
  have hok : consC symC 4 sym = okSym sym := rfl
  rw [hok] at hcs
  rw [hW0] at hb0 hx0 h1 hmd hcs hbg
  have HW0 := Lib.hid hW0; have HB0 := Lib.hid hb0; have HX0 := Lib.hid hx0; have H1 := Lib.hid h1; have HMD := Lib.hid hmd; have HCS := Lib.hid hcs; have HBG := Lib.hid hbg; have HNO := Lib.hid hno; have HE1 := Lib.hid hE1; have HE2 := Lib.hid hE2; have HE3 := Lib.hid hE3; have HE4 := Lib.hid hE4; have HH := Lib.hid h; have HS := Lib.hid hS
  have hl256 := h.ok.l256
  clear hW0 hb0 hx0 h1 hmd hcs hbg hno hE1 hE2 hE3 hE4 h hok hS
  unfold maxLen at hsy
  cases hoks : okSym sym with
  | false =>
    rw [hoks] at HCS
    have HE := Lib.hid (HE1.out hoks)
    clear hoks
    go_enter Tryz.func171, Tryz.ntmps171
    go_wp2_with fail
    rw [HW0.out]
    go_wp2_with (first | (go_at_call 208; refine HMD.out.mono ?_; rintro e w' ⟨rfl, rfl⟩) | (go_at_call 206; refine HCS.out.mono ?_; rintro e w' ⟨rfl, rfl⟩))
    go_ret
    exact HNO.out 15 _ HB0.out HE.out (by decide)
  | true =>
    rw [hoks] at HCS
    cases hbel : belongs fs.length s with
    | false =>
      have HE := Lib.hid (HE2.out hoks hbel)
      rw [hbel] at HBG
      clear hoks hbel
      go_enter Tryz.func171, Tryz.ntmps171
      go_wp2_with fail
      rw [HW0.out]
      have c0 := HX0.out.cell 0
      have c1 := HX0.out.cell 1
      simp only [List.getElem?_toArray, List.getElem?_cons_zero, List.getElem?_cons_succ] at c0 c1
      go_wp2_with (first | (go_at_call 208; refine HMD.out.mono ?_; rintro e w' ⟨rfl, rfl⟩) | (go_at_call 206; refine HCS.out.mono ?_; rintro e w' ⟨rfl, rfl⟩))
      refine HBG.out.mono ?_
      rintro e w2 ⟨rfl, hb2⟩
      have HB2 := Lib.hid (HB0.out.trans (hb2.mono (by omega)))
      clear hb2 c0 c1
      go_wp2
      go_ret
      exact HNO.out 14 _ HB2.out HE.out (by decide)
    | true =>
      rw [hbel] at HBG
      have HE3' := Lib.hid (HE3.out hoks hbel); have HE4' := Lib.hid (HE4.out hoks hbel); have HOKS := Lib.hid hoks; have HBEL := Lib.hid hbel
      clear hoks hbel HE1 HE2 HE3 HE4
      go_enter Tryz.func171, Tryz.ntmps171
      go_wp2_with fail
      rw [HW0.out]
      have c0 := HX0.out.cell 0
      have c1 := HX0.out.cell 1
      simp only [List.getElem?_toArray, List.getElem?_cons_zero, List.getElem?_cons_succ] at c0 c1
      go_wp2_with (first | (go_at_call 208; refine HMD.out.mono ?_; rintro e w' ⟨rfl, rfl⟩) | (go_at_call 206; refine HCS.out.mono ?_; rintro e w' ⟨rfl, rfl⟩))
      refine HBG.out.mono ?_
      rintro e w2 ⟨rfl, hb2⟩
      clear c0 c1
      have h2 := H1.out.below hb2
      have hx2 := HX0.out.below hb2 (by omega)
      have hbb2 := HB0.out.trans (hb2.mono (by omega))
      have hs2 := hb2.size
      obtain ⟨A, c, v, b1, b2, b3, f1, f2, f3, ⟨k1, k2⟩, ⟨k3, k4⟩, ⟨k5, k6⟩, ⟨k7, k8⟩, ⟨k9, k10, k11⟩, ⟨k12, k13, k14⟩, ⟨k15, k15', k15''⟩, k16⟩ := h2
      obtain ⟨A2, c2, rfl, e1, e2⟩ := ownsRow_form k5
      have g2 := k1.cell 2
      have g3 := k1.cell 3
      have g4 := k1.cell 4
      have d0 := hx2.cell 0
      have d1 := hx2.cell 1
      simp only [List.getElem?_toArray, List.getElem?_cons_zero, List.getElem?_cons_succ] at g2 g3 g4 d0 d1
      have hl1 := k9.look sym (by unfold maxLen; omega)
      have hl2 : ∀ k, (Instr.lookup 263 (.map (some b3)) (.agg #[.int .u32 s.1, .int .u32 s.2]) true).run Tryz.prog (w2.drewN k) = .ok (.tuple #[.int .i64 ((f3 s).getD 0), .bool (f3 s).isSome]) (w2.drewN k) := fun k => MapKI.look (w := w2.drewN k) (show MapKI (w2.drewN k) b3 L.length f3 from k12) s hs
      obtain ⟨q1, q2⟩ := k11 sym
      have q3 := k14 s
      have hsz2 : W0.heap.size ≤ w2.heap.size := hs2
      have HB2 := Lib.hid hbb2; have HX2 := Lib.hid hx2
      have K1 := Lib.hid k1; have K3 := Lib.hid k3; have K5 := Lib.hid k5; have K6 := Lib.hid k6; have K7 := Lib.hid k7; have K9 := Lib.hid k9; have K11 := Lib.hid k11; have K12 := Lib.hid k12; have K14 := Lib.hid k14; have K16 := Lib.hid k16; have Q2 := Lib.hid q2; have K8 := Lib.hid k8; have K10 := Lib.hid k10; have K13 := Lib.hid k13; have K2 := Lib.hid k2
      clear hb2 hbb2 hx2 hs2 k1 k2 k3 k5 k6 k7 k8 k9 k10 k11 k12 k13 k14 k16 q2 HBG HCS HMD HX0 H1
      cases hff2 : f2 sym with
      | some i2 =>
        rw [hff2] at hl1 q1
        simp only [Option.getD_some, Option.isSome_some] at hl1 q1
        have HE := Lib.hid (HE3'.out (by rw [← q1]; rfl))
        cases hff3 : f3 s with
        | some i3 =>
          rw [hff3] at hl2
          simp only [Option.getD_some, Option.isSome_some] at hl2
          clear q1 q3 hff2 hff3
          go_wp2
          go_quiet (fail)
          have hb3 : Below w.heap.size w (w2.drewN nq) := ⟨HB2.out.os, HB2.out.tape, HB2.out.output, HB2.out.size, HB2.out.block⟩
          have HB3 := Lib.hid hb3
          clear hb3
          go_wp2
          go_ret
          exact HNO.out 6 _ HB3.out HE.out (by decide)
        | none =>
          rw [hff3] at hl2
          simp only [Option.getD_none, Option.isSome_none] at hl2
          clear q1 q3 hff2 hff3
          go_wp2
          go_quiet (fail)
          have hb3 : Below w.heap.size w (w2.drewN nq) := ⟨HB2.out.os, HB2.out.tape, HB2.out.output, HB2.out.size, HB2.out.block⟩
          have HB3 := Lib.hid hb3
          clear hb3
          go_wp2
          go_ret
          exact HNO.out 6 _ HB3.out HE.out (by decide)
      | none =>
        rw [hff2] at hl1 q1
        simp only [Option.getD_none, Option.isSome_none] at hl1 q1
        cases hff3 : f3 s with
        | some i3 =>
          rw [hff3] at hl2 q3
          simp only [Option.getD_some, Option.isSome_some] at hl2 q3
          have HE := Lib.hid (HE3'.out (by rw [← q3]; simp))
          clear q1 q3 hff2 hff3
          go_wp2
          go_quiet (fail)
          have hb3 : Below w.heap.size w (w2.drewN nq) := ⟨HB2.out.os, HB2.out.tape, HB2.out.output, HB2.out.size, HB2.out.block⟩
          have HB3 := Lib.hid hb3
          clear hb3
          go_wp2
          go_ret
          exact HNO.out 6 _ HB3.out HE.out (by decide)
        | none =>
          rw [hff3] at hl2 q3
          simp only [Option.getD_none, Option.isSome_none] at hl2 q3
          have hE := HE4'.out (by rw [← q1, ← q3]; rfl)
          have HQ1 := Lib.hid q1.symm
          clear q1 q3 hff2 hff3
          by_cases h256 : L.length = 256
          · have h256I : ((L.length : Int) == 256) = true := by rw [beq_iff_eq]; omega
            rw [if_pos h256] at hE
            have HE := Lib.hid hE
            clear hE h256
            go_wp2
            go_quiet (fail)
            have hb3 : Below w.heap.size w (w2.drewN nq) := ⟨HB2.out.os, HB2.out.tape, HB2.out.output, HB2.out.size, HB2.out.block⟩
            have HB3 := Lib.hid hb3
            clear hb3
            go_wp2
            go_ret
            exact HNO.out 4 _ HB3.out HE.out (by decide)
          · have h256I : ((L.length : Int) == 256) = false := by rw [beq_eq_false_iff_ne]; omega
            rw [if_neg h256] at hE
            have HE := Lib.hid hE
            clear hE
            go_wp2
            go_quiet (fail)
            obtain ⟨w3, hw3⟩ : ∃ W, w2.drewN nq = W := ⟨_, rfl⟩
            have hd : ChgS (fun _ => False) w2 w3 := by rw [← hw3]; exact (ChgS.refl _ _).drewN _
            have g2' : w3.cell? ⟨g, 2, none⟩ = some (.slice A2 L.length c2) := by rw [← hw3]; exact g2
            have g3' : w3.cell? ⟨g, 3, none⟩ = some (.map (some b2)) := by rw [← hw3]; exact g3
            have HD := Lib.hid hd
            rw [hw3]
            clear hw3 hd g2 g3 g4 d0 d1 hl1 hl2
            go_wp2
            refine region_tail 10 (by kernel_rfl) (by kernel_rfl) ?_
            simp only [List.take_succ_cons, List.take_zero, List.drop_succ_cons, List.drop_zero]
            still_step
            still_step
            still_step
            still_step
            still_step
            still_step
            still_step
            still_step
            still_step
            still_step
            refine wpStill_nil ?_
            have hm3 : MapSI w3 b2 L.length f2 := K9.out.chgS HD.out (fun h => h)
            have hm3' : MapSI w3.drew b2 L.length f2 := hm3
            have hgl := K1.out.lt
            have hb2l := K9.out.lt
            have hb3l := K12.out.lt
            have hne2 := K9.out.ne_ K1.out
            have hne3 := K12.out.ne_ K1.out
            have hnx2 := K9.out.ne_ HX2.out
            have hnx3 := K12.out.ne_ HX2.out
            have hno2 := K9.out.ne_own K5.out
            have hno3 := K12.out.ne_own K5.out
            have hgx : g ≠ w.heap.size := fun e => by have := HH.out.lt.1; omega
            go_wp2_with (refine wpList_putSI rfl _ _ _ rfl _ _ _ rfl hm3' (by unfold maxLen; omega) sym (by unfold maxLen; omega) (L.length : Int) (wf64 (by omega)) rfl rfl ?_; intro w4 hmap4 hgrow4)
            have hc4 : ChgS (fun b => b = b2) w2 w4 := ((HD.out.mono (fun _ _ h => h.elim)).drewN 1).grown hgrow4 (fun k hk => by injection hk with hk; exact .inl hk.symm)
            have hx4 : Blk w4 w.heap.size 55 #[.int .u32 s.1, .int .u32 s.2] := HX2.out.chgS hc4 hnx2
            have hg4 := K1.out.chgS hc4 hne2
            have g2 := hg4.cell 2
            have g4 := hg4.cell 4
            have d0 := hx4.cell 0
            have d1 := hx4.cell 1
            simp only [List.getElem?_toArray, List.getElem?_cons_zero, List.getElem?_cons_succ] at g2 g4 d0 d1
            have hk4' : MapKI w4 b3 L.length f3 := K12.out.chgS hc4 (fun (e : b3 = b2) => k15'' e.symm)
            have hk4 : MapKI w4.drew b3 L.length f3 := hk4'
            clear hk4'
            have HC4 := Lib.hid hc4; have HX4 := Lib.hid hx4; have HM4 := Lib.hid hmap4; have HG4 := Lib.hid hg4
            have hsz4 := hc4.size
            clear hm3 hm3' hc4 hx4 hmap4 hg4 hgrow4 HD g2' g3'
            refine region_tail 10 (by kernel_rfl) (by kernel_rfl) ?_
            simp only [List.take_succ_cons, List.take_zero, List.drop_succ_cons, List.drop_zero]
            still_step
            still_step
            still_step
            still_step
            still_step
            still_step
            still_step
            still_step
            still_step
            still_step
            refine wpStill_nil ?_
            go_wp2_with (refine wpList_putMapKI rfl _ _ _ rfl _ _ _ rfl hk4 (by unfold maxLen; omega) s hs (L.length : Int) (wf64 (by omega)) rfl rfl ?_; intro w5 hmap5 hgrow5)
            have hc5 : ChgS (fun b => b = b3) w4 w5 := ((ChgS.refl _ w4).drewN 1).grown hgrow5 (fun k hk => by injection hk with hk; exact .inl hk.symm)
            have hx5 : Blk w5 w.heap.size 55 #[.int .u32 s.1, .int .u32 s.2] := HX4.out.chgS hc5 hnx3
            have hg5 := HG4.out.chgS hc5 hne3
            have hm5 := HM4.out.chgS hc5 k15''
            have hc25 := (HC4.out.mono (T := fun b => b = b2 ∨ b = b3) (fun _ _ h => .inl h)).new hc5 (fun i _ h => .inr h)
            have hsz5 := hc25.size
            have ho5 := own_chgS K5.out hc25 (fun k hk e => by
              rcases e with rfl | rfl
              · exact hno2 hk
              · exact hno3 hk)
            have g2 := hg5.cell 2
            have d0 := hx5.cell 0
            have d1 := hx5.cell 1
            simp only [List.getElem?_toArray, List.getElem?_cons_zero, List.getElem?_cons_succ] at g2 d0 d1
            have HO5 := Lib.hid (show w5.drew.ownsRow 0 74 3 (.slice A2 L.length c2) L.length (L.flatMap namC) from ho5); have HG5 := Lib.hid hg5; have HM5 := Lib.hid hm5; have HK5 := Lib.hid hmap5; have HX5 := Lib.hid hx5; have HC25 := Lib.hid hc25
            have hrn := reads_newk w5.drew 74 (namC (sym, s)) 3 1 rfl
            have HRN := Lib.hid hrn
            clear hc5 hx5 hg5 hm5 hmap5 hc25 ho5 hgrow5 hk4 hrn
            obtain ⟨w6, hw6⟩ : ∃ W, w5.drew = W := ⟨_, rfl⟩
            have hx6 : Blk w5.drew w.heap.size 55 #[.int .u32 s.1, .int .u32 s.2] := HX5.out
            have hg6 : Blk w5.drew g 265 #[.slice A fs.length c, .map (some b1), .slice A2 L.length c2, .map (some b2), .map (some b3)] := HG5.out
            refine wp_region_held_drew (S := (fun W => W.cell? ⟨w.heap.size, 0, none⟩ = some (.int .u32 s.1) ∧ W.cell? ⟨w.heap.size, 1, none⟩ = some (.int .u32 s.2))) (by kernel_rfl) ?_ (fun hHeld => ?_)
            · exact ⟨d0, d1⟩
            have hkeep : ∀ W, ChgS (fun b => b = g ∨ (Value.slice A2 L.length c2).ownBlock = some b) w5.drew W → W.cell? ⟨w.heap.size, 0, none⟩ = some (.int .u32 s.1) ∧ W.cell? ⟨w.heap.size, 1, none⟩ = some (.int .u32 s.2) := fun W hc => by
              have hxo := own_blk_ne HO5.out hx6 (by decide)
              have hxW := hx6.chgS hc (fun e => by
                rcases e with e | e
                · exact hgx e.symm
                · exact hxo e)
              have d0 := hxW.cell 0
              have d1 := hxW.cell 1
              simp only [List.getElem?_toArray, List.getElem?_cons_zero, List.getElem?_cons_succ] at d0 d1
              exact ⟨d0, d1⟩
            have HKEEP := Lib.hid hkeep
            have HG6 := Lib.hid hg6
            have HM6 : Hid (MapSI w5.drew b2 (L.length + 1) (fun t => if t = sym then some (L.length : Int) else f2 t)) := Lib.hid HM5.out
            have HK6 : Hid (MapKI w5.drew b3 (L.length + 1) (fun t => if t = s then some (L.length : Int) else f3 t)) := Lib.hid HK5.out
            rw [hw6] at HO5 HRN HKEEP hHeld HG6 HM6 HK6 ⊢
            have g2 := HG6.out.cell 2
            have fr2 := HG6.out.frozen 2
            simp only [List.getElem?_toArray, List.getElem?_cons_zero, List.getElem?_cons_succ] at g2
            have C0 := Lib.hid (ChgS.refl (fun b => b = g ∨ (Value.slice A2 L.length c2).ownBlock = some b) w6)
            have C1 := Lib.hid (C0.out.alloc (.cells #[.string sym, .int .u32 s.1, .int .u32 s.2] 74))
            have hc6 : ChgS (fun b => b = b2 ∨ b = b3) w2 w6 := by rw [← hw6]; exact HC25.out.drewN 1
            have HC6 := Lib.hid hc6
            have hsz6 := hc6.size
            have hgl6 : g < w6.heap.size := by omega
            clear hx6 hg6 hkeep d0 d1 hw6 HG5 HX5 HC25 hc6
            refine wpAnyH_take (i := 0) (v := ?_) rfl (by kernel_rfl) (by kernel_rfl) (by kernel_rfl) (fun _ _ _ h => h) (Or.inl ⟨by rfl, ?_⟩) (by assumption) ?_
            rotate_left
            · intro w hSw
              (try dsimp only at hSw)
              go_simp <;> with_reducible rfl
            try simp only [Act.put, List.getElem_toArray, List.getElem_cons_succ, List.getElem_cons_zero, List.setIfInBounds_toArray, List.set_cons_zero, List.set_cons_succ]
            refine wpAnyH_take (i := 1) (v := ?_) rfl (by kernel_rfl) (by kernel_rfl) (by kernel_rfl) (fun _ _ _ h => h) (Or.inl ⟨by rfl, ?_⟩) (by assumption) ?_
            rotate_left
            · intro w hSw
              (try dsimp only at hSw)
              go_simp <;> with_reducible rfl
            try simp only [Act.put, List.getElem_toArray, List.getElem_cons_succ, List.getElem_cons_zero, List.setIfInBounds_toArray, List.set_cons_zero, List.set_cons_succ]
            refine wpAnyH_take (i := 2) (v := ?_) rfl (by kernel_rfl) (by kernel_rfl) (by kernel_rfl) (fun _ _ _ h => h) (Or.inl ⟨by rfl, ?_⟩) (by assumption) ?_
            rotate_left
            · intro w hSw
              (try dsimp only at hSw)
              go_simp <;> with_reducible rfl
            try simp only [Act.put, List.getElem_toArray, List.getElem_cons_succ, List.getElem_cons_zero, List.setIfInBounds_toArray, List.set_cons_zero, List.set_cons_succ]
            refine wpAnyH_take (i := 3) (v := ?_) rfl (by kernel_rfl) (by kernel_rfl) (by kernel_rfl) (fun _ _ _ h => h) (Or.inl ⟨by rfl, ?_⟩) (by assumption) ?_
            rotate_left
            · intro w hSw
              (try dsimp only at hSw)
              go_simp <;> with_reducible rfl
            try simp only [Act.put, List.getElem_toArray, List.getElem_cons_succ, List.getElem_cons_zero, List.setIfInBounds_toArray, List.set_cons_zero, List.set_cons_succ]
            refine wpAnyH_take (i := 5) (v := ?_) rfl (by kernel_rfl) (by kernel_rfl) (by kernel_rfl) (fun _ _ _ h => h) (Or.inl ⟨by rfl, ?_⟩) (by assumption) ?_
            rotate_left
            · intro w hSw
              (try dsimp only at hSw)
              go_simp <;> with_reducible rfl
            try simp only [Act.put, List.getElem_toArray, List.getElem_cons_succ, List.getElem_cons_zero, List.setIfInBounds_toArray, List.set_cons_zero, List.set_cons_succ]
            refine wpAnyH_take (i := 6) (v := ?_) rfl (by kernel_rfl) (by kernel_rfl) (by kernel_rfl) (fun _ _ _ h => h) (Or.inl ⟨by rfl, ?_⟩) (by assumption) ?_
            rotate_left
            · intro w hSw
              (try dsimp only at hSw)
              go_simp <;> with_reducible rfl
            try simp only [Act.put, List.getElem_toArray, List.getElem_cons_succ, List.getElem_cons_zero, List.setIfInBounds_toArray, List.set_cons_zero, List.set_cons_succ]
            refine wpAnyH_take (i := 7) (v := ?_) rfl (by kernel_rfl) (by kernel_rfl) (by kernel_rfl) (fun _ _ _ h => h) (Or.inl ⟨by rfl, ?_⟩) (by assumption) ?_
            rotate_left
            · intro w hSw
              (try dsimp only at hSw)
              go_simp <;> with_reducible rfl
            try simp only [Act.put, List.getElem_toArray, List.getElem_cons_succ, List.getElem_cons_zero, List.setIfInBounds_toArray, List.set_cons_zero, List.set_cons_succ]
            have hend : ∀ (w7 : World) (v7 : Value) (w8 : World), w7.ownsRow 0 74 3 v7 (L.length + 1) (L.flatMap namC ++ namC (sym, s)) → (v7.ownBlock = (Value.slice A2 L.length c2).ownBlock ∨ v7.ownBlock = some (w6.heap.size + 1)) → Blk w7 g 265 #[.slice A fs.length c, .map (some b1), .slice A2 L.length c2, .map (some b2), .map (some b3)] →
                w7.setCell ⟨g, 2, none⟩ v7 = w8 → ChgS (fun b => b = g ∨ (Value.slice A2 L.length c2).ownBlock = some b) w6 w8 → AddPost w S g fs L sym s (.returned (.int .i64 0)) w8 := fun w7 v7 w8 ho7 hor hg7 he hc8 => by
              have hsz8 := hc8.size
              have hG := HG6.out.lt
              have hadd : addL fs.length L (sym, s) = L ++ [(sym, s)] := by unfold addL; rw [if_pos HE.out]
              have hfl : (L ++ [(sym, s)]).length = L.length + 1 := by simp
              have hT : ChgS (fun b => (b = b2 ∨ b = b3) ∨ (b = g ∨ (Value.slice A2 L.length c2).ownBlock = some b)) w2 w8 := (HC6.out.mono (fun _ _ h => .inl h)).new hc8 (fun i _ h => .inr h)
              have hv7 : v7.ownBlock ≠ some g := own_blk_ne ho7 hg7 (by decide)
              have ho8 : w8.ownsRow 0 74 3 v7 (L.length + 1) ((L ++ [(sym, s)]).flatMap namC) := by
                rw [← he, List.flatMap_append]
                have e : [(sym, s)].flatMap namC = namC (sym, s) := by simp
                rw [e]
                exact own_chgS ho7 ((ChgS.refl (fun b => b = g) w7).setCell (p := ⟨g, 2, none⟩) (.inl rfl) v7) (fun k hk e => hv7 (e ▸ hk))
              have hg8 : Blk w8 g 265 #[.slice A fs.length c, .map (some b1), v7, .map (some b2), .map (some b3)] := by
                rw [← he]; simpa using hg7.set_ 2 v7
              have hl8 : ∀ b, v7.ownBlock = some b → b < w8.heap.size := fun b hb => (ho8.lt b hb).2
              have hfown := own_own_ne K3.out K5.out (by decide)
              have hmown : ∀ b es clock, w2.heap[b]? = some (.map es clock) → (b ≠ b2 ∧ b ≠ b3) → ¬ ((b = b2 ∨ b = b3) ∨ (b = g ∨ (Value.slice A2 L.length c2).ownBlock = some b)) := fun b es clock h1 h2 h3 => by
                rcases h3 with (h3 | h3) | (h3 | h3)
                · exact h2.1 h3
                · exact h2.2 h3
                · exact map_ne h1 K1.out h3.symm
                · exact map_own_ne h1 K5.out h3
              obtain ⟨es1, cl1, hm1⟩ := K7.out.isMap
              have hq2 : MapSI w8 b2 (L ++ [(sym, s)]).length (fun t => if t = sym then some (L.length : Int) else f2 t) := by
                rw [hfl]
                refine HM6.out.chgS hc8 (fun h => ?_)
                rcases h with h | h
                · exact hne2 h.symm
                · exact hno2 h
              have hq3 : MapKI w8 b3 (L ++ [(sym, s)]).length (fun t => if t = s then some (L.length : Int) else f3 t) := by
                rw [hfl]
                refine HK6.out.chgS hc8 (fun h => ?_)
                rcases h with h | h
                · exact hne3 h.symm
                · exact hno3 h
              refine ⟨by rw [HE.out], ?_, ?_⟩
              · rw [hadd]
                refine ⟨A, c, v7, b1, b2, b3, f1, _, _, ⟨hg8, .inl K2.out⟩, ⟨own_chgS K3.out hT (fun k hk h => ?_), fun b hb => .inl (k4 b hb)⟩, ⟨by rw [hfl]; exact ho8, fun b hb => ?_⟩, ⟨K7.out.chgS hT (hmown _ _ _ hm1 ⟨k15, k15'⟩), .inl K8.out⟩, ⟨hq2, .inl K10.out, symOf_add K11.out HQ1.out⟩, ⟨hq3, .inl K13.out, valOf_add K14.out⟩, ⟨k15, k15', k15''⟩, ⟨K16.out.f24, K16.out.feat, by rw [hfl]; omega, fun x hx => ?_, nodup_add K16.out.nd HQ1.out⟩⟩
                · rcases h with (h | h) | (h | h)
                  · obtain ⟨es, clock, hb⟩ := K9.out.isMap; exact map_own_ne hb K3.out (h ▸ hk)
                  · obtain ⟨es, clock, hb⟩ := K12.out.isMap; exact map_own_ne hb K3.out (h ▸ hk)
                  · exact own_blk_ne K3.out K1.out (by decide) (h ▸ hk)
                  · rcases hfown with e | e
                    · rw [e] at hk; cases hk
                    · exact e (hk.trans h.symm)
                · rcases hor with e | e
                  · exact .inl (K6.out b (by rw [← e]; exact hb))
                  · rw [hb] at e
                    injection e with e
                    exact .inr ⟨by omega, hl8 b hb⟩
                · rcases List.mem_append.1 hx with hx | hx
                  · exact K16.out.sym x hx
                  · rw [List.mem_singleton.1 hx]; exact ⟨HOKS.out, HBEL.out, hs⟩
              · refine (ChgS.of_below HB2.out).new hT (fun i _ h => ?_)
                rcases h with (h | h) | (h | h)
                · rw [h]; exact K10.out
                · rw [h]; exact K13.out
                · rw [h]; exact K2.out
                · exact K6.out _ h
            have HEND := Lib.hid hend
            clear hend
            refine wpAnyH_ready (rs := [4, 8]) (by kernel_rfl) (by simp) ?_
            refine AllReadyH.cons rfl (fun K hK => ?_) (AllReadyH.cons rfl (fun K hK => ?_) AllReadyH.nil)
            · go_simp
              refine hK.out _ _ ?_ (fun hHeld' => ?_)
              · (try dsimp only)
                exact HKEEP.out _ (by first | exact C0.out | exact C1.out | exact C2.out | exact C3.out)
              clear hK K hHeld
              have hHeld := hHeld'
              clear hHeld'
              refine wpAnyH_ready (rs := [8]) (by kernel_rfl) (by simp) ?_
              refine AllReadyH.cons rfl (fun K hK => ?_) AllReadyH.nil
              go_simp
              refine hK.out _ _ ?_ (fun hHeld' => ?_)
              · (try dsimp only)
                exact HKEEP.out _ (by first | exact C0.out | exact C1.out | exact C2.out | exact C3.out)
              clear hK K hHeld
              have hHeld := hHeld'
              clear hHeld'
              refine wpAnyH_ready (rs := [9]) (by kernel_rfl) (by simp) ?_
              refine AllReadyH.cons rfl (fun K hK => ?_) AllReadyH.nil
              refine step_append_any _ rfl _ _ 23 rfl 0 74 i0 (.agg #[.string ByteArray.empty, .int .u32 0, .int .u32 0]) 3 24 Tryz.underlying23 hi hz0 hz1 hz2 rfl (by decide) _ _ _ rfl (HO5.out.alloc _) _ _ _ _ (namC (sym, s)) rfl HRN.out (by simp [Value.oneCell']) (by unfold maxLen; omega) (by omega) (by omega) ?_
              intro v7 w7 hown7 hgrow7 hor7
              have C2 := Lib.hid (C1.out.grown hgrow7 (fun k hk => .inl (.inr hk)))
              refine hK.out _ _ ?_ (fun hHeld' => ?_)
              · (try dsimp only)
                exact HKEEP.out _ (by first | exact C0.out | exact C1.out | exact C2.out | exact C3.out)
              clear hK K hHeld
              have hHeld := hHeld'
              clear hHeld'
              obtain ⟨A7, c7, rfl, e71, e72⟩ := ownsRow_form hown7
              have hg7 := (HG6.out.alloc (.cells #[.string sym, .int .u32 s.1, .int .u32 s.2] 74)).grown hgrow7 (fun e => by have := own_blk_ne HO5.out HG6.out (by decide); exact this e.symm)
              have g27 := hg7.cell 2
              have fr27 := hg7.frozen 2
              simp only [List.getElem?_toArray, List.getElem?_cons_zero, List.getElem?_cons_succ] at g27
              have C3 := Lib.hid (C2.out.setCell (p := ⟨g, 2, none⟩) (.inl (.inl rfl)) (.slice A7 (L.length + 1) c7))
              have hfin := HEND.out _ _ _ hown7 (hor7.imp id (fun e => e.trans (by rw [World.size_alloc]))) hg7 rfl C3.out
              have HFIN := Lib.hid hfin
              clear hown7 hgrow7 hg7 hor7 hfin
              refine wpAnyH_take (i := 10) (v := ?_) rfl (by kernel_rfl) (by kernel_rfl) (by kernel_rfl) (fun _ _ _ h => h) (Or.inl ⟨by rfl, ?_⟩) (by assumption) ?_
              rotate_left
              · intro w hSw
                (try dsimp only at hSw)
                go_simp <;> with_reducible rfl
              try simp only [Act.put, List.getElem_toArray, List.getElem_cons_succ, List.getElem_cons_zero, List.setIfInBounds_toArray, List.set_cons_zero, List.set_cons_succ]
              refine wpAnyH_take (i := 11) (v := ?_) rfl (by kernel_rfl) (by kernel_rfl) (by kernel_rfl) (fun _ _ _ h => h) (Or.inl ⟨by rfl, ?_⟩) (by assumption) ?_
              rotate_left
              · intro w hSw
                (try dsimp only at hSw)
                go_simp <;> with_reducible rfl
              try simp only [Act.put, List.getElem_toArray, List.getElem_cons_succ, List.getElem_cons_zero, List.setIfInBounds_toArray, List.set_cons_zero, List.set_cons_succ]
              refine wpAnyH_ready (rs := [12]) (by kernel_rfl) (by simp) ?_
              refine AllReadyH.cons rfl (fun K hK => ?_) AllReadyH.nil
              go_simp
              refine hK.out _ _ ?_ (fun hHeld' => ?_)
              · (try dsimp only)
                exact HKEEP.out _ (by first | exact C0.out | exact C1.out | exact C2.out | exact C3.out)
              clear hK K hHeld
              have hHeld := hHeld'
              clear hHeld'
              refine wpAnyH_done (by kernel_rfl) ?_ _
              clear hHeld g27 fr27
              go_wp2
              go_ret
              exact HFIN.out
            · go_simp
              refine hK.out _ _ ?_ (fun hHeld' => ?_)
              · (try dsimp only)
                exact HKEEP.out _ (by first | exact C0.out | exact C1.out | exact C2.out | exact C3.out)
              clear hK K hHeld
              have hHeld := hHeld'
              clear hHeld'
              refine wpAnyH_ready (rs := [4]) (by kernel_rfl) (by simp) ?_
              refine AllReadyH.cons rfl (fun K hK => ?_) AllReadyH.nil
              go_simp
              refine hK.out _ _ ?_ (fun hHeld' => ?_)
              · (try dsimp only)
                exact HKEEP.out _ (by first | exact C0.out | exact C1.out | exact C2.out | exact C3.out)
              clear hK K hHeld
              have hHeld := hHeld'
              clear hHeld'
              refine wpAnyH_ready (rs := [9]) (by kernel_rfl) (by simp) ?_
              refine AllReadyH.cons rfl (fun K hK => ?_) AllReadyH.nil
              refine step_append_any _ rfl _ _ 23 rfl 0 74 i0 (.agg #[.string ByteArray.empty, .int .u32 0, .int .u32 0]) 3 24 Tryz.underlying23 hi hz0 hz1 hz2 rfl (by decide) _ _ _ rfl (HO5.out.alloc _) _ _ _ _ (namC (sym, s)) rfl HRN.out (by simp [Value.oneCell']) (by unfold maxLen; omega) (by omega) (by omega) ?_
              intro v7 w7 hown7 hgrow7 hor7
              have C2 := Lib.hid (C1.out.grown hgrow7 (fun k hk => .inl (.inr hk)))
              refine hK.out _ _ ?_ (fun hHeld' => ?_)
              · (try dsimp only)
                exact HKEEP.out _ (by first | exact C0.out | exact C1.out | exact C2.out | exact C3.out)
              clear hK K hHeld
              have hHeld := hHeld'
              clear hHeld'
              obtain ⟨A7, c7, rfl, e71, e72⟩ := ownsRow_form hown7
              have hg7 := (HG6.out.alloc (.cells #[.string sym, .int .u32 s.1, .int .u32 s.2] 74)).grown hgrow7 (fun e => by have := own_blk_ne HO5.out HG6.out (by decide); exact this e.symm)
              have g27 := hg7.cell 2
              have fr27 := hg7.frozen 2
              simp only [List.getElem?_toArray, List.getElem?_cons_zero, List.getElem?_cons_succ] at g27
              have C3 := Lib.hid (C2.out.setCell (p := ⟨g, 2, none⟩) (.inl (.inl rfl)) (.slice A7 (L.length + 1) c7))
              have hfin := HEND.out _ _ _ hown7 (hor7.imp id (fun e => e.trans (by rw [World.size_alloc]))) hg7 rfl C3.out
              have HFIN := Lib.hid hfin
              clear hown7 hgrow7 hg7 hor7 hfin
              refine wpAnyH_take (i := 10) (v := ?_) rfl (by kernel_rfl) (by kernel_rfl) (by kernel_rfl) (fun _ _ _ h => h) (Or.inl ⟨by rfl, ?_⟩) (by assumption) ?_
              rotate_left
              · intro w hSw
                (try dsimp only at hSw)
                go_simp <;> with_reducible rfl
              try simp only [Act.put, List.getElem_toArray, List.getElem_cons_succ, List.getElem_cons_zero, List.setIfInBounds_toArray, List.set_cons_zero, List.set_cons_succ]
              refine wpAnyH_take (i := 11) (v := ?_) rfl (by kernel_rfl) (by kernel_rfl) (by kernel_rfl) (fun _ _ _ h => h) (Or.inl ⟨by rfl, ?_⟩) (by assumption) ?_
              rotate_left
              · intro w hSw
                (try dsimp only at hSw)
                go_simp <;> with_reducible rfl
              try simp only [Act.put, List.getElem_toArray, List.getElem_cons_succ, List.getElem_cons_zero, List.setIfInBounds_toArray, List.set_cons_zero, List.set_cons_succ]
              refine wpAnyH_ready (rs := [12]) (by kernel_rfl) (by simp) ?_
              refine AllReadyH.cons rfl (fun K hK => ?_) AllReadyH.nil
              go_simp
              refine hK.out _ _ ?_ (fun hHeld' => ?_)
              · (try dsimp only)
                exact HKEEP.out _ (by first | exact C0.out | exact C1.out | exact C2.out | exact C3.out)
              clear hK K hHeld
              have hHeld := hHeld'
              clear hHeld'
              refine wpAnyH_done (by kernel_rfl) ?_ _
              clear hHeld g27 fr27
              go_wp2
              go_ret
              exact HFIN.out
end Go.Proofs.YtmepaeahchiglaaGreatDoor
