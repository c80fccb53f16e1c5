/-
  layer 43: the reference's reader: flags, sounds, texts, words. Conditions: bytes that can be read. (Printed by refrd.py.)
-/
import Derived.Test.YtipfhamhiaeieaaDoorZcaf
import Derived.Test.YtipfhamhiaeieaaDoorZcPkLr
import Derived.Test.YtipfhamhiaeieaaDoorZcPkFt
namespace Go.Proofs.YtipfhamhiaeieaaDoor
open Go.RowKit Go.Lib

/-- What the reference's reading of a thing ends in. -/
def VPost {α : Type} (mk : α → Value) (ok : α → Prop) (g : Nat) (all : List Nat) (bad : Bool) (w : World) (o : Option (α × List Nat)) (e : Ending) (w' : World) : Prop :=
  ∃ x at' bad', e = .returned (mk x) ∧ ok x ∧ Chg [g] w w' ∧ RS w' g all at' bad' ∧ (bad = true → bad' = true) ∧ (bad = false → match o with
    | some (y, r) => x = y ∧ bad' = false ∧ all.drop at' = r
    | none => bad' = true)
def u32V (n : Nat) : Value := .int .u32 n
theorem snumV (w : World) (g at_ : Nat) (all : List Nat) (bad : Bool) (h : RS w g all at_ bad) :
    Calls Tryd.prog 86 #[wptr g] w (VPost u32V is32 g all bad w (readN (all.drop at_))) := by
  refine (snum_any w g at_ all bad h).mono fun e w' ⟨v, at', bad', h1, h2, h3, h4, h5⟩ => ⟨v, at', bad', h1, h2, h3, h4, fun hb => ?_, fun hb => ?_⟩
  · subst hb
    cases ho : readN (all.drop at_) with
    | none => rw [ho] at h5; exact h5
    | some q => obtain ⟨n, r⟩ := q; rw [ho] at h5; exact h5.2.1
  · subst hb
    cases ho : readN (all.drop at_) with
    | none => rw [ho] at h5; exact h5
    | some q => obtain ⟨n, r⟩ := q; rw [ho] at h5; exact h5
set_option maxRecDepth 20000 in
theorem sflag_any (w : World) (g at_ : Nat) (all : List Nat) (bad : Bool) (h : RS w g all at_ bad) :
    Calls Tryd.prog 97 #[wptr g] w (VPost Value.bool (fun _ => True) g all bad w (flagR (all.drop at_))) := by
  have hc := snumV w g at_ all bad h
  obtain ⟨o, ho⟩ : ∃ o, readN (all.drop at_) = o := ⟨_, rfl⟩
  rw [ho] at hc
  obtain ⟨q, hq⟩ : ∃ q, flagR (all.drop at_) = q := ⟨_, rfl⟩
  rw [hq]
  have hq2 : q = o.bind fun x => if 1 < x.1 then none else some (decide (x.1 = 1), x.2) := by
    rw [← hq]
    unfold flagR
    cases o with
    | none => rw [thenR_none ho]; rfl
    | some x => obtain ⟨n, r⟩ := x; rw [thenR_some ho]; rfl
  have HQ2 := Lib.hid hq2
  clear h hq ho hq2
  unfold u32V at hc
  go_enter Tryd.func97, Tryd.ntmps97
  go_wp2_with fail
  refine hc.mono ?_
  rintro e w1 ⟨v, at', bad', rfl, hv, hch, hr, hb1, hm⟩
  obtain ⟨A, c, ⟨c0, c1, c2⟩, ⟨f0, f1, f2⟩, h2, h3, h4⟩ := hr.cells
  have HR := Lib.hid hr; have HCH := Lib.hid hch; have HM := Lib.hid hm; have HB1 := Lib.hid hb1; have HV := Lib.hid hv
  clear hr hch hm hc h2 hb1 hv
  by_cases h1 : 1 < v
  · have h1I : (1 : Int) < (v : Int) := by omega
    have h2I : ((v : Int) == 1) = false := by rw [beq_eq_false_iff_ne]; omega
    have HB := Lib.hid HR.out.setBad
    have HCB := Lib.hid (HCH.out.setCell (p := ⟨g, 2, none⟩) (.inl (by simp)) (.bool true))
    have H1 := Lib.hid h1
    clear h1
    go_wp2
    go_ret
    refine ⟨false, at', true, rfl, trivial, HCB.out, HB.out, fun _ => rfl, fun hb => ?_⟩
    have hq := HQ2.out
    have hm := HM.out hb
    cases o with
    | none => rw [hq]; rfl
    | some x =>
      obtain ⟨n, r⟩ := x
      obtain ⟨rfl, -, hr⟩ := hm
      have hq' : q = none := by rw [hq]; show (if 1 < v then none else some (decide (v = 1), r)) = _; rw [if_pos H1.out]
      rw [hq']
  · have h1I : ¬ (1 : Int) < (v : Int) := by omega
    have hfin : ∀ b : Bool, b = decide (v = 1) → VPost Value.bool (fun _ => True) g all bad w q (.returned (.bool b)) w1 := fun b hb0 => by
      refine ⟨b, at', bad', rfl, trivial, HCH.out, HR.out, HB1.out, fun hb => ?_⟩
      have hq := HQ2.out
      have hm := HM.out hb
      cases o with
      | none => rw [hq]; exact hm
      | some x =>
        obtain ⟨n, r⟩ := x
        obtain ⟨rfl, hb', hr⟩ := hm
        have hq' : q = some (decide (v = 1), r) := by rw [hq]; show (if 1 < v then none else some (decide (v = 1), r)) = _; rw [if_neg h1]
        rw [hq']
        exact ⟨hb0, hb', hr⟩
    have HFIN := Lib.hid hfin
    clear hfin
    by_cases h2' : v = 1
    · have h2I : ((v : Int) == 1) = true := by rw [beq_iff_eq]; omega
      have h3' := HFIN.out true (by rw [decide_eq_true h2'])
      have H3 := Lib.hid h3'
      clear h1 h2' h3'
      go_wp2
      go_ret
      exact H3.out
    · have h2I : ((v : Int) == 1) = false := by rw [beq_eq_false_iff_ne]; omega
      have h3' := HFIN.out false (by rw [decide_eq_false h2'])
      have H3 := Lib.hid h3'
      clear h1 h2' h3'
      go_wp2
      go_ret
      exact H3.out
set_option maxRecDepth 20000 in
set_option maxHeartbeats 2000000 in
theorem ssnd_any (w : World) (g at_ : Nat) (all : List Nat) (bad : Bool) (h : RS w g all at_ bad) :
    Calls Tryd.prog 87 #[wptr g] w (VPost sndV ok32 g all bad w (sndR (all.drop at_))) := by
  have hgl := h.lt
  have h0 := h.alloc (.cells #[.int .u32 0, .int .u32 0] 24)
  have hB := Blk.new w 24 #[.int .u32 0, .int .u32 0]
  have hch := (Chg.refl [g] w).alloc (.cells #[.int .u32 0, .int .u32 0] 24)
  have hc := snumV _ g at_ all bad h0
  have hc2 := fun W at' bad' (hW : RS W g all at' bad') => snumV W g at' all bad' hW
  unfold u32V at hc hc2
  have HB := Lib.hid hB; have HCH := Lib.hid hch; have HC2 := Lib.hid hc2
  clear h h0 hB hch hc2
  go_enter Tryd.func87, Tryd.ntmps87
  go_wp2_with fail
  refine hc.mono ?_
  rintro e w1 ⟨v1, at1, bad1, rfl, hv1, hch1, hr1, hb1, hm1⟩
  have H1 := Lib.hid hch1; have HR1 := Lib.hid hr1; have HB1 := Lib.hid hb1; have HM1 := Lib.hid hm1; have HV1 := Lib.hid hv1
  clear hch1 hr1 hb1 hm1 hv1 hc
  go_wp2_with fail
  refine (HC2.out _ _ _ HR1.out).mono ?_
  rintro e w2 ⟨v2, at2, bad2, rfl, hv2, hch2, hr2, hb2, hm2⟩
  have hB2 := (HB.out.chg H1.out (by simp; omega)).chg hch2 (by simp; omega)
  have hx0 := hB2.cell 0
  have hx1 := hB2.cell 1
  have hf0 := hB2.frozen 0
  have hf1 := hB2.frozen 1
  simp only [List.getElem?_toArray, List.getElem?_cons_zero, List.getElem?_cons_succ] at hx0 hx1
  have hB3 := (hB2.set_ 0 (.int .u32 v1)).set_ 1 (.int .u32 v2)
  have hy0 := hB3.cell 0
  have hy1 := hB3.cell 1
  simp only [List.setIfInBounds_toArray, List.set_cons_zero, List.set_cons_succ, List.getElem?_toArray, List.getElem?_cons_zero, List.getElem?_cons_succ] at hy0 hy1
  have HY0 := Lib.hid hy0; have HY1 := Lib.hid hy1; have H2 := Lib.hid hch2; have HR2 := Lib.hid hr2; have HB2 := Lib.hid hb2; have HM2 := Lib.hid hm2; have HV2 := Lib.hid hv2
  clear hch2 hr2 hb2 hm2 hB2 hB3 hy0 hy1 HC2 hv2
  go_wp2
  refine bodyPost_ret (v := sndV (v1, v2)) (by simp [results, Tryd.results87, go_sem, HY0.out, HY1.out]) rfl ⟨(v1, v2), at2, bad2, rfl, ⟨HV1.out, HV2.out⟩, ?_, ?_, fun hb => HB2.out (HB1.out hb), fun hb => ?_⟩
  · exact (((HCH.out.trans H1.out).trans H2.out).setCell (.inr (by simp)) _).setCell (.inr (by simp)) _
  · exact (HR2.out.chg ((Chg.refl [w.heap.size] w2).setCell (.inl (by simp)) _) (by simpa using hgl)).chg ((Chg.refl [w.heap.size] _).setCell (.inl (by simp)) _) (by simpa using hgl)
  · have m1 := HM1.out hb
    unfold sndR pairR
    cases ho : readN (all.drop at_) with
    | none => rw [ho] at m1; rw [thenR_none ho]; exact HB2.out m1
    | some x =>
      obtain ⟨n, r⟩ := x
      rw [ho] at m1
      obtain ⟨rfl, hb1, rfl⟩ := m1
      rw [thenR_some ho]
      have m2 := HM2.out hb1
      cases ho2 : readN (all.drop at1) with
      | none => rw [ho2] at m2; rw [thenR_none ho2]; exact m2
      | some x2 =>
        obtain ⟨n2, r2⟩ := x2
        rw [ho2] at m2
        obtain ⟨rfl, hb2, rfl⟩ := m2
        rw [thenR_some ho2]
        exact ⟨rfl, hb2, rfl⟩
set_option maxRecDepth 20000 in
set_option maxHeartbeats 2000000 in
theorem stext_any (w : World) (g at_ : Nat) (all : List Nat) (bad : Bool) (h : RS w g all at_ bad) :
    Calls Tryd.prog 83 #[wptr g] w (VPost Value.string (fun s => s.size ≤ 1073741824) g all bad w (textR (all.drop at_))) := by
  have hc := scount_any w g at_ all bad h
  obtain ⟨o, ho⟩ : ∃ o, countR (all.drop at_) = o := ⟨_, rfl⟩
  rw [ho] at hc
  obtain ⟨q, hq⟩ : ∃ q, textR (all.drop at_) = q := ⟨_, rfl⟩
  rw [hq]
  have hq2 : q = o.bind fun x => some (strB (x.2.take x.1), x.2.drop x.1) := by
    rw [← hq]
    unfold textR
    cases o with
    | none => rw [thenR_none ho]; rfl
    | some x => obtain ⟨n, r⟩ := x; rw [thenR_some ho]; rfl
  have HQ2 := Lib.hid hq2
  clear h hq ho hq2
  go_enter Tryd.func83, Tryd.ntmps83
  go_wp2_with fail
  refine hc.mono ?_
  rintro e w1 ⟨n, at', bad', rfl, hn, hn0, hch, hr, hb1, hm⟩
  obtain ⟨A, c, ⟨c0, c1, c2⟩, ⟨f0, f1, f2⟩, h2, h3, h4⟩ := hr.cells
  obtain ⟨h7, h8, h9⟩ := hr.all
  obtain ⟨A1, q1, q2⟩ := cut_lh A all.length c at' (at' + n) (by omega) (by omega) h3
  have hcv : ∀ W : World, Reads W g 1 A all.length (all.map bv) → (convert 35 9 (.slice A1 (at' + n - at') (c - at'))).run Tryd.prog W = .ok (.string (strB ((all.drop at').take (at' + n - at')))) W := fun W hW =>
    reads_conv (by have := q2 W g _ hW; rwa [← List.map_drop, ← List.map_take] at this) (fun b hb => h7 b (List.mem_of_mem_drop (List.mem_of_mem_take hb)))
  have hcv1 := fun k => hcv (w1.drewN k) h2
  rw [Nat.add_sub_cancel_left] at q1 hcv1
  simp only [Int.natCast_add] at q1
  unfold maxLen at h4
  have HR := Lib.hid hr; have HCH := Lib.hid hch; have HM := Lib.hid hm; have HB1 := Lib.hid hb1; have HN := Lib.hid hn; have HN0 := Lib.hid hn0
  clear hr hch hm hc h2 hb1 q2 hcv h7 hn0
  go_wp2
  go_quiet (fail)
  have hrx : RS (w1.drewN nq) g all at' bad' := HR.out
  have hcx : Chg [g] w (w1.drewN nq) := ⟨HCH.out.os, HCH.out.tape, HCH.out.output, HCH.out.size, HCH.out.block⟩
  obtain ⟨w2, hw⟩ : ∃ W, w1.drewN nq = W := ⟨_, rfl⟩
  rw [hw] at hrx hcx ⊢
  clear hw HR HCH
  obtain ⟨A, c, ⟨c0, c1, c2⟩, ⟨f0, f1, f2⟩, h2, h3, h4⟩ := hrx.cells
  have HR := Lib.hid hrx; have HCH := Lib.hid hcx; have H2 := Lib.hid h2
  clear hrx hcx h2
  unfold maxLen at h4
  have hs1 := HR.out.setAt (at' + n) HN.out
  have hc1 := HCH.out.setCell (p := ⟨g, 1, none⟩) (.inl (by simp)) (.int .i64 ((at' + n : Nat) : Int))
  rw [Int.natCast_add] at hs1 hc1
  have HS1 := Lib.hid hs1; have HC1 := Lib.hid hc1
  clear hs1 hc1 hcv1 q1
  go_wp2
  go_ret
  refine ⟨strB ((all.drop at').take n), at' + n, bad', rfl, ?_, HC1.out, HS1.out, HB1.out, fun hb => ?_⟩
  · show (strB ((all.drop at').take n)).size ≤ 1073741824
    have e : (strB ((all.drop at').take n)).size = ((all.drop at').take n).length := by
      show (((all.drop at').take n).map UInt8.ofNat).toArray.size = _
      simp
    rw [e, List.length_take, List.length_drop]; omega
  · have hq := HQ2.out
    have hm := HM.out hb
    cases o with
    | none => rw [hq]; exact hm
    | some x =>
      obtain ⟨m, r⟩ := x
      obtain ⟨rfl, hb', hr⟩ := hm
      have hq' : q = some (strB (r.take n), r.drop n) := hq
      rw [hq', ← hr]
      exact ⟨rfl, hb', by rw [List.drop_drop]⟩
/-- What the reference's reading of a word ends in. -/
def WPost (g : Nat) (all : List Nat) (bad : Bool) (w : World) (o : Option (List Snd × List Nat)) (e : Ending) (w' : World) : Prop :=
  ∃ ws v at' bad', e = .returned v ∧ wordW w.heap.size ws w' v ∧ (∀ s ∈ ws, ok32 s) ∧ Chg [g] w w' ∧ RS w' g all at' bad' ∧ (bad = true → bad' = true) ∧ (bad = false → match o with
    | some (y, r) => ws = y ∧ bad' = false ∧ all.drop at' = r
    | none => bad' = true)
def allOk (ws : List Snd) : Prop := ∀ s ∈ ws, ok32 s
set_option maxRecDepth 20000 in
set_option maxHeartbeats 4000000 in
theorem sword_any (w : World) (g at_ : Nat) (all : List Nat) (bad : Bool) (h : RS w g all at_ bad) :
    Calls Tryd.prog 48 #[wptr g] w (WPost g all bad w (wordR (all.drop at_))) := by
  obtain ⟨i0, hi, hz0, hz1, hz2⟩ := info_parts (show (Tryd.prog.info? 24).map (fun i => (i.zero, i.size, i.bytes)) = some (some (.agg #[.int .u32 0, .int .u32 0]), 2, 8) by kernel_rfl)
  have hgl := h.lt
  have hc := scount_any w g at_ all bad h
  obtain ⟨o, ho⟩ : ∃ o, countR (all.drop at_) = o := ⟨_, rfl⟩
  rw [ho] at hc
  obtain ⟨q, hq⟩ : ∃ q, wordR (all.drop at_) = q := ⟨_, rfl⟩
  rw [hq]
  have hq2 : q = o.bind fun x => manyR sndR x.1 x.2 := by
    rw [← hq]
    unfold wordR someR
    cases o with
    | none => rw [thenR_none ho]; rfl
    | some x => obtain ⟨n, r⟩ := x; rw [thenR_some ho]; rfl
  have HQ2 := Lib.hid hq2
  clear h hq ho hq2
  go_enter Tryd.func48, Tryd.ntmps48
  go_wp2_with fail
  refine hc.mono ?_
  rintro e w1 ⟨n, at1, bad1, rfl, hn, hn0, hch, hr, hb1, hm⟩
  obtain ⟨h7, h8, h9⟩ := hr.all
  have HR1 := Lib.hid hr; have HCH1 := Lib.hid hch; have HM := Lib.hid hm; have HB1 := Lib.hid hb1; have HN0 := Lib.hid hn0
  have hn30 : n ≤ 1073741824 := by omega
  clear hr hch hm hc hb1 h7 hn0 hn h8 h9
  go_wp2
  go_loopw [4, 5] (fun v i wr => ∃ k at' : Nat, ∃ bad' : Bool, ∃ xs : List Snd, k ≤ n ∧ i = .int .i64 k ∧ xs.length = k ∧ wr.ownsRow w.heap.size 24 2 v k (xs.flatMap sndC) ∧ allOk xs ∧ RS wr g all at' bad' ∧ Chg [g] w wr ∧ (bad1 = true → bad' = true) ∧ (bad1 = false → (bad' = true → manyR sndR n (all.drop at1) = none) ∧ (bad' = false → preO xs (manyR sndR (n - k) (all.drop at')) = manyR sndR n (all.drop at1)))) (fun _ i _ => n - (Lib.intOf i).toNat)
  case atStart => exact ⟨0, at1, bad1, [], by omega, rfl, rfl, World.ownsRow_nil _ _ _ _, (fun s hs => by cases hs), HR1.out, HCH1.out, id, fun hb => ⟨(fun hb' => by rw [hb] at hb'; cases hb'), (fun _ => by rw [preO_nil]; rfl)⟩⟩
  case round =>
    obtain ⟨k, at', bad', xs, hk, rfl, hxl, hown, hoks, hr, hch, hbb, hinv⟩ := hrel
    obtain ⟨A, c, ⟨c0, c1, c2⟩, ⟨f0, f1, f2⟩, -, -, -⟩ := hr.cells
    have HXL := Lib.hid hxl; have HOWN := Lib.hid hown; have HR := Lib.hid hr; have HCH := Lib.hid hch; have HOKS := Lib.hid hoks; have HBB := Lib.hid hbb; have HINV := Lib.hid hinv
    clear hxl hown hr hch hoks hbb hinv
    by_cases hlt : k < n
    · have hkI : (k : Int) < n := by omega
      cases bad' with
      | true =>
        go_wp2
        go_ret
        have hb0 : bad1 = false := by
          cases hbx : bad1 with
          | false => rfl
          | true => have := HN0.out hbx; omega
        refine ⟨xs, _, at', true, rfl, by show World.ownsRow _ _ _ _ _ xs.length _; rw [HXL.out]; exact HOWN.out, HOKS.out, HCH.out, HR.out, fun _ => rfl, fun hb => ?_⟩
        have hq := HQ2.out
        have hm := HM.out hb
        cases o with
        | none => rw [hq]; rfl
        | some x =>
          obtain ⟨m, r⟩ := x
          obtain ⟨rfl, -, rfl⟩ := hm
          have hq' : q = manyR sndR n (all.drop at1) := hq
          rw [hq', (HINV.out hb0).1 (by first | trivial | rfl)]
      | false =>
        have hcall := ssnd_any wr g at' all false HR.out
        have HCALL := Lib.hid hcall
        clear hcall
        go_wp2_with fail
        refine HCALL.out.mono ?_
        rintro e w2 ⟨s, at2, bad2, rfl, hok, hc2, hr2, hb2, hm2⟩
        have hown2 := own_chg HOWN.out hc2 (fun j hj hm => by
          have := HOWN.out.lt j hj
          simp at hm; omega)
        have hrn := reads_newk w2 24 (sndC s) 2 1 rfl
        have HR2 := Lib.hid hr2; have HC2 := Lib.hid hc2; have HOWN2 := Lib.hid hown2; have HRN := Lib.hid hrn; have HM2 := Lib.hid hm2; have HOK := Lib.hid hok
        have hsz := HCH.out.size
        have hsz2 := hc2.size
        clear hr2 hc2 hown2 hrn hm2 hb2 hok
        go_wp2_with (at_builtin; refine wpList_append_any _ rfl _ _ 28 rfl w.heap.size 24 i0 (.agg #[.int .u32 0, .int .u32 0]) 2 8 Tryd.underlying28 hi hz0 hz1 hz2 rfl (by decide) _ _ _ rfl (HOWN2.out.alloc _) _ _ _ _ (sndC s) rfl HRN.out (by simp [Value.oneCell']) (by unfold maxLen; omega) (by omega) (by simp; omega) ?_; intro v' w3 hown' hgrow hx'; clear hx')
        have hc3 : Chg [g] w w3 := ((HCH.out.trans HC2.out).alloc _).grown hgrow (fun j hj => (HOWN2.out.lt j hj).1)
        have hr3 : RS w3 g all at2 bad2 := (HR2.out.alloc _).grown hgrow (fun j hj => by have := (HOWN2.out.lt j hj).1; omega)
        clear hgrow
        have hinv : bad1 = false → (bad2 = true → manyR sndR n (all.drop at1) = none) ∧ (bad2 = false → preO (xs ++ [s]) (manyR sndR (n - (k + 1)) (all.drop at2)) = manyR sndR n (all.drop at1)) := fun hb => by
          have h1 := (HINV.out hb).2 (by first | trivial | rfl)
          have hm := HM2.out (by first | trivial | rfl)
          rw [show n - k = (n - (k + 1)) + 1 by omega] at h1
          cases hs : sndR (all.drop at') with
          | none =>
            rw [hs] at hm
            rw [preO_none _ hs] at h1
            exact ⟨fun _ => h1.symm, fun h => by rw [hm] at h; cases h⟩
          | some x =>
            obtain ⟨s2, r2⟩ := x
            rw [hs] at hm
            obtain ⟨rfl, hb2, rfl⟩ := hm
            rw [preO_some _ hs] at h1
            exact ⟨(fun h => by rw [hb2] at h; cases h), fun _ => h1⟩
        have hbb : bad1 = true → bad2 = true := fun hb => by have := HBB.out hb; cases this
        have HI := Lib.hid hinv; have HBB2 := Lib.hid hbb
        clear hinv hbb
        go_roundw
        case rel => exact ⟨k + 1, at2, bad2, xs ++ [s], by omega, by go_num, by rw [List.length_append, HXL.out]; rfl, by rw [List.flatMap_append]; simpa using hown', (fun x hx => by rcases List.mem_append.1 hx with hx | hx; exact HOKS.out x hx; rw [List.mem_singleton.1 hx]; exact HOK.out), hr3, hc3, HBB2.out, HI.out⟩
        case measure => simp [Lib.intOf]; omega
    · obtain rfl : k = n := by omega
      go_wp2
      go_ret
      refine ⟨xs, _, at', bad', rfl, by show World.ownsRow _ _ _ _ _ xs.length _; rw [HXL.out]; exact HOWN.out, HOKS.out, HCH.out, HR.out, fun hb => HBB.out (HB1.out hb), fun hb => ?_⟩
      have hq := HQ2.out
      have hm := HM.out hb
      cases o with
      | none => rw [hq]; exact HBB.out hm
      | some x =>
        obtain ⟨m, r⟩ := x
        obtain ⟨rfl, hb1, rfl⟩ := hm
        have hq' : q = manyR sndR k (all.drop at1) := hq
        obtain ⟨i1, i2⟩ := HINV.out hb1
        cases hbx : bad' with
        | true => rw [hq', i1 hbx]
        | false =>
          have := i2 hbx
          rw [Nat.sub_self] at this
          have e : q = some (xs, all.drop at') := by rw [hq', ← this]; simp [preO, manyR]
          rw [e]
          exact ⟨rfl, rfl, rfl⟩
end Go.Proofs.YtipfhamhiaeieaaDoor
namespace Go.Proofs.YtipfhamhiaeieaaDoor
open Go.RowKit Go.Lib

/-- Whether an element of Out is valid, with k conditions. -/
def oOk (k : Nat) (x : Ot) : Bool := outOk x (k : Int)
set_option maxRecDepth 20000 in
theorem invalid_any (s : Snd) (w : World) (hs : ok32 s) : Calls Tryd.prog 52 #[sndV s] w fun e w' => e = .returned (.bool (!validS s)) ∧ Below w.heap.size w w' := by
  have hv := fun W => fvalid_any s W hs
  generalize validS s = v at *
  have HV := Lib.hid hv
  clear hv hs
  obtain ⟨a, b⟩ := s
  go_enter Tryd.func52, Tryd.ntmps52
  go_wp2_with fail
  refine (HV.out _).mono ?_
  rintro e w1 ⟨rfl, hb⟩
  have HB := Lib.hid hb
  clear hb
  go_wp2
  go_ret
  exact ⟨rfl, ((Below.refl _ w).alloc (Nat.le_refl _) _).trans (HB.out.mono (by simp))⟩
set_option maxRecDepth 20000 in
theorem bad_any (x : Ot) (k h : Nat) (w : World) (hcl : is32 x.clear) (hset : ok32 x.set) (htk : is32 x.take) (hh : Blk w h 3 #[.int .i64 k]) :
    Calls Tryd.prog 50 #[outV x, wptr h] w fun e w' => e = .returned (.bool (!oOk k x)) ∧ Below w.heap.size w w' := by
  have hv := fun W => fits_any x k W hcl hset htk
  unfold oOk
  generalize outOk x (k : Int) = v at *
  have hc := (hh.alloc (.cells #[.int .i64 x.src, .int .u32 x.clear, .int .u32 x.set.1, .int .u32 x.set.2, .int .u32 x.take, .int .i64 x.ref] 60)).cell 0
  simp only [List.getElem?_toArray, List.getElem?_cons_zero] at hc
  have HV := Lib.hid hv
  clear hv hcl hset htk hh
  obtain ⟨src, clear, set, take, ref⟩ := x
  obtain ⟨a, b⟩ := set
  simp only at *
  go_enter Tryd.func50, Tryd.ntmps50
  go_wp2_with fail
  refine (HV.out _).mono ?_
  rintro e w1 ⟨rfl, hb⟩
  have HB := Lib.hid hb
  clear hb
  go_wp2
  go_ret
  exact ⟨rfl, ((Below.refl _ w).alloc (Nat.le_refl _) _).trans (HB.out.mono (by simp))⟩
set_option maxRecDepth 20000 in
set_option maxHeartbeats 1000000 in
theorem idxS_any (A : Option Addr) (n c B : Nat) (l : List Snd) (w : World) (hr : Reads w B 2 A n (l.flatMap sndC)) (hB : B ≤ w.heap.size) (hn : n ≤ maxLen) (hok : ∀ x ∈ l, ok32 x) :
    Calls Tryd.prog 91 #[.slice A n c, .func (.func 52) #[] #[]] w fun e w' => (∃ i : Int, e = .returned (.int .i64 i) ∧ decide (0 ≤ i) = !(l.all (validS))) ∧ Below w.heap.size w w' := by
  unfold maxLen at hn
  have hwl := hr.len_of (fun _ => rfl) (by decide)
  obtain ⟨res, hres⟩ : ∃ res, (!(l.all (validS))) = res := ⟨_, rfl⟩
  rw [hres]
  have HRES := Lib.hid hres; have HR := Lib.hid hr; have HWL := Lib.hid hwl; have HOK := Lib.hid hok
  clear hres hr hwl hok
  obtain ⟨PO, hPO⟩ : ∃ PO : Ending → World → Prop, PO = fun e w' => (∃ i : Int, e = .returned (.int .i64 i) ∧ decide (0 ≤ i) = res) ∧ Below w.heap.size w w' := ⟨_, rfl⟩
  show Calls _ _ _ _ fun e w' => (∃ i : Int, e = .returned (.int .i64 i) ∧ decide (0 ≤ i) = res) ∧ Below w.heap.size w w'
  rw [← hPO]
  have HPO := Lib.hid hPO
  clear hPO
  go_enter Tryd.func91, Tryd.ntmps91
  go_wp2
  go_loopw [8] (fun i wr => ∃ k : Nat, k ≤ n ∧ i = .int .i64 k ∧ (l.take k).all (validS) = true ∧ Below w.heap.size w wr) (fun i _ => n - (RowKit.intOf i).toNat)
  case atStart => exact ⟨0, by omega, rfl, by simp, Below.refl _ _⟩
  case round =>
    obtain ⟨k, hk, rfl, hall, hb⟩ := hrel
    have HALL := Lib.hid hall; have HB := Lib.hid hb
    clear hall hb
    by_cases hlt : k < n
    · have hkl : k < l.length := by rw [HWL.out]; exact hlt
      have hkI : (k : Int) < (n : Int) := by omega
      obtain ⟨ad, rfl, had, hc0, hc1⟩ := snd_cells (HR.out.below (HB.out.mono hB)) hkl
      have hst : (l.take (k + 1)).all (validS) = ((l.take k).all (validS) && (validS) l[k]) := by rw [List.take_succ_eq_append_getElem hkl, List.all_append]; simp
      have hmem := List.getElem_mem hkl
      have hOK := HOK.out _ hmem
      have HST := Lib.hid hst
      cases hv : (validS) l[k]
      · have hno : res = true := by
          rw [← HRES.out, Bool.not_eq_true', List.all_eq_false]
          exact ⟨_, hmem, by rw [hv]; decide⟩
        have HV := Lib.hid hv; have HNO := Lib.hid hno
        clear hv hno hmem hst
        generalize l[k] = x at *
        go_wp2_with fail
        refine (invalid_any x _ hOK).mono ?_
        rw [HV.out]
        rintro e w2 ⟨rfl, hb2⟩
        have HB2 := Lib.hid hb2
        clear hb2
        go_wp2
        rw [HPO.out]
        exact ⟨⟨k, rfl, by rw [HNO.out]; exact decide_eq_true (by omega)⟩, HB.out.trans (HB2.out.mono HB.out.size)⟩
      · have HV := Lib.hid hv
        clear hv hmem hst
        generalize l[k] = x at *
        go_wp2_with fail
        refine (invalid_any x _ hOK).mono ?_
        rw [HV.out]
        rintro e w2 ⟨rfl, hb2⟩
        have HB2 := Lib.hid hb2
        clear hb2
        go_wp2
        go_roundw
        case rel => exact ⟨k + 1, by omega, by go_num, by rw [HST.out, HALL.out, HV.out]; rfl, HB.out.trans (HB2.out.mono HB.out.size)⟩
        case measure => simp [RowKit.intOf]; omega
    · obtain rfl : k = n := by omega
      go_wp2
      have := HALL.out
      rw [List.take_of_length_le (by rw [HWL.out]; exact Nat.le_refl _)] at this
      rw [HPO.out]
      exact ⟨⟨-1, rfl, by rw [← HRES.out, this]; rfl⟩, HB.out⟩
set_option maxRecDepth 20000 in
theorem contS_any (A : Option Addr) (n c B : Nat) (l : List Snd) (w : World) (hr : Reads w B 2 A n (l.flatMap sndC)) (hB : B ≤ w.heap.size) (hn : n ≤ maxLen) (hok : ∀ x ∈ l, ok32 x) :
    Calls Tryd.prog 56 #[.slice A n c, .func (.func 52) #[] #[]] w fun e w' => e = .returned (.bool (!(l.all (validS)))) ∧ Below w.heap.size w w' := by
  have hc := idxS_any A n c B l w hr hB hn hok
  generalize (!(l.all (validS))) = res at *
  clear hr hok
  go_enter Tryd.func56, Tryd.ntmps56
  go_wp2_with fail
  refine hc.mono ?_
  rintro e w1 ⟨⟨i, rfl, hi⟩, hb⟩
  have HI := Lib.hid hi; have HB := Lib.hid hb
  clear hi hb
  go_wp2
  go_ret
  exact ⟨by rw [← HI.out]; rfl, HB.out⟩
set_option maxRecDepth 20000 in
set_option maxHeartbeats 1000000 in
theorem idxO_any (A : Option Addr) (n c B : Nat) (l : List Ot) (w : World) (k0 h : Nat) (hh : Blk w h 3 #[.int .i64 k0]) (hr : Reads w B 6 A n (l.flatMap outC)) (hB : B ≤ w.heap.size) (hn : n ≤ maxLen) (hok : ∀ x ∈ l, is32 x.clear ∧ ok32 x.set ∧ is32 x.take) :
    Calls Tryd.prog 92 #[.slice A n c, .func (.func 50) #[] #[wptr h]] w fun e w' => (∃ i : Int, e = .returned (.int .i64 i) ∧ decide (0 ≤ i) = !(l.all (oOk k0))) ∧ Below w.heap.size w w' := by
  unfold maxLen at hn
  have hwl := hr.len_of (fun _ => rfl) (by decide)
  obtain ⟨res, hres⟩ : ∃ res, (!(l.all (oOk k0))) = res := ⟨_, rfl⟩
  rw [hres]
  have HRES := Lib.hid hres; have HR := Lib.hid hr; have HWL := Lib.hid hwl; have HOK := Lib.hid hok; have HX := Lib.hid hh
  clear hres hr hwl hok hh
  obtain ⟨PO, hPO⟩ : ∃ PO : Ending → World → Prop, PO = fun e w' => (∃ i : Int, e = .returned (.int .i64 i) ∧ decide (0 ≤ i) = res) ∧ Below w.heap.size w w' := ⟨_, rfl⟩
  show Calls _ _ _ _ fun e w' => (∃ i : Int, e = .returned (.int .i64 i) ∧ decide (0 ≤ i) = res) ∧ Below w.heap.size w w'
  rw [← hPO]
  have HPO := Lib.hid hPO
  clear hPO
  go_enter Tryd.func92, Tryd.ntmps92
  go_wp2
  go_loopw [8] (fun i wr => ∃ k : Nat, k ≤ n ∧ i = .int .i64 k ∧ (l.take k).all (oOk k0) = true ∧ Below w.heap.size w wr) (fun i _ => n - (RowKit.intOf i).toNat)
  case atStart => exact ⟨0, by omega, rfl, by simp, Below.refl _ _⟩
  case round =>
    obtain ⟨k, hk, rfl, hall, hb⟩ := hrel
    have HALL := Lib.hid hall; have HB := Lib.hid hb
    clear hall hb
    by_cases hlt : k < n
    · have hkl : k < l.length := by rw [HWL.out]; exact hlt
      have hkI : (k : Int) < (n : Int) := by omega
      obtain ⟨ad, rfl, had, hc0, hc1, hc2, hc3, hc4, hc5⟩ := out_cells (HR.out.below (HB.out.mono hB)) hkl
      have hst : (l.take (k + 1)).all (oOk k0) = ((l.take k).all (oOk k0) && (oOk k0) l[k]) := by rw [List.take_succ_eq_append_getElem hkl, List.all_append]; simp
      have hmem := List.getElem_mem hkl
      have hOK := HOK.out _ hmem
      have HST := Lib.hid hst
      cases hv : (oOk k0) l[k]
      · have hno : res = true := by
          rw [← HRES.out, Bool.not_eq_true', List.all_eq_false]
          exact ⟨_, hmem, by rw [hv]; decide⟩
        have HV := Lib.hid hv; have HNO := Lib.hid hno
        clear hv hno hmem hst
        generalize l[k] = x at *
        go_wp2_with fail
        refine (bad_any x k0 h _ hOK.1 hOK.2.1 hOK.2.2 (HX.out.below HB.out HX.out.lt)).mono ?_
        rw [HV.out]
        rintro e w2 ⟨rfl, hb2⟩
        have HB2 := Lib.hid hb2
        clear hb2
        go_wp2
        rw [HPO.out]
        exact ⟨⟨k, rfl, by rw [HNO.out]; exact decide_eq_true (by omega)⟩, HB.out.trans (HB2.out.mono HB.out.size)⟩
      · have HV := Lib.hid hv
        clear hv hmem hst
        generalize l[k] = x at *
        go_wp2_with fail
        refine (bad_any x k0 h _ hOK.1 hOK.2.1 hOK.2.2 (HX.out.below HB.out HX.out.lt)).mono ?_
        rw [HV.out]
        rintro e w2 ⟨rfl, hb2⟩
        have HB2 := Lib.hid hb2
        clear hb2
        go_wp2
        go_roundw
        case rel => exact ⟨k + 1, by omega, by go_num, by rw [HST.out, HALL.out, HV.out]; rfl, HB.out.trans (HB2.out.mono HB.out.size)⟩
        case measure => simp [RowKit.intOf]; omega
    · obtain rfl : k = n := by omega
      go_wp2
      have := HALL.out
      rw [List.take_of_length_le (by rw [HWL.out]; exact Nat.le_refl _)] at this
      rw [HPO.out]
      exact ⟨⟨-1, rfl, by rw [← HRES.out, this]; rfl⟩, HB.out⟩
set_option maxRecDepth 20000 in
theorem contO_any (A : Option Addr) (n c B : Nat) (l : List Ot) (w : World) (k0 h : Nat) (hh : Blk w h 3 #[.int .i64 k0]) (hr : Reads w B 6 A n (l.flatMap outC)) (hB : B ≤ w.heap.size) (hn : n ≤ maxLen) (hok : ∀ x ∈ l, is32 x.clear ∧ ok32 x.set ∧ is32 x.take) :
    Calls Tryd.prog 57 #[.slice A n c, .func (.func 50) #[] #[wptr h]] w fun e w' => e = .returned (.bool (!(l.all (oOk k0)))) ∧ Below w.heap.size w w' := by
  have hc := idxO_any A n c B l w k0 h hh hr hB hn hok
  generalize (!(l.all (oOk k0))) = res at *
  clear hr hok
  go_enter Tryd.func57, Tryd.ntmps57
  go_wp2_with fail
  refine hc.mono ?_
  rintro e w1 ⟨⟨i, rfl, hi⟩, hb⟩
  have HI := Lib.hid hi; have HB := Lib.hid hb
  clear hi hb
  go_wp2
  go_ret
  exact ⟨by rw [← HI.out]; rfl, HB.out⟩
end Go.Proofs.YtipfhamhiaeieaaDoor
