/-
  PointsAreas: the walk, out of what both News hand back. Conditions: names of at most maxLen bytes.
-/
import Derived.Test.YtdelkgfodeilkaaDoorPtRt
import Derived.Test.YtdelkgfodeilkaaDoorPtL
import Derived.Test.YtdelkgfodeilkaaDoorPtO
import Derived.Test.YtdelkgfodeilkaaDoorPtJ
import Derived.Test.YtdelkgfodeilkaaDoorPtBase
import Derived.Test.YtdelkgfodeilkaaDoorOpen3
import Derived.Test.YtdelkgfodeilkaaDoorPtWk
import Derived.Test.YtdelkgfodeilkaaDoorPtNew
namespace Go.Proofs.YtdelkgfodeilkaaDoor
open Go.RowKit Go.Lib

set_option linter.unusedSimpArgs false in
set_option maxRecDepth 40000 in
set_option maxHeartbeats 8000000 in
theorem areas_law (hnew : NewAny) (href : RefAny) (hwk : WorksAny) (A B : Option Addr) (n c m k : Nat) (names : List ByteArray) (roads : List Rd) (a d : Int) (w : World) (hN : ReadS w w.heap.size A n names) (hR : Reads w w.heap.size 3 B m (roads.flatMap roadV)) (hs : ∀ s ∈ names, s.size ≤ maxLen) :
    Calls Tryd.prog 10 #[.agg #[.slice A n c, .slice B m k], .int .i64 a, .int .i64 d] w fun e w' => e = .returned (.bool true) ∧ Below w.heap.size w w' := by
  have hb0 : Below w.heap.size w (w.alloc (.cells #[.slice A n c, .slice B m k] 25)) := (Below.refl _ w).alloc (Nat.le_refl _) _
  have hc1 := Blk.new w 25 #[.slice A n c, .slice B m k]
  have hn := hnew A B n c m k names roads _ ((Reads.below hN hb0).more hb0.size) ((hR.below hb0).more hb0.size) hs
  have hr := fun W (hW : Below w.heap.size w W) => href A B n c m k names roads W ((Reads.below hN hW).more hW.size) ((hR.below hW).more hW.size) hs
  have hf := few_any A B n c m k (w.alloc (.cells #[.slice A n c, .slice B m k] 25))
  have HR := Lib.hid hr; have HC := Lib.hid hc1; have HB0 := Lib.hid hb0; have HWK := Lib.hid hwk
  clear hN hR hs hnew href hwk hr hc1 hb0
  generalize fewB n m = fw at hf
  go_enter Tryd.func10, Tryd.ntmps10
  cases fw
  · go_wp2_with fail
    refine hf.mono ?_
    rintro e w' ⟨rfl, rfl⟩
    go_wp2_with fail
    refine (HWK.out _).mono ?_
    rintro e w2 ⟨rfl, hb2⟩
    go_wp2
    go_ret
    exact ⟨rfl, HB0.out.trans (hb2.mono HB0.out.size)⟩
  · go_wp2_with fail
    refine hf.mono ?_
    rintro e w' ⟨rfl, rfl⟩
    clear hf
    go_wp2_with fail
    refine hn.mono ?_
    intro e w1 h1
    obtain ⟨p, rfl, hM, hb1⟩ := h1.om
    have hB1 := HB0.out.trans (hb1.mono HB0.out.size)
    have hC1 := HC.out.below hb1 (by simp)
    have c0 := hC1.cell 0; have c1 := hC1.cell 1
    simp only [List.getElem?_toArray, List.getElem?_cons_zero, List.getElem?_cons_succ] at c0 c1
    have hr := HR.out w1 hB1
    have HM := Lib.hid hM; have HB1 := Lib.hid hB1
    clear h1 hM hb1 hB1 hC1 hn HR HC HB0
    have HG := Lib.hid (newO_new names roads)
    go_wp2_with fail
    refine hr.mono ?_
    intro e w2 h2
    obtain ⟨q, rfl, hQ, hb2⟩ := h2.om
    have hB12 := HB1.out.trans (hb2.mono HB1.out.size)
    have hM2 := HM.out.below hb2
    generalize newE names roads = E at *
    generalize newO names roads = om at *
    have HM2 := Lib.hid hM2; have HQ := Lib.hid hQ; have HB2 := Lib.hid hB12
    have hd := middleP_any p om w2 hM2 HG.out.good
    obtain ⟨x, ok, hx⟩ : ∃ x ok, midO om = (x, ok) := ⟨_, _, rfl⟩
    rw [hx] at hd
    have HX := Lib.hid hx
    clear h2 hr hM2 hQ hb2 hB12 HM HB1 hx c0 c1
    go_wp2_with fail
    refine hd.mono ?_
    rintro e w3 ⟨rfl, hb3⟩
    have HB3 := Lib.hid hb3
    have hd2 := refMiddle_any q om w3 (HQ.out.below hb3) HG.out
    rw [HX.out] at hd2
    clear hd hb3
    go_wp2_with fail
    refine hd2.mono ?_
    rintro e w' ⟨rfl, rfl⟩
    have p1 := withinP_any p om a d w3 (HM2.out.below HB3.out) HG.out.good
    clear hd2
    have hok : (ok == ok) = true := by cases ok <;> rfl
    go_wp2_with fail
    refine p1.mono ?_
    intro e w4 h4
    obtain ⟨A4, c4, rfl, hr4, hl4, hb4⟩ := h4.open_
    have HB4 := Lib.hid (HB3.out.trans (hb4.mono HB3.out.size)); have HR4 := Lib.hid hr4
    have p2 := refWithin_any q om a d w4 (HQ.out.below HB4.out) HG.out
    generalize withinO om a d = way at *
    clear h4 hr4 hb4 p1 hok
    go_wp2_with fail
    refine p2.mono ?_
    intro e w5 h5
    obtain ⟨A5, c5, rfl, hr5, hl5, hb5⟩ := h5.open_
    have p3 := ints_same A4 A5 way.length c4 c5 way w4 w5 HR4.out hb5 hr5 hl4
    have HB5 := Lib.hid (HB4.out.trans (hb5.mono HB4.out.size))
    clear h5 hr5 hb5 p2
    go_wp2_with fail
    refine p3.mono ?_
    rintro e w6 ⟨rfl, hb6⟩
    have HB6 := Lib.hid (HB5.out.trans (hb6.mono HB5.out.size))
    have p4 := labelsP_any p om w6 (HM2.out.below HB6.out) HG.out.good
    clear hb6 p3
    go_wp2_with fail
    refine p4.mono ?_
    intro e w7 h7
    obtain ⟨A7, c7, rfl, hr7, hl7, hb7⟩ := h7.open_
    have HB7 := Lib.hid (HB6.out.trans (hb7.mono HB6.out.size)); have HR7 := Lib.hid hr7
    have p5 := refLabels_any q om w7 (HQ.out.below HB7.out) HG.out
    generalize labO om = nl at *
    clear h7 hr7 hb7 p4
    go_wp2_with fail
    refine p5.mono ?_
    intro e w8 h8
    obtain ⟨A8, c8, rfl, hr8, hl8, hb8⟩ := h8.open_
    have p6 := ints_same A7 A8 nl.length c7 c8 nl w7 w8 HR7.out hb8 hr8 hl7
    have HB8 := Lib.hid (HB7.out.trans (hb8.mono HB7.out.size))
    clear h8 hr8 hb8 p5
    go_wp2_with fail
    refine p6.mono ?_
    rintro e w9 ⟨rfl, hb9⟩
    have HBE := Lib.hid (HB2.out.trans ((HB8.out.trans (hb9.mono HB8.out.size)).mono HB2.out.size))
    clear hb9 p6
    go_wp2_with fail
    refine (HWK.out _).mono ?_
    rintro e w10 ⟨rfl, hb10⟩
    go_wp2
    go_ret
    exact ⟨rfl, HBE.out.trans (hb10.mono HBE.out.size)⟩
end Go.Proofs.YtdelkgfodeilkaaDoor
namespace Go.Proofs.YtdelkgfodeilkaaDoor
open Go.ChangeShapes Go.WideShapes Go.ChangeAt Go.RowKit
namespace pointsAreas
set_option maxRecDepth 100000 in
theorem contract (H : Type) (enc : TypeId × Value → H) (W : World) (base : Nat) (args : Array Value) (ds gs : List (DataW H)) (before : List MemPlace)
    (hval : ∀ (j : Nat) t v, Tryd.f10.params[j]? = some t → args[j]? = some v → Value.okWide Tryd.prog W .any base t v)
    (hW : DataW.Whole enc Tryd.prog Tryd.f10.params.toList Rows.pointsAreasSpec.vars false W args.toList ds gs before)
    (hz : (DataW.weightsEach Tryd.prog (Tryd.f10.params.toList ++ []) (ds ++ gs)).all (· ≤ reachBytes) = true) :
    Calls Tryd.prog 10 args W fun e W' => ∃ v, e = .returned v ∧ Rows.pointsAreasSpec.post enc Tryd.prog Tryd.f10 false true false false W args v W' := by
  have hW' := hW
  obtain ⟨p, q, hA0, hV, rfl, _, _⟩ := hW
  have hA : DataW.TrodAll enc Tryd.prog W 0 (fun _ => true) true Tryd.f10.params.toList args.toList ds p := hA0
  rw [Tryd.params10] at hA hval hz
  obtain ⟨v0, vs0, d0, ds0, p0, q0, ha, rfl, rfl, h0, r0⟩ := trodAll_cons hA
  obtain ⟨v1, vs1, d1, ds1, p1, q1, rfl, rfl, rfl, h1, r1⟩ := trodAll_cons r0
  obtain ⟨v2, vs2, d2, ds2, p2, q2, rfl, rfl, rfl, h2, r2⟩ := trodAll_cons r1
  obtain ⟨rfl, rfl, rfl⟩ := trodAll_nil r2
  obtain rfl : args = #[v0, v1, v2] := by cases args; simp_all
  obtain ⟨rfl, rfl⟩ := trodVars_none hV
  have hz' := List.all_eq_true.1 hz
  obtain ⟨A0, n0, c0, ss0, B0, m0, k0, rs0, rfl, hr0, ho0, hn0, hc0, hR0, hm0, hk0⟩ := open_case Tryd.underlying25 (by kernel_rfl) (by kernel_rfl) Tryd.underlying22 Tryd.underlying9 (by kernel_rfl) Tryd.underlying23 Tryd.underlying43 (by kernel_rfl) (by kernel_rfl) Tryd.underlying3 Tryd.underlying3 Tryd.underlying2 (hval 0 25 v0 rfl rfl) h0 (fun k hk => of_decide_eq_true (hz' k (DataW.weights_mem_each (j := 0) rfl rfl k hk)))
  have hs0 : ∀ s ∈ ss0, s.size ≤ maxLen := fun s h => by have := ho0 s h; unfold okS at this; unfold maxLen; omega
  obtain ⟨x1, rfl⟩ := open_i64 Tryd.underlying3 (hval 1 3 v1 rfl rfl) h1
  obtain ⟨x2, rfl⟩ := open_i64 Tryd.underlying2 (hval 2 2 v2 rfl rfl) h2
  refine (areas_law new_any refnew_any (works_of new_any) A0 B0 n0 c0 m0 k0 ss0 rs0 x1 x2 W hr0 hR0 hs0).mono fun e W' ⟨he, hb⟩ => ?_
  subst he
  exact ⟨_, rfl, law_post laidOut (by kernel_rfl) (by kernel_rfl) Tryd.underlying4 rfl rfl hW' hb⟩
theorem reads (os : Os) {H : Type} (enc : TypeId × Value → H) : ∃ places, DataW.whole enc Tryd.prog ((world36 os).forCall (fun _ _ => 0) ⟨#[], #[.agg #[.slice none 0 0, .slice none 0 0], .int .i64 0, .int .i64 0], []⟩).memory Tryd.f10.params.toList Rows.pointsAreasSpec.vars false (#[.agg #[.slice none 0 0, .slice none 0 0], .int .i64 0, .int .i64 0] : Array Value).toList 8 = some ([.agg [.nil, .nil], .lit (.int .i64 0), .lit (.int .i64 0)], [], places) :=
  ⟨[], by kernel_rfl⟩
set_option maxRecDepth 100000 in
theorem lifted (os : Os) (started : os.Started) (H : Type) (enc : TypeId × Value → H) (F : Stop.Interp) :
    ReturnsInHanded {} Tryd.checked os 10 .any ((OpenSpec.ofChange Rows.pointsAreasSpec).preRow enc Tryd.prog Tryd.f10 Rows.pointsAreasRow.domain false Rows.pointsAreasRow.laid) (((OpenSpec.ofChange Rows.pointsAreasSpec).at F).post enc Tryd.prog Tryd.f10 false true false false) := by
  obtain ⟨places, hx⟩ := reads os enc
  refine returnsInHanded_of_row (C := Tryd.checked) (s := OpenSpec.ofChange Rows.pointsAreasSpec) own started (by kernel_rfl) Tryd.func10
    (witness_row_at (enc := enc) (C := Tryd.checked) false (world36 os) #[.agg #[.slice none 0 0, .slice none 0 0], .int .i64 0, .int .i64 0] rfl (world_vars os _) (world_rest os _) (by kernel_rfl)
      (OpenSpec.preRow_of_cond 8 hx (by kernel_rfl) (fun k hk => by cases hk) (by kernel_rfl) (laid_met os _))) ?_
  intro W base args ds gs before hval hW _ _ hz _ hsh _
  exact contract H enc W base args ds gs before hval hW hz
theorem said : Rows.PointsAreasSaid :=
  OpenClaim.holds_of_cond 10 Tryd.f10 rfl rfl rfl rfl rfl rfl rfl ⟨rfl, rfl, rfl, rfl, rfl⟩ rfl rfl rfl rfl rfl (by kernel_rfl) Tryd.func10 (by kernel_rfl)
    (of_decide_eq_true (by kernel_rfl)) (by unfold Func.isWrapper; first | (rw [if_pos (by decide +kernel)]; kernel_rfl) | (rw [if_neg (by decide +kernel)]; exact ⟨rfl, rfl⟩))
    (fun os started H enc _ F => by rw [OpenClaim.pre_eq_preRow]; exact lifted os started H enc F)
theorem plain (f : FuncId) (fn : Func) (hf : Tryd.pinned.checked.prog.funcNamed "ablaut/ablautlaw36.PointsAreas" = some f) (hfn : Tryd.pinned.checked.prog.funcs[f]? = some fn) :
    false = Tryd.pinned.checked.prog.looks [] ∧ ∀ (j : Nat) t, fn.params[j]? = some t → Tryd.pinned.checked.prog.wantsStandIn t = false := by
  obtain rfl : f = 10 := Option.some.inj ((show Tryd.prog.funcNamed "ablaut/ablautlaw36.PointsAreas" = some 10 by kernel_rfl).symm.trans hf) |>.symm
  obtain rfl : fn = Tryd.f10 := (Option.some.inj (Tryd.func10.symm.trans hfn)).symm
  refine ⟨by kernel_rfl, fun j t ht => ?_⟩
  have h := Array.mem_of_getElem? ht
  exact (by simpa using (List.all_eq_true.1 (show Tryd.f10.params.toList.all (fun t => !Tryd.prog.wantsStandIn t) = true by kernel_rfl) t (by simpa using h)) : Tryd.prog.wantsStandIn t = false)
/-- The card. -/
theorem card : Rows.PointsAreasCardSaid :=
  Claim7.holds_tied_plain_at .later [] _ _ _ _ said (fun _ h => by cases h) (by kernel_rfl) (fun _ h => by cases h) pointsAreas_row_tie rfl ⟨rfl, rfl⟩ (by kernel_rfl) rfl plain (by kernel_rfl)
end pointsAreas
end Go.Proofs.YtdelkgfodeilkaaDoor
