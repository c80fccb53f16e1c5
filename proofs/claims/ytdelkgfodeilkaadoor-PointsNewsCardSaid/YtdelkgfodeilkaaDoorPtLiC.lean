/-
  PointsNews: the walk, out of what both News hand back. Conditions: names of at most maxLen bytes.
-/
import Derived.Test.YtdelkgfodeilkaaDoorPtRt
import Derived.Test.YtdelkgfodeilkaaDoorPtRd
import Derived.Deep.QuietTactic
import Derived.BigQuiet
import Derived.Test.YtdelkgfodeilkaaDoorPtBase
import Derived.Test.YtdelkgfodeilkaaDoorOpen3
import Derived.Test.YtdelkgfodeilkaaDoorPtWk
import Derived.Test.YtdelkgfodeilkaaDoorPtNew
namespace Go.Proofs.YtdelkgfodeilkaaDoor
open Go.RowKit Go.Lib

set_option linter.unusedSimpArgs false in
set_option maxRecDepth 40000 in
set_option maxHeartbeats 8000000 in
theorem news_law (hnew : NewAny) (href : RefAny) (hwk : WorksAny) (A B : Option Addr) (n c m k : Nat) (names : List ByteArray) (roads : List Rd) (s : ByteArray) (w : World) (hN : ReadS w w.heap.size A n names) (hR : Reads w w.heap.size 3 B m (roads.flatMap roadV)) (hs : ∀ s ∈ names, s.size ≤ maxLen) (hss : s.size ≤ maxLen) :
    Calls Tryd.prog 9 #[.slice A n c, .slice B m k, .string s] w fun e w' => e = .returned (.bool true) ∧ Below w.heap.size w w' := by
  have hn := hnew A B n c m k names roads w hN hR hs
  have hr := fun W (hW : Below w.heap.size w W) => href A B n c m k names roads W ((Reads.below hN hW).more hW.size) ((hR.below hW).more hW.size) hs
  have hf := few_any A B n c m k w
  have HR := Lib.hid hr; have HWK := Lib.hid hwk
  clear hN hR hs hnew href hwk hr
  generalize fewB n m = fw at hf
  go_enter Tryd.func9, Tryd.ntmps9
  cases fw
  · go_wp2_with fail
    refine hf.mono ?_
    rintro e w' ⟨rfl, rfl⟩
    go_wp2_with fail
    refine (HWK.out _).mono ?_
    rintro e w2 ⟨rfl, hb2⟩
    go_wp2
    go_ret
    exact ⟨rfl, hb2⟩
  · go_wp2_with fail
    refine hf.mono ?_
    rintro e w' ⟨rfl, rfl⟩
    clear hf
    go_wp2_with fail
    refine hn.mono ?_
    intro e w1 h1
    obtain ⟨p, rfl, hM, hb1⟩ := h1.om
    have hr := HR.out w1 hb1
    have HM := Lib.hid hM; have HB1 := Lib.hid hb1
    clear h1 hM hb1 hn HR
    have HG := Lib.hid (newO_new names roads)
    go_wp2_with fail
    refine hr.mono ?_
    intro e w2 h2
    obtain ⟨q, rfl, hQ, hb2⟩ := h2.om
    have hB12 := HB1.out.trans (hb2.mono HB1.out.size)
    have hM2 := HM.out.below hb2
    generalize newE names roads = E at *
    generalize newO names roads = om at *
    have hboth := both_nil hM2 hQ
    have HM2 := Lib.hid hM2; have HQ := Lib.hid hQ; have HB2 := Lib.hid hB12
    have l1 := lenP_any p om w2 hM2
    have l2 := refLen_any q om w2 hQ
    have hfew := HG.out.few
    have HBOTH := Lib.hid hboth
    have HRN := Lib.hid HG.out.roads
    clear h2 hr hM2 hQ hb2 hB12 HM HB1 hboth
    obtain ⟨N, hNe⟩ : ∃ N, lenO om = N := ⟨_, rfl⟩
    rw [hNe] at l1 l2 hfew
    have hpq : ((p == none) != (q == none)) = false := by
      rcases HBOTH.out with ⟨rfl, rfl⟩ | ⟨g, g', rfl, rfl⟩ <;> rfl
    rcases HBOTH.out with ⟨rfl, rfl⟩ | ⟨g, g', rfl, rfl⟩
    all_goals
      clear hpq HBOTH hNe
      go_wp2_with fail
      refine l1.mono ?_
      rintro e w' ⟨rfl, rfl⟩
      go_wp2_with fail
      refine l2.mono ?_
      rintro e w' ⟨rfl, rfl⟩
      go_wp2
      go_loopw [11] (fun i wr => ∃ a : Int, -1 ≤ a ∧ a ≤ (N : Int) + 1 ∧ i = .int .i64 a ∧ w2 = wr) (fun i _ => (((N : Int) + 1) - intOf i).toNat)
      case atStart => exact ⟨-1, by omega, by omega, rfl, rfl⟩
      case round =>
        obtain ⟨a, ha1, ha2, rfl, rfl⟩ := hrel
        go_wp2_with fail
        refine l1.mono ?_
        rintro e w' ⟨rfl, rfl⟩
        by_cases hlt : a ≤ (N : Int)
        · have n1 := nameP_any _ om a w2 HM2.out
          have n2 := refName_any _ om a w2 HQ.out
          obtain ⟨nm, hnm⟩ : ∃ nm, nameAt (namesO om) a = nm := ⟨_, rfl⟩
          rw [hnm] at n1 n2
          have hne : (nm.toList == nm.toList) = true := by simp
          clear hnm
          go_wp2_with fail
          refine n1.mono ?_
          rintro e w' ⟨rfl, rfl⟩
          go_wp2_with fail
          refine n2.mono ?_
          rintro e w' ⟨rfl, rfl⟩
          go_wp2
          go_roundw
          case rel => exact ⟨a + 1, by omega, by omega, by go_num, trivial⟩
          case measure => simp [intOf]; omega
        · have hltd : decide (a ≤ (N : Int)) = false := decide_eq_false hlt
          have f1 := findP_any _ om s w2 HM2.out hss
          have f2 := refFind_any _ om s w2 HQ.out HG.out.few
          obtain ⟨x, ok, hx⟩ : ∃ x ok, findR om s = (x, ok) := ⟨_, _, rfl⟩
          rw [hx] at f1 f2
          have r1 := roadsP_any _ om w2 HM2.out (Nat.le_trans HRN.out (by decide))
          have hok : (ok != ok) = false := by cases ok <;> rfl
          clear hx l1 l2
          go_wp2_with fail
          refine f1.mono ?_
          rintro e w' ⟨rfl, rfl⟩
          go_wp2_with fail
          refine f2.mono ?_
          rintro e w' ⟨rfl, rfl⟩
          clear f1 f2
          go_wp2_with fail
          refine r1.mono ?_
          rintro e w3 ⟨v3, rfl, ho3, hb3⟩
          have r2 := refRoads_any _ om w3 (HQ.out.below hb3) HRN.out
          have HB3 := Lib.hid hb3
          obtain ⟨A3, c3, rfl, _, _⟩ := ownsRow_form ho3
          have HR3 := Lib.hid (Reads.of_own ho3)
          have hrn := HRN.out
          generalize roadsO om = rs at *
          clear r1 ho3 hb3
          go_wp2_with fail
          refine r2.mono ?_
          rintro e w4 ⟨v4, rfl, ho4, hb4⟩
          obtain ⟨A4, c4, rfl, _, _⟩ := ownsRow_form ho4
          have HR4 := Lib.hid (Reads.of_own ho4)
          have HR34 := Lib.hid ((HR3.out.below hb4).more hb4.size)
          have HB4 := Lib.hid (HB2.out.trans ((HB3.out.trans (hb4.mono HB3.out.size)).mono HB2.out.size))
          obtain ⟨L, hL⟩ : ∃ L, rs.length = L := ⟨_, rfl⟩
          rw [hL] at HR4 HR34 hrn ⊢
          have HL := Lib.hid hL
          clear r2 ho4 hb4 hL
          go_wp2
          go_loopw [18] (fun i wr => ∃ j : Nat, j ≤ L ∧ i = .int .i64 j ∧ Below w4.heap.size w4 wr) (fun i _ => L - (intOf i).toNat)
          case atStart => exact ⟨0, by omega, rfl, Below.refl _ _⟩
          case round =>
            obtain ⟨j, hj, rfl, hb⟩ := hrel
            have HB := Lib.hid hb
            clear hb
            by_cases hltj : j < L
            · have hjl : j < rs.length := by rw [HL.out]; exact hltj
              have hjI : (j : Int) < (L : Int) := by omega
              obtain ⟨a3, x1, x2, x3, rfl, ex, q0, q1, q2⟩ := road_cells HR34.out HL.out HB.out hjl
              obtain ⟨a4, y1, y2, y3, rfl, ey, t0, t1, t2⟩ := road_cells HR4.out HL.out HB.out hjl
              rw [ex] at ey
              simp only [Prod.mk.injEq] at ey
              obtain ⟨rfl, rfl, rfl⟩ := ey
              clear ex
              go_wp2_with fail
              go_quiet (fail)
              go_wp2
              go_roundw
              case rel => exact ⟨j + 1, by omega, by go_num, HB.out.trans (below_drewN _ _ _)⟩
              case measure => simp [intOf]; omega
            · obtain rfl : j = L := by omega
              have HBE := Lib.hid (HB4.out.trans (HB.out.mono HB4.out.size))
              go_wp2_with fail
              refine (HWK.out _).mono ?_
              rintro e w10 ⟨rfl, hb10⟩
              go_wp2
              go_ret
              exact ⟨rfl, HBE.out.trans (hb10.mono HBE.out.size)⟩
end Go.Proofs.YtdelkgfodeilkaaDoor
namespace Go.Proofs.YtdelkgfodeilkaaDoor
open Go.ChangeShapes Go.WideShapes Go.ChangeAt Go.RowKit
namespace pointsNews
set_option maxRecDepth 100000 in
theorem contract (H : Type) (enc : TypeId × Value → H) (W : World) (base : Nat) (args : Array Value) (ds gs : List (DataW H)) (before : List MemPlace)
    (hval : ∀ (j : Nat) t v, Tryd.f9.params[j]? = some t → args[j]? = some v → Value.okWide Tryd.prog W .any base t v)
    (hW : DataW.Whole enc Tryd.prog Tryd.f9.params.toList Rows.pointsNewsSpec.vars false W args.toList ds gs before)
    (hz : (DataW.weightsEach Tryd.prog (Tryd.f9.params.toList ++ []) (ds ++ gs)).all (· ≤ reachBytes) = true) :
    Calls Tryd.prog 9 args W fun e W' => ∃ v, e = .returned v ∧ Rows.pointsNewsSpec.post enc Tryd.prog Tryd.f9 false true false false W args v W' := by
  have hW' := hW
  obtain ⟨p, q, hA0, hV, rfl, _, _⟩ := hW
  have hA : DataW.TrodAll enc Tryd.prog W 0 (fun _ => true) true Tryd.f9.params.toList args.toList ds p := hA0
  rw [Tryd.params9] at hA hval hz
  obtain ⟨v0, vs0, d0, ds0, p0, q0, ha, rfl, rfl, h0, r0⟩ := trodAll_cons hA
  obtain ⟨v1, vs1, d1, ds1, p1, q1, rfl, rfl, rfl, h1, r1⟩ := trodAll_cons r0
  obtain ⟨v2, vs2, d2, ds2, p2, q2, rfl, rfl, rfl, h2, r2⟩ := trodAll_cons r1
  obtain ⟨rfl, rfl, rfl⟩ := trodAll_nil r2
  obtain rfl : args = #[v0, v1, v2] := by cases args; simp_all
  obtain ⟨rfl, rfl⟩ := trodVars_none hV
  have hz' := List.all_eq_true.1 hz
  obtain ⟨A0, n0, c0, ss0, rfl, hr0, hs0, hn0, hc0⟩ := open_ss Tryd.underlying22 Tryd.underlying9 (by kernel_rfl) (hval 0 22 v0 rfl rfl) h0 (fun k hk => of_decide_eq_true (hz' k (DataW.weights_mem_each (j := 0) rfl rfl k hk)))
  obtain ⟨A1, n1, c1, rs1, rfl, hr1, hn1, hc1⟩ := open_rowsP Tryd.underlying23 Tryd.underlying43 (by kernel_rfl) (by kernel_rfl) Tryd.underlying3 Tryd.underlying3 Tryd.underlying2 (hval 1 23 v1 rfl rfl) h1
  obtain ⟨s2, rfl, ho2⟩ := open_s Tryd.underlying9 (hval 2 9 v2 rfl rfl) h2 (fun k hk => of_decide_eq_true (hz' k (DataW.weights_mem_each (j := 2) rfl rfl k hk)))
  have hs2 : s2.size ≤ maxLen := by unfold okS at ho2; unfold maxLen; omega
  refine (news_law new_any refnew_any (works_of new_any) A0 A1 n0 c0 n1 c1 ss0 rs1 s2 W hr0 hr1 (fun s h => by have := hs0 s h; unfold okS at this; unfold maxLen; omega) hs2).mono fun e W' ⟨he, hb⟩ => ?_
  subst he
  exact ⟨_, rfl, law_post laidOut (by kernel_rfl) (by kernel_rfl) Tryd.underlying4 rfl rfl hW' hb⟩
theorem reads (os : Os) {H : Type} (enc : TypeId × Value → H) : ∃ places, DataW.whole enc Tryd.prog ((world36 os).forCall (fun _ _ => 0) ⟨#[], #[.slice none 0 0, .slice none 0 0, .string ⟨#[]⟩], []⟩).memory Tryd.f9.params.toList Rows.pointsNewsSpec.vars false (#[.slice none 0 0, .slice none 0 0, .string ⟨#[]⟩] : Array Value).toList 8 = some ([.nil, .nil, .lit (.string [])], [], places) :=
  ⟨[], by kernel_rfl⟩
set_option maxRecDepth 100000 in
theorem lifted (os : Os) (started : os.Started) (H : Type) (enc : TypeId × Value → H) (F : Stop.Interp) :
    ReturnsInHanded {} Tryd.checked os 9 .any ((OpenSpec.ofChange Rows.pointsNewsSpec).preRow enc Tryd.prog Tryd.f9 Rows.pointsNewsRow.domain false Rows.pointsNewsRow.laid) (((OpenSpec.ofChange Rows.pointsNewsSpec).at F).post enc Tryd.prog Tryd.f9 false true false false) := by
  obtain ⟨places, hx⟩ := reads os enc
  refine returnsInHanded_of_row (C := Tryd.checked) (s := OpenSpec.ofChange Rows.pointsNewsSpec) own started (by kernel_rfl) Tryd.func9
    (witness_row_at (enc := enc) (C := Tryd.checked) false (world36 os) #[.slice none 0 0, .slice none 0 0, .string ⟨#[]⟩] rfl (world_vars os _) (world_rest os _) (by kernel_rfl)
      (OpenSpec.preRow_of_cond 8 hx (by kernel_rfl) (fun k hk => by cases hk) (by kernel_rfl) (laid_met os _))) ?_
  intro W base args ds gs before hval hW _ _ hz _ hsh _
  exact contract H enc W base args ds gs before hval hW hz
theorem said : Rows.PointsNewsSaid :=
  OpenClaim.holds_of_cond 9 Tryd.f9 rfl rfl rfl rfl rfl rfl rfl ⟨rfl, rfl, rfl, rfl, rfl⟩ rfl rfl rfl rfl rfl (by kernel_rfl) Tryd.func9 (by kernel_rfl)
    (of_decide_eq_true (by kernel_rfl)) (by unfold Func.isWrapper; first | (rw [if_pos (by decide +kernel)]; kernel_rfl) | (rw [if_neg (by decide +kernel)]; exact ⟨rfl, rfl⟩))
    (fun os started H enc _ F => by rw [OpenClaim.pre_eq_preRow]; exact lifted os started H enc F)
theorem plain (f : FuncId) (fn : Func) (hf : Tryd.pinned.checked.prog.funcNamed "ablaut/ablautlaw36.PointsNews" = some f) (hfn : Tryd.pinned.checked.prog.funcs[f]? = some fn) :
    false = Tryd.pinned.checked.prog.looks [] ∧ ∀ (j : Nat) t, fn.params[j]? = some t → Tryd.pinned.checked.prog.wantsStandIn t = false := by
  obtain rfl : f = 9 := Option.some.inj ((show Tryd.prog.funcNamed "ablaut/ablautlaw36.PointsNews" = some 9 by kernel_rfl).symm.trans hf) |>.symm
  obtain rfl : fn = Tryd.f9 := (Option.some.inj (Tryd.func9.symm.trans hfn)).symm
  refine ⟨by kernel_rfl, fun j t ht => ?_⟩
  have h := Array.mem_of_getElem? ht
  exact (by simpa using (List.all_eq_true.1 (show Tryd.f9.params.toList.all (fun t => !Tryd.prog.wantsStandIn t) = true by kernel_rfl) t (by simpa using h)) : Tryd.prog.wantsStandIn t = false)
/-- The card. -/
theorem card : Rows.PointsNewsCardSaid :=
  Claim7.holds_tied_plain_at .later [] _ _ _ _ said (fun _ h => by cases h) (by kernel_rfl) (fun _ h => by cases h) pointsNews_row_tie rfl ⟨rfl, rfl⟩ (by kernel_rfl) rfl plain (by kernel_rfl)
end pointsNews
end Go.Proofs.YtdelkgfodeilkaaDoor
