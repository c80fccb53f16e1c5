/-
  NotationNews: the statement. Conditions: none beside the row's own.
-/
import Derived.Test.YtohggdfplmlinaaDoorNtBase
import Derived.Test.YtohggdfplmlinaaDoorNtOp
import Derived.Test.YtohggdfplmlinaaDoorNtD7
import Derived.Test.YtohggdfplmlinaaDoorNtK
namespace Go.Proofs.YtohggdfplmlinaaDoor
section
open Go.RowKit Go.Lib
set_option linter.unusedSimpArgs false in
set_option maxRecDepth 20000 in
set_option maxHeartbeats 4000000 in
theorem news_law {w : World} {A1 A2 A3 : Option Addr} {n1 c1 n2 c2 n3 c3 : Nat} {fs : List ByteArray} {xs : List Nam} {ms : List Mk} (h : CaseM w w.heap.size A1 A2 A3 n1 c1 n2 c2 n3 c3 fs xs ms) :
    Calls Tryd.prog 6 #[caseV A1 A2 A3 n1 c1 n2 c2 n3 c3] w fun e w' => e = .returned (.bool true) ∧ Below w.heap.size w w' := by
  obtain ⟨W1, hW1⟩ : ∃ W1, w.alloc (.cells #[.slice A1 n1 c1, .slice A2 n2 c2, .slice A3 n3 c3] 26) = W1 := ⟨_, rfl⟩
  have hz : W1.heap.size = w.heap.size + 1 := by rw [← hW1]; simp
  have hb1 : Below w.heap.size w W1 := by rw [← hW1]; exact (Below.refl _ _).alloc (Nat.le_refl _) _
  have kb : Blk W1 w.heap.size 26 #[.slice A1 n1 c1, .slice A2 n2 c2, .slice A3 n3 c3] := by rw [← hW1]; exact Blk.new w _ _
  have hsm := small_c A1 A2 A3 n1 c1 n2 c2 n3 c3 W1
  have k0 := kb.cell 0; have k1 := kb.cell 1; have k2 := kb.cell 2
  simp only [List.getElem?_toArray, List.getElem?_cons_zero, List.getElem?_cons_succ] at k0 k1 k2
  have hwk := works_any
  have HSM := Lib.hid hsm; have KB := Lib.hid kb; have HB1 := Lib.hid hb1; have HWK := Lib.hid hwk; have HC := Lib.hid h
  clear hsm kb hb1 hwk h
  have WEND : ∀ W, Below w.heap.size w W → Calls Tryd.prog 11 #[] W fun e w' => e = .returned (.bool true) ∧ Below w.heap.size w w' := fun W hW => (HWK.out W).mono (by
    rintro e w' ⟨rfl, hb⟩
    exact ⟨rfl, hW.trans (hb.mono hW.size)⟩)
  have HWE := Lib.hid WEND
  clear WEND
  go_enter Tryd.func6, Tryd.ntmps6
  go_wp2_with (rw [hW1])
  refine HSM.out.mono ?_
  rintro e w2 ⟨rfl, hb2⟩
  have hz2 := hb2.size
  have HB2 := Lib.hid (HB1.out.trans (hb2.mono HB1.out.size)); have KB2 := Lib.hid (KB.out.below hb2 (by omega))
  clear hb2 k0 k1 k2 hW1 HSM KB
  cases hsm : smallK n1 n2 n3 with
  | false =>
    clear hsm
    go_wp2_with fail
    refine (HWE.out _ HB2.out).mono ?_
    rintro e w3 ⟨rfl, hb3⟩
    have HB3 := Lib.hid hb3
    clear hb3
    go_wp2
    go_ret
    exact ⟨rfl, HB3.out⟩
  | true =>
    clear hsm
    have k0 := KB2.out.cell 0; have k1 := KB2.out.cell 1; have k2 := KB2.out.cell 2
    simp only [List.getElem?_toArray, List.getElem?_cons_zero, List.getElem?_cons_succ] at k0 k1 k2
    have hm := made_c (HC.out.below HB2.out)
    have HM := Lib.hid hm
    clear hm
    go_wp2_with fail
    refine HM.out.mono ?_
    rintro e w3 ⟨hb3, hme⟩
    have hz3 := hb3.size
    have HB3 := Lib.hid (HB2.out.trans (hb3.mono HB2.out.size)); have KB3 := Lib.hid (KB2.out.below hb3 (by omega)); have HME := Lib.hid hme
    clear hb3 k0 k1 k2 HM KB2 hme
    have k0 := KB3.out.cell 0; have k1 := KB3.out.cell 1; have k2 := KB3.out.cell 2
    simp only [List.getElem?_toArray, List.getElem?_cons_zero, List.getElem?_cons_succ] at k0 k1 k2
    have hm := rmade_c (HC.out.below HB3.out)
    have HM := Lib.hid hm
    clear hm
    rcases HME.out with ⟨hE, g, rfl, hn⟩ | ⟨hE, rfl⟩
    · have HN := Lib.hid hn; have HE := Lib.hid hE
      clear hn hE HME
      go_wp2_with fail
      refine HM.out.mono ?_
      rintro e w4 ⟨hb4, ⟨hF, r, rfl, hr⟩ | ⟨hF, rfl⟩⟩
      · have hz4 := hb4.size
        have HB4 := Lib.hid (HB3.out.trans (hb4.mono HB3.out.size)); have HN4 := Lib.hid (HN.out.below hb4); have HR4 := Lib.hid hr
        clear hb4 k0 k1 k2 HM hr hF HN HE KB3
        generalize addsL fs.length [] xs = L at HN4 HR4
        have hmk := marks_any ⟨_, HN4.out⟩
        have HMK := Lib.hid hmk
        clear hmk
        go_wp2_with fail
        refine HMK.out.mono ?_
        rintro e w5 ⟨v5, rfl, ho5, hb5⟩
        obtain ⟨A5, c5, rfl, -, -⟩ := ownsRow_form ho5
        have hz5 := hb5.size
        have hmk := rmarks_any (HR4.out.below hb5)
        have HMK2 := Lib.hid hmk; have HB5 := Lib.hid (HB4.out.trans (hb5.mono HB4.out.size)); have HO5 := Lib.hid ho5
        have h32 : ms.length ≤ 32 := by
          obtain ⟨_, _, _, -, -, -, -, hk⟩ := HR4.out
          unfold notK at hk
          split at hk
          · exact absurd hk (by decide)
          · omega
        clear hmk hb5 ho5 HMK
        go_wp2_with fail
        refine HMK2.out.mono ?_
        rintro e w6 ⟨v6, rfl, ho6, hb6⟩
        obtain ⟨A6, c6, rfl, -, -⟩ := ownsRow_form ho6
        have hz6 := hb6.size
        have HB6 := Lib.hid (HB5.out.trans (hb6.mono HB5.out.size)); have HR5 := Lib.hid (Reads.of_own (own_below HO5.out hb6)); have HR6 := Lib.hid (Reads.of_own ho6)
        clear hb6 ho6 HMK2 HO5 HN4 HR4
        go_wp2
        go_loopw [9] (fun i wr => ∃ k : Nat, k ≤ ms.length ∧ i = .int .i64 k ∧ Below w6.heap.size w6 wr) (fun i _ => ms.length - (RowKit.intOf i).toNat)
        case atStart => exact ⟨0, by omega, rfl, Below.refl _ _⟩
        case round =>
          obtain ⟨k, hk, rfl, hb⟩ := hrel
          have HB := Lib.hid hb
          by_cases hlt : k < ms.length
          · have hkI : (k : Int) < (ms.length : Int) := by omega
            have hk0 : (0 : Int) ≤ (k : Int) := by omega
            obtain ⟨ad, rfl, had, e0, e1, e2, e3⟩ := mark_cells (HR5.out.below hb) hlt
            obtain ⟨ad', rfl, had', e0', e1', e2', e3'⟩ := mark_cells (HR6.out.below hb) hlt
            generalize ms[k] = y at *
            obtain ⟨text, clear_, set1, set2⟩ := y
            simp only [] at *
            clear hb
            have q0 : (text.toList == text.toList) = true := beq_self_eq_true _
            have q1 : ((clear_ : Int) == (clear_ : Int)) = true := beq_self_eq_true _
            have q2 : ((set1 : Int) == (set1 : Int)) = true := beq_self_eq_true _
            have q3 : ((set2 : Int) == (set2 : Int)) = true := beq_self_eq_true _
            go_wp2
            go_quiet (fail)
            go_wp2
            go_roundw
            case rel => exact ⟨k + 1, by omega, by go_num, bdrewN HB.out _⟩
            case measure => simp [RowKit.intOf]; omega
          · obtain rfl : k = ms.length := by omega
            clear hb
            go_wp2_with fail
            refine (HWE.out _ (HB6.out.trans (HB.out.mono HB6.out.size))).mono ?_
            rintro e w9 ⟨rfl, hb9⟩
            have HB9 := Lib.hid hb9
            clear hb9
            go_wp2
            go_ret
            exact ⟨rfl, HB9.out⟩
      · exact absurd HE.out hF
    · have HE := Lib.hid hE
      clear hE HME
      go_wp2_with fail
      refine HM.out.mono ?_
      rintro e w4 ⟨hb4, ⟨hF, r, rfl, hr⟩ | ⟨hF, rfl⟩⟩
      · exact absurd hF HE.out
      · have hz4 := hb4.size
        have HB4 := Lib.hid (HB3.out.trans (hb4.mono HB3.out.size))
        clear hb4 k0 k1 k2 HM hF KB3
        have hmk := marks_nil (w := w4) (p := .pointer none) (.inl rfl)
        have HMK := Lib.hid hmk
        clear hmk
        go_wp2_with fail
        refine HMK.out.mono ?_
        rintro e w5 ⟨rfl, hb5⟩
        have hz5 := hb5.size
        have HB5 := Lib.hid (HB4.out.trans (hb5.mono HB4.out.size))
        have hmk := rmarks_nil (w := w5)
        have HMK2 := Lib.hid hmk
        clear hmk hb5 HMK
        go_wp2_with fail
        refine HMK2.out.mono ?_
        rintro e w6 ⟨rfl, rfl⟩
        clear HMK2
        go_wp2
        go_loopw [9] (fun i wr => i = .int .i64 0 ∧ w5 = wr) (fun _ _ => 0)
        case atStart => exact ⟨rfl, rfl⟩
        case round =>
          obtain ⟨rfl, rfl⟩ := hrel
          go_wp2_with fail
          refine (HWE.out _ HB5.out).mono ?_
          rintro e w9 ⟨rfl, hb9⟩
          have HB9 := Lib.hid hb9
          clear hb9
          go_wp2
          go_ret
          exact ⟨rfl, HB9.out⟩
end
open Go.ChangeShapes Go.WideShapes Go.ChangeAt Go.RowKit
namespace notationNews
set_option maxRecDepth 100000 in
theorem contract (H : Type) (enc : TypeId × Value → H) (W : World) (base : Nat) (args : Array Value) (ds gs : List (DataW H)) (before : List MemPlace)
    (hval : ∀ (j : Nat) t v, Tryd.f6.params[j]? = some t → args[j]? = some v → Value.okWide Tryd.prog W .any base t v)
    (hW : DataW.Whole enc Tryd.prog Tryd.f6.params.toList Rows.notationNewsSpec.vars false W args.toList ds gs before)
    (hz : (DataW.weightsEach Tryd.prog (Tryd.f6.params.toList ++ []) (ds ++ gs)).all (· ≤ reachBytes) = true) :
    Calls Tryd.prog 6 args W fun e W' => ∃ v, e = .returned v ∧ Rows.notationNewsSpec.post enc Tryd.prog Tryd.f6 false true false false W args v W' := by
  have hW' := hW
  obtain ⟨p, q, hA0, hV, rfl, _, _⟩ := hW
  have hA : DataW.TrodAll enc Tryd.prog W 0 (fun _ => true) true Tryd.f6.params.toList args.toList ds p := hA0
  rw [Tryd.params6] at hA hval hz
  obtain ⟨v0, vs0, d0, ds0, p0, q0, ha, rfl, rfl, h0, r0⟩ := trodAll_cons hA
  obtain ⟨rfl, rfl, rfl⟩ := trodAll_nil r0
  obtain rfl : args = #[v0] := by cases args; simp_all
  obtain ⟨rfl, rfl⟩ := trodVars_none hV
  have hz' := List.all_eq_true.1 hz
  obtain ⟨Aa0, Ab0, Ac0, na0, ca0, nb0, cb0, nc0, cc0, fs0, xs0, ms0, rfl, hC0⟩ := open_case (hval 0 26 v0 rfl rfl) h0
  refine (news_law hC0).mono fun e W' ⟨he, hb⟩ => ?_
  subst he
  exact ⟨_, rfl, law_post laidOut (by kernel_rfl) (by kernel_rfl) Tryd.underlying4 rfl rfl hW' hb⟩
theorem reads (os : Os) {H : Type} (enc : TypeId × Value → H) : ∃ places, DataW.whole enc Tryd.prog ((world43 os).forCall (fun _ _ => 0) ⟨#[], #[.agg #[.slice none 0 0, .slice none 0 0, .slice none 0 0]], []⟩).memory Tryd.f6.params.toList Rows.notationNewsSpec.vars false (#[.agg #[.slice none 0 0, .slice none 0 0, .slice none 0 0]] : Array Value).toList 8 = some ([.agg [.nil, .nil, .nil]], [], places) :=
  ⟨[], by kernel_rfl⟩
set_option maxRecDepth 100000 in
theorem lifted (os : Os) (started : os.Started) (H : Type) (enc : TypeId × Value → H) (F : Stop.Interp) :
    ReturnsInHanded {} Tryd.checked os 6 .any ((OpenSpec.ofChange Rows.notationNewsSpec).preRow enc Tryd.prog Tryd.f6 Rows.notationNewsRow.domain false Rows.notationNewsRow.laid) (((OpenSpec.ofChange Rows.notationNewsSpec).at F).post enc Tryd.prog Tryd.f6 false true false false) := by
  obtain ⟨places, hx⟩ := reads os enc
  refine returnsInHanded_of_row (C := Tryd.checked) (s := OpenSpec.ofChange Rows.notationNewsSpec) own started (by kernel_rfl) Tryd.func6
    (witness_row_at (enc := enc) (C := Tryd.checked) false (world43 os) #[.agg #[.slice none 0 0, .slice none 0 0, .slice none 0 0]] rfl (world_vars os _) (world_rest os _) (by kernel_rfl)
      (OpenSpec.preRow_of_cond 8 hx (by kernel_rfl) (fun k hk => by cases hk) (by kernel_rfl) (laid_met os _))) ?_
  intro W base args ds gs before hval hW _ _ hz _ hsh _
  exact contract H enc W base args ds gs before hval hW hz
theorem said : Rows.NotationNewsSaid :=
  OpenClaim.holds_of_cond 6 Tryd.f6 rfl rfl rfl rfl rfl rfl rfl ⟨rfl, rfl, rfl, rfl, rfl⟩ rfl rfl rfl rfl rfl (by kernel_rfl) Tryd.func6 (by kernel_rfl)
    (of_decide_eq_true (by kernel_rfl)) (by unfold Func.isWrapper; first | (rw [if_pos (by decide +kernel)]; kernel_rfl) | (rw [if_neg (by decide +kernel)]; exact ⟨rfl, rfl⟩))
    (fun os started H enc _ F => by rw [OpenClaim.pre_eq_preRow]; exact lifted os started H enc F)
theorem plain (f : FuncId) (fn : Func) (hf : Tryd.pinned.checked.prog.funcNamed "ablaut/ablautlaw04.NotationNews" = some f) (hfn : Tryd.pinned.checked.prog.funcs[f]? = some fn) :
    false = Tryd.pinned.checked.prog.looks [] ∧ ∀ (j : Nat) t, fn.params[j]? = some t → Tryd.pinned.checked.prog.wantsStandIn t = false := by
  obtain rfl : f = 6 := Option.some.inj ((show Tryd.prog.funcNamed "ablaut/ablautlaw04.NotationNews" = some 6 by kernel_rfl).symm.trans hf) |>.symm
  obtain rfl : fn = Tryd.f6 := (Option.some.inj (Tryd.func6.symm.trans hfn)).symm
  refine ⟨by kernel_rfl, fun j t ht => ?_⟩
  have h := Array.mem_of_getElem? ht
  exact (by simpa using (List.all_eq_true.1 (show Tryd.f6.params.toList.all (fun t => !Tryd.prog.wantsStandIn t) = true by kernel_rfl) t (by simpa using h)) : Tryd.prog.wantsStandIn t = false)
/-- The card. -/
theorem card : Rows.NotationNewsCardSaid :=
  Claim7.holds_tied_plain_at .later [] _ _ _ _ said (fun _ h => by cases h) (by kernel_rfl) (fun _ h => by cases h) notationNews_row_tie rfl ⟨rfl, rfl⟩ (by kernel_rfl) rfl plain (by kernel_rfl)
end notationNews
end Go.Proofs.YtohggdfplmlinaaDoor
