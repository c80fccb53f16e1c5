/-
  DictRefers: the statement under the bound. Conditions: none beside the row's own.
-/
import Derived.Test.YtgkpoopiamicnaaDoorZaac
import Derived.Test.YtgkpoopiamicnaaDoorZaad
import Derived.Test.YtgkpoopiamicnaaDoorDtRs
namespace Go.Proofs.YtgkpoopiamicnaaDoor
open Go.ChangeShapes Go.WideShapes Go.ChangeAt Go.RowKit
theorem artTy : ArtTy Tryd.prog 35 := ⟨_, _, _, _, _, _, _, Tryd.underlying35, by decide, by decide +kernel, Tryd.underlying9, ⟨Tryd.underlying33, by kernel_rfl, ⟨_, _, Tryd.underlying80, by decide, by decide +kernel, Tryd.underlying78, Tryd.underlying78⟩⟩, ⟨Tryd.underlying22, by kernel_rfl, Tryd.underlying9⟩, ⟨Tryd.underlying22, by kernel_rfl, Tryd.underlying9⟩⟩
namespace dictRefers
set_option maxRecDepth 100000 in
theorem contract (H : Type) (enc : TypeId × Value → H) (W : World) (base : Nat) (args : Array Value) (ds gs : List (DataW H)) (before : List MemPlace)
    (hval : ∀ (j : Nat) t v, Tryd.f5.params[j]? = some t → args[j]? = some v → Value.okWide Tryd.prog W .any base t v)
    (hW : DataW.Whole enc Tryd.prog Tryd.f5.params.toList Rows.dictRefersSpec.vars false W args.toList ds gs before)
    (hk : Rows.uptoBulkAll (ds ++ gs) ≤ 1048576) :
    Calls Tryd.prog 5 args W fun e W' => ∃ v, e = .returned v ∧ Rows.dictRefersSpec.post enc Tryd.prog Tryd.f5 false true false false W args v W' := by
  have hW' := hW
  obtain ⟨p, q, hA0, hV, rfl, _, _⟩ := hW
  have hA : DataW.TrodAll enc Tryd.prog W 0 (fun _ => true) true Tryd.f5.params.toList args.toList ds p := hA0
  rw [Tryd.params5] at hA hval
  obtain ⟨v0, vs0, d0, ds0, p0, q0, ha, rfl, rfl, h0, r0⟩ := trodAll_cons hA
  obtain ⟨v1, vs1, d1, ds1, p1, q1, rfl, rfl, rfl, h1, r1⟩ := trodAll_cons r0
  obtain ⟨v2, vs2, d2, ds2, p2, q2, rfl, rfl, rfl, h2, r2⟩ := trodAll_cons r1
  obtain ⟨rfl, rfl, rfl⟩ := trodAll_nil r2
  obtain rfl : args = #[v0, v1, v2] := by cases args; simp_all
  obtain ⟨rfl, rfl⟩ := trodVars_none hV
  simp only [List.append_nil, Rows.uptoBulkAll] at hk
  obtain ⟨A0, n0, c0, rfl⟩ := okWide_slice Tryd.underlying22 (hval 0 22 v0 rfl rfl)
  obtain ⟨f0, g0⟩ := h0
  obtain ⟨u0, ss0, e0, hs0, hz0, hl0⟩ := open_txs (N := 1048576) Tryd.underlying22 Tryd.underlying9 (by kernel_rfl) g0 (by show Rows.uptoBulk d0 ≤ _; omega)
  simp [Value.cells] at e0
  subst e0
  obtain ⟨A', c', e, hb0, hr0⟩ := hs0
  injection e with q1 q2 q3
  subst q1 q2 q3
  obtain ⟨A1, n1, c1, rfl⟩ := okWide_slice Tryd.underlying23 (hval 1 23 v1 rfl rfl)
  obtain ⟨f1, g1⟩ := h1
  obtain ⟨u1, l1, e1, hs1, hok1, hl1⟩ := open_arts (N := 1048576) Tryd.underlying23 artTy (by kernel_rfl) (by decide) g1 (by show Rows.uptoBulk d1 ≤ _; omega)
  simp [Value.cells] at e1
  subst e1
  obtain ⟨s2, rfl⟩ := okWide_string Tryd.underlying9 (hval 2 9 v2 rfl rfl)
  obtain ⟨f2, g2⟩ := h2
  obtain ⟨s', e2, hz2⟩ := open_str (N := 1048576) Tryd.underlying9 _ _ _ (by show Rows.uptoBulk d2 ≤ _; omega) g2
  simp [StrF, Value.cells] at e2
  subst e2
  refine (dictRefers_law W A0 ss0.length c0 ss0 (hr0.reads (fun b hb => hb)) hl0 hz0 _ l1 hs1 hok1 hl1 s2 (by omega)).mono fun e W' ⟨he, hb⟩ => ?_
  subst he
  exact ⟨_, rfl, law_post laidOut (by kernel_rfl) (by kernel_rfl) Tryd.underlying4 rfl rfl hW' hb⟩
theorem reads (os : Os) {H : Type} (enc : TypeId × Value → H) : ∃ places, DataW.whole enc Tryd.prog ((world40 os).forCall (fun _ _ => 0) ⟨#[], #[.slice none 0 0, .slice none 0 0, .string ⟨#[]⟩], []⟩).memory Tryd.f5.params.toList Rows.dictRefersSpec.vars false (#[.slice none 0 0, .slice none 0 0, .string ⟨#[]⟩] : Array Value).toList 8 = some ([.nil, .nil, .lit (.string [])], [], places) :=
  ⟨[], by kernel_rfl⟩
set_option maxRecDepth 100000 in
theorem lifted (os : Os) (started : os.Started) (H : Type) (enc : TypeId × Value → H) (F : Stop.Interp) :
    ReturnsInHanded {} Tryd.checked os 5 .any ((Rows.OpenSpec.upto Rows.dictRefersSpec).preRow enc Tryd.prog Tryd.f5 Rows.dictRefersUptoRow.domain false Rows.dictRefersUptoRow.laid) (((Rows.OpenSpec.upto Rows.dictRefersSpec).at F).post enc Tryd.prog Tryd.f5 false true false false) := by
  obtain ⟨places, hx⟩ := reads os enc
  refine returnsInHanded_of_row (C := Tryd.checked) (s := Rows.OpenSpec.upto Rows.dictRefersSpec) own started (by kernel_rfl) Tryd.func5
    (witness_row_at (enc := enc) (C := Tryd.checked) false (world40 os) #[.slice none 0 0, .slice none 0 0, .string ⟨#[]⟩] rfl (world_vars os _) (world_rest os _) (by kernel_rfl)
      (OpenSpec.preRow_of_cond 8 hx (by kernel_rfl) (fun k hk => by cases hk; kernel_rfl) (by kernel_rfl) (laid_met os _))) ?_
  intro W base args ds gs before hval hW h1 h2 hz hL hsh h6
  exact contract H enc W base args ds gs before hval hW (by exact of_decide_eq_true (h2 _ rfl))
theorem said : Rows.DictRefersUptoSaid :=
  OpenClaim.holds_of_cond 5 Tryd.f5 rfl rfl rfl rfl rfl rfl rfl ⟨rfl, rfl, rfl, rfl, rfl⟩ rfl rfl rfl rfl rfl (by kernel_rfl) Tryd.func5 (by kernel_rfl)
    (of_decide_eq_true (by kernel_rfl)) (by unfold Func.isWrapper; first | (rw [if_pos (by decide +kernel)]; kernel_rfl) | (rw [if_neg (by decide +kernel)]; exact ⟨rfl, rfl⟩))
    (fun os started H enc _ F => by rw [OpenClaim.pre_eq_preRow]; exact lifted os started H enc F)
theorem plain (f : FuncId) (fn : Func) (hf : Tryd.pinned.checked.prog.funcNamed "ablaut/ablautlaw40.DictRefers" = some f) (hfn : Tryd.pinned.checked.prog.funcs[f]? = some fn) :
    false = Tryd.pinned.checked.prog.looks [] ∧ ∀ (j : Nat) t, fn.params[j]? = some t → Tryd.pinned.checked.prog.wantsStandIn t = false := by
  obtain rfl : f = 5 := Option.some.inj ((show Tryd.prog.funcNamed "ablaut/ablautlaw40.DictRefers" = some 5 by kernel_rfl).symm.trans hf) |>.symm
  obtain rfl : fn = Tryd.f5 := (Option.some.inj (Tryd.func5.symm.trans hfn)).symm
  refine ⟨by kernel_rfl, fun j t ht => ?_⟩
  have h := Array.mem_of_getElem? ht
  exact (by simpa using (List.all_eq_true.1 (show Tryd.f5.params.toList.all (fun t => !Tryd.prog.wantsStandIn t) = true by kernel_rfl) t (by simpa using h)) : Tryd.prog.wantsStandIn t = false)
/-- The card. -/
theorem card : Rows.DictRefersUptoCardSaid :=
  Claim7.holds_tied_plain_at .later [] _ _ _ _ said (fun _ h => by cases h) (by kernel_rfl) (fun _ h => by cases h) dictRefersUpto_row_tie rfl ⟨rfl, rfl⟩ (by kernel_rfl) rfl plain (by kernel_rfl)
end dictRefers
end Go.Proofs.YtgkpoopiamicnaaDoor
