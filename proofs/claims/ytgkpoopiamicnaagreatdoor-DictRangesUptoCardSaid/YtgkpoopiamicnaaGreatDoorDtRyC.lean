/-
  DictRanges: the statement under the bound. Conditions: none beside the row's own.
-/
import Derived.Test.YtgkpoopiamicnaaGreatDoorZbDtBa
import Derived.Test.YtgkpoopiamicnaaGreatDoorZbDtOp
import Derived.Test.YtgkpoopiamicnaaGreatDoorDtRy
namespace Go.Proofs.YtgkpoopiamicnaaGreatDoor
open Go.ChangeShapes Go.WideShapes Go.ChangeAt Go.RowKit
theorem artTy : ArtTy Tryz.prog 42 := ⟨_, _, _, _, _, _, _, Tryz.underlying42, by decide, by decide +kernel, Tryz.underlying9, ⟨Tryz.underlying40, by kernel_rfl, ⟨_, _, Tryz.underlying53, by decide, by decide +kernel, Tryz.underlying51, Tryz.underlying51⟩⟩, ⟨Tryz.underlying22, by kernel_rfl, Tryz.underlying9⟩, ⟨Tryz.underlying22, by kernel_rfl, Tryz.underlying9⟩⟩
namespace dictRanges
theorem open_two {H : Type} {enc : TypeId × Value → H} {P : Program} {t e : TypeId} {W : World} {N b0 : Nat} {v : Value} {d : DataW H} {ps : List MemPlace} (hu : P.underlying t = some (.array 2 e)) (he : P.underlying e = some .string) (c1 : P.cellsOf e = 1) (ct : P.cellsOf t = 2)
    (hval : Value.okWide P W .any b0 t v) (h : DataW.Trod enc P W 0 (fun _ => true) true t v d ps) (hN : Rows.uptoBulk d ≤ N) : ∃ x y : ByteArray, v = .agg #[.string x, .string y] ∧ x.size ≤ N ∧ y.size ≤ N := by
  simp only [Value.okWide, hu] at hval
  obtain ⟨cs, rfl, hs, _⟩ := hval
  rw [ct] at hs
  obtain ⟨a0, a1, rfl⟩ := Go.Joins.array2 hs
  obtain ⟨fuel, hf⟩ := h
  cases fuel with
  | zero => simp [DataW.trod] at hf
  | succ m =>
    rw [DataW.trod_step] at hf
    unfold DataW.trodStep at hf
    simp only [hu, Value.cells] at hf
    rw [if_pos (by rw [ct]; rfl)] at hf
    simp only [Option.map_eq_some_iff] at hf
    obtain ⟨ys, hy, hd⟩ := hf
    rw [show List.range 2 = [0, 1] from rfl, c1] at hy
    simp only [List.mapM_cons, List.mapM_nil, bind, Option.bind_eq_some_iff, pure] at hy
    obtain ⟨y0, h0, ys1, ⟨y1, h1, ys2, h2, h3⟩, h4⟩ := hy
    obtain rfl := Option.some.inj h2
    obtain rfl := Option.some.inj h3
    obtain rfl := Option.some.inj h4
    simp only [List.map_cons, List.map_nil, Prod.mk.injEq] at hd
    obtain ⟨rfl, -⟩ := hd
    simp only [Rows.uptoBulk, Rows.uptoBulkAll] at hN
    obtain ⟨x, e0, z0⟩ := open_str (N := N) he _ _ _ (by omega) h0
    obtain ⟨y, e1, z1⟩ := open_str (N := N) he _ _ _ (by omega) h1
    simp [StrF] at e0 e1
    subst e0 e1
    exact ⟨x, y, rfl, z0, z1⟩
set_option maxRecDepth 100000 in
theorem contract (H : Type) (enc : TypeId × Value → H) (W : World) (base : Nat) (args : Array Value) (ds gs : List (DataW H)) (before : List MemPlace)
    (hval : ∀ (j : Nat) t v, Tryz.f3.params[j]? = some t → args[j]? = some v → Value.okWide Tryz.prog W .any base t v)
    (hW : DataW.Whole enc Tryz.prog Tryz.f3.params.toList Rows.dictRangesSpec.vars false W args.toList ds gs before)
    (hk : Rows.uptoBulkAll (ds ++ gs) ≤ 1048576) :
    Calls Tryz.prog 3 args W fun e W' => ∃ v, e = .returned v ∧ Rows.dictRangesSpec.post enc Tryz.prog Tryz.f3 false true false false W args v W' := by
  have hW' := hW
  obtain ⟨p, q, hA0, hV, rfl, _, _⟩ := hW
  have hA : DataW.TrodAll enc Tryz.prog W 0 (fun _ => true) true Tryz.f3.params.toList args.toList ds p := hA0
  rw [Tryz.params3] at hA hval
  obtain ⟨v0, vs0, d0, ds0, p0, q0, ha, rfl, rfl, h0, r0⟩ := trodAll_cons hA
  obtain ⟨v1, vs1, d1, ds1, p1, q1, rfl, rfl, rfl, h1, r1⟩ := trodAll_cons r0
  obtain ⟨v2, vs2, d2, ds2, p2, q2, rfl, rfl, rfl, h2, r2⟩ := trodAll_cons r1
  obtain ⟨rfl, rfl, rfl⟩ := trodAll_nil r2
  obtain rfl : args = #[v0, v1, v2] := by cases args; simp_all
  obtain ⟨rfl, rfl⟩ := trodVars_none hV
  simp only [List.append_nil, Rows.uptoBulkAll] at hk
  obtain ⟨A0, n0, c0, rfl⟩ := okWide_slice Tryz.underlying22 (hval 0 22 v0 rfl rfl)
  obtain ⟨f0, g0⟩ := h0
  obtain ⟨u0, ss0, e0, hs0, hz0, hl0⟩ := open_txs (N := 1048576) Tryz.underlying22 Tryz.underlying9 (by kernel_rfl) g0 (by show Rows.uptoBulk d0 ≤ _; omega)
  simp [Value.cells] at e0
  subst e0
  obtain ⟨A', c', e, hb0, hr0⟩ := hs0
  injection e with q1 q2 q3
  subst q1 q2 q3
  obtain ⟨A1, n1, c1, rfl⟩ := okWide_slice Tryz.underlying23 (hval 1 23 v1 rfl rfl)
  obtain ⟨f1, g1⟩ := h1
  obtain ⟨u1, l1, e1, hs1, hok1, hl1⟩ := open_arts (N := 1048576) Tryz.underlying23 artTy (by kernel_rfl) (by decide) g1 (by show Rows.uptoBulk d1 ≤ _; omega)
  simp [Value.cells] at e1
  subst e1
  obtain ⟨s, t, rfl, hs, ht⟩ := open_two (N := 1048576) Tryz.underlying24 Tryz.underlying9 (by kernel_rfl) (by kernel_rfl) (hval 2 24 v2 rfl rfl) h2 (by show Rows.uptoBulk d2 ≤ _; omega)
  refine (dictRanges_law W A0 ss0.length c0 ss0 (hr0.reads (fun b hb => hb)) hl0 hz0 _ l1 hs1 hok1 hl1 s t hs ht).mono fun e W' ⟨he, hb⟩ => ?_
  subst he
  exact ⟨_, rfl, law_post laidOut (by kernel_rfl) (by kernel_rfl) Tryz.underlying4 rfl rfl hW' hb⟩
theorem reads (os : Os) {H : Type} (enc : TypeId × Value → H) : ∃ places, DataW.whole enc Tryz.prog ((world40 os).forCall (fun _ _ => 0) ⟨#[], #[.slice none 0 0, .slice none 0 0, .agg #[.string ⟨#[]⟩, .string ⟨#[]⟩]], []⟩).memory Tryz.f3.params.toList Rows.dictRangesSpec.vars false (#[.slice none 0 0, .slice none 0 0, .agg #[.string ⟨#[]⟩, .string ⟨#[]⟩]] : Array Value).toList 8 = some ([.nil, .nil, .agg [.lit (.string []), .lit (.string [])]], [], places) :=
  ⟨[], by kernel_rfl⟩
set_option maxRecDepth 100000 in
theorem lifted (os : Os) (started : os.Started) (H : Type) (enc : TypeId × Value → H) (F : Stop.Interp) :
    ReturnsInHanded {} Tryz.checked os 3 .any ((Rows.OpenSpec.upto Rows.dictRangesSpec).preRow enc Tryz.prog Tryz.f3 Rows.dictRangesUptoRow.domain false Rows.dictRangesUptoRow.laid) (((Rows.OpenSpec.upto Rows.dictRangesSpec).at F).post enc Tryz.prog Tryz.f3 false true false false) := by
  obtain ⟨places, hx⟩ := reads os enc
  refine returnsInHanded_of_row (C := Tryz.checked) (s := Rows.OpenSpec.upto Rows.dictRangesSpec) own started (by kernel_rfl) Tryz.func3
    (witness_row_at (enc := enc) (C := Tryz.checked) false (world40 os) #[.slice none 0 0, .slice none 0 0, .agg #[.string ⟨#[]⟩, .string ⟨#[]⟩]] rfl (world_vars os _) (world_rest os _) (by kernel_rfl)
      (OpenSpec.preRow_of_cond 8 hx (by kernel_rfl) (fun k hk => by cases hk; kernel_rfl) (by kernel_rfl) (laid_met os _))) ?_
  intro W base args ds gs before hval hW h1 h2 hz hL hsh h6
  exact contract H enc W base args ds gs before hval hW (by exact of_decide_eq_true (h2 _ rfl))
theorem said : Rows.DictRangesUptoSaid :=
  OpenClaim.holds_of_cond 3 Tryz.f3 rfl rfl rfl rfl rfl rfl rfl ⟨rfl, rfl, rfl, rfl, rfl⟩ rfl rfl rfl rfl rfl (by kernel_rfl) Tryz.func3 (by kernel_rfl)
    (of_decide_eq_true (by kernel_rfl)) (by unfold Func.isWrapper; first | (rw [if_pos (by decide +kernel)]; kernel_rfl) | (rw [if_neg (by decide +kernel)]; exact ⟨rfl, rfl⟩))
    (fun os started H enc _ F => by rw [OpenClaim.pre_eq_preRow]; exact lifted os started H enc F)
theorem plain (f : FuncId) (fn : Func) (hf : Tryz.pinned.checked.prog.funcNamed "ablaut/ablautlaw40.DictRanges" = some f) (hfn : Tryz.pinned.checked.prog.funcs[f]? = some fn) :
    false = Tryz.pinned.checked.prog.looks [] ∧ ∀ (j : Nat) t, fn.params[j]? = some t → Tryz.pinned.checked.prog.wantsStandIn t = false := by
  obtain rfl : f = 3 := Option.some.inj ((show Tryz.prog.funcNamed "ablaut/ablautlaw40.DictRanges" = some 3 by kernel_rfl).symm.trans hf) |>.symm
  obtain rfl : fn = Tryz.f3 := (Option.some.inj (Tryz.func3.symm.trans hfn)).symm
  refine ⟨by kernel_rfl, fun j t ht => ?_⟩
  have h := Array.mem_of_getElem? ht
  exact (by simpa using (List.all_eq_true.1 (show Tryz.f3.params.toList.all (fun t => !Tryz.prog.wantsStandIn t) = true by kernel_rfl) t (by simpa using h)) : Tryz.prog.wantsStandIn t = false)
/-- The card. -/
theorem card : Rows.DictRangesUptoCardSaid :=
  Claim7.holds_tied_plain_at .later [] _ _ _ _ said (fun _ h => by cases h) (by kernel_rfl) (fun _ h => by cases h) dictRangesUpto_row_tie rfl ⟨rfl, rfl⟩ (by kernel_rfl) rfl plain (by kernel_rfl)
end dictRanges
end Go.Proofs.YtgkpoopiamicnaaGreatDoor
