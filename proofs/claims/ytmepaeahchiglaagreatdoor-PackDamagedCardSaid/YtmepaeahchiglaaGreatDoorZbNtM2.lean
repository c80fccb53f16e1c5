/-
  Layer 4: two entries of maps that are set in one statement: an entry is looked for, then stored. Conditions: as for a store.
-/
import Derived.Test.YtmepaeahchiglaaGreatDoorZbai
import Derived.WideKeyEntry
namespace Go.Proofs.YtmepaeahchiglaaGreatDoor
open Go.RowKit Go.Maps Go.WideMaps
open Go.ChangeMaps (setBlock heap_setBlock_same heap_setBlock_other)

section
variable {H : Type} {P : Program} {R : Value → Option (DataW H × List MemPlace)}
theorem setBlock_grown {w : World} {b clock : Nat} {es : Array MapEntry} (hb : w.heap[b]? = some (.map es clock)) (o' : Obj) : w.grownBy (setBlock w b o') (some b) :=
  ⟨rfl, rfl, rfl, by simp [setBlock], fun i _ hi => heap_setBlock_other hb _ (fun e => hi (by rw [e]))⟩
theorem ownsMap_entry {w : World} {t k e : TypeId} {b n : Nat} {D : DataW H} (h : w.ownsMap P k R b n D) (K : KeyLaw P k) (ht : P.underlying t = some (.map k e)) {z : Value} (hz : ∀ u : World, (zeroValue e).run P u = .ok z u) (hn : n < maxLen) {key : Value} {kl : Lit} (hkey : keyOf P k key = some kl) :
    ∃ (v0 : Value) (st : Nat) (w1 : World), (Instr.mapEntry t (.map (some b)) key).run P w = .ok (.tuple #[v0, goInt st]) w1 ∧ w.grownBy w1 (some b) ∧
      ∀ (w2 : World) (val : Value) d ps, w2.heap[b]? = w1.heap[b]? → R val = some (d, ps) → ∃ w3, (Instr.entryStore t (.map (some b)) (goInt st) val).run P w2 = .ok () w3 ∧ w3.ownsMap P k R b (n + 1) (D.put kl d) ∧ w2.grownBy w3 (some b) := by
  have h' := h
  obtain ⟨es, clock, hb, F, hs, hD⟩ := h
  obtain ⟨v0, st, es1, clock1, hrun, _, hst⟩ := WideElems.entry_then_store K ht hz hb F hkey
  refine ⟨v0, st, _, hrun, setBlock_grown hb _, fun w2 val d ps hw2 hR => ?_⟩
  rw [heap_setBlock_same hb] at hw2
  obtain ⟨es', clock', hr1, hr2⟩ := hst w2 val hw2
  obtain ⟨w', hr3, ho, _⟩ := h'.store (Keyed.of_law K) ht hn hkey hR
  rw [hr2] at hr3
  injection hr3 with _ hr3
  subst hr3
  obtain ⟨es'', clock'', hb'', F'', hs'', hD''⟩ := ho
  rw [heap_setBlock_same hb] at hb''
  injection hb'' with hb''
  injection hb'' with e1 e2
  subst e1 e2
  exact ⟨_, hr1, ⟨es', clock', heap_setBlock_same hw2 _, F'', hs'', hD''⟩, setBlock_grown hw2 _⟩
theorem step_mapEntry {ops : Array Oper} {o : Oper} {a : Act} {w w1 : World} {K : Act → World → Prop} {Q : Exit → Act → World → Prop} {E : Prop} {v : Value} (hg : o.guard = none) (t : TypeId) (m x : Operand) (hop : o.op = .mapEntry t m x) (hrun : (Instr.mapEntry t (a.eval m) (a.eval x)).run P w = .ok v w1)
    (h : K (a.put o.dst v) w1) : if Region.wanted o (yielded ops a.tmps) = true then Oper.wp P o a w K Q else E := by
  have hw : Region.wanted o (yielded ops a.tmps) = true := by simp [Region.wanted, hg]
  rw [if_pos hw]
  unfold Oper.wp execOp
  simp only [hop, Sem.run_bind, Sem.run_pure, Result.andThen_ok, hrun]
  exact h
theorem step_entryStore {ops : Array Oper} {o : Oper} {a : Act} {w w1 : World} {K : Act → World → Prop} {Q : Exit → Act → World → Prop} {E : Prop} (hg : o.guard = none) (t : TypeId) (m s x : Operand) (hop : o.op = .entryStore t m s x) (hrun : (Instr.entryStore t (a.eval m) (a.eval s) (a.eval x)).run P w = .ok () w1)
    (h : K (a.put o.dst undef) w1) : if Region.wanted o (yielded ops a.tmps) = true then Oper.wp P o a w K Q else E := by
  have hw : Region.wanted o (yielded ops a.tmps) = true := by simp [Region.wanted, hg]
  rw [if_pos hw]
  unfold Oper.wp execOp
  simp only [hop, Sem.run_bind, Sem.run_pure, Result.andThen_ok, hrun]
  exact h
end
set_option maxRecDepth 20000 in
theorem MapSI.entry {w : World} {b n : Nat} {f : ByteArray → Option Int} (h : MapSI w b n f) (hn : n < maxLen) (s : ByteArray) (hs : s.size ≤ maxLen) :
    ∃ (v0 : Value) (st : Nat) (w1 : World), (Instr.mapEntry 240 (.map (some b)) (.string s)).run Tryz.prog w = .ok (.tuple #[v0, .int .i64 st]) w1 ∧ w.grownBy w1 (some b) ∧
      ∀ (w2 : World) (i : Int), w2.heap[b]? = w1.heap[b]? → (Lit.int .i64 i).wf = true → ∃ w3, (Instr.entryStore 240 (.map (some b)) (.int .i64 st) (.int .i64 i)).run Tryz.prog w2 = .ok () w3 ∧ MapSI w3 b (n + 1) (fun t => if t = s then some i else f t) ∧ w2.grownBy w3 (some b) := by
  obtain ⟨D, h1, h2, h3⟩ := h
  obtain ⟨v0, st, w1, hr, hg, hs2⟩ := ownsMap_entry h1 (string_law Tryz.underlying9) Tryz.underlying240 zero_int hn (key_string hs)
  refine ⟨v0, st, w1, hr, hg, fun w2 i hw2 hi => ?_⟩
  obtain ⟨w3, hr3, ho, hg3⟩ := hs2 w2 (.int .i64 i) (.lit (.int .i64 i)) [] hw2 (plainElem_int Tryz.underlying3 hi)
  refine ⟨w3, hr3, ⟨_, ho, h2.put _ _, fun t => ?_⟩, hg3⟩
  have hlit : WideAt.IsKeyLit (.string s.data.toList) := by first | trivial | rfl | (unfold WideAt.IsKeyLit; trivial)
  by_cases e : t = s
  · subst e
    simp only [↓reduceIte]
    exact ⟨has_put_same h2 hlit _, fun v hv => by injection hv with hv; subst hv; exact atKey_put_same h2 hlit _ _⟩
  · simp only [if_neg e]
    have hne : (Lit.string t.data.toList) ≠ .string s.data.toList := fun h => e (by injection h with h; exact str_eq h)
    rw [has_put_other hne, atKey_put_other hne]
    exact h3 t
set_option maxRecDepth 20000 in
theorem MapKI.entry {w : World} {b n : Nat} {f : Snd → Option Int} (h : MapKI w b n f) (hn : n < maxLen) (s : Snd) (hs : ok32 s) :
    ∃ (v0 : Value) (st : Nat) (w1 : World), (Instr.mapEntry 263 (.map (some b)) (sndV s)).run Tryz.prog w = .ok (.tuple #[v0, .int .i64 st]) w1 ∧ w.grownBy w1 (some b) ∧
      ∀ (w2 : World) (i : Int), w2.heap[b]? = w1.heap[b]? → (Lit.int .i64 i).wf = true → ∃ w3, (Instr.entryStore 263 (.map (some b)) (.int .i64 st) (.int .i64 i)).run Tryz.prog w2 = .ok () w3 ∧ MapKI w3 b (n + 1) (fun t => if t = s then some i else f t) ∧ w2.grownBy w3 (some b) := by
  obtain ⟨D, h1, h2, h3⟩ := h
  obtain ⟨v0, st, w1, hr, hg, hs2⟩ := ownsMap_entry h1 lawSnd Tryz.underlying263 zero_int hn (keyS_key hs)
  refine ⟨v0, st, w1, hr, hg, fun w2 i hw2 hi => ?_⟩
  obtain ⟨w3, hr3, ho, hg3⟩ := hs2 w2 (.int .i64 i) (.lit (.int .i64 i)) [] hw2 (plainElem_int Tryz.underlying3 hi)
  refine ⟨w3, hr3, ⟨_, ho, h2.put _ _, fun t ht => ?_⟩, hg3⟩
  have hlit : WideAt.IsKeyLit (klS s) := by first | trivial | rfl | (unfold WideAt.IsKeyLit; trivial)
  by_cases e : t = s
  · subst e
    simp only [↓reduceIte]
    exact ⟨has_put_same h2 hlit _, fun v hv => by injection hv with hv; subst hv; exact atKey_put_same h2 hlit _ _⟩
  · simp only [if_neg e]
    have hne : klS t ≠ klS s := fun h => e (klS_inj ht hs h)
    rw [has_put_other hne, atKey_put_other hne]
    exact h3 t ht
end Go.Proofs.YtmepaeahchiglaaGreatDoor
