/-
  A map from strings to ints that the call made ('MapSI'): what it holds, as a function. Conditions: keys of at most maxLen bytes.
-/
import Derived.Test.YtohggdfplmlinaaDoorProg
import Derived.Test.YtohggdfplmlinaaDoorMem
import Derived.Maps.Own
import Derived.Maps.OwnSet
import Derived.Maps.OwnOps
namespace Go.Proofs.YtohggdfplmlinaaDoor
open Go.RowKit Go.Maps Go.WideMaps

theorem keyS_ : Keyed Tryd.prog 9 := string_keyed Tryd.underlying9
def MapSI (w : World) (b n : Nat) (f : ByteArray → Option Int) : Prop :=
  ∃ D : DataW Unit, w.ownsMap Tryd.prog 9 (plainElem Tryd.prog 3) b n D ∧ IsMap D ∧
    ∀ s : ByteArray, has D (.string s.data.toList) = (f s).isSome ∧ ∀ v, f s = some v → D.atKey (.string s.data.toList) (.lit (.int .i64 0)) = .lit (.int .i64 v)
theorem MapSI.lt {w : World} {b n : Nat} {f : ByteArray → Option Int} (h : MapSI w b n f) : b < w.heap.size := by
  obtain ⟨D, h1, _⟩ := h; exact h1.lt
theorem MapSI.made (w : World) : MapSI (w.alloc (.map #[] 0)) w.heap.size 0 (fun _ => none) :=
  ⟨.map [], World.ownsMap_made w _ _ _, isMap_empty, fun s => ⟨rfl, fun v h => by cases h⟩⟩
theorem MapSI.kept {w w' : World} {b n : Nat} {f : ByteArray → Option Int} {row : Option Nat} (h : MapSI w b n f) (hg : w.grownBy w' row) (hne : some b ≠ row) : MapSI w' b n f := by
  obtain ⟨D, h1, h2⟩ := h; exact ⟨D, h1.kept hg hne, h2⟩
theorem MapSI.below {w w' : World} {b n : Nat} {f : ByteArray → Option Int} (h : MapSI w b n f) (hb : Below w.heap.size w w') : MapSI w' b n f :=
  h.kept (row := none) ⟨hb.os, hb.tape, hb.output, hb.size, fun i hi _ => hb.block i hi⟩ (by simp)
theorem MapSI.isMap {w : World} {b n : Nat} {f : ByteArray → Option Int} (h : MapSI w b n f) : ∃ es clock, w.heap[b]? = some (.map es clock) := by
  obtain ⟨D, ⟨es, clock, hb, _⟩, _⟩ := h; exact ⟨es, clock, hb⟩
theorem key_string {s : ByteArray} (hs : s.size ≤ maxLen) : keyOf Tryd.prog 9 (.string s) = some (.string s.data.toList) := keyOf_string_mk Tryd.underlying9 hs
theorem zero_int (w : World) : (zeroValue 3).run Tryd.prog w = .ok (.int .i64 0) w := by kernel_rfl
/-- 'v, ok := m[s]'. -/
theorem MapSI.look {w : World} {b n : Nat} {f : ByteArray → Option Int} (h : MapSI w b n f) (s : ByteArray) (hs : s.size ≤ maxLen) :
    (Instr.lookup 63 (.map (some b)) (.string s) true).run Tryd.prog w = .ok (.tuple #[.int .i64 ((f s).getD 0), .bool (f s).isSome]) w := by
  obtain ⟨D, h1, h2, h3⟩ := h
  obtain ⟨v, ps, hrun, hv⟩ := h1.look_ok keyS_ Tryd.underlying63 (zero_int w) (plainElem_int (H := Unit) (a := 0) Tryd.underlying3 (by decide)) (key_string hs)
  obtain ⟨c, rfl, hc, _⟩ := plainElem_int_inv Tryd.underlying3 hv
  simp only [Prod.mk.injEq] at hc
  rw [hrun, (h3 s).1]
  cases hf : f s with
  | none =>
    have hh : has D (.string s.data.toList) = false := by rw [(h3 s).1, hf]; rfl
    rw [atKey_of_not_has hh] at hc
    have : c = 0 := (Lit.int.inj (DataW.lit.inj hc.1)).2.symm
    subst this; simp only [Option.isSome_none, Option.getD_none]
  | some x =>
    rw [(h3 s).2 x hf] at hc
    have : c = x := (Lit.int.inj (DataW.lit.inj hc.1)).2.symm
    subst this; simp only [Option.isSome_some, Option.getD_some]
/-- 'm[s] = v'. -/
theorem wpList_putSI {w : World} {ops : Array Oper} {rest : List Oper} {o : Oper} {a : Act} {Q : Exit → Act → World → Prop}
    (hg : o.guard = none) (m x v : Operand) (hop : o.op = Op.mapUpdate 63 m x v) (b n : Nat) (f : ByteArray → Option Int) (hm : a.eval m = .map (some b)) (h : MapSI w b n f) (hn : n < maxLen)
    (s : ByteArray) (hs : s.size ≤ maxLen) (i : Int) (hi : (Lit.int .i64 i).wf = true) (hx : a.eval x = .string s) (hv : a.eval v = .int .i64 i)
    (hK : ∀ w', MapSI w' b (n + 1) (fun t => if t = s then some i else f t) → w.grownBy w' (some b) → wpList Tryd.prog ops Q rest (a.put o.dst undef) w') :
    wpList Tryd.prog ops Q (o :: rest) a w := by
  obtain ⟨D, h1, h2, h3⟩ := h
  refine wpList_mapUpdate_own w hg m x v 63 hop 9 3 keyS_ Tryd.underlying63 _ b n D hm h1 hn (.string s) (.int .i64 i) (.string s.data.toList) hx hv (key_string hs) (.lit (.int .i64 i)) [] (plainElem_int Tryd.underlying3 hi) ?_
  intro w1 hown hgrow
  refine hK w1 ⟨_, hown, h2.put _ _, fun t => ?_⟩ hgrow
  have hlit : WideAt.IsKeyLit (.string s.data.toList) := by first | trivial | rfl | (unfold WideAt.IsKeyLit; trivial)
  by_cases e : t = s
  · subst e
    simp only [↓reduceIte]
    exact ⟨has_put_same h2 hlit _, fun v hv => by injection hv with hv; subst hv; exact atKey_put_same h2 hlit _ _⟩
  · simp only [if_neg e]
    have hne : (Lit.string t.data.toList) ≠ .string s.data.toList := fun h => e (by
      injection h with h
      obtain ⟨⟨l⟩⟩ := t; obtain ⟨⟨l'⟩⟩ := s
      simp only at h; rw [h])
    rw [has_put_other hne, atKey_put_other hne]
    exact h3 t
end Go.Proofs.YtohggdfplmlinaaDoor
