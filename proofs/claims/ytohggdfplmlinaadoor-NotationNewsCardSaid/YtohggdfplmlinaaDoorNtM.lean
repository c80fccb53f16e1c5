/-
  Layer 4: maps from sounds to ints and to texts, made by the call. Conditions: sounds of 32 bits, texts of at most maxLen bytes.
-/
import Derived.Test.YtohggdfplmlinaaDoorNtP
import Derived.Test.YtohggdfplmlinaaDoorNtC
import Derived.Test.YtohggdfplmlinaaDoorMapSI
import Derived.Maps.StringElems
import Derived.DeepKeys4
import Derived.WideKeyPair
namespace Go.Proofs.YtohggdfplmlinaaDoor
open Go.RowKit Go.Maps Go.WideMaps

theorem laidOut : laidOutB Tryd.prog = true := by kernel_rfl
theorem sndRow : (39 : TypeId) < Tryd.prog.types.size := of_decide_eq_true (by kernel_rfl)
theorem sndKey : Tryd.prog.keyTypeAt 2 39 = true := by kernel_rfl
theorem le3 : 2 + 1 ≤ 10000 := by omega
theorem lawSnd : KeyLaw Tryd.prog 39 := deep_law_laid laidOut (m := 2) le3 sndRow sndKey (by rw [Tryd.underlying39])
theorem keySnd : Keyed Tryd.prog 39 := Keyed.of_law lawSnd
/-- What a sound reads as, as a key. -/
def klS (s : Snd) : Lit := .string (keyBytes [.int .u32 s.1, .int .u32 s.2])
theorem wf32 {n : Nat} (h : is32 n) : (Lit.int .u32 n).wf = true := by
  unfold is32 at h
  have h1 : IntKind.u32.min = 0 := rfl
  have h2 : IntKind.u32.max = 4294967295 := rfl
  simp only [Lit.wf, Bool.and_eq_true, decide_eq_true_eq, h1, h2]
  omega
theorem sndKeyT : Tryd.prog.keyType 39 = true := by kernel_rfl
theorem sndCells : Tryd.prog.cellsOf 39 = 2 := by kernel_rfl
theorem u32Cells : Tryd.prog.cellsOf 37 = 1 := by kernel_rfl
theorem typesB : (Tryd.prog.types.size == 0) = false := by kernel_rfl
theorem typesPos : ∃ m, Tryd.prog.types.size = m + 1 := Nat.exists_eq_succ_of_ne_zero (beq_eq_false_iff_ne.1 typesB)
theorem keyS_key {s : Snd} (h : ok32 s) : keyOf Tryd.prog 39 (sndV s) = some (klS s) := by
  have h1 := wf32 h.1
  have h2 := wf32 h.2
  obtain ⟨m, hm⟩ := typesPos
  have lit : ∀ n : Nat, (Lit.int .u32 n).wf = true → Tryd.prog.keyLits (m + 1) 37 [.int .u32 n] = some [.int .u32 n] := fun n hn => by
    unfold Program.keyLits
    simp only [Tryd.underlying37]
    rw [if_pos ⟨trivial, hn⟩]
  unfold keyOf
  rw [Tryd.underlying39]
  simp only
  rw [if_pos (by simp [sndKeyT, Value.formed, Tryd.underlying39, sndCells]), hm]
  unfold Program.keyLits
  simp only [Tryd.underlying39, Value.cells]
  rw [if_pos (by rw [sndCells]; exact ⟨rfl, by simp⟩)]
  simp [u32Cells, lit _ h1, lit _ h2, klS]
theorem klS_inj {a b : Snd} (ha : ok32 a) (hb : ok32 b) (h : klS a = klS b) : a = b := by
  have e := keySnd.inj (keyS_key ha) (h ▸ keyS_key hb)
  unfold sndV at e
  simp only [Value.agg.injEq, Array.mk.injEq, List.cons.injEq, Value.int.injEq, true_and, and_true] at e
  exact Prod.ext (by have := e.1; omega) (by have := e.2; omega)

/-- A map from sounds to ints that the call made: what it holds. -/
def MapKI (w : World) (b n : Nat) (f : Snd → Option Int) : Prop :=
  ∃ D : DataW Unit, w.ownsMap Tryd.prog 39 (plainElem Tryd.prog 3) b n D ∧ IsMap D ∧
    ∀ s : Snd, ok32 s → has D (klS s) = (f s).isSome ∧ ∀ v, f s = some v → D.atKey (klS s) (.lit (.int .i64 0)) = .lit (.int .i64 v)
theorem MapKI.lt {w : World} {b n : Nat} {f : Snd → Option Int} (h : MapKI w b n f) : b < w.heap.size := by
  obtain ⟨D, h1, _⟩ := h; exact h1.lt
theorem MapKI.made (w : World) : MapKI (w.alloc (.map #[] 0)) w.heap.size 0 (fun _ => none) :=
  ⟨.map [], World.ownsMap_made w _ _ _, isMap_empty, fun s _ => ⟨rfl, fun v h => by cases h⟩⟩
theorem MapKI.kept {w w' : World} {b n : Nat} {f : Snd → Option Int} {row : Option Nat} (h : MapKI w b n f) (hg : w.grownBy w' row) (hne : some b ≠ row) : MapKI w' b n f := by
  obtain ⟨D, h1, h2⟩ := h; exact ⟨D, h1.kept hg hne, h2⟩
theorem MapKI.chgS {S : Nat → Prop} {w w' : World} {b n : Nat} {f : Snd → Option Int} (h : MapKI w b n f) (hc : ChgS S w w') (hb : ¬ S b) : MapKI w' b n f := by
  obtain ⟨D, ⟨es, clock, h1, h3⟩, h2⟩ := h
  exact ⟨D, ⟨es, clock, (hc.block b (Array.getElem?_eq_some_iff.1 h1).1 hb).trans h1, h3⟩, h2⟩
theorem MapKI.isMap {w : World} {b n : Nat} {f : Snd → Option Int} (h : MapKI w b n f) : ∃ es clock, w.heap[b]? = some (.map es clock) := by
  obtain ⟨D, ⟨es, clock, hb, _⟩, _⟩ := h; exact ⟨es, clock, hb⟩
theorem MapKI.look {w : World} {b n : Nat} {f : Snd → Option Int} (h : MapKI w b n f) (s : Snd) (hs : ok32 s) :
    (Instr.lookup 64 (.map (some b)) (sndV s) true).run Tryd.prog w = .ok (.tuple #[.int .i64 ((f s).getD 0), .bool (f s).isSome]) w := by
  obtain ⟨D, h1, h2, h3⟩ := h
  obtain ⟨v, ps, hrun, hv⟩ := h1.look_ok keySnd Tryd.underlying64 (zero_int w) (plainElem_int (H := Unit) (a := 0) Tryd.underlying3 (by decide)) (keyS_key hs)
  obtain ⟨c, rfl, hc, _⟩ := plainElem_int_inv Tryd.underlying3 hv
  simp only [Prod.mk.injEq] at hc
  rw [hrun, (h3 s hs).1]
  cases hf : f s with
  | none =>
    have hh : has D (klS s) = false := by rw [(h3 s hs).1, hf]; rfl
    rw [atKey_of_not_has hh] at hc
    have : c = 0 := (Lit.int.inj (DataW.lit.inj hc.1)).2.symm
    subst this; simp only [Option.isSome_none, Option.getD_none]
  | some x =>
    rw [(h3 s hs).2 x hf] at hc
    have : c = x := (Lit.int.inj (DataW.lit.inj hc.1)).2.symm
    subst this; simp only [Option.isSome_some, Option.getD_some]
/-- 'm[s] = v'. -/
theorem wpList_putMapKI {w : World} {ops : Array Oper} {rest : List Oper} {o : Oper} {a : Act} {Q : Exit → Act → World → Prop}
    (hg : o.guard = none) (m x v : Operand) (hop : o.op = Op.mapUpdate 64 m x v) (b n : Nat) (f : Snd → Option Int) (hm : a.eval m = .map (some b)) (h : MapKI w b n f) (hn : n < maxLen)
    (s : Snd) (hs : ok32 s) (i : Int) (hi : (Lit.int .i64 i).wf = true) (hx : a.eval x = sndV s) (hv : a.eval v = .int .i64 i)
    (hK : ∀ w', MapKI w' b (n + 1) (fun t => if t = s then some i else f t) → w.grownBy w' (some b) → wpList Tryd.prog ops Q rest (a.put o.dst undef) w') :
    wpList Tryd.prog ops Q (o :: rest) a w := by
  obtain ⟨D, h1, h2, h3⟩ := h
  refine wpList_mapUpdate_own w hg m x v 64 hop 39 3 keySnd Tryd.underlying64 _ b n D hm h1 hn (sndV s) (.int .i64 i) (klS s) hx hv (keyS_key hs) (.lit (.int .i64 i)) [] (plainElem_int Tryd.underlying3 hi) ?_
  intro w1 hown hgrow
  refine hK w1 ⟨_, hown, h2.put _ _, fun t ht => ?_⟩ hgrow
  have hlit : WideAt.IsKeyLit (klS s) := by first | trivial | rfl | (unfold WideAt.IsKeyLit; trivial)
  by_cases e : t = s
  · subst e
    simp only [↓reduceIte]
    exact ⟨has_put_same h2 hlit _, fun v hv => by injection hv with hv; subst hv; exact atKey_put_same h2 hlit _ _⟩
  · simp only [if_neg e]
    have hne : klS t ≠ klS s := fun h => e (klS_inj ht hs h)
    rw [has_put_other hne, atKey_put_other hne]
    exact h3 t ht

theorem zero_str (w : World) : (zeroValue 9).run Tryd.prog w = .ok (.string ⟨#[]⟩) w := by kernel_rfl
theorem str_eq {a b : ByteArray} (h : a.data.toList = b.data.toList) : a = b := by
  obtain ⟨⟨l⟩⟩ := a; obtain ⟨⟨l'⟩⟩ := b
  simp only at h; rw [h]

/-- A map from sounds to texts that the call made: what it holds. -/
def MapKS (w : World) (b n : Nat) (f : Snd → Option ByteArray) : Prop :=
  ∃ D : DataW Unit, w.ownsMap Tryd.prog 39 (plainElem Tryd.prog 9) b n D ∧ IsMap D ∧
    ∀ s : Snd, ok32 s → has D (klS s) = (f s).isSome ∧ ∀ v, f s = some v → D.atKey (klS s) (.lit (.string [])) = .lit (.string v.data.toList)
theorem MapKS.lt {w : World} {b n : Nat} {f : Snd → Option ByteArray} (h : MapKS w b n f) : b < w.heap.size := by
  obtain ⟨D, h1, _⟩ := h; exact h1.lt
theorem MapKS.made (w : World) : MapKS (w.alloc (.map #[] 0)) w.heap.size 0 (fun _ => none) :=
  ⟨.map [], World.ownsMap_made w _ _ _, isMap_empty, fun s _ => ⟨rfl, fun v h => by cases h⟩⟩
theorem MapKS.kept {w w' : World} {b n : Nat} {f : Snd → Option ByteArray} {row : Option Nat} (h : MapKS w b n f) (hg : w.grownBy w' row) (hne : some b ≠ row) : MapKS w' b n f := by
  obtain ⟨D, h1, h2⟩ := h; exact ⟨D, h1.kept hg hne, h2⟩
theorem MapKS.chgS {S : Nat → Prop} {w w' : World} {b n : Nat} {f : Snd → Option ByteArray} (h : MapKS w b n f) (hc : ChgS S w w') (hb : ¬ S b) : MapKS w' b n f := by
  obtain ⟨D, ⟨es, clock, h1, h3⟩, h2⟩ := h
  exact ⟨D, ⟨es, clock, (hc.block b (Array.getElem?_eq_some_iff.1 h1).1 hb).trans h1, h3⟩, h2⟩
theorem MapKS.isMap {w : World} {b n : Nat} {f : Snd → Option ByteArray} (h : MapKS w b n f) : ∃ es clock, w.heap[b]? = some (.map es clock) := by
  obtain ⟨D, ⟨es, clock, hb, _⟩, _⟩ := h; exact ⟨es, clock, hb⟩
theorem MapKS.look {w : World} {b n : Nat} {f : Snd → Option ByteArray} (h : MapKS w b n f) (s : Snd) (hs : ok32 s) :
    (Instr.lookup 67 (.map (some b)) (sndV s) true).run Tryd.prog w = .ok (.tuple #[.string ((f s).getD ⟨#[]⟩), .bool (f s).isSome]) w := by
  obtain ⟨D, h1, h2, h3⟩ := h
  obtain ⟨v, ps, hrun, hv⟩ := h1.look_ok keySnd Tryd.underlying67 (zero_str w) (plainElem_string (H := Unit) (s := ⟨#[]⟩) Tryd.underlying9 (by decide)) (keyS_key hs)
  obtain ⟨c, rfl, hc, _⟩ := plainElem_string_inv Tryd.underlying9 hv
  simp only [Prod.mk.injEq] at hc
  rw [hrun, (h3 s hs).1]
  cases hf : f s with
  | none =>
    have hh : has D (klS s) = false := by rw [(h3 s hs).1, hf]; rfl
    rw [atKey_of_not_has hh] at hc
    have : c = ⟨#[]⟩ := str_eq (Lit.string.inj (DataW.lit.inj hc.1)).symm
    subst this; simp only [Option.isSome_none, Option.getD_none]
  | some x =>
    rw [(h3 s hs).2 x hf] at hc
    have : c = x := str_eq (Lit.string.inj (DataW.lit.inj hc.1)).symm
    subst this; simp only [Option.isSome_some, Option.getD_some]
/-- 'm[s] = v'. -/
theorem wpList_putMapKS {w : World} {ops : Array Oper} {rest : List Oper} {o : Oper} {a : Act} {Q : Exit → Act → World → Prop}
    (hg : o.guard = none) (m x v : Operand) (hop : o.op = Op.mapUpdate 67 m x v) (b n : Nat) (f : Snd → Option ByteArray) (hm : a.eval m = .map (some b)) (h : MapKS w b n f) (hn : n < maxLen)
    (s : Snd) (hs : ok32 s) (i : ByteArray) (hi : i.size ≤ maxLen) (hx : a.eval x = sndV s) (hv : a.eval v = .string i)
    (hK : ∀ w', MapKS w' b (n + 1) (fun t => if t = s then some i else f t) → w.grownBy w' (some b) → wpList Tryd.prog ops Q rest (a.put o.dst undef) w') :
    wpList Tryd.prog ops Q (o :: rest) a w := by
  obtain ⟨D, h1, h2, h3⟩ := h
  refine wpList_mapUpdate_own w hg m x v 67 hop 39 9 keySnd Tryd.underlying67 _ b n D hm h1 hn (sndV s) (.string i) (klS s) hx hv (keyS_key hs) (.lit (.string i.data.toList)) [] (plainElem_string Tryd.underlying9 hi) ?_
  intro w1 hown hgrow
  refine hK w1 ⟨_, hown, h2.put _ _, fun t ht => ?_⟩ hgrow
  have hlit : WideAt.IsKeyLit (klS s) := by first | trivial | rfl | (unfold WideAt.IsKeyLit; trivial)
  by_cases e : t = s
  · subst e
    simp only [↓reduceIte]
    exact ⟨has_put_same h2 hlit _, fun v hv => by injection hv with hv; subst hv; exact atKey_put_same h2 hlit _ _⟩
  · simp only [if_neg e]
    have hne : klS t ≠ klS s := fun h => e (klS_inj ht hs h)
    rw [has_put_other hne, atKey_put_other hne]
    exact h3 t ht
end Go.Proofs.YtohggdfplmlinaaDoor
