/-
 Layer 4: maps from sounds to ints and to texts, made by the call. Conditions: sounds of 32 bits, texts of at most maxLen bytes.
-/
import Derived.Test.YtmepaeahchiglaaGreatDoorZdag
set_option maxRecDepth 20000
set_option maxHeartbeats 1000000
namespace Go.Proofs.YtmepaeahchiglaaGreatDoor
open Go.RowKit Go.Maps Go.WideMaps
theorem Oi : (55 : TypeId) < Tryz.prog.types.size := of_decide_eq_true (by kernel_rfl)
theorem Oj : Tryz.prog.keyTypeAt 2 55 = true := by kernel_rfl
theorem le3 : 2 + 1 ≤ 10000 := by omega
theorem Jz : KeyLaw Tryz.prog 55 := deep_law_laid laidOut (m := 2) le3 Oi Oj (by rw [Tryz.underlying55])
theorem DW : Keyed Tryz.prog 55 := Keyed.of_law Jz
def CG (s : Snd) : Lit := .string (keyBytes [.int .u32 s.1, .int .u32 s.2])
theorem wf32 {n : Nat} (h : is32 n) : (Lit.int .u32 n).wf = true := by
 unfold is32 at h
 have h1 : IntKind.u32.min = 0 := rfl
 have h2 : IntKind.u32.max = 4294967295 := rfl
 simp only [Lit.wf, Bool.and_eq_true, decide_eq_true_eq, h1, h2]
 omega
theorem LY : Tryz.prog.keyType 55 = true := by kernel_rfl
theorem Aw : Tryz.prog.cellsOf 55 = 2 := by kernel_rfl
theorem IA : Tryz.prog.cellsOf 42 = 1 := by kernel_rfl
theorem Og : (Tryz.prog.types.size == 0) = false := by kernel_rfl
theorem IB : ∃ m, Tryz.prog.types.size = m + 1 := Nat.exists_eq_succ_of_ne_zero (beq_eq_false_iff_ne.1 Og)
theorem mQ {s : Snd} (h : ok32 s) : keyOf Tryz.prog 55 (jy s) = some (CG s) := by
 have h1 := wf32 h.1
 have h2 := wf32 h.2
 obtain ⟨m, hm⟩ := IB
 have lit : ∀ n : Nat, (Lit.int .u32 n).wf = true → Tryz.prog.keyLits (m + 1) 42 [.int .u32 n] = some [.int .u32 n] := fun n hn => by
  unfold Program.keyLits
  simp only [Tryz.underlying42]
  rw [if_pos ⟨trivial, hn⟩]
 unfold keyOf
 rw [Tryz.underlying55]
 simp only
 rw [if_pos (by simp [LY, Value.formed, Tryz.underlying55, Aw]), hm]
 unfold Program.keyLits
 simp only [Tryz.underlying55, Value.cells]
 rw [if_pos (by rw [Aw]; exact ⟨rfl, by simp⟩)]
 simp [IA, lit _ h1, lit _ h2, CG]
theorem Fa {a b : Snd} (ha : ok32 a) (hb : ok32 b) (h : CG a = CG b) : a = b := by
 have e := DW.inj (mQ ha) (h ▸ mQ hb)
 unfold jy at e
 simp only [Value.agg.injEq, Array.mk.injEq, List.cons.injEq, Value.int.injEq, true_and, and_true] at e
 exact Prod.ext (by have := e.1; omega) (by have := e.2; omega)
def bI (w : World) (b n : Nat) (f : Snd → Option Int) : Prop :=
 ∃ D : DataW Unit, w.ownsMap Tryz.prog 55 (plainElem Tryz.prog 3) b n D ∧ IsMap D ∧
  ∀ s : Snd, ok32 s → has D (CG s) = (f s).isSome ∧ ∀ v, f s = some v → D.atKey (CG s) (.lit (.int .i64 0)) = .lit (.int .i64 v)
theorem bI.lt {w : World} {b n : Nat} {f : Snd → Option Int} (h : bI w b n f) : b < w.heap.size := by
 obtain ⟨D, h1, _⟩ := h; exact h1.lt
theorem bI.made (w : World) : bI (w.alloc (.map #[] 0)) w.heap.size 0 (fun _ => none) :=
 ⟨.map [], World.ownsMap_made w _ _ _, isMap_empty, fun s _ => ⟨rfl, fun v h => by cases h⟩⟩
theorem bI.kept {w w' : World} {b n : Nat} {f : Snd → Option Int} {row : Option Nat} (h : bI w b n f) (hg : w.grownBy w' row) (hne : some b ≠ row) : bI w' b n f := by
 obtain ⟨D, h1, h2⟩ := h; exact ⟨D, h1.kept hg hne, h2⟩
theorem bI.dQ {S : Nat → Prop} {w w' : World} {b n : Nat} {f : Snd → Option Int} (h : bI w b n f) (hc : bA S w w') (hb : ¬ S b) : bI w' b n f := by
 obtain ⟨D, ⟨es, clock, h1, h3⟩, h2⟩ := h
 exact ⟨D, ⟨es, clock, (hc.block b (Array.getElem?_eq_some_iff.1 h1).1 hb).trans h1, h3⟩, h2⟩
theorem bI.isMap {w : World} {b n : Nat} {f : Snd → Option Int} (h : bI w b n f) : ∃ es clock, w.heap[b]? = some (.map es clock) := by
 obtain ⟨D, ⟨es, clock, hb, _⟩, _⟩ := h; exact ⟨es, clock, hb⟩
theorem bI.look {w : World} {b n : Nat} {f : Snd → Option Int} (h : bI w b n f) (s : Snd) (hs : ok32 s) :
 (Instr.lookup 263 (.map (some b)) (jy s) true).run Tryz.prog w = .ok (.tuple #[.int .i64 ((f s).getD 0), .bool (f s).isSome]) w := by
 obtain ⟨D, h1, h2, h3⟩ := h
 obtain ⟨v, ps, hrun, hv⟩ := h1.look_ok DW Tryz.underlying263 (mi w) (plainElem_int (H := Unit) (a := 0) Tryz.underlying3 (by decide)) (mQ hs)
 obtain ⟨c, rfl, hc, _⟩ := plainElem_int_inv Tryz.underlying3 hv
 simp only [Prod.mk.injEq] at hc
 rw [hrun, (h3 s hs).1]
 cases hf : f s with
 | none =>
   have hh : has D (CG s) = false := by rw [(h3 s hs).1, hf]; rfl
   rw [atKey_of_not_has hh] at hc
   have : c = 0 := (Lit.int.inj (DataW.lit.inj hc.1)).2.symm
   subst this; simp only [Option.isSome_none, Option.getD_none]
 | some x =>
   rw [(h3 s hs).2 x hf] at hc
   have : c = x := (Lit.int.inj (DataW.lit.inj hc.1)).2.symm
   subst this; simp only [Option.isSome_some, Option.getD_some]
theorem su {w : World} {ops : Array Oper} {rest : List Oper} {o : Oper} {a : Act} {Q : Exit → Act → World → Prop}
 (hg : o.guard = none) (m x v : Operand) (hop : o.op = Op.mapUpdate 263 m x v) (b n : Nat) (f : Snd → Option Int) (hm : a.eval m = .map (some b)) (h : bI w b n f) (hn : n < maxLen)
 (s : Snd) (hs : ok32 s) (i : Int) (hi : (Lit.int .i64 i).wf = true) (hx : a.eval x = jy s) (hv : a.eval v = .int .i64 i)
 (hK : ∀ w', bI w' b (n + 1) (fun t => if t = s then some i else f t) → w.grownBy w' (some b) → wpList Tryz.prog ops Q rest (a.put o.dst undef) w') :
 wpList Tryz.prog ops Q (o :: rest) a w := by
 obtain ⟨D, h1, h2, h3⟩ := h
 refine wpList_mapUpdate_own w hg m x v 263 hop 55 3 DW Tryz.underlying263 _ b n D hm h1 hn (jy s) (.int .i64 i) (CG s) hx hv (mQ hs) (.lit (.int .i64 i)) [] (plainElem_int Tryz.underlying3 hi) ?_
 intro w1 hown ag
 refine hK w1 ⟨_, hown, h2.put _ _, fun t ht => ?_⟩ ag
 have vH : WideAt.IsKeyLit (CG s) := by first | trivial | rfl | (unfold WideAt.IsKeyLit; trivial)
 by_cases e : t = s
 ·subst e
  simp only [↓reduceIte]
  exact ⟨has_put_same h2 vH _, fun v hv => by injection hv with hv; subst hv; exact atKey_put_same h2 vH _ _⟩
 ·simp only [if_neg e]
  have hne : CG t ≠ CG s := fun h => e (Fa ht hs h)
  rw [has_put_other hne, atKey_put_other hne]
  exact h3 t ht
theorem str_eq {a b : ByteArray} (h : a.data.toList = b.data.toList) : a = b := by
 obtain ⟨⟨l⟩⟩ := a; obtain ⟨⟨l'⟩⟩ := b
 simp only at h; rw [h]
def wD (w : World) (b n : Nat) (f : Snd → Option ByteArray) : Prop :=
 ∃ D : DataW Unit, w.ownsMap Tryz.prog 55 (plainElem Tryz.prog 9) b n D ∧ IsMap D ∧
  ∀ s : Snd, ok32 s → has D (CG s) = (f s).isSome ∧ ∀ v, f s = some v → D.atKey (CG s) (.lit (.string [])) = .lit (.string v.data.toList)
theorem wD.made (w : World) : wD (w.alloc (.map #[] 0)) w.heap.size 0 (fun _ => none) :=
 ⟨.map [], World.ownsMap_made w _ _ _, isMap_empty, fun s _ => ⟨rfl, fun v h => by cases h⟩⟩
theorem wD.dQ {S : Nat → Prop} {w w' : World} {b n : Nat} {f : Snd → Option ByteArray} (h : wD w b n f) (hc : bA S w w') (hb : ¬ S b) : wD w' b n f := by
 obtain ⟨D, ⟨es, clock, h1, h3⟩, h2⟩ := h
 exact ⟨D, ⟨es, clock, (hc.block b (Array.getElem?_eq_some_iff.1 h1).1 hb).trans h1, h3⟩, h2⟩
end Go.Proofs.YtmepaeahchiglaaGreatDoor
namespace Go.Proofs.YtmepaeahchiglaaGreatDoor
open Go.RowKit Go.Lib
theorem xN (c : UInt8) (w : World) : Calls Tryz.prog 207 #[.int .u8 c.toNat] w fun e w' => e = .returned (.bool (dG c)) ∧ w = w' := by
 have hc := c.toNat_lt
 obtain ⟨r, hr⟩ : ∃ r, dG c = r := ⟨_, rfl⟩
 rw [hr]
 unfold dG at hr
 generalize c.toNat = n at *
 have HR := qh hr
 clear hr
 by_cases h1 : 97 ≤ n
 ·by_cases h2 : n ≤ 122
  ·obtain rfl : r = true := by rw [← HR.out, decide_eq_true h1, decide_eq_true h2]; rfl
   have g1 : (97 : Int) ≤ (n : Int) := by omega
   have g2 : (n : Int) ≤ 122 := by omega
   clear h1 h2
   go_enter Tryz.func207, Tryz.ntmps207
   go_wp2
   go_ret
   exact ⟨rfl, rfl⟩
  ·obtain rfl : r = false := by rw [← HR.out, decide_eq_false h2, decide_eq_false (show ¬ n ≤ 57 by omega)]; simp
   have g1 : (97 : Int) ≤ (n : Int) := by omega
   have g2 : ¬ (n : Int) ≤ 122 := by omega
   have g3 : (48 : Int) ≤ (n : Int) := by omega
   have g4 : ¬ (n : Int) ≤ 57 := by omega
   clear h1 h2
   go_enter Tryz.func207, Tryz.ntmps207
   go_wp2
   go_ret
   exact ⟨rfl, rfl⟩
 ·have g1 : ¬ (97 : Int) ≤ (n : Int) := by omega
  by_cases h3 : 48 ≤ n
  ·have g3 : (48 : Int) ≤ (n : Int) := by omega
   by_cases h4 : n ≤ 57
   ·obtain rfl : r = true := by rw [← HR.out, decide_eq_false h1, decide_eq_true h3, decide_eq_true h4]; rfl
    have g4 : (n : Int) ≤ 57 := by omega
    clear h1 h3 h4
    go_enter Tryz.func207, Tryz.ntmps207
    go_wp2
    go_ret
    exact ⟨rfl, rfl⟩
   ·obtain rfl : r = false := by rw [← HR.out, decide_eq_false h1, decide_eq_true h3, decide_eq_false h4]; rfl
    have g4 : ¬ (n : Int) ≤ 57 := by omega
    clear h1 h3 h4
    go_enter Tryz.func207, Tryz.ntmps207
    go_wp2
    go_ret
    exact ⟨rfl, rfl⟩
  ·obtain rfl : r = false := by rw [← HR.out, decide_eq_false h1, decide_eq_false h3]; rfl
   have g3 : ¬ (48 : Int) ≤ (n : Int) := by omega
   clear h1 h3
   go_enter Tryz.func207, Tryz.ntmps207
   go_wp2
   go_ret
   exact ⟨rfl, rfl⟩
def zh : ByteArray := ⟨#[64, 63, 33, 38, 42, 36, 37]⟩
theorem Mr (l : List UInt8) (c : UInt8) : decide (0 ≤ Lib.indexByte l c) = l.contains c := by
 have hge := Lib.indexByte_ge l c
 by_cases h : Lib.indexByte l c = -1
 ·rw [h, decide_eq_false (by decide)]
  have hn := Lib.indexByte_none h
  cases hc : l.contains c with
  | false => rfl
  | true =>
    obtain ⟨k, hk, e⟩ := List.getElem_of_mem (List.contains_iff_mem.1 hc)
    exact absurd (by rw [List.getElem?_eq_getElem hk, e]) (hn k)
 ·rw [decide_eq_true (by omega)]
  have hs := (Lib.indexByte_some (l := l) (c := c) (o := (Lib.indexByte l c).toNat) (by omega)).1
  exact (List.contains_iff_mem.2 (List.mem_of_getElem? hs)).symm
theorem Dv (c : UInt8) : qW c = decide (0 ≤ Lib.indexByte zh.data.toList c) := (Mr _ _).symm
theorem LM (c : UInt8) (w : World) : Calls Tryz.prog 209 #[.int .u8 c.toNat] w fun e w' => e = .returned (.bool (tY c)) ∧ w = w' := by
 have hc := c.toNat_lt
 have hsm := xN c w
 have hi := Tryz.strings_IndexByte zh c.toNat w
 have aC : (c.toNat : Int).toNat.toUInt8 = c := by simp
 rw [aC] at hi
 have ho := Dv c
 obtain ⟨r, hr⟩ : ∃ r, tY c = r := ⟨_, rfl⟩
 rw [hr]
 unfold tY at hr
 generalize dG c = b1 at *
 generalize Lib.indexByte zh.data.toList c = k at *
 generalize qW c = b3 at *
 generalize c.toNat = n at *
 have HR := qh hr; have HS := qh hsm; have HI := qh hi; have HO := qh ho
 clear hr hsm hi ho aC
 unfold zh at HI
 cases b1 with
 | true =>
   obtain rfl : r = true := by rw [← HR.out]; rfl
   go_enter Tryz.func209, Tryz.ntmps209
   go_wp2_with (go_at_call 207; refine HS.out.mono ?_; rintro e w' ⟨rfl, rfl⟩)
   go_ret
   exact ⟨rfl, rfl⟩
 | false =>
   by_cases h1 : 65 ≤ n ∧ n ≤ 90
   ·obtain rfl : r = true := by rw [← HR.out, decide_eq_true h1.1, decide_eq_true h1.2]; rfl
    have g1 : (65 : Int) ≤ (n : Int) := by omega
    have g2 : (n : Int) ≤ 90 := by omega
    clear h1
    go_enter Tryz.func209, Tryz.ntmps209
    go_wp2_with (go_at_call 207; refine HS.out.mono ?_; rintro e w' ⟨rfl, rfl⟩)
    go_ret
    exact ⟨rfl, rfl⟩
   ·obtain rfl : r = decide (0 ≤ k) := by
     rw [← HR.out, ← HO.out]
     have : (decide (65 ≤ n) && decide (n ≤ 90)) = false := by rw [← Bool.decide_and, decide_eq_false h1]
     rw [this]
     rfl
    by_cases g1 : (65 : Int) ≤ (n : Int)
    ·have g2 : decide ((n : Int) ≤ 90) = false := decide_eq_false (by omega)
     clear h1
     go_enter Tryz.func209, Tryz.ntmps209
     go_wp2_with (first | (go_at_call 207; refine HS.out.mono ?_; rintro e w' ⟨rfl, rfl⟩) | (go_at_call 210; refine HI.out.mono ?_; rintro e w' ⟨rfl, rfl⟩))
     go_ret
     exact ⟨rfl, rfl⟩
    ·clear h1
     go_enter Tryz.func209, Tryz.ntmps209
     go_wp2_with (first | (go_at_call 207; refine HS.out.mono ?_; rintro e w' ⟨rfl, rfl⟩) | (go_at_call 210; refine HI.out.mono ?_; rintro e w' ⟨rfl, rfl⟩))
     go_ret
     exact ⟨rfl, rfl⟩
def EE (f : Nat) (p : UInt8 → Bool) : Prop := (∀ args w, (callFunc f args).run Tryz.prog w = .ok (.enter f args) w) ∧ ∀ (c : UInt8) (w : World), Calls Tryz.prog f #[.int .u8 c.toNat] w fun e w' => e = .returned (.bool (p c)) ∧ w = w'
theorem fM {α : Type} (p : α → Bool) (l : List α) (k : Nat) (hk : k < l.length) : (l.take (k + 1)).all p = ((l.take k).all p && p l[k]) := by
 rw [List.take_succ_eq_append_getElem hk, List.all_append]; simp
theorem fT (s : ByteArray) : (bs s).length = s.size := by unfold bs; exact Array.length_toList
theorem qi (f : Nat) (p : UInt8 → Bool) (most : Nat) (s : ByteArray) (w : World) (hf : EE f p) (hs : s.size ≤ maxLen) :
 Calls Tryz.prog 206 #[.string s, .int .i64 most, .func (.func f) #[] #[]] w fun e w' => e = .returned (.bool (gT p most s)) ∧ w = w' := by
 unfold maxLen at hs
 obtain ⟨r, hr⟩ : ∃ r, gT p most s = r := ⟨_, rfl⟩
 rw [hr]
 unfold gT at hr
 have hl := fT s
 obtain ⟨hen, hf⟩ := hf
 have HR := qh hr; have HL := qh hl; have HF := qh hf
 clear hr hl hf
 by_cases h1 : 1 ≤ s.size
 ·by_cases h2 : s.size ≤ most
  ·have g1 : ¬ (s.size : Int) < 1 := by omega
   have g2 : ¬ (most : Int) < (s.size : Int) := by omega
   have Cx : Hid (∀ b, (decide (1 ≤ s.size) && decide (s.size ≤ most) && b) = b) := qh fun b => by rw [decide_eq_true h1, decide_eq_true h2]; rfl
   rw [Cx.out] at HR
   clear h1 h2
   go_enter Tryz.func206, Tryz.ntmps206
   go_wp2
   go_loop [19] (fun i => ∃ k : Nat, k ≤ s.size ∧ i = .int .i64 k ∧ ((bs s).take k).all p = true) (fun i => s.size - (RowKit.intOf i).toNat)
   case atStart => exact ⟨0, by omega, rfl, rfl⟩
   case round =>
    obtain ⟨k, hk, rfl, aI⟩ := hrel
    have bf := qh aI
    clear aI
    by_cases hlt : k < s.size
    ·have cB : (k : Int) < (s.size : Int) := by omega
     have hkb : k < (bs s).length := by rw [HL.out]; exact hlt
     have aF := fM p (bs s) k hkb
     have hge : (bs s)[k] = s[k] := rfl
     have aS : p (bs s)[k] = false → r = false := fun h => by
      rw [← HR.out]
      cases ha : (bs s).all p with
      | false => rfl
      | true => rw [List.all_eq_true.1 ha _ (List.getElem_mem hkb)] at h; cases h
     rw [hge] at aF aS
     have ae := HF.out s[k] w
     obtain ⟨b, hb⟩ : ∃ b, p s[k] = b := ⟨_, rfl⟩
     rw [hb] at aF aS ae
     have bL := qh aF; have cu := qh aS; have HC := qh ae
     clear aF hge aS ae hb
     go_wp2_with fail
     refine HC.out.mono ?_
     rintro e w' ⟨rfl, rfl⟩
     cases b with
     | true =>
       go_wp2
       go_round
       case rel => exact ⟨k + 1, by omega, by go_num, by rw [bL.out, bf.out]; rfl⟩
       case measure => simp [RowKit.intOf]; omega
     | false =>
       obtain rfl := cu.out rfl
       go_wp2
       go_ret
       exact ⟨rfl, rfl⟩
    ·obtain rfl : k = s.size := by omega
     have hr1 : r = true := by
      rw [← HR.out]
      have := bf.out
      rwa [List.take_of_length_le (by rw [HL.out]; exact Nat.le_refl _)] at this
     subst hr1
     go_wp2
     go_ret
     exact ⟨rfl, rfl⟩
  ·have g1 : ¬ (s.size : Int) < 1 := by omega
   have g2 : (most : Int) < (s.size : Int) := by omega
   obtain rfl : r = false := by rw [← HR.out, decide_eq_false h2]; simp
   clear h1 h2
   go_enter Tryz.func206, Tryz.ntmps206
   go_wp2
   go_ret
   exact ⟨rfl, rfl⟩
 ·have g1 : (s.size : Int) < 1 := by omega
  obtain rfl : r = false := by rw [← HR.out, decide_eq_false h1]; rfl
  clear h1
  go_enter Tryz.func206, Tryz.ntmps206
  go_wp2
  go_ret
  exact ⟨rfl, rfl⟩
end Go.Proofs.YtmepaeahchiglaaGreatDoor
namespace Go.Proofs.YtmepaeahchiglaaGreatDoor
open Go.RowKit
theorem vM {w w' : World} (h : Below w.heap.size w w') (row : Option Nat) : w.grownBy w' row := ⟨h.os, h.tape, h.output, h.size, fun i hi _ => h.block i hi⟩
theorem own_below {w w' : World} {base : Nat} {e : TypeId} {size n : Nat} {v : Value} {xs : List Value} (h : w.ownsRow base e size v n xs) (hb : Below w.heap.size w w') : w'.ownsRow base e size v n xs :=
 h.kept (vM hb none) (by
  rcases h.2 with ⟨rfl, _⟩ | ⟨g, cap, cur, rfl, _⟩
  ·exact .inl rfl
  ·exact .inr (by simp [Value.ownBlock]))
theorem uS {w : World} {b b' : Nat} {e e' : TypeId} {s s' n n' : Nat} {v v' : Value} {xs xs' : List Value} (h : w.ownsRow b e s v n xs) (h' : w.ownsRow b' e' s' v' n' xs') (hne : e ≠ e') : v.ownBlock = none ∨ v.ownBlock ≠ v'.ownBlock := by
 rcases h.2 with ⟨rfl, _⟩ | ⟨g, cap, cur, rfl, _, hh, _⟩
 ·exact .inl rfl
 ·refine .inr ?_
  rcases h'.2 with ⟨rfl, _⟩ | ⟨g', cap', cur', rfl, _, hh', _⟩
  ·simp [Value.ownBlock]
  ·intro he
   have : g = g' := by simpa [Value.ownBlock] using he
   subst this
   rw [hh] at hh'; injection hh' with hh'; injection hh' with _ ht
   exact hne ht
section
variable {w w' : World} {base : Nat} {e1 e0 : TypeId} {v : Value} {gs : List (List Value)}
end
open Go.Lib
theorem eZ (w : World) (t : TypeId) (k : Nat) : (w.alloc (.cells #[] t)).ownsRow w.heap.size t k (.slice (some ⟨w.heap.size, 0, none⟩) 0 0) 0 [] :=
 ⟨by simp, .inr ⟨w.heap.size, 0, #[], rfl, Nat.le_refl _, heap_alloc_new w _, by omega, by omega, by simp, by simp⟩⟩
abbrev eP (x : fw) : List Value := [.string x.1, .int .u32 x.2.1, .int .u32 x.2.2]
abbrev ib (m : Mk) : List Value := [.string m.text, .int .u32 m.clear, .int .u32 m.set.1, .int .u32 m.set.2]
abbrev QI (m : Mk) : Value := .agg #[.string m.text, .int .u32 m.clear, .int .u32 m.set.1, .int .u32 m.set.2]
theorem BB (L : List fw) : ∀ u ∈ L.flatMap eP, u.oneCell' = true := fun u hu => by
 obtain ⟨x, _, hx⟩ := List.mem_flatMap.1 hu
 simp only [List.mem_cons, List.not_mem_nil, or_false] at hx
 rcases hx with rfl | rfl | rfl <;> rfl
theorem yt (L : List Mk) : ∀ u ∈ L.flatMap ib, u.oneCell' = true := fun u hu => by
 obtain ⟨x, _, hx⟩ := List.mem_flatMap.1 hu
 simp only [List.mem_cons, List.not_mem_nil, or_false] at hx
 rcases hx with rfl | rfl | rfl | rfl <;> rfl
theorem mE (L : List ByteArray) : ∀ u ∈ L.map Value.string, u.oneCell' = true := fun u hu => by
 obtain ⟨x, _, rfl⟩ := List.mem_map.1 hu
 rfl
theorem oP (A : Option Addr) (n c : Nat) (xs : List Value) (w : World) (K : Nat) (hr : Reads w K 1 A n xs) (h1 : ∀ u ∈ xs, u.oneCell' = true) (hK : K ≤ w.heap.size) (hn : n ≤ 100000) :
 Calls Tryz.prog 28 #[.slice A n c] w fun e w' => ∃ v, e = .returned v ∧ w'.ownsRow w.heap.size 9 1 v n xs ∧ Below w.heap.size w w' := by
 obtain ⟨i0, hi, hz0, hz1, hz2⟩ := info_parts (show (Tryz.prog.info? 9).map (fun i => (i.zero, i.size, i.bytes)) = some (some (.string ByteArray.empty), 1, 16) by kernel_rfl)
 have hl := hr.1
 have hnil := fun (W : World) (a : Option Addr) (n c : Nat) => Lib.run_eql_slice_nil (P := Tryz.prog) W 22 9 a n c 0 0 Tryz.underlying22
 rcases A with _ | ad
 ·have h0 : n = 0 := by
   rcases Nat.eq_zero_or_pos n with h | h
   ·exact h
   ·obtain ⟨_, h', _⟩ := hr.2 h; cases h'
  subst h0
  obtain rfl : xs = [] := List.eq_nil_of_length_eq_zero (by omega)
  clear hl
  go_enter Tryz.func28, Tryz.ntmps28
  go_wp2
  go_ret
  exact ⟨_, rfl, World.ownsRow_nil _ _ _ _, Below.refl _ _⟩
 ·have hown := eZ w 9 1
  have hr' := (hr.more hK).alloc (Nat.le_refl _) (.cells #[] 9)
  clear hl
  go_enter Tryz.func28, Tryz.ntmps28
  go_wp2_with (at_builtin; refine wpList_append_any _ rfl _ _ _ rfl w.heap.size 9 i0 (.string ByteArray.empty) 1 16 Tryz.underlying22 hi hz0 hz1 hz2 rfl (by decide) _ _ _ rfl hown w.heap.size _ _ _ xs rfl hr' h1 (by unfold maxLen; omega) (by omega) (by simp) ?_; intro v' w1 ai ag _)
  have hb1 : Below w.heap.size w w1 := ((Below.refl _ w).alloc (Nat.le_refl _) _).grown ag (by simp) (fun g hg => (hown.lt g hg).1)
  clear ag
  go_ret
  exact ⟨_, rfl, by simpa using ai, hb1⟩
theorem Eo (A : Option Addr) (n c : Nat) (xs : List Value) (w : World) (K : Nat) (hr : Reads w K 3 A n xs) (h1 : ∀ u ∈ xs, u.oneCell' = true) (hK : K ≤ w.heap.size) (hn : n ≤ 100000) :
 Calls Tryz.prog 212 #[.slice A n c] w fun e w' => ∃ v, e = .returned v ∧ w'.ownsRow w.heap.size 74 3 v n xs ∧ Below w.heap.size w w' := by
 obtain ⟨i0, hi, hz0, hz1, hz2⟩ := info_parts (show (Tryz.prog.info? 74).map (fun i => (i.zero, i.size, i.bytes)) = some (some (.agg #[.string ByteArray.empty, .int .u32 0, .int .u32 0]), 3, 24) by kernel_rfl)
 have hl := hr.1
 have hnil := fun (W : World) (a : Option Addr) (n c : Nat) => Lib.run_eql_slice_nil (P := Tryz.prog) W 23 74 a n c 0 0 Tryz.underlying23
 rcases A with _ | ad
 ·have h0 : n = 0 := by
   rcases Nat.eq_zero_or_pos n with h | h
   ·exact h
   ·obtain ⟨_, h', _⟩ := hr.2 h; cases h'
  subst h0
  obtain rfl : xs = [] := List.eq_nil_of_length_eq_zero (by omega)
  clear hl
  go_enter Tryz.func212, Tryz.ntmps212
  go_wp2
  go_ret
  exact ⟨_, rfl, World.ownsRow_nil _ _ _ _, Below.refl _ _⟩
 ·have hown := eZ w 74 3
  have hr' := (hr.more hK).alloc (Nat.le_refl _) (.cells #[] 74)
  clear hl
  go_enter Tryz.func212, Tryz.ntmps212
  go_wp2_with (at_builtin; refine wpList_append_any _ rfl _ _ _ rfl w.heap.size 74 i0 (.agg #[.string ByteArray.empty, .int .u32 0, .int .u32 0]) 3 24 Tryz.underlying23 hi hz0 hz1 hz2 rfl (by decide) _ _ _ rfl hown w.heap.size _ _ _ xs rfl hr' h1 (by unfold maxLen; omega) (by omega) (by simp) ?_; intro v' w1 ai ag _)
  have hb1 : Below w.heap.size w w1 := ((Below.refl _ w).alloc (Nat.le_refl _) _).grown ag (by simp) (fun g hg => (hown.lt g hg).1)
  clear ag
  go_ret
  exact ⟨_, rfl, by simpa using ai, hb1⟩
theorem Ep (A : Option Addr) (n c : Nat) (xs : List Value) (w : World) (K : Nat) (hr : Reads w K 4 A n xs) (h1 : ∀ u ∈ xs, u.oneCell' = true) (hK : K ≤ w.heap.size) (hn : n ≤ 100000) :
 Calls Tryz.prog 176 #[.slice A n c] w fun e w' => ∃ v, e = .returned v ∧ w'.ownsRow w.heap.size 76 4 v n xs ∧ Below w.heap.size w w' := by
 obtain ⟨i0, hi, hz0, hz1, hz2⟩ := info_parts (show (Tryz.prog.info? 76).map (fun i => (i.zero, i.size, i.bytes)) = some (some (.agg #[.string ByteArray.empty, .int .u32 0, .int .u32 0, .int .u32 0]), 4, 32) by kernel_rfl)
 have hl := hr.1
 have hnil := fun (W : World) (a : Option Addr) (n c : Nat) => Lib.run_eql_slice_nil (P := Tryz.prog) W 24 76 a n c 0 0 Tryz.underlying24
 rcases A with _ | ad
 ·have h0 : n = 0 := by
   rcases Nat.eq_zero_or_pos n with h | h
   ·exact h
   ·obtain ⟨_, h', _⟩ := hr.2 h; cases h'
  subst h0
  obtain rfl : xs = [] := List.eq_nil_of_length_eq_zero (by omega)
  clear hl
  go_enter Tryz.func176, Tryz.ntmps176
  go_wp2
  go_ret
  exact ⟨_, rfl, World.ownsRow_nil _ _ _ _, Below.refl _ _⟩
 ·have hown := eZ w 76 4
  have hr' := (hr.more hK).alloc (Nat.le_refl _) (.cells #[] 76)
  clear hl
  go_enter Tryz.func176, Tryz.ntmps176
  go_wp2_with (at_builtin; refine wpList_append_any _ rfl _ _ _ rfl w.heap.size 76 i0 (.agg #[.string ByteArray.empty, .int .u32 0, .int .u32 0, .int .u32 0]) 4 32 Tryz.underlying24 hi hz0 hz1 hz2 rfl (by decide) _ _ _ rfl hown w.heap.size _ _ _ xs rfl hr' h1 (by unfold maxLen; omega) (by omega) (by simp) ?_; intro v' w1 ai ag _)
  have hb1 : Below w.heap.size w w1 := ((Below.refl _ w).alloc (Nat.le_refl _) _).grown ag (by simp) (fun g hg => (hown.lt g hg).1)
  clear ag
  go_ret
  exact ⟨_, rfl, by simpa using ai, hb1⟩
def Co (L : List fw) (f : ByteArray → Option Int) : Prop := ∀ s, (f s).isSome = fH L (bs s) ∧ ∀ i, f s = some i → ∃ (k : Nat) (x : fw), i = k ∧ L[k]? = some x ∧ x.1 = s ∧ sW L (bs s) = x.2
def Cn (L : List fw) (f : Snd → Option Int) : Prop := ∀ s, (f s).isSome = lI L s
structure Fz (fs : List ByteArray) (L : List fw) : Prop where
 f24 : fs.length ≤ 24
 O3 : ∀ s ∈ fs, s.size ≤ 16
 l256 : L.length ≤ 256
 sym : ∀ x ∈ L, iO x.1 = true ∧ dJ fs.length x.2 = true ∧ ok32 x.2
 nd : (L.map fun x => bs x.1).Nodup
def gU (w : World) (S : Nat → Prop) (g : Nat) (fs : List ByteArray) (L : List fw) : Prop := ∃ A c v b1 b2 b3 f1 f2 f3,
 (Blk w g 265 #[.slice A fs.length c, .map (some b1), v, .map (some b2), .map (some b3)] ∧ S g) ∧
 (w.ownsRow 0 9 1 (.slice A fs.length c) fs.length (fs.map Value.string) ∧ ∀ b, (Value.slice A fs.length c).ownBlock = some b → S b) ∧
 (w.ownsRow 0 74 3 v L.length (L.flatMap eP) ∧ ∀ b, v.ownBlock = some b → S b) ∧
 (bC w b1 fs.length f1 ∧ S b1) ∧ (bC w b2 L.length f2 ∧ S b2 ∧ Co L f2) ∧ (bI w b3 L.length f3 ∧ S b3 ∧ Cn L f3) ∧ (b1 ≠ b2 ∧ b1 ≠ b3 ∧ b2 ≠ b3) ∧ Fz fs L
theorem bC.dQ {S : Nat → Prop} {w w' : World} {b n : Nat} {f : ByteArray → Option Int} (h : bC w b n f) (hc : bA S w w') (hb : ¬ S b) : bC w' b n f := by
 obtain ⟨D, ⟨es, clock, h1, h3⟩, h2⟩ := h
 exact ⟨D, ⟨es, clock, (hc.block b (Array.getElem?_eq_some_iff.1 h1).1 hb).trans h1, h3⟩, h2⟩
theorem gU.lt {w : World} {S : Nat → Prop} {g : Nat} {fs : List ByteArray} {L : List fw} (h : gU w S g fs L) : g < w.heap.size ∧ S g := by
 obtain ⟨A, c, v, b1, b2, b3, f1, f2, f3, ⟨h1, h2⟩, _⟩ := h
 exact ⟨h1.lt, h2⟩
theorem gU.ok {w : World} {S : Nat → Prop} {g : Nat} {fs : List ByteArray} {L : List fw} (h : gU w S g fs L) : Fz fs L := by
 obtain ⟨A, c, v, b1, b2, b3, f1, f2, f3, _, _, _, _, _, _, _, h⟩ := h
 exact h
theorem gU.mono {w : World} {S T : Nat → Prop} {g : Nat} {fs : List ByteArray} {L : List fw} (h : gU w S g fs L) (hs : ∀ b, S b → T b) : gU w T g fs L := by
 obtain ⟨A, c, v, b1, b2, b3, f1, f2, f3, ⟨h1, h2⟩, ⟨h3, h4⟩, ⟨h5, h6⟩, ⟨h7, h8⟩, ⟨h9, h10, h11⟩, ⟨h12, h13, h14⟩, h15, h16⟩ := h
 exact ⟨A, c, v, b1, b2, b3, f1, f2, f3, ⟨h1, hs _ h2⟩, ⟨h3, fun b hb => hs _ (h4 b hb)⟩, ⟨h5, fun b hb => hs _ (h6 b hb)⟩, ⟨h7, hs _ h8⟩, ⟨h9, hs _ h10, h11⟩, ⟨h12, hs _ h13, h14⟩, h15, h16⟩
theorem gU.aB {w w' : World} {S T : Nat → Prop} {g : Nat} {fs : List ByteArray} {L : List fw} (h : gU w S g fs L) (hc : bA T w w') (ht : ∀ b, S b → ¬ T b) : gU w' S g fs L := by
 obtain ⟨A, c, v, b1, b2, b3, f1, f2, f3, ⟨h1, h2⟩, ⟨h3, h4⟩, ⟨h5, h6⟩, ⟨h7, h8⟩, ⟨h9, h10, h11⟩, ⟨h12, h13, h14⟩, h15, h16⟩ := h
 exact ⟨A, c, v, b1, b2, b3, f1, f2, f3, ⟨h1.dQ hc (ht _ h2), h2⟩, ⟨bH h3 hc (fun k hk => ht _ (h4 k hk)), h4⟩, ⟨bH h5 hc (fun k hk => ht _ (h6 k hk)), h6⟩, ⟨h7.dQ hc (ht _ h8), h8⟩, ⟨h9.dQ hc (ht _ h10), h10, h11⟩, ⟨h12.dQ hc (ht _ h13), h13, h14⟩, h15, h16⟩
theorem gU.below {w w' : World} {S : Nat → Prop} {g : Nat} {fs : List ByteArray} {L : List fw} (h : gU w S g fs L) (hb : Below w.heap.size w w') : gU w' S g fs L :=
 h.aB (T := fun _ => False) (.of_below hb) (fun _ _ h => h)
theorem kS {w : World} {B n i : Nat} {A : Option Addr} {l : List fw} (h : Reads w B 3 A n (l.flatMap eP)) (hi : i < l.length) :
 ∃ ad, A = some ad ∧ ad.block < B ∧ w.cell? (ad.add (i * 3)) = some (.string l[i].1) ∧ w.cell? ⟨(ad.add (i * 3)).block, (ad.add (i * 3)).off + 1, none⟩ = some (.int .u32 l[i].2.1) ∧ w.cell? ⟨(ad.add (i * 3)).block, (ad.add (i * 3)).off + 2, none⟩ = some (.int .u32 l[i].2.2) := by
 obtain ⟨ad, e, hb, hc⟩ := h.row (fun _ => rfl) (by decide) hi
 exact ⟨ad, e, hb, hc 0 _ rfl, by rw [← aH ad (i * 3) 0]; exact hc 1 _ rfl, by rw [← aH ad (i * 3) 1]; exact hc 2 _ rfl⟩
theorem lD {w : World} {B n i : Nat} {A : Option Addr} {l : List Mk} (h : Reads w B 4 A n (l.flatMap ib)) (hi : i < l.length) :
 ∃ ad, A = some ad ∧ ad.block < B ∧ w.cell? (ad.add (i * 4)) = some (.string l[i].text) ∧ w.cell? ⟨(ad.add (i * 4)).block, (ad.add (i * 4)).off + 1, none⟩ = some (.int .u32 l[i].clear) ∧ w.cell? ⟨(ad.add (i * 4)).block, (ad.add (i * 4)).off + 2, none⟩ = some (.int .u32 l[i].set.1) ∧ w.cell? ⟨(ad.add (i * 4)).block, (ad.add (i * 4)).off + 3, none⟩ = some (.int .u32 l[i].set.2) := by
 obtain ⟨ad, e, hb, hc⟩ := h.row (fun _ => rfl) (by decide) hi
 exact ⟨ad, e, hb, hc 0 _ rfl, by rw [← aH ad (i * 4) 0]; exact hc 1 _ rfl, by rw [← aH ad (i * 4) 1]; exact hc 2 _ rfl, by rw [← aH ad (i * 4) 2]; exact hc 3 _ rfl⟩
theorem gU.parts {w : World} {S : Nat → Prop} {g : Nat} {fs : List ByteArray} {L : List fw} (h : gU w S g fs L) : ∃ A c A2 c2 b1 b2 b3 f2 f3,
 Blk w g 265 #[.slice A fs.length c, .map (some b1), .slice A2 L.length c2, .map (some b2), .map (some b3)] ∧ Reads w w.heap.size 1 A fs.length (fs.map Value.string) ∧ Reads w w.heap.size 3 A2 L.length (L.flatMap eP) ∧ (fs.length ≤ c ∧ c ≤ maxLen ∧ L.length ≤ c2 ∧ c2 ≤ maxLen) ∧
 bC w b2 L.length f2 ∧ Co L f2 ∧ bI w b3 L.length f3 ∧ Cn L f3 := by
 obtain ⟨A, c, v, b1, b2, b3, f1, f2, f3, ⟨h1, h2⟩, ⟨h3, h4⟩, ⟨h5, h6⟩, ⟨h7, h8⟩, ⟨h9, h10, h11⟩, ⟨h12, h13, h14⟩, h15, h16⟩ := h
 obtain ⟨A2, c2, rfl, e1, e2⟩ := ownsRow_form h5
 obtain ⟨A3, c3, e3, e4, e5⟩ := ownsRow_form h3
 simp only [Value.slice.injEq, true_and] at e3
 obtain ⟨rfl, rfl⟩ := e3
 exact ⟨A, c, A2, c2, b1, b2, b3, f2, f3, h1, Reads.of_own h3, Reads.of_own h5, ⟨e4, e5, e1, e2⟩, h9, h11, h12, h14⟩
theorem vo {w : World} {S : Nat → Prop} {g : Nat} {fs : List ByteArray} {L : List fw} (h : gU w S g fs L) : Calls Tryz.prog 208 #[af g] w fun e w' => e = .returned (.bool true) ∧ w = w' := by
 obtain ⟨A, c, A2, c2, b1, b2, b3, f2, f3, h1, -⟩ := h.parts
 have c1 := h1.cell 1
 simp only [gq2] at c1
 have hnil := fun (W : World) (r : Option Nat) => run_neq_map_nil (P := Tryz.prog) W 240 9 3 r Tryz.underlying240
 clear h1 h
 go_enter Tryz.func208, Tryz.ntmps208
 go_wp2
 go_ret
 exact ⟨rfl, rfl⟩
section
variable {α : Type} {P : World → Nat → α → List Value → Prop} {w w' : World} {B B' k : Nat}
def lW (P : World → Nat → α → List Value → Prop) (w : World) (B : Nat) : List α → List Value → Prop
 | [], xs => xs = []
 | x :: l, xs => ∃ c1 c2, xs = c1 ++ c2 ∧ P w B x c1 ∧ lW P w B l c2
theorem lW.imp {P' : World → Nat → α → List Value → Prop} : ∀ {l : List α} {xs : List Value}, lW P w B l xs → (∀ x ∈ l, ∀ cs, P w B x cs → P' w' B' x cs) → lW P' w' B' l xs
 | [], _, h, _ => h
 | x :: _, _, ⟨c1, c2, e, h1, h2⟩, hi => ⟨c1, c2, e, hi x List.mem_cons_self c1 h1, lW.imp h2 fun y hy => hi y (List.mem_cons_of_mem _ hy)⟩
theorem lW.at_ (hk : ∀ x cs, P w B x cs → cs.length = k) : ∀ {l : List α} {xs : List Value}, lW P w B l xs → ∀ (i : Nat) (hi : i < l.length), ∃ cs, P w B l[i] cs ∧ ∀ j u, cs[j]? = some u → xs[i * k + j]? = some u
 | [], _, _, i, hi => absurd hi (Nat.not_lt_zero _)
 | x :: l, _, ⟨c1, c2, e, h1, h2⟩, 0, _ => ⟨c1, h1, fun j u hu => by
   rw [e, Nat.zero_mul, Nat.zero_add, List.getElem?_append_left (List.getElem?_eq_some_iff.1 hu).1]
   exact hu⟩
 | x :: l, _, ⟨c1, c2, e, h1, h2⟩, i + 1, hi => by
   obtain ⟨cs, h3, h4⟩ := lW.at_ hk h2 i (Nat.lt_of_succ_lt_succ hi)
   refine ⟨cs, h3, fun j u hu => ?_⟩
   have hl := hk x c1 h1
   rw [e, List.getElem?_append_right (by rw [hl, Nat.succ_mul]; omega), hl, show (i + 1) * k + j - k = i * k + j by rw [Nat.succ_mul]; omega]
   exact h4 j u hu
def aP (P : World → Nat → α → List Value → Prop) (k : Nat) (w : World) (B : Nat) (l : List α) (v : Value) : Prop :=
 ∃ A c xs, v = .slice A l.length c ∧ (l.length ≤ c ∧ c ≤ maxLen) ∧ Reads w B k A l.length xs ∧ lW P w B l xs
theorem aP.imp {P' : World → Nat → α → List Value → Prop} {l : List α} {v : Value} (h : aP P k w B l v) (hr : ∀ A n xs, Reads w B k A n xs → Reads w' B' k A n xs) (hi : ∀ x ∈ l, ∀ cs, P w B x cs → P' w' B' x cs) : aP P' k w' B' l v := by
 obtain ⟨A, c, xs, e, h1, h2, h3⟩ := h
 exact ⟨A, c, xs, e, h1, hr _ _ _ h2, h3.imp hi⟩
theorem aW {A : Option Addr} {n c : Nat} {l : List α} (hk : ∀ x cs, P w B x cs → cs.length = k) (h : aP P k w B l (.slice A n c)) {i : Nat} (hi : i < l.length) :
 ∃ ad cs, A = some ad ∧ ad.block < B ∧ P w B l[i] cs ∧ ∀ j u, cs[j]? = some u → w.cell? (ad.add (i * k + j)) = some u := by
 obtain ⟨A', c', xs, e, h1, h2, h3⟩ := h
 injection e with e1 e2 e3
 subst e1
 obtain ⟨ad, e, hb, hc⟩ := h2.2 (by omega)
 obtain ⟨cs, h4, h5⟩ := h3.at_ hk i hi
 exact ⟨ad, cs, e, hb, h4, fun j u hu => hc _ _ (h5 j u hu)⟩
theorem aP.len {A : Option Addr} {n c : Nat} {l : List α} (h : aP P k w B l (.slice A n c)) : n = l.length ∧ n ≤ c ∧ c ≤ maxLen := by
 obtain ⟨A', c', xs, e, h1, h2, h3⟩ := h
 injection e with e1 e2 e3
 subst e1; subst e2; subst e3
 exact ⟨rfl, h1⟩
theorem aP.form {l : List α} {v : Value} (h : aP P k w B l v) : ∃ A n c, v = .slice A n c ∧ n = l.length := by
 obtain ⟨A, c, xs, e, _⟩ := h
 exact ⟨A, _, c, e, rfl⟩
end
abbrev Nd := Int × ByteArray
structure Fm where
 has : Bool
 w : List Snd
structure En where
 bX : ByteArray
 bU : List Fm
structure Pj where
 aK : List ByteArray
 aG : List fw
 marks : List Mk
 tree : List Nd
 au : List Lw
 on : List (List Int)
 aA : List Fm
 entries : List En
def kC {α : Type} (f : α → List Value) (_ : World) (_ : Nat) (x : α) (cs : List Value) : Prop := cs = f x
abbrev Pd := kC fun s : ByteArray => [Value.string s]
abbrev Pk := kC eP
abbrev Pm := kC ib
abbrev Ho := kC fun x : Nd => [Value.int .i64 x.1, Value.string x.2]
abbrev Pn := kC fun k : Int => [Value.int .i64 k]
abbrev TP := kC gL
theorem uB {α : Type} {f : α → List Value} {w : World} {B : Nat} : ∀ {l : List α} {xs : List Value}, lW (kC f) w B l xs → xs = l.flatMap f
 | [], _, h => h
 | x :: l, _, ⟨c1, c2, e, h1, h2⟩ => by
   rw [e, show c1 = f x from h1, uB h2, List.flatMap_cons]
theorem vT {α : Type} {f : α → List Value} {w : World} {B : Nat} : ∀ (l : List α), lW (kC f) w B l (l.flatMap f)
 | [] => rfl
 | x :: l => ⟨f x, l.flatMap f, List.flatMap_cons, rfl, vT l⟩
theorem aP.flat {α : Type} {f : α → List Value} {k : Nat} {w : World} {B : Nat} {l : List α} {v : Value} (h : aP (kC f) k w B l v) : ∃ A c, v = .slice A l.length c ∧ (l.length ≤ c ∧ c ≤ maxLen) ∧ Reads w B k A l.length (l.flatMap f) := by
 obtain ⟨A, c, xs, e, h1, h2, h3⟩ := h
 rw [uB h3] at h2
 exact ⟨A, c, e, h1, h2⟩
theorem flatMap_one {α β : Type} (f : α → β) (l : List α) : (l.flatMap fun x => [f x]) = l.map f := by
 induction l with
 | nil => rfl
 | cons x l ih => rw [List.flatMap_cons, ih]; rfl
def si (w : World) (B : Nat) (l : List Int) (cs : List Value) : Prop := ∃ v, cs = [v] ∧ aP Pn 1 w B l v
def bn (w : World) (B : Nat) (f : Fm) (cs : List Value) : Prop := ∃ v, cs = [.bool f.has, v] ∧ aP TP 2 w B f.w v
def tN (w : World) (B : Nat) (x : En) (cs : List Value) : Prop := ∃ v, cs = [.string x.bX, v] ∧ aP bn 2 w B x.bU v
def dx (w : World) (B : Nat) (p : Pj) (cs : List Value) : Prop := ∃ v1 v2 v3 v4 v5 v6 v7 v8, cs = [v1, v2, v3, v4, v5, v6, v7, v8] ∧
 aP Pd 1 w B p.aK v1 ∧ aP Pk 3 w B p.aG v2 ∧ aP Pm 4 w B p.marks v3 ∧ aP Ho 2 w B p.tree v4 ∧ aP fI 18 w B p.au v5 ∧ aP si 1 w B p.on v6 ∧ aP bn 2 w B p.aA v7 ∧ aP tN 2 w B p.entries v8
section
variable {w w' : World} {B : Nat} (hk : ∀ p : Addr, p.block < B → w'.cell? p = w.cell? p)
include hk
theorem aP.plain {α : Type} {P : World → Nat → α → List Value → Prop} {k : Nat} {l : List α} {v : Value} (h : aP P k w B l v) (hi : ∀ x cs, P w B x cs → P w' B x cs) : aP P k w' B l v :=
 h.imp (fun _ _ _ hr => hr.keep hk) fun x _ cs => hi x cs
theorem si.keep {l : List Int} {cs : List Value} (h : si w B l cs) : si w' B l cs := by
 obtain ⟨v, e, h⟩ := h
 exact ⟨v, e, aP.plain hk h fun _ _ h => h⟩
theorem bn.keep {f : Fm} {cs : List Value} (h : bn w B f cs) : bn w' B f cs := by
 obtain ⟨v, e, h⟩ := h
 exact ⟨v, e, aP.plain hk h fun _ _ h => h⟩
theorem tN.keep {x : En} {cs : List Value} (h : tN w B x cs) : tN w' B x cs := by
 obtain ⟨v, e, h⟩ := h
 exact ⟨v, e, aP.plain hk h fun _ _ h => bn.keep hk h⟩
theorem dx.keep {p : Pj} {cs : List Value} (h : dx w B p cs) : dx w' B p cs := by
 obtain ⟨v1, v2, v3, v4, v5, v6, v7, v8, e, h1, h2, h3, h4, h5, h6, h7, h8⟩ := h
 exact ⟨v1, v2, v3, v4, v5, v6, v7, v8, e, aP.plain hk h1 fun _ _ h => h, aP.plain hk h2 fun _ _ h => h, aP.plain hk h3 fun _ _ h => h, aP.plain hk h4 fun _ _ h => h, aP.plain hk h5 fun _ _ h => h.keep hk, aP.plain hk h6 fun _ _ h => si.keep hk h, aP.plain hk h7 fun _ _ h => bn.keep hk h, aP.plain hk h8 fun _ _ h => tN.keep hk h⟩
end
end Go.Proofs.YtmepaeahchiglaaGreatDoor
