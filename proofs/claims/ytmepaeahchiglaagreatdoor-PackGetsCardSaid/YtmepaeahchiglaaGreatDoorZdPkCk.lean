/-
 layer 43: Check of patterns. Conditions: a pattern that can be read.
-/
import Derived.Test.YtmepaeahchiglaaGreatDoorZdaf
import Derived.WalkSmall
set_option maxRecDepth 20000
set_option maxHeartbeats 8000000
namespace Go.Proofs.YtmepaeahchiglaaGreatDoor
open Go.RowKit Go.Shelf Go.Lib
attribute [local go_sem] Oper.semAt_some
theorem wU (l : List Pt) : fK l.reverse = fK l := by
 induction l with
 | nil => rfl
 | cons p l ih => rw [List.reverse_cons, gM, ih, dS, dS, iy, Bool.and_true, Bool.and_comm]
theorem sF (l : List Pt) : ptSizes l.reverse = ptSizes l := by
 induction l with
 | nil => rfl
 | cons p l ih => rw [List.reverse_cons, eY, ih, aR, aR, bO, Nat.add_zero, Nat.add_comm]
def qJ (n : Nat) (st : List Pt) : Bool := fK st && decide (n + ptSizes st ≤ 40)
theorem IV {n : Nat} (h : n ≤ 40) : qJ n [] = true := by
 unfold qJ; rw [iy, bO, decide_eq_true (by omega)]; rfl
theorem FZ {st : List Pt} (h : st ≠ []) : qJ 40 st = false := by
 unfold qJ
 have : 0 < ptSizes st := by
  have := jV st
  have := List.length_pos_iff.2 h
  omega
 rw [decide_eq_false (by omega), Bool.and_false]
theorem IW {n : Nat} {st : List Pt} {k : Int} {s : Snd} {neg : Bool} {lo hi : Int} {l : List Pt} (h : bu k s neg lo hi l.length = false) : qJ n (st ++ [.mk k s neg lo hi l]) = false := by
 unfold qJ
 rw [gM, dS, sZ, h]; simp
theorem FY {n : Nat} {st : List Pt} {k : Int} {s : Snd} {neg : Bool} {lo hi : Int} {l : List Pt} (h : bu k s neg lo hi l.length = true) : qJ n (st ++ [.mk k s neg lo hi l]) = qJ (n + 1) (st ++ (l.take 41).reverse) := by
 unfold qJ
 rw [gM, dS, sZ, h, iy, Bool.true_and, Bool.and_true, eY, aR, dK, bO, gM, wU, eY, sF]
 rcases Nat.lt_or_ge 41 l.length with h41 | h41
 ·have h1 := jV l
  have h2 := jV (l.take 41)
  rw [List.length_take] at h2
  rw [decide_eq_false (by omega), decide_eq_false (by omega), Bool.and_false, Bool.and_false]
 ·rw [List.take_of_length_le h41]
  congr 1
  rw [decide_eq_decide]; omega
theorem Dn (p : Pt) : eF p = qJ 0 [p] := by
 unfold eF qJ
 rw [dS, iy, aR, bO, Bool.and_true, Nat.zero_add, Nat.add_zero]
theorem PatsC.append {w : World} {B : Nat} : ∀ {a b : List Pt} {xs ys : List Value}, PatsC w B a xs → PatsC w B b ys → PatsC w B (a ++ b) (xs ++ ys)
 | [], b, xs, ys, h1, h2 => by rw [dZ] at h1; subst h1; exact h2
 | p :: a, b, xs, ys, h1, h2 => by
   rw [df] at h1
   obtain ⟨c1, c2, rfl, h3, h4⟩ := h1
   rw [List.cons_append, df]
   exact ⟨c1, c2 ++ ys, by rw [List.append_assoc], h3, h4.append h2⟩
theorem PatsC.one {w : World} {B : Nat} {p : Pt} {cs : List Value} (h : PatC w B p cs) : PatsC w B [p] cs := by
 rw [df]
 exact ⟨cs, [], by simp, h, dZ.2 rfl⟩
theorem PatsC.len {w : World} {B : Nat} : ∀ {a : List Pt} {xs : List Value}, PatsC w B a xs → xs.length = a.length * 7
 | [], xs, h => by rw [dZ] at h; subst h; rfl
 | p :: a, xs, h => by
   rw [df] at h
   obtain ⟨c1, c2, rfl, h1, h2⟩ := h
   rw [List.length_append, h1.len, h2.len, List.length_cons]; omega
theorem PatsC.split {w : World} {B : Nat} : ∀ {a b : List Pt} {xs : List Value}, PatsC w B (a ++ b) xs → ∃ ys zs, xs = ys ++ zs ∧ PatsC w B a ys ∧ PatsC w B b zs
 | [], b, xs, h => ⟨[], xs, rfl, dZ.2 rfl, h⟩
 | p :: a, b, xs, h => by
   rw [List.cons_append, df] at h
   obtain ⟨c1, c2, rfl, h1, h2⟩ := h
   obtain ⟨ys, zs, rfl, h3, h4⟩ := PatsC.split h2
   exact ⟨c1 ++ ys, zs, by rw [List.append_assoc], df.2 ⟨c1, ys, rfl, h1, h3⟩, h4⟩
structure ky (w wr : World) (B b : Nat) (st : List Pt) (v : Value) (xs : List Value) : Prop where
 box : Blk wr b 56 #[v]
 row : wr.ownsRow w.heap.size 58 7 v st.length xs
 Ja : PatsC wr B st xs
 below : Below w.heap.size w wr
 hb : w.heap.size ≤ b
 hB : B ≤ w.heap.size
theorem ky.later {w wr w' : World} {B b : Nat} {st : List Pt} {v : Value} {xs : List Value} (h : ky w wr B b st v xs) (hb : Below wr.heap.size wr w') : ky w w' B b st v xs :=
 ⟨h.box.below hb h.box.lt, own_below' h.row hb, h.Ja.below (hb.mono (Nat.le_trans h.hB h.below.size)), h.below.trans (hb.mono h.below.size), h.hb, h.hB⟩
theorem ek {w w1 : World} {g : Nat} (h : w.grownBy w1 (some g)) (o : Nat) (u : Value) : w.grownBy (w1.setCell ⟨g, o, none⟩ u) (some g) :=
 ⟨h.os, h.tape, h.output, by have := h.size; simpa [World.setCell] using this, fun k hk hne => (Below.heap_setCell w1 ⟨g, o, none⟩ u k (by simpa using hne)).trans (h.block k hk hne)⟩
theorem ky.pop {w wr : World} {B b r cap : Nat} {st' : List Pt} {x : Pt} {ys zs : List Value} (h : ky w wr B b (st' ++ [x]) (.slice (some ⟨r, 0, none⟩) (st'.length + 1) cap) (ys ++ zs)) (hp : PatsC wr B st' ys) (o : Obj) :
 ky w ((wr.setCell ⟨b, 0, none⟩ (.slice (some ⟨r, 0, none⟩) st'.length cap)).alloc o) B b st' (.slice (some ⟨r, 0, none⟩) st'.length cap) ys := by
 have hrow := h.row
 rw [List.length_append, List.length_singleton] at hrow
 have hrb : r ≠ b := fun e => own_blk_ne hrow h.box (by decide) (by rw [← e]; rfl)
 have h1 := ownsRow_pop hp.len hrow
 have dV := (h.below.setCell (p := ⟨b, 0, none⟩) h.hb (.slice (some ⟨r, 0, none⟩) st'.length cap)).alloc (by have := h.below.size; simp [World.setCell]; exact this) o
 refine ⟨?_, ?_, ?_, dV, h.hb, h.hB⟩
 ·have := (h.box.set_ 0 (.slice (some ⟨r, 0, none⟩) st'.length cap)).alloc o
  simpa using this
 ·refine World.ownsRow.alloc (h1.kept (ek (World.grownBy.refl wr (some b)) 0 (.slice (some ⟨r, 0, none⟩) st'.length cap)) (.inr ?_)) o
  intro e
  exact hrb (by simpa [Value.ownBlock] using e)
 ·have hB1 := h.hB
  have hb1 := h.hb
  have hbl := h.box.lt
  refine hp.keep (fun p hp' => ?_) _ _
  rw [World.cell?_alloc_lt _ o p (by simp [World.setCell]; omega)]
  exact World.cell?_setCell_other wr _ p _ (fun e => by subst e; simp at hp'; omega)
theorem ky.turn {w wr w' : World} {B b B0 : Nat} {st : List Pt} {v : Value} {xs : List Value} {mine : Nat → Prop} {row : Option Nat} (h : ky w wr B b st v xs) (hg : wr.grownBy w' row) (hr : ∀ r, row = some r → mine r ∨ (B0 ≤ r ∧ ∃ o : Obj, wr.heap[r]? = some o ∧ o.isCells = false)) (hm : ∀ r, ¬ mine r) (hB0 : w.heap.size ≤ B0) : ky w w' B b st v xs := by
 have hlow : ∀ r, row = some r → w.heap.size ≤ r := fun r e => by
  rcases hr r e with h1 | h1
  ·exact absurd h1 (hm r)
  ·omega
 exact ⟨h.box.turn hg hr (hm _), Gz h.row hg hr (fun r hr' => absurd hr' (hm r)), h.Ja.below (((Below.refl _ wr).grown hg h.below.size hlow).mono h.hB), h.below.grown hg h.below.size hlow, h.hb, h.hB⟩
theorem ky.alloc {w wr : World} {B b : Nat} {st : List Pt} {v : Value} {xs : List Value} (h : ky w wr B b st v xs) (o : Obj) : ky w (wr.alloc o) B b st v xs := h.later ((Below.refl _ _).alloc (Nat.le_refl _) _)
theorem Reads.pre {w : World} {B k n m : Nat} {A : Option Addr} {xs : List Value} (h : Reads w B k A n xs) (hm : m ≤ n) : Reads w B k A m (xs.take (m * k)) := by
 have hl := h.1
 have hmk : m * k ≤ n * k := Nat.mul_le_mul_right _ hm
 refine ⟨by rw [List.length_take]; omega, fun h0 => ?_⟩
 obtain ⟨ad, e, hb, hc⟩ := h.2 (by omega)
 refine ⟨ad, e, hb, fun j u hu => hc j u ?_⟩
 rw [List.getElem?_take] at hu
 split at hu
 ·exact hu
 ·cases hu
theorem kD.put {A : Option Addr} {n c b B : Nat} {xs : List Value} {W : World} {l : Nat} {o : Obj} (o' : Obj) (h : kD A n c b B xs W) (hl : W.heap[l]? = some o) (hB : B ≤ l) (ho : o.isCells = false) : kD A n c b B xs (W.putObj l o') :=
 ⟨L8 h.1 hl ho, h.2.below (yG hB hl)⟩
theorem pg {F : Fence} {nf : Nat} {P : Program} (w : World) {ops : Array Oper} {o : Oper} {a : Act} {K : Act → World → Prop} {Q : Exit → Act → World → Prop} {E : Prop} (hgd : o.guard = none) (s x : Operand) (t : TypeId)
 (ho : o.op = .call { callee := .builtin .append, args := #[s, x], argTypes := #[t, t] })
 (base : Nat) (e : TypeId) (i : TypeInfo) (z : Value) (size bytes : Nat) (ht : P.underlying t = some (.slice e)) (hi : P.info? e = some i) (hz : i.zero = some z)
 (hsize : i.size = size) (hby : i.bytes = bytes) (hzs : z.cells.size = size) (hsz : 0 < size)
 (v : Value) (n : Nat) (xs : List Value) (hs : a.eval s = v) (hown : w.ownsRow base e size v n xs)
 (B : Nat) (A : Option Addr) (m c : Nat) (news : List Value) (hx : a.eval x = .slice A m c) (hr : Reads w B size A m news) (h1 : ∀ u ∈ news, u.oneCell' = true)
 (h63 : n + m ≤ maxLen) (hbytes : (n + m) * bytes ≤ 140737488355328) (hbase : base ≤ w.heap.size)
 (h : ∀ v' w', w'.ownsRow base e size v' (n + m) (xs ++ news) → w.grownBy w' v.ownBlock → (v'.ownBlock = v.ownBlock ∨ v'.ownBlock = some w.heap.size) → K (a.put o.dst v') w') :
 if Region.wanted o (yielded ops a.tmps) = true then Oper.wpIn F nf P o a w K Q else E := by
 have hw : Region.wanted o (yielded ops a.tmps) = true := by simp [Region.wanted, hgd]
 rw [if_pos hw]
 obtain ⟨v', w', hrun, h2, h3, h4⟩ := run_append_any (P := P) w base t o.type e i z size bytes ht hi hz hsize hby hzs hsz v n xs hown B A m c news hr h1 h63 hbytes hbase
 unfold Oper.wpIn
 refine ⟨?_, ?_⟩
 ·simp [Oper.about, ho, resolve, Target.leads, Sem.run_pure]
 ·rw [Oper.semAt_plain F _ _ (by rw [ho]; intro c hc'; cases hc')]
  simp [execOp, ho, resolve, invoke, builtin, hs, hx, hrun, Result.andThen]
  exact h v' w' h2 h3 h4
theorem Hd {F : Fence} {nf : Nat} {P : Program} {md : Region.Mode} {ops : Array Oper} {Q : Exit → Act → World → Prop} {fuel : Nat} {listed : Array Bool} {a : Act} {w : World} (f4 : Nat) (l4 : Array Bool) (a4 : Act) (w4 : World)
 (h4 : wpAnyIn F nf P md ops Q f4 l4 a4 w4) (h : wpAnyIn F nf P md ops Q f4 l4 a4 w4 → wpAnyIn F nf P md ops Q fuel listed a w) : wpAnyIn F nf P md ops Q fuel listed a w := h h4
theorem any_cast {F : Fence} {nf : Nat} {P : Program} {md : Region.Mode} {ops : Array Oper} {Q : Exit → Act → World → Prop} {fuel : Nat} {l1 l2 : Array Bool} {a : Act} {w : World} (e : l1 = l2)
 (h : wpAnyIn F nf P md ops Q fuel l1 a w) : wpAnyIn F nf P md ops Q fuel l2 a w := e ▸ h
abbrev put7 (w : World) (g o : Nat) (c0 c1 c2 c3 c4 c5 c6 : Value) : World := ((((((w.setCell ⟨g, o, none⟩ c0).setCell ⟨g, o + 1, none⟩ c1).setCell ⟨g, o + 2, none⟩ c2).setCell ⟨g, o + 3, none⟩ c3).setCell ⟨g, o + 4, none⟩ c4).setCell ⟨g, o + 5, none⟩ c5).setCell ⟨g, o + 6, none⟩ c6
theorem Bo {w : World} {base : Nat} {e : TypeId} {g L cap : Nat} {xs : List Value} {z0 z1 z2 z3 z4 z5 z6 : Value} (hx : xs.length = L * 7)
 (h : w.ownsRow base e 7 (.slice (some ⟨g, 0, none⟩) (L + 1) cap) (L + 1) (xs ++ [z0, z1, z2, z3, z4, z5, z6])) (c0 c1 c2 c3 c4 c5 c6 : Value) :
 (put7 w g (L * 7) c0 c1 c2 c3 c4 c5 c6).ownsRow base e 7 (.slice (some ⟨g, 0, none⟩) (L + 1) cap) (L + 1) (xs ++ [c0, c1, c2, c3, c4, c5, c6]) := by
 have := ((((((((((((h.stored (L * 7) c0).1.stored (L * 7 + 1) c1).1.stored (L * 7 + 2) c2).1.stored (L * 7 + 3) c3).1.stored (L * 7 + 4) c4).1.stored (L * 7 + 5) c5).1.stored (L * 7 + 6) c6).1)))))
 simp only [← hx] at this ⊢
 simpa [List.set_append] using this
theorem lJ (w : World) (g o : Nat) (c0 c1 c2 c3 c4 c5 c6 : Value) : w.grownBy (put7 w g o c0 c1 c2 c3 c4 c5 c6) (some g) :=
 ek (ek (ek (ek (ek (ek (ek (World.grownBy.refl w (some g)) o c0) (o + 1) c1) (o + 2) c2) (o + 3) c3) (o + 4) c4) (o + 5) c5) (o + 6) c6
theorem Jb {w wa wb : World} {B n : Nat} {p : Pt} {cs : List Value} (h : PatC wa B p cs) (ha : Below n w wa) (hb : Below n w wb) (hB : B ≤ n) : PatC wb B p cs :=
 h.keep (fun q hq => (hb.cell (by omega)).trans (ha.cell (by omega)).symm) p cs
theorem ky.push {w W Wf : World} {B b L : Nat} {st : List Pt} {q : Pt} {v v' : Value} {xs cs : List Value} (h : ky w W B b st v xs) (hL : st.length = L) (WW : Blk Wf b 56 #[v']) (hown : Wf.ownsRow w.heap.size 58 7 v' (L + 1) (xs ++ cs)) (dV : Below w.heap.size W Wf) (hq : PatC W B q cs) :
 ky w Wf B b (st ++ [q]) v' (xs ++ cs) := by
 refine ⟨WW, ?_, (h.Ja.append (PatsC.one hq)).below (dV.mono h.hB), h.below.trans dV, h.hb, h.hB⟩
 rw [List.length_append, List.length_singleton, hL]; exact hown
theorem yI {w : World} {B i : Nat} {l : List Pt} {xs : List Value} (h : PatsC w B l xs) (hi : i < l.length) (d : Pt) : ∃ k s neg lo hi' A n c, PatC w B (l.getD i d) (aZ k s neg lo hi' (.slice A n c)) ∧ xs[i * 7]! = .int .i64 k ∧ xs[i * 7 + 1]! = .int .u32 s.1 ∧ xs[i * 7 + 2]! = .int .u32 s.2 ∧
 xs[i * 7 + 3]! = .bool neg ∧ xs[i * 7 + 4]! = .int .i64 lo ∧ xs[i * 7 + 5]! = .int .i64 hi' ∧ xs[i * 7 + 6]! = .slice A n c := by
 obtain ⟨cs, h1, h2⟩ := PatsC.at_ l xs h i hi
 obtain ⟨k, s, neg, lo, hi', A, n, c, rfl⟩ := h1.form
 have hg : ∀ t u, (aZ k s neg lo hi' (.slice A n c))[t]? = some u → xs[i * 7 + t]! = u := fun t u hu => by
  have := h2 t u hu
  rw [getElem!_pos xs _ (List.getElem?_eq_some_iff.1 this).1]
  exact (List.getElem?_eq_some_iff.1 this).2
 refine ⟨k, s, neg, lo, hi', A, n, c, ?_, hg 0 _ rfl, hg 1 _ rfl, hg 2 _ rfl, hg 3 _ rfl, hg 4 _ rfl, hg 5 _ rfl, hg 6 _ rfl⟩
 rw [List.getD, List.getElem?_eq_getElem hi]; exact h1
theorem Df (w : World) (t : TypeId) (cs : List Value) (k m : Nat) (h : cs.length = m * k) : Reads (w.alloc (.cells cs.toArray t)) (w.heap.size + 1) k (some ⟨w.heap.size, 0, none⟩) m cs := by
 refine ⟨h, fun _ => ⟨_, rfl, by simp, fun j u hu => ?_⟩⟩
 rw [add_at, (Blk.new w t cs.toArray).cell j]
 simpa using hu
def Kl : Pt := .mk 0 (0, 0) false 0 0 []
theorem GX {l : List Pt} {m : Nat} (h : l.length = m) : (mU m).map (fun i : Fin m => l.getD i.val Kl) = l.reverse := by
 unfold mU
 rw [List.map_reverse]
 congr 1
 refine List.ext_getElem (by rw [List.length_map, List.length_finRange, h]) fun i h1 h2 => ?_
 rw [List.getElem_map, List.getElem_finRange, List.getD]
 rw [List.getElem?_eq_getElem (by simpa using h2)]; rfl
theorem pI (p : Pt) (k : Int) (s : Snd) (neg : Bool) (lo hi : Int) (A : Option Addr) (n c : Nat) (B : Nat) (w : World) (hp : PatC w B p (aZ k s neg lo hi (.slice A n c))) (hB : B ≤ w.heap.size) :
 Calls Tryz.prog 70 #[pF k s neg lo hi (.slice A n c)] w (nu w (eF p)) := by
 obtain ⟨i0, hi', hz0, hz1, hz2⟩ := info_parts (show (Tryz.prog.info? 58).map (fun i => (i.zero, i.size, i.bytes)) = some (some (.agg #[.int .i64 0, .int .u32 0, .int .u32 0, .bool false, .int .i64 0, .int .i64 0, .slice none 0 0]), 7, 64) by kernel_rfl)
 rw [Dn]
 obtain ⟨res, hres⟩ : ∃ res, qJ 0 [p] = res := ⟨_, rfl⟩
 rw [hres]
 refine (callsIn_wide (n := 4)).1 ?_
 refine callsIn_of_wp_marks Tryz.func70 rfl trivial ?_ rfl
 simp only [Tryz.ntmps70, List.size_toArray, List.length_cons, List.length_nil, Nat.reduceAdd, Nat.reduceSub, Array.replicate_succ, Array.replicate_zero, List.push_toArray, List.append_toArray, List.nil_append, List.cons_append]
 have hk1 : Blk (((w.alloc (.cells #[.int .i64 k, .int .u32 s.1, .int .u32 s.2, .bool neg, .int .i64 lo, .int .i64 hi, .slice A n c] 58)).alloc (.cells #[.int .i64 k, .int .u32 s.1, .int .u32 s.2, .bool neg, .int .i64 lo, .int .i64 hi, .slice A n c] 58)).alloc (.cells #[.slice (some ⟨w.heap.size + 1, 0, none⟩) 1 1] 56)) (w.heap.size + 1 + 1) 56 #[.slice (some ⟨w.heap.size + 1, 0, none⟩) 1 1] := by
  simpa using Blk.new ((w.alloc (.cells #[.int .i64 k, .int .u32 s.1, .int .u32 s.2, .bool neg, .int .i64 lo, .int .i64 hi, .slice A n c] 58)).alloc (.cells #[.int .i64 k, .int .u32 s.1, .int .u32 s.2, .bool neg, .int .i64 lo, .int .i64 hi, .slice A n c] 58)) 56 #[.slice (some ⟨w.heap.size + 1, 0, none⟩) 1 1]
 have hk2 : (((w.alloc (.cells #[.int .i64 k, .int .u32 s.1, .int .u32 s.2, .bool neg, .int .i64 lo, .int .i64 hi, .slice A n c] 58)).alloc (.cells #[.int .i64 k, .int .u32 s.1, .int .u32 s.2, .bool neg, .int .i64 lo, .int .i64 hi, .slice A n c] 58)).alloc (.cells #[.slice (some ⟨w.heap.size + 1, 0, none⟩) 1 1] 56)).ownsRow w.heap.size 58 7 (.slice (some ⟨w.heap.size + 1, 0, none⟩) 1 1) 1 (aZ k s neg lo hi (.slice A n c)) := by
  have := World.ownsRow_lit (base := w.heap.size) (e := 58) (size := 7) (w.alloc (.cells #[.int .i64 k, .int .u32 s.1, .int .u32 s.2, .bool neg, .int .i64 lo, .int .i64 hi, .slice A n c] 58)) #[.int .i64 k, .int .u32 s.1, .int .u32 s.2, .bool neg, .int .i64 lo, .int .i64 hi, .slice A n c] 1 (by simp) (by unfold maxLen; omega) rfl
  rw [World.size_alloc] at this
  exact this.alloc _
 have hk3 : Below w.heap.size w (((w.alloc (.cells #[.int .i64 k, .int .u32 s.1, .int .u32 s.2, .bool neg, .int .i64 lo, .int .i64 hi, .slice A n c] 58)).alloc (.cells #[.int .i64 k, .int .u32 s.1, .int .u32 s.2, .bool neg, .int .i64 lo, .int .i64 hi, .slice A n c] 58)).alloc (.cells #[.slice (some ⟨w.heap.size + 1, 0, none⟩) 1 1] 56)) :=
  (((Below.refl _ w).alloc (Nat.le_refl _) _).alloc (by simp) _).alloc (by simp; omega) _
 have hk4 := PatsC.one (hp.below (hk3.mono hB))
 have HS : Hid (ky w _ B (w.heap.size + 1 + 1) [p] (.slice (some ⟨w.heap.size + 1, 0, none⟩) 1 1) (aZ k s neg lo hi (.slice A n c))) := qh ⟨hk1, hk2, hk4, hk3, by omega, hB⟩
 have bT := qh hres
 clear hk1 hk2 hk3 hk4 hp hres
 gi_wp2
 generalize ((w.alloc (.cells #[.int .i64 k, .int .u32 s.1, .int .u32 s.2, .bool neg, .int .i64 lo, .int .i64 hi, .slice A n c] 58)).alloc (.cells #[.int .i64 k, .int .u32 s.1, .int .u32 s.2, .bool neg, .int .i64 lo, .int .i64 hi, .slice A n c] 58)).alloc (.cells #[.slice (some ⟨w.heap.size + 1, 0, none⟩) 1 1] 56) = W0 at *
 refine wpIn_loop_ghost_k (fun gk a' wr => ∃ u5 u6 u7 u9 u12 u13 u14 u15 u16 u17 u18 u19 u20 u21 u22 u23 u24 u25 u26 u27 u28 u29 u30 u31 u32 u33 u34 u35 u36 u37 u38 u39 u40 u41 u42 u43 u44 u45 u46 u47 u48 u49 u50 u51, ∃ (ds : List Deferred) (nn : Nat) (st : List Pt) (v : Value) (xs : List Value), a' = { tmps := #[pF k s neg lo hi (.slice A n c), .pointer (some ⟨w.heap.size, 0, none⟩), .int .i64 0, .pointer (some ⟨w.heap.size + 1 + 1, 0, none⟩), .int .i64 (nn : Int), u5, u6, u7, undef, u9, .agg #[.int .i64 k, .int .u32 s.1, .int .u32 s.2, .bool neg, .int .i64 lo, .int .i64 hi, .slice A n c], .slice (some ⟨w.heap.size + 1, 0, none⟩) 1 1, u12, u13, u14, u15, u16, u17, u18, u19, u20, u21, u22, u23, u24, u25, u26, u27, u28, u29, u30, u31, u32, u33, u34, u35, u36, u37, u38, u39, u40, u41, u42, u43, u44, u45, u46, u47, u48, u49, u50, u51], defers := ds } ∧ nn + gk = 40 ∧ ky w wr B (w.heap.size + 1 + 1) st v xs ∧ Marks w.heap.size ds wr ∧ qJ nn st = res ∧ st.length ≤ 1 + 41 * nn) 40 ?start ?round
 case start => exact ⟨_, _, _, _, _, _, _, _, _, _, _, _, _, _, _, _, _, _, _, _, _, _, _, _, _, _, _, _, _, _, _, _, _, _, _, _, _, _, _, _, _, _, _, _, [], 0, [p], _, _, rfl, by omega, HS.out, trivial, bT.out, by simp⟩
 case round =>
  clear HS bT
  rintro gk a' wr ⟨u5, u6, u7, u9, u12, u13, u14, u15, u16, u17, u18, u19, u20, u21, u22, u23, u24, u25, u26, u27, u28, u29, u30, u31, u32, u33, u34, u35, u36, u37, u38, u39, u40, u41, u42, u43, u44, u45, u46, u47, u48, u49, u50, u51, ds, nn, st, v, xs, rfl, hik, hL, hmk, aF, hsl⟩ J K hJ hK
  have hcb := hL.box.cell 0
  have ZY := hL.box.frozen 0
  simp only [gq2] at hcb
  have HJ := qh hJ; have Ik := qh hmk; have ZB := qh hik
  clear hJ hmk
  have hnn : nn ≤ 40 := by omega
  have iQ : ∀ (x : Int) (W : World) (tm : Array Value), tm.getD 2 undef = .int .i64 x → (x = 0 ↔ res = true) → Below w.heap.size w W → Marks w.heap.size ds W → LeavesInM Fence.wide 4 Tryz.prog Tryz.f70 tm (nu w res) ds .returning W := by
   intro x W tm ZT hx hb hm
   refine pU (B := w.heap.size) (fun W => Below w.heap.size w W) (fun W D h hD hDe => h.trans (yG hD hDe)) (fun W h => ?_) ds W hm hb
   have Ww : tm[2]?.getD undef = .int .i64 x := by simpa using ZT
   refine ⟨.int .i64 x, by simp [results, Tryz.results70, go_sem, Ww], ?_⟩
   exact ⟨x, rfl, hx, h⟩
  have kE := qh iQ
  clear iQ hik
  rcases List.eq_nil_or_concat st with rfl | ⟨st', x, rfl⟩
  ·obtain ⟨A', c', rfl, hc1, hc2⟩ := ownsRow_form hL.row
   have hr : res = true := by rw [← aF]; exact IV hnn
   have HL := qh hL
   clear hL aF
   subst hr
   simp only [List.length_nil] at *
   gi_wp2
   refine kE.out 0 _ _ ?_ (by simp) HL.out.below Ik.out
   rfl
  ·rw [List.concat_eq_append] at *
   obtain ⟨k1, s1, neg1, lo1, hi1, l1⟩ := x
   have hlen1 : (st' ++ [Pt.mk k1 s1 neg1 lo1 hi1 l1]).length = st'.length + 1 := by rw [List.length_append]; rfl
   have hrow := hL.row
   rw [hlen1] at hrow hsl
   obtain ⟨r, cap, rfl, hr1, hr2⟩ := hrow.form (by omega)
   have hcap : st'.length + 1 ≤ cap ∧ cap ≤ maxLen := by
    obtain ⟨A', c', he, h1, h2⟩ := ownsRow_form hrow
    injection he with _ _ hc
    omega
   obtain ⟨hcap1, hcap2⟩ := hcap
   unfold maxLen at hcap2
   by_cases h40 : nn = 40
   ·subst h40
    rw [FZ (by simp)] at aF
    subst aF
    have HL := qh hL
    clear hL hrow
    gi_wp2
    refine kE.out 12 _ _ ?_ (by simp) HL.out.below Ik.out
    rfl
   ·obtain ⟨ys, zs, rfl, hp1, hp2⟩ := hL.Ja.split
    have hyl := hp1.len
    have hzl := hp2.len
    rw [df] at hp2
    obtain ⟨z1, z2, rfl, hp2, hp3⟩ := hp2
    rw [dZ] at hp3
    subst hp3
    rw [List.append_nil] at *
    have hpx := hp2
    rw [gN] at hp2
    obtain ⟨A1, c1, us, rfl, h32, hl1, hl2, hrd, hps⟩ := hp2
    have hcx : ∀ t u, (aZ k1 s1 neg1 lo1 hi1 (.slice A1 l1.length c1))[t]? = some u → wr.cell? ⟨r, st'.length * 7 + t, none⟩ = some u := fun t u hu => by
     have ht : t < 7 := (List.getElem?_eq_some_iff.1 hu).1
     rw [hrow.cellAt _ (by omega), List.getElem?_append_right (by omega), hyl, show st'.length * 7 + t - st'.length * 7 = t by omega]
     exact hu
    have e0 := hcx 0 _ rfl
    have e1 := hcx 1 _ rfl
    have e2 := hcx 2 _ rfl
    have e3 := hcx 3 _ rfl
    have e4 := hcx 4 _ rfl
    have e5 := hcx 5 _ rfl
    have e6 := hcx 6 _ rfl
    rw [Nat.add_zero] at e0
    have OH : ¬ (nn : Int) = 40 := by omega
    have lH := hL.box.alloc (.cells #[.int .i64 k1, .int .u32 s1.1, .int .u32 s1.2, .bool neg1, .int .i64 lo1, .int .i64 hi1, .slice A1 l1.length c1] 58)
    have hcb2 := lH.cell 0
    have hfb2 := lH.frozen 0
    simp only [gq2] at hcb2
    have hbl := hL.box.lt
    have hrb : r ≠ w.heap.size + 1 + 1 := fun e => own_blk_ne hrow hL.box (by decide) (by rw [← e]; rfl)
    have hcap0 : ¬ cap = 0 := by omega
    have HL := qh hL; have Cu := qh hrow; have bL := qh aF; have HPX := qh hpx; have M0 := qh hp1; have HYL := qh hyl; have yM := qh hrd; have MW := qh hps
    clear hL hrow aF hpx hp1 hyl hzl hrd hps hcx hlen1 lH
    have Q6 := HL.out.pop M0.out (.cells #[.int .i64 k1, .int .u32 s1.1, .int .u32 s1.2, .bool neg1, .int .i64 lo1, .int .i64 hi1, .slice A1 l1.length c1] 58)
    have hxb := Blk.new (wr.setCell ⟨w.heap.size + 1 + 1, 0, none⟩ (.slice (some ⟨r, 0, none⟩) st'.length cap)) 58 #[.int .i64 k1, .int .u32 s1.1, .int .u32 s1.2, .bool neg1, .int .i64 lo1, .int .i64 hi1, .slice A1 l1.length c1]
    have hwasz : ((wr.setCell ⟨w.heap.size + 1 + 1, 0, none⟩ (.slice (some ⟨r, 0, none⟩) st'.length cap)).alloc (.cells #[.int .i64 k1, .int .u32 s1.1, .int .u32 s1.2, .bool neg1, .int .i64 lo1, .int .i64 hi1, .slice A1 l1.length c1] 58)).heap.size = wr.heap.size + 1 := by simp [World.setCell]
    have OO : Below w.heap.size wr ((wr.setCell ⟨w.heap.size + 1 + 1, 0, none⟩ (.slice (some ⟨r, 0, none⟩) st'.length cap)).alloc (.cells #[.int .i64 k1, .int .u32 s1.1, .int .u32 s1.2, .bool neg1, .int .i64 lo1, .int .i64 hi1, .slice A1 l1.length c1] 58)) := ((Below.refl _ wr).setCell (p := ⟨w.heap.size + 1 + 1, 0, none⟩) (by simp; omega) _).alloc (by have := HL.out.below.size; simp [World.setCell]; exact this) _
    have Rl : Marks w.heap.size ds ((wr.setCell ⟨w.heap.size + 1 + 1, 0, none⟩ (.slice (some ⟨r, 0, none⟩) st'.length cap)).alloc (.cells #[.int .i64 k1, .int .u32 s1.1, .int .u32 s1.2, .bool neg1, .int .i64 lo1, .int .i64 hi1, .slice A1 l1.length c1] 58)) := (Ik.out.others (KeepsOthers.setCell _ _ _)).later ((Below.refl _ _).alloc (Nat.le_refl _) _)
    have Q4 := yM.out.below (OO.mono hB)
    have Q5 := MW.out.below (OO.mono hB)
    have aI := fun W => callsIn_wide (n := 3).2 (Ck k1 s1 neg1 lo1 hi1 A1 l1.length c1 W h32)
    have MX := qh Q6; have HXB := qh hxb; have UT := qh Rl; have Uj := qh Q4; have Ut := qh Q5; have bf := qh aI
    clear Q6 hxb Rl Q4 Q5 aI OO
    gi_wp2_with fail
    generalize (wr.setCell ⟨w.heap.size + 1 + 1, 0, none⟩ (.slice (some ⟨r, 0, none⟩) st'.length cap)).alloc (.cells #[.int .i64 k1, .int .u32 s1.1, .int .u32 s1.2, .bool neg1, .int .i64 lo1, .int .i64 hi1, .slice A1 l1.length c1] 58) = Wa at *
    refine ⟨trivial, (bf.out Wa).mono ?_⟩
    rintro e w2 ⟨x, rfl, hx, hb2⟩
    have hp2 := MX.out.later hb2
    have hxb2 := HXB.out.below hb2 HXB.out.lt
    rw [show (wr.setCell ⟨w.heap.size + 1 + 1, 0, none⟩ (.slice (some ⟨r, 0, none⟩) st'.length cap)).heap.size = wr.heap.size by simp [World.setCell]] at hxb2
    have hmk2 := UT.out.later hb2
    have hBa : B ≤ Wa.heap.size := Nat.le_trans MX.out.hB MX.out.below.size
    have hrd2 := Uj.out.below (hb2.mono hBa)
    have hps2 := Ut.out.below (hb2.mono hBa)
    obtain ⟨y0, y1, y2, y3, y4, y5, y6⟩ := hxb2.seven
    have HX := qh hx; have Hq := qh hp2; have PH := qh hmk2; have Ul := qh hrd2; have Uw := qh hps2
    clear hx hp2 hmk2 hrd2 hps2 hxb2 hb2 hcb ZY hcb2 hfb2 e0 e1 e2 e3 e4 e5 e6 MX HXB UT Uj Ut bf yM MW HPX M0 HL Cu
    by_cases hx0 : x = 0
    ·have BL := HX.out.1 hx0
     subst hx0
     have hst2 := bL.out
     rw [FY BL] at hst2
     have dz := qh hst2
     clear BL hst2 HX bL
     obtain ⟨m, hm⟩ : ∃ m : Nat, (min (l1.length : Int) 41).toNat = m := ⟨_, rfl⟩
     have Qf : (l1.take 41).length = m := by rw [List.length_take]; omega
     have hm1 : m ≤ l1.length := by omega
     have hps3 := Uw.out
     rw [← List.take_append_drop 41 l1] at hps3
     obtain ⟨ys1, ys2, YR, hps4, -⟩ := hps3.split
     have hyl1 := hps4.len
     rw [Qf] at hyl1
     have hrd3 := Ul.out.pre hm1
     rw [YR, ← hyl1, List.take_left] at hrd3
     have hm41 : m ≤ 41 := by omega
     have gp := callsIn_wide (n := 3).2 (zB A1 m c1 w2)
     have HM := qh hm; have Qp := qh Qf; have Uk := qh hrd3; have Uv := qh hps4; have nX := qh gp
     clear Qf hps4 hrd3 YR hyl1 Uw Ul hm gp
     gi_wp2_with fail
     rw [HM.out]
     refine ⟨trivial, nX.out.mono ?_⟩
     rintro e w3 ⟨rfl, rfl⟩
     have hst3 := Hq.out.alloc (.cells #[.slice A1 m c1] 56)
     have hmk3 := PH.out.later (W' := w2.alloc (.cells #[.slice A1 m c1] 56)) ((Below.refl _ _).alloc (Nat.le_refl _) _)
     have hB2 : B ≤ w2.heap.size := Nat.le_trans Hq.out.hB Hq.out.below.size
     have hinv : kD A1 m c1 w2.heap.size B ys1 (w2.alloc (.cells #[.slice A1 m c1] 56)) := ⟨Blk.new w2 _ _, Uk.out.alloc hB2 _⟩
     have hps5 : PatsC (w2.alloc (.cells #[.slice A1 m c1] 56)) B (l1.take 41) ys1 := Uv.out.below ((Below.refl _ w2).alloc hB2 _)
     have hws3 : (w2.alloc (.cells #[.slice A1 m c1] 56)).heap.size = w2.heap.size + 1 := World.size_alloc _ _
     have hb2lt : w.heap.size + 1 + 1 < w2.heap.size := Hq.out.box.lt
     have hit := QV A1 m c1 w2.heap.size B ys1 _ hinv (by rw [hws3]; omega) (by unfold maxLen; omega)
     have HIT := qh hit; have sS := qh hst3; have Hr := qh hmk3; have iW := qh hinv; have Uu := qh hps5
     clear hit hst3 hmk3 hinv hps5 Uv Uk Hq PH nX y0 y1 y2 y3 y4 y5 y6
     gi_wp2
     generalize w2.alloc (.cells #[.slice A1 m c1] 56) = w3 at *
     refine Dj (gf := 192) (lb := #[.pointer (some ⟨w2.heap.size, 0, none⟩)]) rfl (enters_of Tryz.func192 (by kernel_rfl) rfl) HIT.out (fun r h => h.elim)
      (fun h k a => k (h a)) (fun W l o o' hl h hoc a => a.put o' h (by omega) hoc) (Below.refl _ _) (fun _ => rfl)
      (fun pre W => (∃ v xs, ky w W B (w.heap.size + 1 + 1) (st' ++ pre.map fun i : Fin m => (l1.take 41).getD i.val Kl) v xs) ∧ Marks w.heap.size ds W ∧ kD A1 m c1 w2.heap.size B ys1 W)
      (fun _ _ _ => False)
      ?hI ?hIx ?h0 (fun (x : Fin m) (g : Nat) => { tmps := #[pF k s neg lo hi (.slice A n c), .pointer (some ⟨w.heap.size, 0, none⟩), .int .i64 0, .pointer (some ⟨w.heap.size + 1 + 1, 0, none⟩), .int .i64 (nn : Int), .pointer (some ⟨wr.heap.size, 0, none⟩), .int .i64 0, .slice A1 m c1, undef, .pointer (some ⟨g, 0, none⟩), .agg #[.int .i64 k, .int .u32 s.1, .int .u32 s.2, .bool neg, .int .i64 lo, .int .i64 hi, .slice A n c], .slice (some ⟨w.heap.size + 1, 0, none⟩) 1 1, .slice (some ⟨r, 0, none⟩) (st'.length + 1) cap, .int .i64 (↑st'.length + 1), .bool true, u15, u16, .int .i64 (nn : Int), .bool false, .slice (some ⟨r, 0, none⟩) (st'.length + 1) cap, .slice (some ⟨r, 0, none⟩) (st'.length + 1) cap, .int .i64 (↑st'.length + 1), .int .i64 ↑st'.length, .pointer (some ⟨r, st'.length * 7, none⟩), .agg #[.int .i64 k1, .int .u32 s1.1, .int .u32 s1.2, .bool neg1, .int .i64 lo1, .int .i64 hi1, .slice A1 l1.length c1], .slice (some ⟨r, 0, none⟩) (st'.length + 1) cap, .slice (some ⟨r, 0, none⟩) (st'.length + 1) cap, .int .i64 (↑st'.length + 1), .int .i64 ↑st'.length, .slice (some ⟨r, 0, none⟩) st'.length cap, .agg #[.int .i64 k1, .int .u32 s1.1, .int .u32 s1.2, .bool neg1, .int .i64 lo1, .int .i64 hi1, .slice A1 l1.length c1], .int .i64 0, .int .i64 0, .bool false, u34, .pointer (some ⟨wr.heap.size, 6, none⟩), .slice A1 l1.length c1, .pointer (some ⟨wr.heap.size, 6, none⟩), .slice A1 l1.length c1, .int .i64 ↑l1.length, .int .i64 (min (↑l1.length) 41), .slice A1 m c1, .slice A1 m c1, .func (.func 192) #[] #[.pointer (some ⟨w2.heap.size, 0, none⟩)], .int .i64 (x.val : Int), agg7 ys1 x.val, u46, u47, u48, u49, u50, u51], defers := [] }) (fun x => .cells #[ys1[x.val * 7]!, ys1[x.val * 7 + 1]!, ys1[x.val * 7 + 2]!, ys1[x.val * 7 + 3]!, ys1[x.val * 7 + 4]!, ys1[x.val * 7 + 5]!, ys1[x.val * 7 + 6]!] 58) (fun W o' hW a => ⟨a.1.alloc o', a.2.alloc (by omega) o'⟩) ?assign ?body ?done ?stop
     case hI =>
      rintro pre A0 B0 row ⟨⟨v, xs, h1⟩, h2, h3⟩ hg hr
      refine ⟨⟨v, xs, h1.turn hg hr (fun _ h => h) sS.out.below.size⟩, h2.keep fun d hd D hD h7 => ?_, h3.1.turn hg hr (fun h => h), h3.2.grown hg ?_ ?_⟩
      ·refine (hg.block D (Array.getElem?_eq_some_iff.1 h7).1 (fun e => ?_)).trans h7
       have := Hr.out.lt d hd D hD
       rcases hr D e.symm with h | ⟨h, _⟩
       ·exact h
       ·omega
      ·exact Nat.le_trans h1.hB h1.below.size
      ·intro g hg'
       rcases hr g hg' with h | ⟨h, _⟩
       ·exact h.elim
       ·omega
     case hIx => exact fun c s W W' row h _ _ => h
     case h0 => exact ⟨⟨_, _, by simpa using sS.out⟩, Hr.out, iW.out⟩
     case assign =>
      intro l x W K hK
      obtain ⟨k2, s2, neg2, lo2, hi2, A2, n2, c2, -, q0, q1, q2, q3, q4, q5, q6⟩ := yI Uu.out (i := x.val) (by rw [Qp.out]; exact x.isLt) Kl
      dsimp only [agg7] at hK
      rw [q0, q1, q2, q3, q4, q5, q6] at hK
      dsimp only [O4, agg7]
      rw [q0, q1, q2, q3, q4, q5, q6]
      clear q0 q1 q2 q3 q4 q5 q6
      gi_wp2
      exact hK
     case body =>
      rintro l pre x W g hwg hgo hgs ⟨⟨v, xs, h1⟩, h2, h3⟩ hlen
      obtain ⟨k2, s2, neg2, lo2, hi2, A2, n2, c2, hpq, q0, q1, q2, q3, q4, q5, q6⟩ := yI Uu.out (i := x.val) (by rw [Qp.out]; exact x.isLt) Kl
      dsimp only [agg7]
      rw [q0, q1, q2, q3, q4, q5, q6] at hgo ⊢
      have hgb : Blk W g 58 #[.int .i64 k2, .int .u32 s2.1, .int .u32 s2.2, .bool neg2, .int .i64 lo2, .int .i64 hi2, .slice A2 n2 c2] := hgo
      obtain ⟨y0, y1, y2, y3, y4, y5, y6⟩ := hgb.seven
      have kb := h1.box.cell 0
      have kf := h1.box.frozen 0
      simp only [gq2] at kb
      obtain ⟨Av, cv, rfl, hcv1, hcv2⟩ := ownsRow_form h1.row
      obtain ⟨L, hL⟩ : ∃ L, (st' ++ pre.map fun i : Fin m => (l1.take 41).getD i.val Kl).length = L := ⟨_, rfl⟩
      rw [hL] at kb hcv1
      have H1 := qh h1; have H2 := qh h2; have H3 := qh h3; have X5 := qh hpq; have VS := qh hgb; have HL2 := qh hL
      clear h1 h2 h3 hpq hgb hL q0 q1 q2 q3 q4 q5 q6 hgo
      have hLb : L ≤ 2000 := by rw [← HL2.out, List.length_append, List.length_map]; omega
      have YP := Df W 58 [.int .i64 0, .int .u32 0, .int .u32 0, .bool false, .int .i64 0, .int .i64 0, .slice none 0 0] 7 1 rfl
      have hown0 := H1.out.row.alloc (.cells #[.int .i64 0, .int .u32 0, .int .u32 0, .bool false, .int .i64 0, .int .i64 0, .slice none 0 0] 58)
      rw [HL2.out] at hown0
      have lH := H1.out.box.alloc (.cells #[.int .i64 0, .int .u32 0, .int .u32 0, .bool false, .int .i64 0, .int .i64 0, .slice none 0 0] 58)
      have hxl := H1.out.Ja.len
      rw [HL2.out] at hxl
      have kb2 := lH.cell 0
      have kf2 := lH.frozen 0
      simp only [gq2] at kb2
      rw [HL2.out] at kb2
      obtain ⟨z0, z1, z2, z3, z4, z5, z6⟩ := (VS.out.alloc (.cells #[.int .i64 0, .int .u32 0, .int .u32 0, .bool false, .int .i64 0, .int .i64 0, .slice none 0 0] 58)).seven
      have HZR := qh YP; have Cy := qh hown0; have fZ := qh lH; have FB := qh hxl
      have Qs := qh hgs
      clear YP hown0 lH hxl hgs
      unfold maxLen at hcv2
      gi_wp2
      refine wpIn_region_any (by kernel_rfl) ?_
      change wpAnyIn _ _ _ _ _ _ _ _ _ (World.drew _)
      refine Hd 4 #[true, true, true, true, false, false, false, false] ({ tmps := List.toArray ((pF k s neg lo hi (.slice A n c)) :: (.pointer (some ⟨w.heap.size, 0, none⟩)) :: (.int .i64 0) :: (.pointer (some ⟨w.heap.size + 1 + 1, 0, none⟩)) :: (.int .i64 (nn : Int)) :: (.pointer (some ⟨wr.heap.size, 0, none⟩)) :: (.int .i64 0) :: (.slice A1 m c1) :: (undef) :: (.pointer (some ⟨g, 0, none⟩)) :: (.agg #[.int .i64 k, .int .u32 s.1, .int .u32 s.2, .bool neg, .int .i64 lo, .int .i64 hi, .slice A n c]) :: (.slice (some ⟨w.heap.size + 1, 0, none⟩) 1 1) :: (.slice (some ⟨r, 0, none⟩) (st'.length + 1) cap) :: (.int .i64 (↑st'.length + 1)) :: (.bool true) :: (u15) :: (u16) :: (.int .i64 (nn : Int)) :: (.bool false) :: (.slice (some ⟨r, 0, none⟩) (st'.length + 1) cap) :: (.slice (some ⟨r, 0, none⟩) (st'.length + 1) cap) :: (.int .i64 (↑st'.length + 1)) :: (.int .i64 ↑st'.length) :: (.pointer (some ⟨r, st'.length * 7, none⟩)) :: (.agg #[.int .i64 k1, .int .u32 s1.1, .int .u32 s1.2, .bool neg1, .int .i64 lo1, .int .i64 hi1, .slice A1 l1.length c1]) :: (.slice (some ⟨r, 0, none⟩) (st'.length + 1) cap) :: (.slice (some ⟨r, 0, none⟩) (st'.length + 1) cap) :: (.int .i64 (↑st'.length + 1)) :: (.int .i64 ↑st'.length) :: (.slice (some ⟨r, 0, none⟩) st'.length cap) :: (.agg #[.int .i64 k1, .int .u32 s1.1, .int .u32 s1.2, .bool neg1, .int .i64 lo1, .int .i64 hi1, .slice A1 l1.length c1]) :: (.int .i64 0) :: (.int .i64 0) :: (.bool false) :: (u34) :: (.pointer (some ⟨wr.heap.size, 6, none⟩)) :: (.slice A1 l1.length c1) :: (.pointer (some ⟨wr.heap.size, 6, none⟩)) :: (.slice A1 l1.length c1) :: (.int .i64 ↑l1.length) :: (.int .i64 (min (↑l1.length) 41)) :: (.slice A1 m c1) :: (.slice A1 m c1) :: (.func (.func 192) #[] #[.pointer (some ⟨w2.heap.size, 0, none⟩)]) :: (.int .i64 (x.val : Int)) :: (.agg #[.int .i64 k2, .int .u32 s2.1, .int .u32 s2.2, .bool neg2, .int .i64 lo2, .int .i64 hi2, .slice A2 n2 c2]) :: (.slice Av L cv) :: (.agg #[.int .i64 k2, .int .u32 s2.1, .int .u32 s2.2, .bool neg2, .int .i64 lo2, .int .i64 hi2, .slice A2 n2 c2]) :: (.int .i64 (L : Int)) :: (.slice (some ⟨W.heap.size, 0, none⟩) 1 1) :: (u50) :: (u51) :: []), defers := [] }) (W.alloc (.cells #[.int .i64 0, .int .u32 0, .int .u32 0, .bool false, .int .i64 0, .int .i64 0, .slice none 0 0] 58)).drew ?_ (fun hT => ?_)
      ·refine wpAnyIn_ready (rs := [4]) (by kernel_rfl) (by simp) ?_
       refine AllReadyIn.cons rfl (fun K hK => ?_) AllReadyIn.nil
       refine pg _ rfl (.tmp 46) (.tmp 49) 56 rfl w.heap.size 58 i0 (.agg #[.int .i64 0, .int .u32 0, .int .u32 0, .bool false, .int .i64 0, .int .i64 0, .slice none 0 0]) 7 64 Tryz.underlying56 hi' hz0 hz1 hz2 rfl (by decide) _ _ _ rfl Cy.out.drew _ _ _ _ [.int .i64 0, .int .u32 0, .int .u32 0, .bool false, .int .i64 0, .int .i64 0, .slice none 0 0] rfl HZR.out.drew (by simp [Value.oneCell']) (by unfold maxLen; omega) (by omega) (by have := H1.out.below.size; simp; omega) ?_
       intro v' w5 ai ag bK
       refine hK _ _ ?_
       clear hK K
       have hgrow2 : (W.alloc (.cells #[.int .i64 0, .int .u32 0, .int .u32 0, .bool false, .int .i64 0, .int .i64 0, .slice none 0 0] 58)).drew.grownBy w5 (Value.slice Av L cv).ownBlock := ag
       clear bK ag
       obtain ⟨g', cap', rfl, hg1, hg2⟩ := ai.form (by omega)
       have hb5 : Blk w5 (w.heap.size + 1 + 1) 56 #[.slice Av L cv] := by
        have := fZ.out.drew.grown hgrow2 (fun e => own_blk_ne Cy.out fZ.out (by decide) e.symm)
        rwa [HL2.out] at this
       have hgb1 : ¬ g' = w.heap.size + 1 + 1 := fun e => own_blk_ne ai hb5 (by decide) (by rw [← e]; rfl)
       have hgb2 : ¬ w.heap.size + 1 + 1 = g' := fun e => hgb1 e.symm
       have hz : ∀ t u, ([.int .i64 0, .int .u32 0, .int .u32 0, .bool false, .int .i64 0, .int .i64 0, .slice none 0 0] : List Value)[t]? = some u → w5.cell? ⟨g', L * 7 + t, none⟩ = some u := fun t u hu => by
        have ht : t < 7 := (List.getElem?_eq_some_iff.1 hu).1
        rw [ai.cellAt _ (by omega), List.getElem?_append_right (by rw [FB.out]; omega), FB.out, show L * 7 + t - L * 7 = t by omega]
        exact hu
       have x0 := hz 0 _ rfl
       have x1 := hz 1 _ rfl
       have x2 := hz 2 _ rfl
       have x3 := hz 3 _ rfl
       have x4 := hz 4 _ rfl
       have x5 := hz 5 _ rfl
       have x6 := hz 6 _ rfl
       rw [Nat.add_zero] at x0
       have hfz := ai.frozenAt
       have fz0 := hfz (L * 7)
       have fz1 := hfz (L * 7 + 1)
       have fz2 := hfz (L * 7 + 2)
       have fz3 := hfz (L * 7 + 3)
       have fz4 := hfz (L * 7 + 4)
       have fz5 := hfz (L * 7 + 5)
       have fz6 := hfz (L * 7 + 6)
       have bx0 := hb5.cell 0
       have bf0 := hb5.frozen 0
       simp only [gq2] at bx0
       have hrow5 : ∀ k, (Value.slice Av L cv).ownBlock = some k → w.heap.size ≤ k := fun k hk => by
        have h0 := Cy.out
        exact (h0.lt k hk).1
       have hal : Below w.heap.size W (W.alloc (.cells #[.int .i64 0, .int .u32 0, .int .u32 0, .bool false, .int .i64 0, .int .i64 0, .slice none 0 0] 58)) := (Below.refl _ _).alloc H1.out.below.size _
       have hbel5 : Below w.heap.size W w5 := hal.drew.grown hgrow2 (by have := H1.out.below.size; simp; omega) hrow5
       have hko4 : KeepsOthers W (W.alloc (.cells #[.int .i64 0, .int .u32 0, .int .u32 0, .bool false, .int .i64 0, .int .i64 0, .slice none 0 0] 58)).drew := (KeepsOthers.alloc W (.cells #[.int .i64 0, .int .u32 0, .int .u32 0, .bool false, .int .i64 0, .int .i64 0, .slice none 0 0] 58)).trans (KeepsOthers.drew _)
       have hko5 : KeepsOthers W w5 := hko4.trans (KeepsOthers.of_grownBy hgrow2 (uT Cy.out.drew))
       have Eg : w.heap.size ≤ w5.heap.size := by have := hbel5.size; have := H1.out.below.size; omega
       have YW := Jb X5.out sS.out.below H1.out.below sS.out.hB
       have hpl : (st' ++ pre.map fun i : Fin m => (l1.take 41).getD i.val Kl) ++ [(l1.take 41).getD x.val Kl] = st' ++ (pre ++ [x]).map fun i : Fin m => (l1.take 41).getD i.val Kl := by rw [List.map_append, List.append_assoc]; rfl
       have Yy : ∀ Wf act, Blk Wf (w.heap.size + 1 + 1) 56 #[.slice (some ⟨g', 0, none⟩) (L + 1) cap'] → Wf.ownsRow w.heap.size 58 7 (.slice (some ⟨g', 0, none⟩) (L + 1) cap') (L + 1) (xs ++ [.int .i64 k2, .int .u32 s2.1, .int .u32 s2.2, .bool neg2, .int .i64 lo2, .int .i64 hi2, .slice A2 n2 c2]) → Below w.heap.size w5 Wf → KeepsOthers w5 Wf → (∀ k, k ≠ w.heap.size + 1 + 1 → Blk w5 k 56 #[.slice A1 m c1] → Blk Wf k 56 #[.slice A1 m c1]) → ownPostK (fun W W' => kD A1 m c1 w2.heap.size B ys1 W → kD A1 m c1 w2.heap.size B ys1 W') (fun pre W => (∃ v xs, ky w W B (w.heap.size + 1 + 1) (st' ++ pre.map fun i : Fin m => (l1.take 41).getD i.val Kl) v xs) ∧ Marks w.heap.size ds W ∧ kD A1 m c1 w2.heap.size B ys1 W) (fun _ _ _ => False) (pre ++ [x]) W Exit.normal act Wf := by
        intro Wf act q1 q2 q3 q4 q5
        have hbw := hbel5.trans q3
        have hinv2 : kD A1 m c1 w2.heap.size B ys1 W → kD A1 m c1 w2.heap.size B ys1 Wf := fun hI => by
         refine ⟨q5 _ (by omega) ((hI.1.alloc (.cells #[.int .i64 0, .int .u32 0, .int .u32 0, .bool false, .int .i64 0, .int .i64 0, .slice none 0 0] 58)).drew.grown hgrow2 (fun e => own_blk_ne Cy.out (hI.1.alloc _) (by decide) e.symm)), hI.2.below (hbw.mono sS.out.hB)⟩
        refine ⟨hko5.trans q4, hinv2, ⟨_, _, hpl ▸ H1.out.push HL2.out q1 q2 hbw YW⟩, H2.out.others (hko5.trans q4), hinv2 H3.out⟩
       have hcells5 := uT ai
       have ha1 : Blk ((put7 w5 g' (L * 7) (.int .i64 k2) (.int .u32 s2.1) (.int .u32 s2.2) (.bool neg2) (.int .i64 lo2) (.int .i64 hi2) (.slice A2 n2 c2)).setCell ⟨w.heap.size + 1 + 1, 0, none⟩ (.slice (some ⟨g', 0, none⟩) (L + 1) cap')) (w.heap.size + 1 + 1) 56 #[(.slice (some ⟨g', 0, none⟩) (L + 1) cap')] := by
        simpa using (hb5.grown (lJ w5 g' (L * 7) (.int .i64 k2) (.int .u32 s2.1) (.int .u32 s2.2) (.bool neg2) (.int .i64 lo2) (.int .i64 hi2) (.slice A2 n2 c2)) (by simpa using hgb2)).set_ 0 (.slice (some ⟨g', 0, none⟩) (L + 1) cap')
       have ha2 := (Bo FB.out ai (.int .i64 k2) (.int .u32 s2.1) (.int .u32 s2.2) (.bool neg2) (.int .i64 lo2) (.int .i64 hi2) (.slice A2 n2 c2)).kept (ek (World.grownBy.refl _ (some (w.heap.size + 1 + 1))) 0 (.slice (some ⟨g', 0, none⟩) (L + 1) cap')) (.inr (by simpa [Value.ownBlock] using hgb1))
       have hb1 : Blk (put7 (w5.setCell ⟨w.heap.size + 1 + 1, 0, none⟩ (.slice (some ⟨g', 0, none⟩) (L + 1) cap')) g' (L * 7) (.int .i64 k2) (.int .u32 s2.1) (.int .u32 s2.2) (.bool neg2) (.int .i64 lo2) (.int .i64 hi2) (.slice A2 n2 c2)) (w.heap.size + 1 + 1) 56 #[(.slice (some ⟨g', 0, none⟩) (L + 1) cap')] := by
        have := (hb5.set_ 0 (.slice (some ⟨g', 0, none⟩) (L + 1) cap')).grown (lJ (w5.setCell ⟨w.heap.size + 1 + 1, 0, none⟩ (.slice (some ⟨g', 0, none⟩) (L + 1) cap')) g' (L * 7) (.int .i64 k2) (.int .u32 s2.1) (.int .u32 s2.2) (.bool neg2) (.int .i64 lo2) (.int .i64 hi2) (.slice A2 n2 c2)) (by simpa using hgb2)
        simpa using this
       have hb2 := Bo FB.out (ai.kept (ek (World.grownBy.refl w5 (some (w.heap.size + 1 + 1))) 0 (.slice (some ⟨g', 0, none⟩) (L + 1) cap')) (.inr (by simpa [Value.ownBlock] using hgb1))) (.int .i64 k2) (.int .u32 s2.1) (.int .u32 s2.2) (.bool neg2) (.int .i64 lo2) (.int .i64 hi2) (.slice A2 n2 c2)
       have hga := lJ w5 g' (L * 7) (.int .i64 k2) (.int .u32 s2.1) (.int .u32 s2.2) (.bool neg2) (.int .i64 lo2) (.int .i64 hi2) (.slice A2 n2 c2)
       have hgb := lJ (w5.setCell ⟨w.heap.size + 1 + 1, 0, none⟩ (.slice (some ⟨g', 0, none⟩) (L + 1) cap')) g' (L * 7) (.int .i64 k2) (.int .u32 s2.1) (.int .u32 s2.2) (.bool neg2) (.int .i64 lo2) (.int .i64 hi2) (.slice A2 n2 c2)
       have qd : ∀ j o, some g' = some j → w5.heap[j]? = some o → o.isCells = true := hcells5
       have HA : ∀ act, ownPostK (fun W W' => kD A1 m c1 w2.heap.size B ys1 W → kD A1 m c1 w2.heap.size B ys1 W') (fun pre W => (∃ v xs, ky w W B (w.heap.size + 1 + 1) (st' ++ pre.map fun i : Fin m => (l1.take 41).getD i.val Kl) v xs) ∧ Marks w.heap.size ds W ∧ kD A1 m c1 w2.heap.size B ys1 W) (fun _ _ _ => False) (pre ++ [x]) W Exit.normal act ((put7 w5 g' (L * 7) (.int .i64 k2) (.int .u32 s2.1) (.int .u32 s2.2) (.bool neg2) (.int .i64 lo2) (.int .i64 hi2) (.slice A2 n2 c2)).setCell ⟨w.heap.size + 1 + 1, 0, none⟩ (.slice (some ⟨g', 0, none⟩) (L + 1) cap')) := fun act => Yy _ act ha1 ha2 (((Below.refl _ w5).grown hga Eg (fun k e => by cases e; exact hg1)).setCell (p := ⟨w.heap.size + 1 + 1, 0, none⟩) (by simp; omega) _) ((KeepsOthers.of_grownBy hga qd).trans (KeepsOthers.setCell _ _ _)) (fun k hk h => (h.grown hga (fun e => by cases e; exact own_blk_ne ai h (by decide) rfl)).far (p := ⟨w.heap.size + 1 + 1, 0, none⟩) hk _)
       have HB : ∀ act, ownPostK (fun W W' => kD A1 m c1 w2.heap.size B ys1 W → kD A1 m c1 w2.heap.size B ys1 W') (fun pre W => (∃ v xs, ky w W B (w.heap.size + 1 + 1) (st' ++ pre.map fun i : Fin m => (l1.take 41).getD i.val Kl) v xs) ∧ Marks w.heap.size ds W ∧ kD A1 m c1 w2.heap.size B ys1 W) (fun _ _ _ => False) (pre ++ [x]) W Exit.normal act (put7 (w5.setCell ⟨w.heap.size + 1 + 1, 0, none⟩ (.slice (some ⟨g', 0, none⟩) (L + 1) cap')) g' (L * 7) (.int .i64 k2) (.int .u32 s2.1) (.int .u32 s2.2) (.bool neg2) (.int .i64 lo2) (.int .i64 hi2) (.slice A2 n2 c2)) := fun act => Yy _ act hb1 hb2 (((Below.refl _ w5).setCell (p := ⟨w.heap.size + 1 + 1, 0, none⟩) (by simp; omega) _).grown hgb (by simpa [World.setCell] using Eg) (fun k e => by cases e; exact hg1)) ((KeepsOthers.setCell _ _ _).trans (KeepsOthers.of_grownBy hgb (by
        intro j o e hj
        cases e
        rw [Below.heap_setCell _ _ _ _ hgb1] at hj
        exact qd _ o rfl hj))) (fun k hk h => (h.far (p := ⟨w.heap.size + 1 + 1, 0, none⟩) hk _).grown hgb (fun e => by cases e; exact own_blk_ne ai h (by decide) rfl))
       have hLI : (L : Int) < (L : Int) + 1 := by omega
       have HA2 := qh HA; have HB2 := qh HB
       clear Yy ai hb5 hgrow2 hz hfz hrow5 hal hbel5 hko5 hko4 YW hpl ha1 ha2 hb1 hb2 hga hgb qd hcells5 HA HB Eg
       refine wpAnyIn_ready (rs := [5, 7]) (by kernel_rfl) (by simp) ?_
       refine AllReadyIn.cons rfl (fun K hK => ?_) ?_
       ·go_simp
        refine hK _ _ ?_
        clear hK K
        refine wpAnyIn_ready (rs := [6, 7]) (by kernel_rfl) (by simp) ?_
        refine AllReadyIn.cons rfl (fun K hK => ?_) ?_
        ·go_simp
         refine hK _ _ ?_
         clear hK K
         refine wpAnyIn_ready (rs := [7]) (by kernel_rfl) (by simp) ?_
         refine AllReadyIn.cons rfl (fun K hK => ?_) AllReadyIn.nil
         go_simp
         refine hK _ _ ?_
         clear hK K
         refine wpAnyIn_done (by kernel_rfl) ?_ _
         exact HA2.out { tmps := #[], defers := [] }
        ·refine AllReadyIn.cons rfl (fun K hK => ?_) AllReadyIn.nil
         go_simp
         refine hK _ _ ?_
         clear hK K
         refine wpAnyIn_ready (rs := [6]) (by kernel_rfl) (by simp) ?_
         refine AllReadyIn.cons rfl (fun K hK => ?_) AllReadyIn.nil
         go_simp
         refine hK _ _ ?_
         clear hK K
         refine wpAnyIn_done (by kernel_rfl) ?_ _
         exact HB2.out { tmps := #[], defers := [] }
       ·refine AllReadyIn.cons rfl (fun K hK => ?_) AllReadyIn.nil
        go_simp
        refine hK _ _ ?_
        clear hK K
        refine wpAnyIn_ready (rs := [5]) (by kernel_rfl) (by simp) ?_
        refine AllReadyIn.cons rfl (fun K hK => ?_) AllReadyIn.nil
        go_simp
        refine hK _ _ ?_
        clear hK K
        refine wpAnyIn_ready (rs := [6]) (by kernel_rfl) (by simp) ?_
        refine AllReadyIn.cons rfl (fun K hK => ?_) AllReadyIn.nil
        go_simp
        refine hK _ _ ?_
        clear hK K
        refine wpAnyIn_done (by kernel_rfl) ?_ _
        exact HB2.out { tmps := #[], defers := [] }
      refine wpAnyIn_ready (rs := [0, 1, 3]) (by kernel_rfl) (by simp) ?_
      refine AllReadyIn.cons rfl (fun K hK => ?_) ?_
      ·go_simp
       refine hK _ _ ?_
       clear hK K
       refine wpAnyIn_ready (rs := [1, 2, 3]) (by kernel_rfl) (by simp) ?_
       refine AllReadyIn.cons rfl (fun K hK => ?_) ?_
       ·go_simp
        refine hK _ _ ?_
        clear hK K
        refine wpAnyIn_ready (rs := [2, 3]) (by kernel_rfl) (by simp) ?_
        refine AllReadyIn.cons rfl (fun K hK => ?_) ?_
        ·go_simp
         refine hK _ _ ?_
         clear hK K
         refine wpAnyIn_ready (rs := [3]) (by kernel_rfl) (by simp) ?_
         refine AllReadyIn.cons rfl (fun K hK => ?_) AllReadyIn.nil
         go_simp
         refine hK _ _ ?_
         clear hK K
         exact any_cast (by kernel_rfl) hT
        refine AllReadyIn.cons rfl (fun K hK => ?_) AllReadyIn.nil
        go_simp
        refine hK _ _ ?_
        clear hK K
        refine wpAnyIn_ready (rs := [2]) (by kernel_rfl) (by simp) ?_
        refine AllReadyIn.cons rfl (fun K hK => ?_) AllReadyIn.nil
        go_simp
        refine hK _ _ ?_
        clear hK K
        exact any_cast (by kernel_rfl) hT
       refine AllReadyIn.cons rfl (fun K hK => ?_) ?_
       ·go_simp
        refine hK _ _ ?_
        clear hK K
        refine wpAnyIn_ready (rs := [1, 3]) (by kernel_rfl) (by simp) ?_
        refine AllReadyIn.cons rfl (fun K hK => ?_) ?_
        ·go_simp
         refine hK _ _ ?_
         clear hK K
         refine wpAnyIn_ready (rs := [3]) (by kernel_rfl) (by simp) ?_
         refine AllReadyIn.cons rfl (fun K hK => ?_) AllReadyIn.nil
         go_simp
         refine hK _ _ ?_
         clear hK K
         exact any_cast (by kernel_rfl) hT
        refine AllReadyIn.cons rfl (fun K hK => ?_) AllReadyIn.nil
        go_simp
        refine hK _ _ ?_
        clear hK K
        refine wpAnyIn_ready (rs := [1]) (by kernel_rfl) (by simp) ?_
        refine AllReadyIn.cons rfl (fun K hK => ?_) AllReadyIn.nil
        go_simp
        refine hK _ _ ?_
        clear hK K
        exact any_cast (by kernel_rfl) hT
       refine AllReadyIn.cons rfl (fun K hK => ?_) AllReadyIn.nil
       go_simp
       refine hK _ _ ?_
       clear hK K
       refine wpAnyIn_ready (rs := [1, 2]) (by kernel_rfl) (by simp) ?_
       refine AllReadyIn.cons rfl (fun K hK => ?_) ?_
       ·go_simp
        refine hK _ _ ?_
        clear hK K
        refine wpAnyIn_ready (rs := [2]) (by kernel_rfl) (by simp) ?_
        refine AllReadyIn.cons rfl (fun K hK => ?_) AllReadyIn.nil
        go_simp
        refine hK _ _ ?_
        clear hK K
        exact any_cast (by kernel_rfl) hT
       refine AllReadyIn.cons rfl (fun K hK => ?_) AllReadyIn.nil
       go_simp
       refine hK _ _ ?_
       clear hK K
       refine wpAnyIn_ready (rs := [1]) (by kernel_rfl) (by simp) ?_
       refine AllReadyIn.cons rfl (fun K hK => ?_) AllReadyIn.nil
       go_simp
       refine hK _ _ ?_
       clear hK K
       exact any_cast (by kernel_rfl) hT
      refine AllReadyIn.cons rfl (fun K hK => ?_) ?_
      ·go_simp
       refine hK _ _ ?_
       clear hK K
       refine wpAnyIn_ready (rs := [0, 3]) (by kernel_rfl) (by simp) ?_
       refine AllReadyIn.cons rfl (fun K hK => ?_) ?_
       ·go_simp
        refine hK _ _ ?_
        clear hK K
        refine wpAnyIn_ready (rs := [2, 3]) (by kernel_rfl) (by simp) ?_
        refine AllReadyIn.cons rfl (fun K hK => ?_) ?_
        ·go_simp
         refine hK _ _ ?_
         clear hK K
         refine wpAnyIn_ready (rs := [3]) (by kernel_rfl) (by simp) ?_
         refine AllReadyIn.cons rfl (fun K hK => ?_) AllReadyIn.nil
         go_simp
         refine hK _ _ ?_
         clear hK K
         exact any_cast (by kernel_rfl) hT
        refine AllReadyIn.cons rfl (fun K hK => ?_) AllReadyIn.nil
        go_simp
        refine hK _ _ ?_
        clear hK K
        refine wpAnyIn_ready (rs := [2]) (by kernel_rfl) (by simp) ?_
        refine AllReadyIn.cons rfl (fun K hK => ?_) AllReadyIn.nil
        go_simp
        refine hK _ _ ?_
        clear hK K
        exact any_cast (by kernel_rfl) hT
       refine AllReadyIn.cons rfl (fun K hK => ?_) AllReadyIn.nil
       go_simp
       refine hK _ _ ?_
       clear hK K
       refine wpAnyIn_ready (rs := [0]) (by kernel_rfl) (by simp) ?_
       refine AllReadyIn.cons rfl (fun K hK => ?_) AllReadyIn.nil
       go_simp
       refine hK _ _ ?_
       clear hK K
       refine wpAnyIn_ready (rs := [2]) (by kernel_rfl) (by simp) ?_
       refine AllReadyIn.cons rfl (fun K hK => ?_) AllReadyIn.nil
       go_simp
       refine hK _ _ ?_
       clear hK K
       exact any_cast (by kernel_rfl) hT
      refine AllReadyIn.cons rfl (fun K hK => ?_) AllReadyIn.nil
      go_simp
      refine hK _ _ ?_
      clear hK K
      refine wpAnyIn_ready (rs := [0, 1]) (by kernel_rfl) (by simp) ?_
      refine AllReadyIn.cons rfl (fun K hK => ?_) ?_
      ·go_simp
       refine hK _ _ ?_
       clear hK K
       refine wpAnyIn_ready (rs := [1, 2]) (by kernel_rfl) (by simp) ?_
       refine AllReadyIn.cons rfl (fun K hK => ?_) ?_
       ·go_simp
        refine hK _ _ ?_
        clear hK K
        refine wpAnyIn_ready (rs := [2]) (by kernel_rfl) (by simp) ?_
        refine AllReadyIn.cons rfl (fun K hK => ?_) AllReadyIn.nil
        go_simp
        refine hK _ _ ?_
        clear hK K
        exact any_cast (by kernel_rfl) hT
       refine AllReadyIn.cons rfl (fun K hK => ?_) AllReadyIn.nil
       go_simp
       refine hK _ _ ?_
       clear hK K
       refine wpAnyIn_ready (rs := [1]) (by kernel_rfl) (by simp) ?_
       refine AllReadyIn.cons rfl (fun K hK => ?_) AllReadyIn.nil
       go_simp
       refine hK _ _ ?_
       clear hK K
       exact any_cast (by kernel_rfl) hT
      refine AllReadyIn.cons rfl (fun K hK => ?_) AllReadyIn.nil
      go_simp
      refine hK _ _ ?_
      clear hK K
      refine wpAnyIn_ready (rs := [0]) (by kernel_rfl) (by simp) ?_
      refine AllReadyIn.cons rfl (fun K hK => ?_) AllReadyIn.nil
      go_simp
      refine hK _ _ ?_
      clear hK K
      refine wpAnyIn_ready (rs := [2]) (by kernel_rfl) (by simp) ?_
      refine AllReadyIn.cons rfl (fun K hK => ?_) AllReadyIn.nil
      go_simp
      refine hK _ _ ?_
      clear hK K
      exact any_cast (by kernel_rfl) hT
     case done =>
      rintro D xs W hD hxs ⟨⟨v, us2, h1⟩, h2, h3⟩ Y7
      subst hxs
      rw [GX Qp.out] at h1
      have hbn : nn + 1 ≤ 40 := by omega
      have H1 := qh h1; have H2 := qh h2; have HKD := qh Y7
      clear h1 h2 h3 Y7
      gi_wp2
      exact ⟨gk - 1, by have := ZB.out; omega, HJ.out _ _ _ ⟨_, _, _, _, _, _, _, _, _, _, _, _, _, _, _, _, _, _, _, _, _, _, _, _, _, _, _, _, _, _, _, _, _, _, _, _, _, _, _, _, _, _, _, _, _, nn + 1, _, _, _, rfl, by have := ZB.out; omega, H1.out, ⟨⟨D, rfl, by have := sS.out.below.size; omega, HKD.out, fun d' hd' e => by have := Hr.out.lt d' hd' D e; omega⟩, H2.out⟩, dz.out, by rw [List.length_append, List.length_reverse, Qp.out]; omega⟩⟩
     case stop =>
      rintro D c pre W hD dM h hK
      exact h.elim
    ·have aS : bu k1 s1 neg1 lo1 hi1 l1.length = false := by
      cases h : bu k1 s1 neg1 lo1 hi1 l1.length with
      | false => rfl
      | true => exact absurd (HX.out.2 h) hx0
     have hst2 := bL.out
     rw [IW aS] at hst2
     have hxe : (x != 0) = true := by simpa using hx0
     have HX0 := qh hx0
     clear aS HX bL hx0
     subst hst2
     gi_wp2
     refine kE.out x _ _ ?_ ?_ Hq.out.below PH.out
     ·rfl
     ·exact ⟨fun h => absurd h HX0.out, fun h => absurd h (by simp)⟩
end Go.Proofs.YtmepaeahchiglaaGreatDoor
