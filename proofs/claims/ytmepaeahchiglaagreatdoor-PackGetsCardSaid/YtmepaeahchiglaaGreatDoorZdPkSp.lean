/-
 layer 43: the reference's pattern, read. Conditions: bytes that can be read. (Printed by refrd2.py.)
-/
import Derived.Test.YtmepaeahchiglaaGreatDoorZdap
import Derived.Test.YtmepaeahchiglaaGreatDoorZdal
set_option maxRecDepth 20000
set_option maxHeartbeats 8000000
set_option linter.unusedSimpArgs false
namespace Go.Proofs.YtmepaeahchiglaaGreatDoor
open Go.RowKit Go.Lib
def eT {α : Type} (x : α) (b : Bool) (rest : List Nat) (o : Option (α × List Nat)) : Prop := match o with
 | some (y, r) => x = y ∧ b = false ∧ rest = r
 | none => b = true
theorem ak {α β : Type} {x : α} {y : β} {b1 b2 : Bool} {bs r1 r2 : List Nat} {g : Rdr α} {f : α → Rdr β} (h1 : eT x b1 r1 (g bs)) (hb : b1 = true → b2 = true) (h2 : b1 = false → eT y b2 r2 (f x r1)) : eT y b2 r2 (thenR g f bs) := by
 cases ho : g bs with
 | none =>
   rw [ho] at h1
   rw [thenR_none ho]
   exact hb h1
 | some q =>
   obtain ⟨z, r⟩ := q
   rw [ho] at h1
   obtain ⟨rfl, hb1, rfl⟩ := h1
   rw [thenR_some ho]
   exact h2 hb1
theorem lK {α : Type} {x : α} {b : Bool} {r : List Nat} (h : b = false) : eT x b r (some (x, r)) := ⟨rfl, h, rfl⟩
def mX (g before : Nat) (all : List Nat) (bad : Bool) (w : World) (o : Option ((Pt × Nat) × List Nat)) (e : Ending) (w' : World) : Prop :=
 ∃ p cs nodes at' aO, e = .returned (.tuple #[.agg cs.toArray, .int .i64 (nodes : Nat)]) ∧ PatF w' (fun b => w.heap.size ≤ b ∧ b < w'.heap.size) p cs ∧ before ≤ nodes ∧ nodes ≤ 41 ∧ (aO = false → nodes ≤ 40) ∧ av [g] w w' ∧ RS w' g all at' aO ∧ (bad = true → aO = true) ∧ (bad = false → eT (p, 40 - nodes) aO (all.drop at') o)
def TQ (f : Nat) : Prop := ∀ (w : World) (g at_ before : Nat) (all : List Nat) (bad : Bool), before ≤ 40 → 40 - before < f → RS w g all at_ bad →
 Calls Tryz.prog 166 #[af g, .int .i64 (before : Nat)] w (mX g before all bad w (fD f (40 - before) (all.drop at_)))
theorem dD {fn : Func} {p q : Tmp} (h : fn.results = #[.cell p 58, .tmp q]) (tmps : Array Value) (w : World) (a : Nat) (c0 c1 c2 c3 c4 c5 c6 : Value) (hp : tmps.getD p undef = af a) (ha : Blk w a 58 #[c0, c1, c2, c3, c4, c5, c6]) :
 (results fn tmps).run Tryz.prog w = .ok (.tuple #[.agg #[c0, c1, c2, c3, c4, c5, c6], tmps.getD q undef]) w := by
 have hp' : tmps[p]?.getD undef = af a := by simpa using hp
 obtain ⟨z0, z1, z2, z3, z4, z5, z6⟩ := ha.seven
 simp [results, h, hp', go_sem, z0, z1, z2, z3, z4, z5, z6]
structure Cr (w W : World) (g at_ : Nat) (all : List Nat) (bad : Bool) (bx : Nat) (cs : Array Value) : Prop where
 ch : av [g] w W
 rd : RS W g all at_ bad
 rs : Blk W w.heap.size 58 #[.int .i64 0, .int .u32 0, .int .u32 0, .bool false, .int .i64 0, .int .i64 0, .slice none 0 0]
 bo : Blk W bx 58 cs
 gw : g < w.heap.size
 wb : w.heap.size < bx
section
variable {w W W' : World} {g at_ at' : Nat} {all : List Nat} {bad aO : Bool} {bx : Nat} {cs : Array Value}
theorem Cr.aB (h : Cr w W g at_ all bad bx cs) (hc : av [g] W W') (hr : RS W' g all at' aO) : Cr w W' g at' all aO bx cs := by
 have h1 := h.gw
 have h2 := h.wb
 exact ⟨h.ch.trans hc, hr, h.rs.aB hc (by simp; omega), h.bo.aB hc (by simp; omega), h1, h2⟩
theorem Cr.set_ (h : Cr w W g at_ all bad bx cs) (i : Nat) (u : Value) : Cr w (W.setCell ⟨bx, i, none⟩ u) g at_ all bad bx (cs.setIfInBounds i u) := by
 have h1 := h.gw
 have h2 := h.wb
 have hc : av [bx] W (W.setCell ⟨bx, i, none⟩ u) := (av.refl _ _).setCell (.inl (by simp)) u
 exact ⟨h.ch.new hc (fun j hj => .inr (by simp at hj; omega)), h.rd.aB hc (by simp; omega), h.rs.aB hc (by simp; omega), h.bo.set_ i u, h1, h2⟩
end
theorem Cr.fin {w W : World} {g at' bx before nodes : Nat} {all : List Nat} {bad aO : Bool} {k : Int} {s : Snd} {neg : Bool} {lo hi : Int} {A : Option Addr} {n c : Nat} {p : Pt} {o : Option ((Pt × Nat) × List Nat)} (h : Cr w W g at' all aO bx #[.int .i64 k, .int .u32 s.1, .int .u32 s.2, .bool neg, .int .i64 lo, .int .i64 hi, .slice A n c])
 (hp : PatF W (fun b => w.heap.size < b ∧ b < W.heap.size) p (aZ k s neg lo hi (.slice A n c))) (hbn : before ≤ nodes) (hn : nodes ≤ 41) (hn2 : aO = false → nodes ≤ 40) (hb : bad = true → aO = true) (hg : bad = false → eT (p, 40 - nodes) aO (all.drop at') o) :
 mX g before all bad w o (.returned (.tuple #[.agg (aZ k s neg lo hi (.slice A n c)).toArray, .int .i64 nodes])) (st7 W w.heap.size (.int .i64 k) (.int .u32 s.1) (.int .u32 s.2) (.bool neg) (.int .i64 lo) (.int .i64 hi) (.slice A n c)) := by
 have h1 := h.gw
 have hs7 := av.st7 W w.heap.size (.int .i64 k) (.int .u32 s.1) (.int .u32 s.2) (.bool neg) (.int .i64 lo) (.int .i64 hi) (.slice A n c)
 exact ⟨p, _, nodes, at', aO, rfl, hp.aB hs7 (fun b hb => ⟨hb.2, by have := hb.1; simp; omega⟩) (fun b hb => ⟨Nat.le_of_lt hb.1, Nat.lt_of_lt_of_le hb.2 hs7.size⟩), hbn, hn, hn2, h.ch.new hs7 (fun i hi => .inr (by rw [List.mem_singleton.1 hi]; exact Nat.le_refl _)), h.rd.aB hs7 (by simpa using h1), hb, hg⟩
def Ns (g before : Nat) (all : List Nat) (w : World) (e : Ending) (w' : World) : Prop := ∃ cs at', e = .returned (.tuple #[.agg cs.toArray, .int .i64 ((before : Int) + 1)]) ∧ PatF w' (fun b => w.heap.size ≤ b ∧ b < w'.heap.size) (.mk 0 (0, 0) false 0 0 []) cs ∧ av [g] w w' ∧ RS w' g all at' true
theorem IX (w : World) (g at_ before : Nat) (all : List Nat) (bad : Bool) (h41 : before ≤ 41) (h : RS w g all at_ bad) (aY : bad = true ∨ 40 ≤ before) :
 Calls Tryz.prog 166 #[af g, .int .i64 (before : Nat)] w (Ns g before all w) := by
 have hgl := h.lt
 have h0 := h.alloc (.cells #[.int .i64 0, .int .u32 0, .int .u32 0, .bool false, .int .i64 0, .int .i64 0, .slice none 0 0] 58)
 obtain ⟨A, c, ⟨c0, c1, c2⟩, ⟨f0, f1, f2⟩, -, -, -⟩ := h0.cells
 have hb1 := h.mI.alloc (.cells #[.int .i64 0, .int .u32 0, .int .u32 0, .bool false, .int .i64 0, .int .i64 0, .slice none 0 0] 58)
 have hx1 : Blk ((w.setCell ⟨g, 2, none⟩ (.bool true)).alloc (.cells #[.int .i64 0, .int .u32 0, .int .u32 0, .bool false, .int .i64 0, .int .i64 0, .slice none 0 0] 58)) w.heap.size 58 #[.int .i64 0, .int .u32 0, .int .u32 0, .bool false, .int .i64 0, .int .i64 0, .slice none 0 0] := by
  simpa [World.setCell] using Blk.new (w.setCell ⟨g, 2, none⟩ (.bool true)) 58 #[.int .i64 0, .int .u32 0, .int .u32 0, .bool false, .int .i64 0, .int .i64 0, .slice none 0 0]
 have hc1 : av [g] w ((w.setCell ⟨g, 2, none⟩ (.bool true)).alloc (.cells #[.int .i64 0, .int .u32 0, .int .u32 0, .bool false, .int .i64 0, .int .i64 0, .slice none 0 0] 58)) := ((av.refl [g] w).setCell (.inl (by simp)) _).alloc _
 have wO := qh hx1; have HR2 := qh hb1; have ig := qh hc1
 clear h h0 hb1 hx1 hc1 c0 c1 f0 f1
 have ay : ∀ W, True → PatF W (fun b => w.heap.size ≤ b ∧ b < W.heap.size) (.mk 0 (0, 0) false 0 0 []) (aZ 0 (0, 0) false 0 0 (.slice none 0 0)) := fun W _ => kN W _ 0 (0, 0) false 0 0 (by unfold ok32 is32; decide)
 have aD := qh ay
 clear ay
 by_cases hbf : 40 ≤ before
 ·have RG : (40 : Int) < (before : Int) + 1 := by omega
  clear aY hbf
  go_enter Tryz.func166, Tryz.ntmps166
  go_wp2
  exact bodyPost_ret (dD Tryz.results166 _ _ _ _ _ _ _ _ _ _ rfl wO.out) rfl ⟨aZ 0 (0, 0) false 0 0 (.slice none 0 0), at_, rfl, aD.out _ trivial, ig.out, HR2.out⟩
 ·have RG : ¬ (40 : Int) < (before : Int) + 1 := by omega
  obtain rfl : bad = true := by rcases aY with h | h; exact h; omega
  clear aY hbf
  go_enter Tryz.func166, Tryz.ntmps166
  go_wp2
  exact bodyPost_ret (dD Tryz.results166 _ _ _ _ _ _ _ _ _ _ rfl wO.out) rfl ⟨aZ 0 (0, 0) false 0 0 (.slice none 0 0), at_, rfl, aD.out _ trivial, ig.out, HR2.out⟩
theorem Bj : (Tryz.prog.info? 58).map (·.size) = some 7 := by kernel_rfl
theorem Md : NA (Tryz.prog.underlying 58) = true := by kernel_rfl
theorem Gx : ∃ fs, Tryz.prog.underlying 58 = some (.struct fs) := NA.get Md
theorem Bi {ops : Array Oper} {rest : List Oper} {o : Oper} {a : Act} {w : World} {Q : Exit → Act → World → Prop} (hgd : o.guard = none) (x : Operand) (ho : o.op = .load 58 x)
 (g : Nat) (hx : a.eval x = .pointer (some ⟨g, 0, none⟩)) (cs : List Value) (hlen : cs.length = 7) (hg : Blk w g 58 cs.toArray)
 (h : wpList Tryz.prog ops Q rest (a.put o.dst (.agg cs.toArray)) w) : wpList Tryz.prog ops Q (o :: rest) a w := by
 obtain ⟨fs, hfs⟩ := Gx
 exact wpList_load_row hgd _ x ho g hx _ _ _ _ hg hfs rfl (by rw [Bj, List.size_toArray, hlen]) h
theorem yf {ops : Array Oper} {rest : List Oper} {o : Oper} {a : Act} {w : World} {Q : Exit → Act → World → Prop} (hgd : o.guard = none) (x y : Operand) (ho : o.op = .store 58 x y)
 (g : Nat) (hx : a.eval x = .pointer (some ⟨g, 0, none⟩)) (cs old : List Value) (hy : a.eval y = .agg cs.toArray) (hlen : cs.length = 7) (h1 : ∀ u ∈ cs, u.oneCell' = true) (hg : Blk w g 58 old.toArray) (hold : old.length = 7)
 (h : wpList Tryz.prog ops Q rest (a.put o.dst undef) (w.setRow g cs.toArray)) : wpList Tryz.prog ops Q (o :: rest) a w :=
 wpList_store_row hgd _ x y ho g cs.toArray hx hy _ old.toArray hg (by rw [Bj, List.size_toArray, hlen]) (by rw [List.size_toArray, List.size_toArray, hlen, hold]) (Array.all_eq_true_iff_forall_mem.2 (fun v hv => h1 v (by simpa using hv))) h
theorem Fg {n : Nat} {b : Bool} {rest : List Nat} {o : Option (Nat × List Nat)} (h : match o with
 | some (m, r) => n = m ∧ b = false ∧ rest = r
 | none => b = true) : eT n b rest o := by
 cases o with
 | none => exact h
 | some q => exact h
theorem xU {w wr w2 : World} {g at' at2 bx B0 j : Nat} {all : List Nat} {b2 : Bool} {cs : Array Value} {l : List Pt} {xs : List Value} {v : Value} {p : Pt} {k1 : Int} {s1 : Snd} {neg1 : Bool} {lo1 hi1 : Int} {A1 : Option Addr} {n1 c1 : Nat}
 (hs : Cr w wr g at' all false bx cs) (hown : wr.ownsRow B0 58 7 v j xs) (ic : PatsF wr (fun b => B0 ≤ b ∧ b < wr.heap.size ∧ v.ownBlock ≠ some b) l xs) (hB0 : bx < B0) (hBr : B0 ≤ wr.heap.size)
 (hc2 : av [g] (wr.alloc (.cells #[.int .i64 0, .int .u32 0, .int .u32 0, .bool false, .int .i64 0, .int .i64 0, .slice none 0 0] 58)) w2) (hr2 : RS w2 g all at2 b2) (bV : PatF w2 (fun b => (wr.alloc (.cells #[.int .i64 0, .int .u32 0, .int .u32 0, .bool false, .int .i64 0, .int .i64 0, .slice none 0 0] 58)).heap.size ≤ b ∧ b < w2.heap.size) p (aZ k1 s1 neg1 lo1 hi1 (.slice A1 n1 c1))) :
 Blk w2 wr.heap.size 58 #[.int .i64 0, .int .u32 0, .int .u32 0, .bool false, .int .i64 0, .int .i64 0, .slice none 0 0] ∧ ∃ w3, w2.setRow wr.heap.size (aZ k1 s1 neg1 lo1 hi1 (.slice A1 n1 c1)).toArray = w3 ∧ Cr w w3 g at2 all b2 bx cs ∧ w3.ownsRow B0 58 7 v j xs ∧
  PatsF w3 (fun b => B0 ≤ b ∧ b < w3.heap.size ∧ v.ownBlock ≠ some b) (l ++ [p]) (xs ++ aZ k1 s1 neg1 lo1 hi1 (.slice A1 n1 c1)) ∧ Blk w3 wr.heap.size 58 (aZ k1 s1 neg1 lo1 hi1 (.slice A1 n1 c1)).toArray ∧ B0 ≤ w3.heap.size := by
 have h1 := hs.gw
 have h2 := hs.wb
 have hsz := hc2.size
 rw [World.size_alloc] at hsz
 have hy2 := (Blk.new wr 58 #[.int .i64 0, .int .u32 0, .int .u32 0, .bool false, .int .i64 0, .int .i64 0, .slice none 0 0]).aB hc2 (by simp; omega)
 refine ⟨hy2, _, rfl, ?_⟩
 have hs7 := av.setRow w2 wr.heap.size (aZ k1 s1 neg1 lo1 hi1 (.slice A1 n1 c1)).toArray
 have hs2 := (hs.aB ((av.refl [g] wr).alloc (.cells #[.int .i64 0, .int .u32 0, .int .u32 0, .bool false, .int .i64 0, .int .i64 0, .slice none 0 0] 58)) (hs.rd.alloc _)).aB hc2 hr2
 have hown2 := bY (hown.alloc (.cells #[.int .i64 0, .int .u32 0, .int .u32 0, .bool false, .int .i64 0, .int .i64 0, .slice none 0 0] 58)) hc2 (fun d hd hm => by have := (hown.lt d hd).1; simp at hm; omega)
 have hown3 := bY hown2 hs7 (fun d hd hm => by have := (hown.lt d hd).2; simp at hm; omega)
 have hsz3 := hs7.size
 have hold := (ic.aB (T' := fun b => B0 ≤ b ∧ b < wr.heap.size ∧ v.ownBlock ≠ some b) ((av.refl [] wr).alloc (.cells #[.int .i64 0, .int .u32 0, .int .u32 0, .bool false, .int .i64 0, .int .i64 0, .slice none 0 0] 58)) (fun d hd => ⟨hd.2.1, by simp⟩) (fun d hd => hd)).aB (T' := fun b => B0 ≤ b ∧ b < wr.heap.size ∧ v.ownBlock ≠ some b) hc2 (fun d hd => ⟨by rw [World.size_alloc]; omega, by simp; omega⟩) (fun d hd => hd)
 refine ⟨⟨hs2.ch.new hs7 (fun i hi => .inr (by rw [List.mem_singleton.1 hi]; omega)), hs2.rd.aB hs7 (by simp; omega), hs2.rs.aB hs7 (by simp; omega), hs2.bo.aB hs7 (by simp; omega), h1, h2⟩, hown3, PatsF.append ?_ l xs ?_, hy2.setRow _, by omega⟩
 ·refine bV.aB hs7 (fun d hd => ⟨hd.2, by have := hd.1; rw [World.size_alloc] at this; simp; omega⟩) (fun d hd => ?_)
  have hd1 := hd.1
  rw [World.size_alloc] at hd1
  exact ⟨by omega, by omega, fun e => by have := (hown.lt d e).2; omega⟩
 ·exact hold.aB hs7 (fun d hd => ⟨by omega, by simp; omega⟩) (fun d hd => ⟨hd.1, by omega, hd.2.2⟩)
theorem xV {w w3 w4 : World} {g at2 bx B0 j : Nat} {all : List Nat} {b2 : Bool} {a0 a1 a2 a3 a4 a5 : Value} {l : List Pt} {xs ys : List Value} {v v' : Value} {p : Pt} {o : Obj}
 (hs : Cr w w3 g at2 all b2 bx #[a0, a1, a2, a3, a4, a5, v]) (hown : w3.ownsRow B0 58 7 v j xs) (ic : PatsF w3 (fun b => B0 ≤ b ∧ b < w3.heap.size ∧ v.ownBlock ≠ some b) (l ++ [p]) (xs ++ ys)) (hB0 : bx < B0) (hBr : B0 ≤ w3.heap.size)
 (ai : w4.ownsRow B0 58 7 v' (j + 1) (xs ++ ys)) (ag : (w3.alloc o).grownBy w4 v.ownBlock) (bK : v'.ownBlock = v.ownBlock ∨ v'.ownBlock = some (w3.alloc o).heap.size) :
 Blk w4 bx 58 #[a0, a1, a2, a3, a4, a5, v] ∧ Cr w (w4.setCell ⟨bx, 6, none⟩ v') g at2 all b2 bx #[a0, a1, a2, a3, a4, a5, v'] ∧ (w4.setCell ⟨bx, 6, none⟩ v').ownsRow B0 58 7 v' (j + 1) (xs ++ ys) ∧
  PatsF (w4.setCell ⟨bx, 6, none⟩ v') (fun b => B0 ≤ b ∧ b < (w4.setCell ⟨bx, 6, none⟩ v').heap.size ∧ v'.ownBlock ≠ some b) (l ++ [p]) (xs ++ ys) ∧ B0 ≤ (w4.setCell ⟨bx, 6, none⟩ v').heap.size := by
 have h1 := hs.gw
 have h2 := hs.wb
 have hlow : ∀ d, v.ownBlock = some d → B0 ≤ d := fun d hd => (hown.lt d hd).1
 have hsz := ag.size
 rw [World.size_alloc] at hsz
 have hs4 : Cr w w4 g at2 all b2 bx #[a0, a1, a2, a3, a4, a5, v] :=
  ⟨(hs.ch.alloc o).grown ag (fun d hd => by have := hlow d hd; omega), (hs.rd.alloc o).grown ag (fun d hd => by have := hlow d hd; omega), (hs.rs.alloc o).grown ag (fun e => by have := hlow _ e.symm; omega), (hs.bo.alloc o).grown ag (fun e => by have := hlow _ e.symm; omega), h1, h2⟩
 have dI : av [bx] w4 (w4.setCell ⟨bx, 6, none⟩ v') := (av.refl _ _).setCell (.inl (by simp)) v'
 have hs5 := hs4.set_ 6 v'
 simp only [gq1] at hs5
 refine ⟨hs4.bo, hs5, bY ai dI (fun d hd hm => by have := (ai.lt d hd).1; simp at hm; omega), ?_, by have := dI.size; omega⟩
 have hne : ∀ d, d < w3.heap.size → v.ownBlock ≠ some d → v'.ownBlock ≠ some d := fun d hd hn e => by
  rcases bK with bK | bK
  ·exact hn (by rw [← bK, e])
  ·rw [e, World.size_alloc] at bK
   injection bK with bK
   omega
 have h4 : PatsF w4 (fun b => B0 ≤ b ∧ b < w3.heap.size ∧ v'.ownBlock ≠ some b) (l ++ [p]) (xs ++ ys) := ic.keep (fun d hd => ⟨hd.1, hd.2.1, hne d hd.2.1 hd.2.2⟩) (fun q hq => by
  unfold World.cell?
  rw [ag.block q.block (by rw [World.size_alloc]; omega) (fun e => hq.2.2 e.symm), Below.heap_alloc _ _ _ hq.2.1]) _ _
 exact h4.aB dI (fun d hd => ⟨by omega, by simp; omega⟩) (fun d hd => ⟨hd.1, by have := dI.size; omega, hd.2.2⟩)
def zF (f n left at0 : Nat) (all : List Nat) (b0 b' : Bool) (l : List Pt) (j nodes at' : Nat) : Prop := (b0 = true → b' = true) ∧ (b0 = false → (b' = true → manyS (fD f) n left (all.drop at0) = none) ∧ (b' = false → sH l (manyS (fD f) (n - j) (40 - nodes) (all.drop at')) = manyS (fD f) n left (all.drop at0)))
def Fw (w wr : World) (g : Nat) (all : List Nat) (bx B0 f n before at0 : Nat) (b0 : Bool) (k lo hi : Int) (nd i : Value) : Prop := ∃ j nodes at' : Nat, ∃ b' : Bool, ∃ l : List Pt, ∃ xs : List Value, ∃ v : Value, j ≤ n ∧ i = .int .i64 j ∧ nd = .int .i64 nodes ∧ l.length = j ∧ (B0 ≤ wr.heap.size ∧ before + 1 ≤ nodes) ∧ nodes ≤ 41 ∧ (b' = false → nodes ≤ 40) ∧ wr.ownsRow B0 58 7 v j xs ∧ PatsF wr (fun b => B0 ≤ b ∧ b < wr.heap.size ∧ v.ownBlock ≠ some b) l xs ∧ Cr w wr g at' all b' bx #[.int .i64 k, .int .u32 0, .int .u32 0, .bool false, .int .i64 lo, .int .i64 hi, v] ∧ zF f n (39 - before) at0 all b0 b' l j nodes at'
theorem F3 (f : Nat) (hf : TQ f) (w : World) (g at_ before : Nat) (all : List Nat) (hb40 : before < 40) (hlt : 39 - before < f) (h : RS w g all at_ false) :
 Calls Tryz.prog 166 #[af g, .int .i64 (before : Nat)] w (mX g before all false w (mM (fD f) (39 - before) (all.drop at_))) := by
 obtain ⟨i0, hi0, hz0, hz1, hz3⟩ := info_parts (show (Tryz.prog.info? 58).map (fun i => (i.zero, i.size, i.bytes)) = some (some (.agg #[.int .i64 0, .int .u32 0, .int .u32 0, .bool false, .int .i64 0, .int .i64 0, .slice none 0 0]), 7, 64) by kernel_rfl)
 have hgl := h.lt
 have h0 := h.alloc (.cells #[.int .i64 0, .int .u32 0, .int .u32 0, .bool false, .int .i64 0, .int .i64 0, .slice none 0 0] 58)
 have hx0 := Blk.new w 58 #[.int .i64 0, .int .u32 0, .int .u32 0, .bool false, .int .i64 0, .int .i64 0, .slice none 0 0]
 have bQ := (av.refl [g] w).alloc (.cells #[.int .i64 0, .int .u32 0, .int .u32 0, .bool false, .int .i64 0, .int .i64 0, .slice none 0 0] 58)
 obtain ⟨A, c, ⟨c0, c1, c2⟩, -, -, -, -⟩ := h0.cells
 obtain ⟨W0, hW0⟩ : ∃ W, w.alloc (.cells #[.int .i64 0, .int .u32 0, .int .u32 0, .bool false, .int .i64 0, .int .i64 0, .slice none 0 0] 58) = W := ⟨_, rfl⟩
 have Wp : W0.heap.size = w.heap.size + 1 := by rw [← hW0]; simp
 have h0' := h0
 have hx0' := hx0
 have hch' := bQ
 rw [hW0] at h0' hx0' hch'
 have hc := jv W0 g at_ all false h0'
 unfold oz at hc
 have HW0 := qh hW0; have HX0 := qh hx0'; have bz := qh hch'; have HC := qh hc; have HF := qh hf
 clear h h0 h0' hx0 hx0' bQ hch' hW0 hc c0 c1 hf
 have RG : ¬ (40 : Int) < (before : Int) + 1 := by omega
 obtain ⟨o, ho⟩ : ∃ o, mM (fD f) (39 - before) (all.drop at_) = o := ⟨_, rfl⟩
 rw [ho]
 have HO := qh ho
 clear ho
 go_enter Tryz.func166, Tryz.ntmps166
 go_wp2_with fail
 rw [HW0.out]
 clear HW0 c2
 refine HC.out.mono ?_
 rintro e w1 ⟨k, at1, b1, rfl, hk, hc1, hr1, hb1, hg1⟩
 have hg1' : eT k b1 (all.drop at1) (readN (all.drop at_)) := hg1 rfl
 have hs1 := hc1.size
 have sM : Cr w (w1.alloc (.cells #[.int .i64 k, .int .u32 0, .int .u32 0, .bool false, .int .i64 0, .int .i64 0, .slice none 0 0] 58)) g at1 all b1 w1.heap.size #[.int .i64 k, .int .u32 0, .int .u32 0, .bool false, .int .i64 0, .int .i64 0, .slice none 0 0] :=
  ⟨(bz.out.trans hc1).alloc _, hr1.alloc _, (HX0.out.aB hc1 (by simp; omega)).alloc _, Blk.new w1 _ _, hgl, by omega⟩
 have hk32 : k < 4294967296 := hk
 have oW := HO.out
 unfold mM at oW
 have G1 := qh hg1'
 clear hk hc1 hr1 hb1 hg1 hg1' HC HX0 bz HO
 obtain ⟨kI, cB⟩ : ∃ kI : Int, (k : Int) = kI := ⟨_, rfl⟩
 dsimp only
 rw [cB] at sM ⊢
 have hkr0 : 0 ≤ kI := by omega
 have hkr1 : kI < 4294967296 := by omega
 by_cases k1 : k = 1
 ·obtain rfl : kI = 1 := by omega
  obtain ⟨W2, hW2⟩ : ∃ W, w1.alloc (.cells #[.int .i64 1, .int .u32 0, .int .u32 0, .bool false, .int .i64 0, .int .i64 0, .slice none 0 0] 58) = W := ⟨_, rfl⟩
  rw [hW2] at sM
  have HS2 := qh sM; have HW2 := qh hW2
  clear sM hW2
  go_wp2_with fail
  rw [HW2.out]
  clear HW2
  refine (mF W2 g at1 all b1 HS2.out.rd).mono ?_
  rintro e w3 ⟨s, at2, b2, rfl, hok, hc2, hr2, hb2, hg2⟩
  have hs3 := HS2.out.aB hc2 hr2
  obtain ⟨x0, x1, x2, x3, x4, x5, x6⟩ := hs3.bo.seven
  obtain ⟨y0, y1, y2, y3, y4, y5, y6⟩ := hs3.bo.free7
  have hs4 := (hs3.set_ 1 (.int .u32 s.1)).set_ 2 (.int .u32 s.2)
  simp only [gq1] at hs4
  obtain ⟨W4, CJ⟩ : ∃ W, (w3.setCell ⟨w1.heap.size, 1, none⟩ (.int .u32 s.1)).setCell ⟨w1.heap.size, 2, none⟩ (.int .u32 s.2) = W := ⟨_, rfl⟩
  rw [CJ] at hs4
  have rA := qh hs4; have FC := qh CJ; have gW := qh hok; have B2 := qh hb2; have G2 := qh hg2
  clear hs3 hs4 CJ hc2 hr2 hok hb2 hg2 HS2
  go_wp2_with fail
  rw [FC.out]
  clear FC x0 x1 x2 x3 x4 x5 x6 y0 y1 y2 y3 y4 y5 y6
  refine (xQ W4 g at2 all b2 rA.out.rd).mono ?_
  rintro e w5 ⟨neg, at3, b3, rfl, -, hc3, hr3, hb3, hg3⟩
  have hs5 := rA.out.aB hc3 hr3
  obtain ⟨x0, x1, x2, x3, x4, x5, x6⟩ := hs5.bo.seven
  obtain ⟨y0, y1, y2, y3, y4, y5, y6⟩ := hs5.bo.free7
  have hs6 := hs5.set_ 3 (.bool neg)
  simp only [gq1] at hs6
  have qb : eT (Pt.mk 1 s neg 0 0 [], 39 - before) b3 (all.drop at3) o := by
   rw [← oW]
   refine ak G1.out (fun hb => hb3 (B2.out hb)) fun hb1 => ?_
   rw [if_pos k1]
   exact ak (G2.out hb1) hb3 fun hb2 => ak (hg3 hb2) id fun hb3 => lK hb3
  have Qm := qh hs6; have HG := qh qb
  have J8 : before + 1 ≤ 40 := by omega
  clear hs5 hs6 hc3 hr3 hb3 hg3 rA qb oW k1 cB
  go_wp2
  go_loopw [6, 9] (fun nd i wr => nd = .int .i64 ((before : Int) + 1) ∧ i = .int .i64 0 ∧ Cr w wr g at3 all b3 w1.heap.size #[.int .i64 1, .int .u32 s.1, .int .u32 s.2, .bool neg, .int .i64 0, .int .i64 0, .slice none 0 0]) (fun _ _ _ => 0)
  case atStart => exact ⟨rfl, rfl, Qm.out⟩
  case round =>
   obtain ⟨rfl, rfl, hs⟩ := hrel
   obtain ⟨x0, x1, x2, x3, x4, x5, x6⟩ := hs.bo.seven
   obtain ⟨z0, z1, z2, z3, z4, z5, z6⟩ := hs.rs.seven
   obtain ⟨v0, v1, v2, v3, v4, v5, v6⟩ := hs.rs.free7
   obtain ⟨A, c, ⟨c0, c1, c2⟩, -, -, -, -⟩ := hs.rd.cells
   have ay := hs.fin (nodes := before + 1) (o := o) (bad := false) (kN _ _ 1 s neg 0 0 gW.out) (Nat.le_succ before) (by omega) (fun _ => J8) (fun h => by cases h) (fun _ => by rw [show 40 - (before + 1) = 39 - before by omega]; exact HG.out)
   rw [show ((before + 1 : Nat) : Int) = (before : Int) + 1 by simp] at ay
   have aD := qh ay; have zJ := qh (hs.rs.st7 (.int .i64 1) (.int .u32 s.1) (.int .u32 s.2) (.bool neg) (.int .i64 0) (.int .i64 0) (.slice none 0 0))
   clear ay hs
   go_wp2
   exact bodyPost_ret (dD Tryz.results166 _ _ _ _ _ _ _ _ _ _ rfl zJ.out) rfl aD.out
 by_cases k34 : k = 3 ∨ k = 4
 ·have t1 : (kI == 1) = false := by rw [beq_eq_false_iff_ne]; omega
  have t3 : (kI == 3) = true ∨ ((kI == 3) = false ∧ (kI == 4) = true) := by
   rcases k34 with h | h
   ·exact .inl (by rw [beq_iff_eq]; omega)
   ·exact .inr ⟨by rw [beq_eq_false_iff_ne]; omega, by rw [beq_iff_eq]; omega⟩
  obtain ⟨W2, hW2⟩ : ∃ W, w1.alloc (.cells #[.int .i64 kI, .int .u32 0, .int .u32 0, .bool false, .int .i64 0, .int .i64 0, .slice none 0 0] 58) = W := ⟨_, rfl⟩
  have Xd : W2.heap.size = w1.heap.size + 1 := by rw [← hW2]; simp
  rw [hW2] at sM
  have HS2 := qh sM; have HW2 := qh hW2; have jf := qh oW; have KV := qh k34; have jr := qh k1; have Qr := qh cB
  clear sM hW2 oW k34 k1 cB
  rcases t3 with t3 | ⟨t3, t4⟩
  all_goals
   go_wp2_with fail
   rw [HW2.out]
   clear HW2
   refine (bZ W2 g at1 all b1 HS2.out.rd).mono ?_
   rintro e wk ⟨n, atk, bk, rfl, hn, hn0, hck, OD, gp, Y0⟩
   have hsk := HS2.out.aB hck OD
   have hn30 : n ≤ 1073741824 := by have := OD.all.2.2; omega
   have Q3 := hck.size
   have hwk : w1.heap.size < wk.heap.size := by omega
   have qb : ∀ (l : List Pt) (nodes at' : Nat) (b' : Bool), (bk = true → b' = true) → (bk = false → eT (l, 40 - nodes) b' (all.drop at') (manyS (fD f) n (39 - before) (all.drop atk))) → eT (Pt.mk kI (0, 0) false 0 0 l, 40 - nodes) b' (all.drop at') o := fun l nodes at' b' h1 h2 => by
    rw [← jf.out]
    refine ak G1.out (fun hb => h1 (gp hb)) fun hb1 => ?_
    rw [if_neg jr.out, if_pos KV.out, Qr.out]
    refine ak (x := n) (b1 := bk) (r1 := all.drop atk) (Fg (Y0 hb1)) h1 fun hbk0 => ?_
    exact ak (h2 hbk0) id fun hb' => lK hb'
   have FE := qh hsk; have Yu := qh qb
   clear hn hn0 hck OD gp Y0 hsk qb HS2 jf KV jr Qr
   go_wp2
   go_loopw [6, 9] (fun nd i wr => Fw w wr g all w1.heap.size wk.heap.size f n before atk bk kI 0 0 nd i) (fun _ i _ => n - (Lib.intOf i).toNat)
   case atStart => exact ⟨0, before + 1, atk, bk, [], [], .slice none 0 0, by omega, rfl, by simp, rfl, ⟨Nat.le_refl _, Nat.le_refl _⟩, by omega, (fun _ => by omega), World.ownsRow_nil _ _ _ _, fB.2 rfl, FE.out, id, fun hb => ⟨(fun hb' => by rw [hb] at hb'; cases hb'), (fun _ => by rw [uN, show 40 - (before + 1) = 39 - before by omega] <;> rfl)⟩⟩
   case round =>
    obtain ⟨j, nodes, at', b', l, xs, v, hj, rfl, rfl, hll, ⟨hbr, eQ⟩, hnd41, hnd40, hown, ic, hs, hbb, hinv⟩ := hrel
    obtain ⟨A, c, ⟨c0, c1, c2⟩, -, -, -, -⟩ := hs.rd.cells
    have hwb := hs.wb
    have hgw := hs.gw
    have FK := qh hbr
    clear hbr
    have zU := qh hll; have KT := qh hnd40; have bD := qh hown; have kZ := qh ic; have HS := qh hs; have EJ := qh hbb; have iW := qh hinv
    have ay : (j = n ∨ b' = true) → mX g before all false w o (.returned (.tuple #[.agg (aZ kI (0, 0) false 0 0 v).toArray, .int .i64 nodes])) (st7 wr w.heap.size (.int .i64 kI) (.int .u32 0) (.int .u32 0) (.bool false) (.int .i64 0) (.int .i64 0) v) := fun hjb => by
     obtain ⟨A4, c4, rfl, hlc, hcm⟩ := ownsRow_form bD.out
     have hpn := nI (k := kI) (s := (0, 0)) (neg := false) (lo := 0) (hi := 0) (l := l) (S := fun b => w.heap.size < b ∧ b < wr.heap.size) (by unfold ok32 is32; decide) (by rw [zU.out]; exact bD.out) (fun b hb => by have := bD.out.lt b hb; exact ⟨by omega, this.2⟩) (kZ.out.keep (fun b hb => ⟨by omega, hb.2.1⟩) (fun _ _ => rfl) _ _)
     refine HS.out.fin (s := (0, 0)) (nodes := nodes) (o := o) (bad := false) hpn (by omega) hnd41 KT.out (fun h => by cases h) (fun _ => ?_)
     refine Yu.out l nodes at' b' EJ.out (fun hb => ?_)
     obtain ⟨i1, i2⟩ := iW.out hb
     cases bE : b' with
     | true => rw [i1 bE]; rfl
     | false =>
       have hjn : j = n := by
        rcases hjb with h | h
        ·exact h
        ·rw [bE] at h; cases h
       have := i2 bE
       rw [hjn, Nat.sub_self] at this
       have e : manyS (fD f) n (39 - before) (all.drop atk) = some ((l, 40 - nodes), all.drop at') := by rw [← this]; simp [sH, manyS]
       rw [e]
       exact ⟨rfl, rfl, rfl⟩
    have aD := qh ay
    clear ay hll hnd40 hown ic hs hbb hinv
    by_cases hjn : j < n
    ·have JU : (j : Int) < (n : Nat) := by omega
     have HJ := qh hjn
     cases b' with
     | true =>
       obtain ⟨A4, c4, rfl, hlc, hcm⟩ := ownsRow_form bD.out
       obtain ⟨x0, x1, x2, x3, x4, x5, x6⟩ := HS.out.bo.seven
       obtain ⟨z0, z1, z2, z3, z4, z5, z6⟩ := HS.out.rs.seven
       obtain ⟨v0, v1, v2, v3, v4, v5, v6⟩ := HS.out.rs.free7
       have Nf := qh (aD.out (.inr rfl)); have zJ := qh (HS.out.rs.st7 (.int .i64 kI) (.int .u32 0) (.int .u32 0) (.bool false) (.int .i64 0) (.int .i64 0) (.slice A4 j c4))
       clear hjn
       go_wp2
       exact bodyPost_ret (dD Tryz.results166 _ _ _ _ _ _ _ _ _ _ rfl zJ.out) rfl Nf.out
     | false =>
       have hr1 := HS.out.rd.alloc (.cells #[.int .i64 0, .int .u32 0, .int .u32 0, .bool false, .int .i64 0, .int .i64 0, .slice none 0 0] 58)
       have ae := HF.out (wr.alloc (.cells #[.int .i64 0, .int .u32 0, .int .u32 0, .bool false, .int .i64 0, .int .i64 0, .slice none 0 0] 58)) g at' nodes all false (KT.out (by first | trivial | rfl)) (by omega) hr1
       have aj := qh ae
       clear hr1 ae hjn
       go_wp2_with fail
       refine aj.out.mono ?_
       rintro e w2 ⟨p, cs, nodes2, at2, b2, rfl, bV, hnn, hn241, hn240, hc2, hr2, hb2, hg2⟩
       obtain ⟨k1', s1, neg1, lo1, hi1, A1, n1, c1', rfl⟩ := bV.form
       have gQ := bV.one.2
       obtain ⟨hy2, w3, rfl, hs3, hown3, happ, hy3, hB3⟩ := xU HS.out bD.out kZ.out hwk (FK.out) hc2 hr2 bV
       have XH := qh hy2; have XG := qh hy3
       have x6 := hs3.bo.cell 6
       simp only [gq2] at x6
       have hinv : zF f n (39 - before) atk all bk b2 (l ++ [p]) (j + 1) nodes2 at2 := by
        refine ⟨fun hb => (by have := EJ.out hb; cases this), fun hb => ?_⟩
        have h1 := (iW.out hb).2 (by first | trivial | rfl)
        have hm := hg2 (by first | trivial | rfl)
        rw [show n - j = (n - (j + 1)) + 1 by have := HJ.out; omega] at h1
        cases hx : fD f (40 - nodes) (all.drop at') with
        | none =>
          rw [hx] at hm
          rw [qR _ hx] at h1
          exact ⟨(fun _ => h1.symm), (fun h => by have hm' : b2 = true := hm; rw [hm'] at h; cases h)⟩
        | some y =>
          obtain ⟨⟨ZO, lf2⟩, r2'⟩ := y
          rw [hx] at hm
          obtain ⟨e1, hb2, e3⟩ := hm
          obtain ⟨rfl, rfl⟩ := Prod.mk.inj e1
          subst e3
          rw [qQ _ hx] at h1
          exact ⟨(fun h => by rw [hb2] at h; cases h), (fun _ => h1)⟩
       have hdn : before + 1 ≤ nodes2 := Nat.le_trans eQ hnn
       have hrn := az (w2.setRow wr.heap.size (aZ k1' s1 neg1 lo1 hi1 (.slice A1 n1 c1')).toArray) 58 (aZ k1' s1 neg1 lo1 hi1 (.slice A1 n1 c1')) 7 1 rfl
       simp only [size_setRow] at hrn
       have wH := qh hown3; have ko := qh hs3; have Qa := qh happ; have dR := qh hrn; have HI2 := qh hinv; have UQ := qh hn240; have jR := qh gQ; have HB3 := qh hB3; have YA := qh hdn
       clear bV hnn hn240 hc2 hr2 hb2 hg2 gQ hy2 hown3 hs3 happ hinv hrn HS aD bD kZ hy3 hB3 aj hdn eQ hnd41
       go_wp2_with (first | (refine yf rfl _ _ rfl _ rfl (aZ k1' s1 neg1 lo1 hi1 (.slice A1 n1 c1')) [.int .i64 0, .int .u32 0, .int .u32 0, .bool false, .int .i64 0, .int .i64 0, .slice none 0 0] rfl rfl jR.out XH.out rfl ?_; simp only [Act.put, gq1]) | (refine Bi rfl _ rfl _ rfl (aZ k1' s1 neg1 lo1 hi1 (.slice A1 n1 c1')) rfl XG.out ?_; simp only [Act.put, gq1]) | (at_builtin; refine wpList_append_any _ rfl _ _ 56 rfl wk.heap.size 58 i0 (.agg #[.int .i64 0, .int .u32 0, .int .u32 0, .bool false, .int .i64 0, .int .i64 0, .slice none 0 0]) 7 64 Tryz.underlying56 hi0 hz0 hz1 hz3 rfl (by decide) _ _ _ rfl (wH.out.alloc _) _ _ _ _ (aZ k1' s1 neg1 lo1 hi1 (.slice A1 n1 c1')) rfl dR.out jR.out (by unfold maxLen; omega) (by omega) (by have := HB3.out; simp at this ⊢; omega) ?_; intro v' w4 ai ag bK; obtain ⟨A5, c5, rfl, -, -⟩ := ownsRow_form ai; have iQ := xV ko.out wH.out Qa.out hwk HB3.out ai ag bK; have kE := qh iQ.2; have e6 := iQ.1.cell 6; have f6 := iQ.1.frozen 6; clear ai ag bK iQ; simp only [gq2] at e6))
       go_roundw
       case rel => exact ⟨j + 1, nodes2, at2, b2, l ++ [p], _, _, by have := HJ.out; omega, by go_num, rfl, by rw [List.length_append, zU.out]; rfl, ⟨kE.out.2.2.2, YA.out⟩, hn241, UQ.out, kE.out.2.1, kE.out.2.2.1, kE.out.1, HI2.out⟩
       case measure => have := HJ.out; simp [Lib.intOf]; omega
    ·obtain rfl : j = n := by omega
     obtain ⟨A4, c4, rfl, hlc, hcm⟩ := ownsRow_form bD.out
     obtain ⟨x0, x1, x2, x3, x4, x5, x6⟩ := HS.out.bo.seven
     obtain ⟨z0, z1, z2, z3, z4, z5, z6⟩ := HS.out.rs.seven
     obtain ⟨v0, v1, v2, v3, v4, v5, v6⟩ := HS.out.rs.free7
     have Nf := qh (aD.out (.inl rfl)); have zJ := qh (HS.out.rs.st7 (.int .i64 kI) (.int .u32 0) (.int .u32 0) (.bool false) (.int .i64 0) (.int .i64 0) (.slice A4 j c4))
     go_wp2
     exact bodyPost_ret (dD Tryz.results166 _ _ _ _ _ _ _ _ _ _ rfl zJ.out) rfl Nf.out
 by_cases k5 : k = 5
 ·obtain rfl : kI = 5 := by omega
  obtain ⟨W2, hW2⟩ : ∃ W, w1.alloc (.cells #[.int .i64 5, .int .u32 0, .int .u32 0, .bool false, .int .i64 0, .int .i64 0, .slice none 0 0] 58) = W := ⟨_, rfl⟩
  have Xd : W2.heap.size = w1.heap.size + 1 := by rw [← hW2]; simp
  rw [hW2] at sM
  have HS2 := qh sM; have HW2 := qh hW2; have jf := qh oW; have KV := qh k34; have jr := qh k1; have yN := qh k5
  clear sM hW2 oW k34 k1 k5 cB
  go_wp2_with fail
  rw [HW2.out]
  clear HW2
  have bW := jv W2 g at1 all b1 HS2.out.rd
  unfold oz at bW
  refine bW.mono ?_
  rintro e w3 ⟨lo, at2, b2, rfl, hlo, hc2, hr2, hb2, hg2⟩
  dsimp only
  have hlo32 : lo < 4294967296 := hlo
  have hs3 := HS2.out.aB hc2 hr2
  obtain ⟨x0, x1, x2, x3, x4, x5, x6⟩ := hs3.bo.seven
  obtain ⟨y0, y1, y2, y3, y4, y5, y6⟩ := hs3.bo.free7
  have hsz3 := hc2.size
  have hs4 := hs3.set_ 4 (.int .i64 lo)
  simp only [gq1] at hs4
  obtain ⟨W4, CJ⟩ : ∃ W, w3.setCell ⟨w1.heap.size, 4, none⟩ (.int .i64 lo) = W := ⟨_, rfl⟩
  have hW4s : W4.heap.size = w3.heap.size := by rw [← CJ]; simp [World.setCell]
  rw [CJ] at hs4
  have rA := qh hs4; have FC := qh CJ; have B2 := qh hb2; have G2 := qh hg2
  clear hs3 hs4 CJ hc2 hr2 hb2 hg2 HS2 hlo bW
  go_wp2_with fail
  rw [FC.out]
  clear FC x0 x1 x2 x3 x4 x5 x6 y0 y1 y2 y3 y4 y5 y6
  have bW := jv W4 g at2 all b2 rA.out.rd
  unfold oz at bW
  refine bW.mono ?_
  rintro e wk ⟨hi, atk, bk, rfl, hhi, hc3, hr3, hb3, hg3⟩
  dsimp only
  have hhi32 : hi < 4294967296 := hhi
  have hs5 := rA.out.aB hc3 hr3
  obtain ⟨x0, x1, x2, x3, x4, x5, x6⟩ := hs5.bo.seven
  obtain ⟨y0, y1, y2, y3, y4, y5, y6⟩ := hs5.bo.free7
  have Q3 := hc3.size
  have hwk : w1.heap.size < wk.heap.size := by omega
  have hsk := hs5.set_ 5 (.int .i64 ((hi : Int) - 1))
  simp only [gq1] at hsk
  have qb : ∀ (l : List Pt) (nodes at' : Nat) (b' : Bool), (bk = true → b' = true) → (bk = false → eT (l, 40 - nodes) b' (all.drop at') (manyS (fD f) 1 (39 - before) (all.drop atk))) → eT (Pt.mk 5 (0, 0) false lo ((hi : Int) - 1) l, 40 - nodes) b' (all.drop at') o := fun l nodes at' b' h1 h2 => by
   rw [← jf.out]
   refine ak G1.out (fun hb => h1 (hb3 (B2.out hb))) fun hb1 => ?_
   rw [if_neg jr.out, if_neg KV.out, if_pos yN.out]
   refine ak (G2.out hb1) (fun hb => h1 (hb3 hb)) fun hb2 => ?_
   refine ak (hg3 hb2) h1 fun WX => ?_
   exact ak (h2 WX) id fun hb' => lK hb'
  have FE := qh hsk; have Yu := qh qb
  clear hs5 hsk hc3 hr3 hb3 hg3 qb rA jf KV jr yN hhi bW B2 G2
  go_wp2
  go_loopw [6, 9] (fun nd i wr => Fw w wr g all w1.heap.size wk.heap.size f 1 before atk bk 5 (lo : Int) ((hi : Int) - 1) nd i) (fun _ i _ => 1 - (Lib.intOf i).toNat)
  case atStart => exact ⟨0, before + 1, atk, bk, [], [], .slice none 0 0, by omega, rfl, by simp, rfl, ⟨by simp [World.setCell], Nat.le_refl _⟩, by omega, (fun _ => by omega), World.ownsRow_nil _ _ _ _, fB.2 rfl, FE.out, id, fun hb => ⟨(fun hb' => by rw [hb] at hb'; cases hb'), (fun _ => by rw [uN, show 40 - (before + 1) = 39 - before by omega] <;> rfl)⟩⟩
  case round =>
   obtain ⟨j, nodes, at', b', l, xs, v, hj, rfl, rfl, hll, ⟨hbr, eQ⟩, hnd41, hnd40, hown, ic, hs, hbb, hinv⟩ := hrel
   obtain ⟨A, c, ⟨c0, c1, c2⟩, -, -, -, -⟩ := hs.rd.cells
   have hwb := hs.wb
   have hgw := hs.gw
   have FK := qh hbr
   clear hbr
   have zU := qh hll; have KT := qh hnd40; have bD := qh hown; have kZ := qh ic; have HS := qh hs; have EJ := qh hbb; have iW := qh hinv
   have ay : (j = 1 ∨ b' = true) → mX g before all false w o (.returned (.tuple #[.agg (aZ 5 (0, 0) false (lo : Int) ((hi : Int) - 1) v).toArray, .int .i64 nodes])) (st7 wr w.heap.size (.int .i64 5) (.int .u32 0) (.int .u32 0) (.bool false) (.int .i64 (lo : Int)) (.int .i64 ((hi : Int) - 1)) v) := fun hjb => by
    obtain ⟨A4, c4, rfl, hlc, hcm⟩ := ownsRow_form bD.out
    have hpn := nI (k := 5) (s := (0, 0)) (neg := false) (lo := (lo : Int)) (hi := ((hi : Int) - 1)) (l := l) (S := fun b => w.heap.size < b ∧ b < wr.heap.size) (by unfold ok32 is32; decide) (by rw [zU.out]; exact bD.out) (fun b hb => by have := bD.out.lt b hb; exact ⟨by omega, this.2⟩) (kZ.out.keep (fun b hb => ⟨by omega, hb.2.1⟩) (fun _ _ => rfl) _ _)
    refine HS.out.fin (s := (0, 0)) (nodes := nodes) (o := o) (bad := false) hpn (by omega) hnd41 KT.out (fun h => by cases h) (fun _ => ?_)
    refine Yu.out l nodes at' b' EJ.out (fun hb => ?_)
    obtain ⟨i1, i2⟩ := iW.out hb
    cases bE : b' with
    | true => rw [i1 bE]; rfl
    | false =>
      have hjn : j = 1 := by
       rcases hjb with h | h
       ·exact h
       ·rw [bE] at h; cases h
      have := i2 bE
      rw [hjn, Nat.sub_self] at this
      have e : manyS (fD f) 1 (39 - before) (all.drop atk) = some ((l, 40 - nodes), all.drop at') := by rw [← this]; simp [sH, manyS]
      rw [e]
      exact ⟨rfl, rfl, rfl⟩
   have aD := qh ay
   clear ay hll hnd40 hown ic hs hbb hinv
   by_cases hjn : j < 1
   ·have JU : decide ((j : Int) < 1) = true := decide_eq_true (by omega)
    have HJ := qh hjn
    cases b' with
    | true =>
      obtain ⟨A4, c4, rfl, hlc, hcm⟩ := ownsRow_form bD.out
      obtain ⟨x0, x1, x2, x3, x4, x5, x6⟩ := HS.out.bo.seven
      obtain ⟨z0, z1, z2, z3, z4, z5, z6⟩ := HS.out.rs.seven
      obtain ⟨v0, v1, v2, v3, v4, v5, v6⟩ := HS.out.rs.free7
      have Nf := qh (aD.out (.inr rfl)); have zJ := qh (HS.out.rs.st7 (.int .i64 5) (.int .u32 0) (.int .u32 0) (.bool false) (.int .i64 (lo : Int)) (.int .i64 ((hi : Int) - 1)) (.slice A4 j c4))
      clear hjn
      go_wp2
      exact bodyPost_ret (dD Tryz.results166 _ _ _ _ _ _ _ _ _ _ rfl zJ.out) rfl Nf.out
    | false =>
      have hr1 := HS.out.rd.alloc (.cells #[.int .i64 0, .int .u32 0, .int .u32 0, .bool false, .int .i64 0, .int .i64 0, .slice none 0 0] 58)
      have ae := HF.out (wr.alloc (.cells #[.int .i64 0, .int .u32 0, .int .u32 0, .bool false, .int .i64 0, .int .i64 0, .slice none 0 0] 58)) g at' nodes all false (KT.out (by first | trivial | rfl)) (by omega) hr1
      have aj := qh ae
      clear hr1 ae hjn
      go_wp2_with fail
      refine aj.out.mono ?_
      rintro e w2 ⟨p, cs, nodes2, at2, b2, rfl, bV, hnn, hn241, hn240, hc2, hr2, hb2, hg2⟩
      obtain ⟨k1', s1, neg1, lo1, hi1, A1, n1, c1', rfl⟩ := bV.form
      have gQ := bV.one.2
      obtain ⟨hy2, w3, rfl, hs3, hown3, happ, hy3, hB3⟩ := xU HS.out bD.out kZ.out hwk (FK.out) hc2 hr2 bV
      have XH := qh hy2; have XG := qh hy3
      have x6 := hs3.bo.cell 6
      simp only [gq2] at x6
      have hinv : zF f 1 (39 - before) atk all bk b2 (l ++ [p]) (j + 1) nodes2 at2 := by
       refine ⟨fun hb => (by have := EJ.out hb; cases this), fun hb => ?_⟩
       have h1 := (iW.out hb).2 (by first | trivial | rfl)
       have hm := hg2 (by first | trivial | rfl)
       rw [show 1 - j = (1 - (j + 1)) + 1 by have := HJ.out; omega] at h1
       cases hx : fD f (40 - nodes) (all.drop at') with
       | none =>
         rw [hx] at hm
         rw [qR _ hx] at h1
         exact ⟨(fun _ => h1.symm), (fun h => by have hm' : b2 = true := hm; rw [hm'] at h; cases h)⟩
       | some y =>
         obtain ⟨⟨ZO, lf2⟩, r2'⟩ := y
         rw [hx] at hm
         obtain ⟨e1, hb2, e3⟩ := hm
         obtain ⟨rfl, rfl⟩ := Prod.mk.inj e1
         subst e3
         rw [qQ _ hx] at h1
         exact ⟨(fun h => by rw [hb2] at h; cases h), (fun _ => h1)⟩
      have hdn : before + 1 ≤ nodes2 := Nat.le_trans eQ hnn
      have hrn := az (w2.setRow wr.heap.size (aZ k1' s1 neg1 lo1 hi1 (.slice A1 n1 c1')).toArray) 58 (aZ k1' s1 neg1 lo1 hi1 (.slice A1 n1 c1')) 7 1 rfl
      simp only [size_setRow] at hrn
      have wH := qh hown3; have ko := qh hs3; have Qa := qh happ; have dR := qh hrn; have HI2 := qh hinv; have UQ := qh hn240; have jR := qh gQ; have HB3 := qh hB3; have YA := qh hdn
      clear bV hnn hn240 hc2 hr2 hb2 hg2 gQ hy2 hown3 hs3 happ hinv hrn HS aD bD kZ hy3 hB3 aj hdn eQ hnd41
      go_wp2_with (first | (refine yf rfl _ _ rfl _ rfl (aZ k1' s1 neg1 lo1 hi1 (.slice A1 n1 c1')) [.int .i64 0, .int .u32 0, .int .u32 0, .bool false, .int .i64 0, .int .i64 0, .slice none 0 0] rfl rfl jR.out XH.out rfl ?_; simp only [Act.put, gq1]) | (refine Bi rfl _ rfl _ rfl (aZ k1' s1 neg1 lo1 hi1 (.slice A1 n1 c1')) rfl XG.out ?_; simp only [Act.put, gq1]) | (at_builtin; refine wpList_append_any _ rfl _ _ 56 rfl wk.heap.size 58 i0 (.agg #[.int .i64 0, .int .u32 0, .int .u32 0, .bool false, .int .i64 0, .int .i64 0, .slice none 0 0]) 7 64 Tryz.underlying56 hi0 hz0 hz1 hz3 rfl (by decide) _ _ _ rfl (wH.out.alloc _) _ _ _ _ (aZ k1' s1 neg1 lo1 hi1 (.slice A1 n1 c1')) rfl dR.out jR.out (by unfold maxLen; omega) (by omega) (by have := HB3.out; simp at this ⊢; omega) ?_; intro v' w4 ai ag bK; obtain ⟨A5, c5, rfl, -, -⟩ := ownsRow_form ai; have iQ := xV ko.out wH.out Qa.out hwk HB3.out ai ag bK; have kE := qh iQ.2; have e6 := iQ.1.cell 6; have f6 := iQ.1.frozen 6; clear ai ag bK iQ; simp only [gq2] at e6))
      go_roundw
      case rel => exact ⟨j + 1, nodes2, at2, b2, l ++ [p], _, _, by have := HJ.out; omega, by go_num, rfl, by rw [List.length_append, zU.out]; rfl, ⟨kE.out.2.2.2, YA.out⟩, hn241, UQ.out, kE.out.2.1, kE.out.2.2.1, kE.out.1, HI2.out⟩
      case measure => have := HJ.out; simp [Lib.intOf]; omega
   ·obtain rfl : j = 1 := by omega
    obtain ⟨A4, c4, rfl, hlc, hcm⟩ := ownsRow_form bD.out
    obtain ⟨x0, x1, x2, x3, x4, x5, x6⟩ := HS.out.bo.seven
    obtain ⟨z0, z1, z2, z3, z4, z5, z6⟩ := HS.out.rs.seven
    obtain ⟨v0, v1, v2, v3, v4, v5, v6⟩ := HS.out.rs.free7
    have Nf := qh (aD.out (.inl rfl)); have zJ := qh (HS.out.rs.st7 (.int .i64 5) (.int .u32 0) (.int .u32 0) (.bool false) (.int .i64 (lo : Int)) (.int .i64 ((hi : Int) - 1)) (.slice A4 1 c4))
    go_wp2
    exact bodyPost_ret (dD Tryz.results166 _ _ _ _ _ _ _ _ _ _ rfl zJ.out) rfl Nf.out
 ·have t1 : (kI == 1) = false := by rw [beq_eq_false_iff_ne]; omega
  have t3 : (kI == 3) = false := by rw [beq_eq_false_iff_ne]; omega
  have t4 : (kI == 4) = false := by rw [beq_eq_false_iff_ne]; omega
  have t5 : (kI == 5) = false := by rw [beq_eq_false_iff_ne]; omega
  have qb : eT (Pt.mk kI (0, 0) false 0 0 [], 39 - before) b1 (all.drop at1) o := by
   rw [← oW]
   refine ak G1.out id fun hb1 => ?_
   rw [if_neg k1, if_neg k34, if_neg k5, cB]
   exact lK hb1
  have Qm := qh sM; have HG := qh qb
  have J8 : before + 1 ≤ 40 := by omega
  clear sM qb oW k1 k34 k5 cB
  go_wp2
  go_loopw [6, 9] (fun nd i wr => nd = .int .i64 ((before : Int) + 1) ∧ i = .int .i64 0 ∧ Cr w wr g at1 all b1 w1.heap.size #[.int .i64 kI, .int .u32 0, .int .u32 0, .bool false, .int .i64 0, .int .i64 0, .slice none 0 0]) (fun _ _ _ => 0)
  case atStart => exact ⟨rfl, rfl, Qm.out⟩
  case round =>
   obtain ⟨rfl, rfl, hs⟩ := hrel
   obtain ⟨x0, x1, x2, x3, x4, x5, x6⟩ := hs.bo.seven
   obtain ⟨z0, z1, z2, z3, z4, z5, z6⟩ := hs.rs.seven
   obtain ⟨v0, v1, v2, v3, v4, v5, v6⟩ := hs.rs.free7
   obtain ⟨A, c, ⟨c0, c1, c2⟩, -, -, -, -⟩ := hs.rd.cells
   have ay := hs.fin (s := (0, 0)) (nodes := before + 1) (o := o) (bad := false) (kN _ _ kI (0, 0) false 0 0 (by unfold ok32 is32; decide)) (Nat.le_succ before) (by omega) (fun _ => J8) (fun h => by cases h) (fun _ => by rw [show 40 - (before + 1) = 39 - before by omega]; exact HG.out)
   rw [show ((before + 1 : Nat) : Int) = (before : Int) + 1 by simp] at ay
   have aD := qh ay; have zJ := qh (hs.rs.st7 (.int .i64 kI) (.int .u32 0) (.int .u32 0) (.bool false) (.int .i64 0) (.int .i64 0) (.slice none 0 0))
   clear ay hs
   go_wp2
   exact bodyPost_ret (dD Tryz.results166 _ _ _ _ _ _ _ _ _ _ rfl zJ.out) rfl aD.out
theorem Aj : ∀ f, TQ f
 | 0 => fun _ _ _ _ _ _ _ h _ => absurd h (Nat.not_lt_zero _)
 | f + 1 => fun w g at_ before all bad h40 hlt h => by
   by_cases hb : bad = true ∨ 40 ≤ before
   ·refine (IX w g at_ before all bad (by omega) h hb).mono fun e w' ⟨cs, at', h1, h2, h3, h4⟩ => ?_
    refine ⟨_, cs, before + 1, at', true, by rw [h1]; simp, h2, by omega, by omega, (fun h => by cases h), h3, h4, fun _ => rfl, fun aY => ?_⟩
    have hb40 : before = 40 := by
     rcases hb with hb | hb
     ·rw [aY] at hb; cases hb
     ·omega
    rw [hb40, Nat.sub_self, nG]
    rfl
   ·obtain rfl : bad = false := by
     cases bad with
     | false => rfl
     | true => exact absurd (.inl rfl) hb
    have hlt40 : before < 40 := Nat.lt_of_not_le fun h => hb (.inr h)
    rw [show 40 - before = (39 - before) + 1 by omega, nH]
    exact F3 f (Aj f) w g at_ before all hlt40 (by omega) h
end Go.Proofs.YtmepaeahchiglaaGreatDoor
