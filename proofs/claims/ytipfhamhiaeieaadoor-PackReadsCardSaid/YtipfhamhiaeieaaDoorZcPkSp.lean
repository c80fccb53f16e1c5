/-
  layer 43: the reference's pattern, read. Conditions: bytes that can be read. (Printed by refrd2.py.)
-/
import Derived.Test.YtipfhamhiaeieaaDoorZcak
import Derived.Test.YtipfhamhiaeieaaDoorZcPkPh
import Derived.Test.YtipfhamhiaeieaaDoorZcal
namespace Go.Proofs.YtipfhamhiaeieaaDoor
open Go.RowKit Go.Lib

/-- What was read is what the plain reader says. -/
def Got {α : Type} (x : α) (b : Bool) (rest : List Nat) (o : Option (α × List Nat)) : Prop := match o with
  | some (y, r) => x = y ∧ b = false ∧ rest = r
  | none => b = true
theorem got_then {α β : Type} {x : α} {y : β} {b1 b2 : Bool} {bs r1 r2 : List Nat} {g : Rdr α} {f : α → Rdr β} (h1 : Got x b1 r1 (g bs)) (hb : b1 = true → b2 = true) (h2 : b1 = false → Got y b2 r2 (f x r1)) : Got y b2 r2 (thenR g f bs) := by
  cases ho : g bs with
  | none =>
    rw [ho] at h1
    rw [thenR_none ho]
    exact hb h1
  | some q =>
    obtain ⟨z, r⟩ := q
    rw [ho] at h1
    obtain ⟨rfl, hb1, rfl⟩ := h1
    rw [thenR_some ho]
    exact h2 hb1
theorem got_ret {α : Type} {x : α} {b : Bool} {r : List Nat} (h : b = false) : Got x b r (some (x, r)) := ⟨rfl, h, rfl⟩
def SPatPost (g before : Nat) (all : List Nat) (bad : Bool) (w : World) (o : Option ((Pt × Nat) × List Nat)) (e : Ending) (w' : World) : Prop :=
  ∃ p cs nodes at' bad', e = .returned (.tuple #[.agg cs.toArray, .int .i64 (nodes : Nat)]) ∧ PatF w' (fun b => w.heap.size ≤ b ∧ b < w'.heap.size) p cs ∧ before ≤ nodes ∧ nodes ≤ 41 ∧ (bad' = false → nodes ≤ 40) ∧ Chg [g] w w' ∧ RS w' g all at' bad' ∧ (bad = true → bad' = true) ∧ (bad = false → Got (p, 40 - nodes) bad' (all.drop at') o)
def SPat (f : Nat) : Prop := ∀ (w : World) (g at_ before : Nat) (all : List Nat) (bad : Bool), before ≤ 40 → 40 - before < f → RS w g all at_ bad →
  Calls Tryd.prog 84 #[wptr g, .int .i64 (before : Nat)] w (SPatPost g before all bad w (patR f (40 - before) (all.drop at_)))
theorem results_pat2 {fn : Func} {p q : Tmp} (h : fn.results = #[.cell p 27, .tmp q]) (tmps : Array Value) (w : World) (a : Nat) (c0 c1 c2 c3 c4 c5 c6 : Value) (hp : tmps.getD p undef = wptr a) (ha : Blk w a 27 #[c0, c1, c2, c3, c4, c5, c6]) :
    (results fn tmps).run Tryd.prog w = .ok (.tuple #[.agg #[c0, c1, c2, c3, c4, c5, c6], tmps.getD q undef]) w := by
  have hp' : tmps[p]?.getD undef = wptr a := by simpa using hp
  obtain ⟨z0, z1, z2, z3, z4, z5, z6⟩ := ha.seven
  simp [results, h, hp', go_sem, z0, z1, z2, z3, z4, z5, z6]
/-- The memory while a pattern is read: the result's block, the pattern's own. -/
structure SSt (w W : World) (g at_ : Nat) (all : List Nat) (bad : Bool) (bx : Nat) (cs : Array Value) : Prop where
  ch : Chg [g] w W
  rd : RS W g all at_ bad
  rs : Blk W w.heap.size 27 #[.int .i64 0, .int .u32 0, .int .u32 0, .bool false, .int .i64 0, .int .i64 0, .slice none 0 0]
  bo : Blk W bx 27 cs
  gw : g < w.heap.size
  wb : w.heap.size < bx
section
variable {w W W' : World} {g at_ at' : Nat} {all : List Nat} {bad bad' : Bool} {bx : Nat} {cs : Array Value}
theorem SSt.chg (h : SSt w W g at_ all bad bx cs) (hc : Chg [g] W W') (hr : RS W' g all at' bad') : SSt w W' g at' all bad' bx cs := by
  have h1 := h.gw
  have h2 := h.wb
  exact ⟨h.ch.trans hc, hr, h.rs.chg hc (by simp; omega), h.bo.chg hc (by simp; omega), h1, h2⟩
theorem SSt.set_ (h : SSt w W g at_ all bad bx cs) (i : Nat) (u : Value) : SSt w (W.setCell ⟨bx, i, none⟩ u) g at_ all bad bx (cs.setIfInBounds i u) := by
  have h1 := h.gw
  have h2 := h.wb
  have hc : Chg [bx] W (W.setCell ⟨bx, i, none⟩ u) := (Chg.refl _ _).setCell (.inl (by simp)) u
  exact ⟨h.ch.new hc (fun j hj => .inr (by simp at hj; omega)), h.rd.chg hc (by simp; omega), h.rs.chg hc (by simp; omega), h.bo.set_ i u, h1, h2⟩
end
/-- The end. -/
theorem SSt.fin {w W : World} {g at' bx before nodes : Nat} {all : List Nat} {bad bad' : Bool} {k : Int} {s : Snd} {neg : Bool} {lo hi : Int} {A : Option Addr} {n c : Nat} {p : Pt} {o : Option ((Pt × Nat) × List Nat)} (h : SSt w W g at' all bad' bx #[.int .i64 k, .int .u32 s.1, .int .u32 s.2, .bool neg, .int .i64 lo, .int .i64 hi, .slice A n c])
    (hp : PatF W (fun b => w.heap.size < b ∧ b < W.heap.size) p (patL k s neg lo hi (.slice A n c))) (hbn : before ≤ nodes) (hn : nodes ≤ 41) (hn2 : bad' = false → nodes ≤ 40) (hb : bad = true → bad' = true) (hg : bad = false → Got (p, 40 - nodes) bad' (all.drop at') o) :
    SPatPost g before all bad w o (.returned (.tuple #[.agg (patL k s neg lo hi (.slice A n c)).toArray, .int .i64 nodes])) (st7 W w.heap.size (.int .i64 k) (.int .u32 s.1) (.int .u32 s.2) (.bool neg) (.int .i64 lo) (.int .i64 hi) (.slice A n c)) := by
  have h1 := h.gw
  have hs7 := Chg.st7 W w.heap.size (.int .i64 k) (.int .u32 s.1) (.int .u32 s.2) (.bool neg) (.int .i64 lo) (.int .i64 hi) (.slice A n c)
  exact ⟨p, _, nodes, at', bad', rfl, hp.chg hs7 (fun b hb => ⟨hb.2, by have := hb.1; simp; omega⟩) (fun b hb => ⟨Nat.le_of_lt hb.1, Nat.lt_of_lt_of_le hb.2 hs7.size⟩), hbn, hn, hn2, h.ch.new hs7 (fun i hi => .inr (by rw [List.mem_singleton.1 hi]; exact Nat.le_refl _)), h.rd.chg hs7 (by simpa using h1), hb, hg⟩
def BadPost (g before : Nat) (all : List Nat) (w : World) (e : Ending) (w' : World) : Prop := ∃ cs at', e = .returned (.tuple #[.agg cs.toArray, .int .i64 ((before : Int) + 1)]) ∧ PatF w' (fun b => w.heap.size ≤ b ∧ b < w'.heap.size) (.mk 0 (0, 0) false 0 0 []) cs ∧ Chg [g] w w' ∧ RS w' g all at' true
set_option maxRecDepth 20000 in
set_option maxHeartbeats 2000000 in
theorem spat_bad (w : World) (g at_ before : Nat) (all : List Nat) (bad : Bool) (h41 : before ≤ 41) (h : RS w g all at_ bad) (hbad : bad = true ∨ 40 ≤ before) :
    Calls Tryd.prog 84 #[wptr g, .int .i64 (before : Nat)] w (BadPost g before all w) := by
  have hgl := h.lt
  have h0 := h.alloc (.cells #[.int .i64 0, .int .u32 0, .int .u32 0, .bool false, .int .i64 0, .int .i64 0, .slice none 0 0] 27)
  obtain ⟨A, c, ⟨c0, c1, c2⟩, ⟨f0, f1, f2⟩, -, -, -⟩ := h0.cells
  have hb1 := h.setBad.alloc (.cells #[.int .i64 0, .int .u32 0, .int .u32 0, .bool false, .int .i64 0, .int .i64 0, .slice none 0 0] 27)
  have hx1 : Blk ((w.setCell ⟨g, 2, none⟩ (.bool true)).alloc (.cells #[.int .i64 0, .int .u32 0, .int .u32 0, .bool false, .int .i64 0, .int .i64 0, .slice none 0 0] 27)) w.heap.size 27 #[.int .i64 0, .int .u32 0, .int .u32 0, .bool false, .int .i64 0, .int .i64 0, .slice none 0 0] := by
    simpa [World.setCell] using Blk.new (w.setCell ⟨g, 2, none⟩ (.bool true)) 27 #[.int .i64 0, .int .u32 0, .int .u32 0, .bool false, .int .i64 0, .int .i64 0, .slice none 0 0]
  have hc1 : Chg [g] w ((w.setCell ⟨g, 2, none⟩ (.bool true)).alloc (.cells #[.int .i64 0, .int .u32 0, .int .u32 0, .bool false, .int .i64 0, .int .i64 0, .slice none 0 0] 27)) := ((Chg.refl [g] w).setCell (.inl (by simp)) _).alloc _
  have HX2 := Lib.hid hx1; have HR2 := Lib.hid hb1; have HC2 := Lib.hid hc1
  clear h h0 hb1 hx1 hc1 c0 c1 f0 f1
  have hfin : ∀ W, True → PatF W (fun b => w.heap.size ≤ b ∧ b < W.heap.size) (.mk 0 (0, 0) false 0 0 []) (patL 0 (0, 0) false 0 0 (.slice none 0 0)) := fun W _ => patF_leaf W _ 0 (0, 0) false 0 0 (by unfold ok32 is32; decide)
  have HFIN := Lib.hid hfin
  clear hfin
  by_cases hbf : 40 ≤ before
  · have hbI : (40 : Int) < (before : Int) + 1 := by omega
    clear hbad hbf
    go_enter Tryd.func84, Tryd.ntmps84
    go_wp2
    exact bodyPost_ret (results_pat2 Tryd.results84 _ _ _ _ _ _ _ _ _ _ rfl HX2.out) rfl ⟨patL 0 (0, 0) false 0 0 (.slice none 0 0), at_, rfl, HFIN.out _ trivial, HC2.out, HR2.out⟩
  · have hbI : ¬ (40 : Int) < (before : Int) + 1 := by omega
    obtain rfl : bad = true := by rcases hbad with h | h; exact h; omega
    clear hbad hbf
    go_enter Tryd.func84, Tryd.ntmps84
    go_wp2
    exact bodyPost_ret (results_pat2 Tryd.results84 _ _ _ _ _ _ _ _ _ _ rfl HX2.out) rfl ⟨patL 0 (0, 0) false 0 0 (.slice none 0 0), at_, rfl, HFIN.out _ trivial, HC2.out, HR2.out⟩
theorem pat_info : (Tryd.prog.info? 27).map (·.size) = some 7 := by kernel_rfl
theorem pat_isS : isS (Tryd.prog.underlying 27) = true := by kernel_rfl
theorem pat_under : ∃ fs, Tryd.prog.underlying 27 = some (.struct fs) := isS.get pat_isS
theorem pat_load {ops : Array Oper} {rest : List Oper} {o : Oper} {a : Act} {w : World} {Q : Exit → Act → World → Prop} (hgd : o.guard = none) (x : Operand) (ho : o.op = .load 27 x)
    (g : Nat) (hx : a.eval x = .pointer (some ⟨g, 0, none⟩)) (cs : List Value) (hlen : cs.length = 7) (hg : Blk w g 27 cs.toArray)
    (h : wpList Tryd.prog ops Q rest (a.put o.dst (.agg cs.toArray)) w) : wpList Tryd.prog ops Q (o :: rest) a w := by
  obtain ⟨fs, hfs⟩ := pat_under
  exact wpList_load_row hgd _ x ho g hx _ _ _ _ hg hfs rfl (by rw [pat_info, List.size_toArray, hlen]) h
theorem pat_store {ops : Array Oper} {rest : List Oper} {o : Oper} {a : Act} {w : World} {Q : Exit → Act → World → Prop} (hgd : o.guard = none) (x y : Operand) (ho : o.op = .store 27 x y)
    (g : Nat) (hx : a.eval x = .pointer (some ⟨g, 0, none⟩)) (cs old : List Value) (hy : a.eval y = .agg cs.toArray) (hlen : cs.length = 7) (h1 : ∀ u ∈ cs, u.oneCell' = true) (hg : Blk w g 27 old.toArray) (hold : old.length = 7)
    (h : wpList Tryd.prog ops Q rest (a.put o.dst undef) (w.setRow g cs.toArray)) : wpList Tryd.prog ops Q (o :: rest) a w :=
  wpList_store_row hgd _ x y ho g cs.toArray hx hy _ old.toArray hg (by rw [pat_info, List.size_toArray, hlen]) (by rw [List.size_toArray, List.size_toArray, hlen, hold]) (Array.all_eq_true_iff_forall_mem.2 (fun v hv => h1 v (by simpa using hv))) h
theorem cnt_got {n : Nat} {b : Bool} {rest : List Nat} {o : Option (Nat × List Nat)} (h : match o with
    | some (m, r) => n = m ∧ b = false ∧ rest = r
    | none => b = true) : Got n b rest o := by
  cases o with
  | none => exact h
  | some q => exact h
/-- Behind the call: the part's own variable is stored. -/
theorem round_mid {w wr w2 : World} {g at' at2 bx B0 j : Nat} {all : List Nat} {b2 : Bool} {cs : Array Value} {l : List Pt} {xs : List Value} {v : Value} {p : Pt} {k1 : Int} {s1 : Snd} {neg1 : Bool} {lo1 hi1 : Int} {A1 : Option Addr} {n1 c1 : Nat}
    (hs : SSt w wr g at' all false bx cs) (hown : wr.ownsRow B0 27 7 v j xs) (hpats : PatsF wr (fun b => B0 ≤ b ∧ b < wr.heap.size ∧ v.ownBlock ≠ some b) l xs) (hB0 : bx < B0) (hBr : B0 ≤ wr.heap.size)
    (hc2 : Chg [g] (wr.alloc (.cells #[.int .i64 0, .int .u32 0, .int .u32 0, .bool false, .int .i64 0, .int .i64 0, .slice none 0 0] 27)) w2) (hr2 : RS w2 g all at2 b2) (hpf : PatF w2 (fun b => (wr.alloc (.cells #[.int .i64 0, .int .u32 0, .int .u32 0, .bool false, .int .i64 0, .int .i64 0, .slice none 0 0] 27)).heap.size ≤ b ∧ b < w2.heap.size) p (patL k1 s1 neg1 lo1 hi1 (.slice A1 n1 c1))) :
    Blk w2 wr.heap.size 27 #[.int .i64 0, .int .u32 0, .int .u32 0, .bool false, .int .i64 0, .int .i64 0, .slice none 0 0] ∧ ∃ w3, w2.setRow wr.heap.size (patL k1 s1 neg1 lo1 hi1 (.slice A1 n1 c1)).toArray = w3 ∧ SSt w w3 g at2 all b2 bx cs ∧ w3.ownsRow B0 27 7 v j xs ∧
      PatsF w3 (fun b => B0 ≤ b ∧ b < w3.heap.size ∧ v.ownBlock ≠ some b) (l ++ [p]) (xs ++ patL k1 s1 neg1 lo1 hi1 (.slice A1 n1 c1)) ∧ Blk w3 wr.heap.size 27 (patL k1 s1 neg1 lo1 hi1 (.slice A1 n1 c1)).toArray ∧ B0 ≤ w3.heap.size := by
  have h1 := hs.gw
  have h2 := hs.wb
  have hsz := hc2.size
  rw [World.size_alloc] at hsz
  have hy2 := (Blk.new wr 27 #[.int .i64 0, .int .u32 0, .int .u32 0, .bool false, .int .i64 0, .int .i64 0, .slice none 0 0]).chg hc2 (by simp; omega)
  refine ⟨hy2, _, rfl, ?_⟩
  have hs7 := Chg.setRow w2 wr.heap.size (patL k1 s1 neg1 lo1 hi1 (.slice A1 n1 c1)).toArray
  have hs2 := (hs.chg ((Chg.refl [g] wr).alloc (.cells #[.int .i64 0, .int .u32 0, .int .u32 0, .bool false, .int .i64 0, .int .i64 0, .slice none 0 0] 27)) (hs.rd.alloc _)).chg hc2 hr2
  have hown2 := own_chg (hown.alloc (.cells #[.int .i64 0, .int .u32 0, .int .u32 0, .bool false, .int .i64 0, .int .i64 0, .slice none 0 0] 27)) hc2 (fun d hd hm => by have := (hown.lt d hd).1; simp at hm; omega)
  have hown3 := own_chg hown2 hs7 (fun d hd hm => by have := (hown.lt d hd).2; simp at hm; omega)
  have hsz3 := hs7.size
  have hold := (hpats.chg (T' := fun b => B0 ≤ b ∧ b < wr.heap.size ∧ v.ownBlock ≠ some b) ((Chg.refl [] wr).alloc (.cells #[.int .i64 0, .int .u32 0, .int .u32 0, .bool false, .int .i64 0, .int .i64 0, .slice none 0 0] 27)) (fun d hd => ⟨hd.2.1, by simp⟩) (fun d hd => hd)).chg (T' := fun b => B0 ≤ b ∧ b < wr.heap.size ∧ v.ownBlock ≠ some b) hc2 (fun d hd => ⟨by rw [World.size_alloc]; omega, by simp; omega⟩) (fun d hd => hd)
  refine ⟨⟨hs2.ch.new hs7 (fun i hi => .inr (by rw [List.mem_singleton.1 hi]; omega)), hs2.rd.chg hs7 (by simp; omega), hs2.rs.chg hs7 (by simp; omega), hs2.bo.chg hs7 (by simp; omega), h1, h2⟩, hown3, PatsF.append ?_ l xs ?_, hy2.setRow _, by omega⟩
  · refine hpf.chg hs7 (fun d hd => ⟨hd.2, by have := hd.1; rw [World.size_alloc] at this; simp; omega⟩) (fun d hd => ?_)
    have hd1 := hd.1
    rw [World.size_alloc] at hd1
    exact ⟨by omega, by omega, fun e => by have := (hown.lt d e).2; omega⟩
  · exact hold.chg hs7 (fun d hd => ⟨by omega, by simp; omega⟩) (fun d hd => ⟨hd.1, by omega, hd.2.2⟩)
/-- Behind the append: the row's slice is stored. -/
theorem round_end {w w3 w4 : World} {g at2 bx B0 j : Nat} {all : List Nat} {b2 : Bool} {a0 a1 a2 a3 a4 a5 : Value} {l : List Pt} {xs ys : List Value} {v v' : Value} {p : Pt} {o : Obj}
    (hs : SSt w w3 g at2 all b2 bx #[a0, a1, a2, a3, a4, a5, v]) (hown : w3.ownsRow B0 27 7 v j xs) (hpats : PatsF w3 (fun b => B0 ≤ b ∧ b < w3.heap.size ∧ v.ownBlock ≠ some b) (l ++ [p]) (xs ++ ys)) (hB0 : bx < B0) (hBr : B0 ≤ w3.heap.size)
    (hown' : w4.ownsRow B0 27 7 v' (j + 1) (xs ++ ys)) (hgrow : (w3.alloc o).grownBy w4 v.ownBlock) (hx' : v'.ownBlock = v.ownBlock ∨ v'.ownBlock = some (w3.alloc o).heap.size) :
    Blk w4 bx 27 #[a0, a1, a2, a3, a4, a5, v] ∧ SSt w (w4.setCell ⟨bx, 6, none⟩ v') g at2 all b2 bx #[a0, a1, a2, a3, a4, a5, v'] ∧ (w4.setCell ⟨bx, 6, none⟩ v').ownsRow B0 27 7 v' (j + 1) (xs ++ ys) ∧
      PatsF (w4.setCell ⟨bx, 6, none⟩ v') (fun b => B0 ≤ b ∧ b < (w4.setCell ⟨bx, 6, none⟩ v').heap.size ∧ v'.ownBlock ≠ some b) (l ++ [p]) (xs ++ ys) ∧ B0 ≤ (w4.setCell ⟨bx, 6, none⟩ v').heap.size := by
  have h1 := hs.gw
  have h2 := hs.wb
  have hlow : ∀ d, v.ownBlock = some d → B0 ≤ d := fun d hd => (hown.lt d hd).1
  have hsz := hgrow.size
  rw [World.size_alloc] at hsz
  have hs4 : SSt w w4 g at2 all b2 bx #[a0, a1, a2, a3, a4, a5, v] :=
    ⟨(hs.ch.alloc o).grown hgrow (fun d hd => by have := hlow d hd; omega), (hs.rd.alloc o).grown hgrow (fun d hd => by have := hlow d hd; omega), (hs.rs.alloc o).grown hgrow (fun e => by have := hlow _ e.symm; omega), (hs.bo.alloc o).grown hgrow (fun e => by have := hlow _ e.symm; omega), h1, h2⟩
  have hsc : Chg [bx] w4 (w4.setCell ⟨bx, 6, none⟩ v') := (Chg.refl _ _).setCell (.inl (by simp)) v'
  have hs5 := hs4.set_ 6 v'
  simp only [List.setIfInBounds_toArray, List.set_cons_zero, List.set_cons_succ] at hs5
  refine ⟨hs4.bo, hs5, own_chg hown' hsc (fun d hd hm => by have := (hown'.lt d hd).1; simp at hm; omega), ?_, by have := hsc.size; omega⟩
  have hne : ∀ d, d < w3.heap.size → v.ownBlock ≠ some d → v'.ownBlock ≠ some d := fun d hd hn e => by
    rcases hx' with hx' | hx'
    · exact hn (by rw [← hx', e])
    · rw [e, World.size_alloc] at hx'
      injection hx' with hx'
      omega
  have h4 : PatsF w4 (fun b => B0 ≤ b ∧ b < w3.heap.size ∧ v'.ownBlock ≠ some b) (l ++ [p]) (xs ++ ys) := hpats.keep (fun d hd => ⟨hd.1, hd.2.1, hne d hd.2.1 hd.2.2⟩) (fun q hq => by
    unfold World.cell?
    rw [hgrow.block q.block (by rw [World.size_alloc]; omega) (fun e => hq.2.2 e.symm), Below.heap_alloc _ _ _ hq.2.1]) _ _
  exact h4.chg hsc (fun d hd => ⟨by omega, by simp; omega⟩) (fun d hd => ⟨hd.1, by have := hsc.size; omega, hd.2.2⟩)
/-- What holds of the parts that were read so far. -/
def PartInv (f n left at0 : Nat) (all : List Nat) (b0 b' : Bool) (l : List Pt) (j nodes at' : Nat) : Prop := (b0 = true → b' = true) ∧ (b0 = false → (b' = true → manyS (patR f) n left (all.drop at0) = none) ∧ (b' = false → preS l (manyS (patR f) (n - j) (40 - nodes) (all.drop at')) = manyS (patR f) n left (all.drop at0)))
/-- The rounds' state. -/
def RoundSt (w wr : World) (g : Nat) (all : List Nat) (bx B0 f n before at0 : Nat) (b0 : Bool) (k lo hi : Int) (nd i : Value) : Prop := ∃ j nodes at' : Nat, ∃ b' : Bool, ∃ l : List Pt, ∃ xs : List Value, ∃ v : Value, j ≤ n ∧ i = .int .i64 j ∧ nd = .int .i64 nodes ∧ l.length = j ∧ (B0 ≤ wr.heap.size ∧ before + 1 ≤ nodes) ∧ nodes ≤ 41 ∧ (b' = false → nodes ≤ 40) ∧ wr.ownsRow B0 27 7 v j xs ∧ PatsF wr (fun b => B0 ≤ b ∧ b < wr.heap.size ∧ v.ownBlock ≠ some b) l xs ∧ SSt w wr g at' all b' bx #[.int .i64 k, .int .u32 0, .int .u32 0, .bool false, .int .i64 lo, .int .i64 hi, v] ∧ PartInv f n (39 - before) at0 all b0 b' l j nodes at'
set_option linter.unusedSimpArgs false in
set_option maxRecDepth 20000 in
set_option maxHeartbeats 8000000 in
theorem spat_node (f : Nat) (hf : SPat f) (w : World) (g at_ before : Nat) (all : List Nat) (hb40 : before < 40) (hlt : 39 - before < f) (h : RS w g all at_ false) :
    Calls Tryd.prog 84 #[wptr g, .int .i64 (before : Nat)] w (SPatPost g before all false w (nodeR (patR f) (39 - before) (all.drop at_))) := by
  obtain ⟨i0, hi0, hz0, hz1, hz3⟩ := info_parts (show (Tryd.prog.info? 27).map (fun i => (i.zero, i.size, i.bytes)) = some (some (.agg #[.int .i64 0, .int .u32 0, .int .u32 0, .bool false, .int .i64 0, .int .i64 0, .slice none 0 0]), 7, 64) by kernel_rfl)
  have hgl := h.lt
  have h0 := h.alloc (.cells #[.int .i64 0, .int .u32 0, .int .u32 0, .bool false, .int .i64 0, .int .i64 0, .slice none 0 0] 27)
  have hx0 := Blk.new w 27 #[.int .i64 0, .int .u32 0, .int .u32 0, .bool false, .int .i64 0, .int .i64 0, .slice none 0 0]
  have hch := (Chg.refl [g] w).alloc (.cells #[.int .i64 0, .int .u32 0, .int .u32 0, .bool false, .int .i64 0, .int .i64 0, .slice none 0 0] 27)
  obtain ⟨A, c, ⟨c0, c1, c2⟩, -, -, -, -⟩ := h0.cells
  obtain ⟨W0, hW0⟩ : ∃ W, w.alloc (.cells #[.int .i64 0, .int .u32 0, .int .u32 0, .bool false, .int .i64 0, .int .i64 0, .slice none 0 0] 27) = W := ⟨_, rfl⟩
  have hz0s : W0.heap.size = w.heap.size + 1 := by rw [← hW0]; simp
  have h0' := h0
  have hx0' := hx0
  have hch' := hch
  rw [hW0] at h0' hx0' hch'
  have hc := snumV W0 g at_ all false h0'
  unfold u32V at hc
  have HW0 := Lib.hid hW0; have HX0 := Lib.hid hx0'; have HCH := Lib.hid hch'; have HC := Lib.hid hc; have HF := Lib.hid hf
  clear h h0 h0' hx0 hx0' hch hch' hW0 hc c0 c1 hf
  have hbI : ¬ (40 : Int) < (before : Int) + 1 := by omega
  obtain ⟨o, ho⟩ : ∃ o, nodeR (patR f) (39 - before) (all.drop at_) = o := ⟨_, rfl⟩
  rw [ho]
  have HO := Lib.hid ho
  clear ho
  go_enter Tryd.func84, Tryd.ntmps84
  go_wp2_with fail
  rw [HW0.out]
  clear HW0 c2
  refine HC.out.mono ?_
  rintro e w1 ⟨k, at1, b1, rfl, hk, hc1, hr1, hb1, hg1⟩
  have hg1' : Got k b1 (all.drop at1) (readN (all.drop at_)) := hg1 rfl
  have hs1 := hc1.size
  have hsst : SSt w (w1.alloc (.cells #[.int .i64 k, .int .u32 0, .int .u32 0, .bool false, .int .i64 0, .int .i64 0, .slice none 0 0] 27)) g at1 all b1 w1.heap.size #[.int .i64 k, .int .u32 0, .int .u32 0, .bool false, .int .i64 0, .int .i64 0, .slice none 0 0] :=
    ⟨(HCH.out.trans hc1).alloc _, hr1.alloc _, (HX0.out.chg hc1 (by simp; omega)).alloc _, Blk.new w1 _ _, hgl, by omega⟩
  have hk32 : k < 4294967296 := hk
  have HO1 := HO.out
  unfold nodeR at HO1
  have G1 := Lib.hid hg1'
  clear hk hc1 hr1 hb1 hg1 hg1' HC HX0 HCH HO
  obtain ⟨kI, hkI⟩ : ∃ kI : Int, (k : Int) = kI := ⟨_, rfl⟩
  dsimp only
  rw [hkI] at hsst ⊢
  have hkr0 : 0 ≤ kI := by omega
  have hkr1 : kI < 4294967296 := by omega
  by_cases k1 : k = 1
  · obtain rfl : kI = 1 := by omega
    obtain ⟨W2, hW2⟩ : ∃ W, w1.alloc (.cells #[.int .i64 1, .int .u32 0, .int .u32 0, .bool false, .int .i64 0, .int .i64 0, .slice none 0 0] 27) = W := ⟨_, rfl⟩
    rw [hW2] at hsst
    have HS2 := Lib.hid hsst; have HW2 := Lib.hid hW2
    clear hsst hW2
    go_wp2_with fail
    rw [HW2.out]
    clear HW2
    refine (ssnd_any W2 g at1 all b1 HS2.out.rd).mono ?_
    rintro e w3 ⟨s, at2, b2, rfl, hok, hc2, hr2, hb2, hg2⟩
    have hs3 := HS2.out.chg hc2 hr2
    obtain ⟨x0, x1, x2, x3, x4, x5, x6⟩ := hs3.bo.seven
    obtain ⟨y0, y1, y2, y3, y4, y5, y6⟩ := hs3.bo.free7
    have hs4 := (hs3.set_ 1 (.int .u32 s.1)).set_ 2 (.int .u32 s.2)
    simp only [List.setIfInBounds_toArray, List.set_cons_zero, List.set_cons_succ] at hs4
    obtain ⟨W4, hW4⟩ : ∃ W, (w3.setCell ⟨w1.heap.size, 1, none⟩ (.int .u32 s.1)).setCell ⟨w1.heap.size, 2, none⟩ (.int .u32 s.2) = W := ⟨_, rfl⟩
    rw [hW4] at hs4
    have HS4 := Lib.hid hs4; have HW4 := Lib.hid hW4; have HOK := Lib.hid hok; have B2 := Lib.hid hb2; have G2 := Lib.hid hg2
    clear hs3 hs4 hW4 hc2 hr2 hok hb2 hg2 HS2
    go_wp2_with fail
    rw [HW4.out]
    clear HW4 x0 x1 x2 x3 x4 x5 x6 y0 y1 y2 y3 y4 y5 y6
    refine (sflag_any W4 g at2 all b2 HS4.out.rd).mono ?_
    rintro e w5 ⟨neg, at3, b3, rfl, -, hc3, hr3, hb3, hg3⟩
    have hs5 := HS4.out.chg hc3 hr3
    obtain ⟨x0, x1, x2, x3, x4, x5, x6⟩ := hs5.bo.seven
    obtain ⟨y0, y1, y2, y3, y4, y5, y6⟩ := hs5.bo.free7
    have hs6 := hs5.set_ 3 (.bool neg)
    simp only [List.setIfInBounds_toArray, List.set_cons_zero, List.set_cons_succ] at hs6
    have hgot : Got (Pt.mk 1 s neg 0 0 [], 39 - before) b3 (all.drop at3) o := by
      rw [← HO1]
      refine got_then G1.out (fun hb => hb3 (B2.out hb)) fun hb1 => ?_
      rw [if_pos k1]
      exact got_then (G2.out hb1) hb3 fun hb2 => got_then (hg3 hb2) id fun hb3 => got_ret hb3
    have HS6 := Lib.hid hs6; have HG := Lib.hid hgot
    have hb40' : before + 1 ≤ 40 := by omega
    clear hs5 hs6 hc3 hr3 hb3 hg3 HS4 hgot HO1 k1 hkI
    go_wp2
    go_loopw [6, 9] (fun nd i wr => nd = .int .i64 ((before : Int) + 1) ∧ i = .int .i64 0 ∧ SSt w wr g at3 all b3 w1.heap.size #[.int .i64 1, .int .u32 s.1, .int .u32 s.2, .bool neg, .int .i64 0, .int .i64 0, .slice none 0 0]) (fun _ _ _ => 0)
    case atStart => exact ⟨rfl, rfl, HS6.out⟩
    case round =>
      obtain ⟨rfl, rfl, hs⟩ := hrel
      obtain ⟨x0, x1, x2, x3, x4, x5, x6⟩ := hs.bo.seven
      obtain ⟨z0, z1, z2, z3, z4, z5, z6⟩ := hs.rs.seven
      obtain ⟨v0, v1, v2, v3, v4, v5, v6⟩ := hs.rs.free7
      obtain ⟨A, c, ⟨c0, c1, c2⟩, -, -, -, -⟩ := hs.rd.cells
      have hfin := hs.fin (nodes := before + 1) (o := o) (bad := false) (patF_leaf _ _ 1 s neg 0 0 HOK.out) (Nat.le_succ before) (by omega) (fun _ => hb40') (fun h => by cases h) (fun _ => by rw [show 40 - (before + 1) = 39 - before by omega]; exact HG.out)
      rw [show ((before + 1 : Nat) : Int) = (before : Int) + 1 by simp] at hfin
      have HFIN := Lib.hid hfin; have HXF := Lib.hid (hs.rs.st7 (.int .i64 1) (.int .u32 s.1) (.int .u32 s.2) (.bool neg) (.int .i64 0) (.int .i64 0) (.slice none 0 0))
      clear hfin hs
      go_wp2
      exact bodyPost_ret (results_pat2 Tryd.results84 _ _ _ _ _ _ _ _ _ _ rfl HXF.out) rfl HFIN.out
  by_cases k34 : k = 3 ∨ k = 4
  · have t1 : (kI == 1) = false := by rw [beq_eq_false_iff_ne]; omega
    have t3 : (kI == 3) = true ∨ ((kI == 3) = false ∧ (kI == 4) = true) := by
      rcases k34 with h | h
      · exact .inl (by rw [beq_iff_eq]; omega)
      · exact .inr ⟨by rw [beq_eq_false_iff_ne]; omega, by rw [beq_iff_eq]; omega⟩
    obtain ⟨W2, hW2⟩ : ∃ W, w1.alloc (.cells #[.int .i64 kI, .int .u32 0, .int .u32 0, .bool false, .int .i64 0, .int .i64 0, .slice none 0 0] 27) = W := ⟨_, rfl⟩
    have hW2s : W2.heap.size = w1.heap.size + 1 := by rw [← hW2]; simp
    rw [hW2] at hsst
    have HS2 := Lib.hid hsst; have HW2 := Lib.hid hW2; have HO2 := Lib.hid HO1; have HK34 := Lib.hid k34; have HK1 := Lib.hid k1; have HKI := Lib.hid hkI
    clear hsst hW2 HO1 k34 k1 hkI
    rcases t3 with t3 | ⟨t3, t4⟩
    · go_wp2_with fail
      rw [HW2.out]
      clear HW2
      refine (scount_any W2 g at1 all b1 HS2.out.rd).mono ?_
      rintro e wk ⟨n, atk, bk, rfl, hn, hn0, hck, hrk, hbk, hgk⟩
      have hsk := HS2.out.chg hck hrk
      have hn30 : n ≤ 1073741824 := by have := hrk.all.2.2; omega
      have hszk := hck.size
      have hwk : w1.heap.size < wk.heap.size := by omega
      have hgot : ∀ (l : List Pt) (nodes at' : Nat) (b' : Bool), (bk = true → b' = true) → (bk = false → Got (l, 40 - nodes) b' (all.drop at') (manyS (patR f) n (39 - before) (all.drop atk))) → Got (Pt.mk kI (0, 0) false 0 0 l, 40 - nodes) b' (all.drop at') o := fun l nodes at' b' h1 h2 => by
        rw [← HO2.out]
        refine got_then G1.out (fun hb => h1 (hbk hb)) fun hb1 => ?_
        rw [if_neg HK1.out, if_pos HK34.out, HKI.out]
        refine got_then (x := n) (b1 := bk) (r1 := all.drop atk) (cnt_got (hgk hb1)) h1 fun hbk0 => ?_
        exact got_then (h2 hbk0) id fun hb' => got_ret hb'
      have HSK := Lib.hid hsk; have HGK := Lib.hid hgot
      clear hn hn0 hck hrk hbk hgk hsk hgot HS2 HO2 HK34 HK1 HKI
      go_wp2
      go_loopw [6, 9] (fun nd i wr => RoundSt w wr g all w1.heap.size wk.heap.size f n before atk bk kI 0 0 nd i) (fun _ i _ => n - (Lib.intOf i).toNat)
      case atStart => exact ⟨0, before + 1, atk, bk, [], [], .slice none 0 0, by omega, rfl, by simp, rfl, ⟨Nat.le_refl _, Nat.le_refl _⟩, by omega, (fun _ => by omega), World.ownsRow_nil _ _ _ _, patsF_nil.2 rfl, HSK.out, id, fun hb => ⟨(fun hb' => by rw [hb] at hb'; cases hb'), (fun _ => by rw [preS_nil, show 40 - (before + 1) = 39 - before by omega] <;> rfl)⟩⟩
      case round =>
        obtain ⟨j, nodes, at', b', l, xs, v, hj, rfl, rfl, hll, ⟨hbr, hnd⟩, hnd41, hnd40, hown, hpats, hs, hbb, hinv⟩ := hrel
        obtain ⟨A, c, ⟨c0, c1, c2⟩, -, -, -, -⟩ := hs.rd.cells
        have hwb := hs.wb
        have hgw := hs.gw
        have HBR := Lib.hid hbr
        clear hbr
        have HLL := Lib.hid hll; have HN40 := Lib.hid hnd40; have HOWN := Lib.hid hown; have HPATS := Lib.hid hpats; have HS := Lib.hid hs; have HBB := Lib.hid hbb; have HINV := Lib.hid hinv
        have hfin : (j = n ∨ b' = true) → SPatPost g before all false w o (.returned (.tuple #[.agg (patL kI (0, 0) false 0 0 v).toArray, .int .i64 nodes])) (st7 wr w.heap.size (.int .i64 kI) (.int .u32 0) (.int .u32 0) (.bool false) (.int .i64 0) (.int .i64 0) v) := fun hjb => by
          obtain ⟨A4, c4, rfl, hlc, hcm⟩ := ownsRow_form HOWN.out
          have hpn := patF_node (k := kI) (s := (0, 0)) (neg := false) (lo := 0) (hi := 0) (l := l) (S := fun b => w.heap.size < b ∧ b < wr.heap.size) (by unfold ok32 is32; decide) (by rw [HLL.out]; exact HOWN.out) (fun b hb => by have := HOWN.out.lt b hb; exact ⟨by omega, this.2⟩) (HPATS.out.keep (fun b hb => ⟨by omega, hb.2.1⟩) (fun _ _ => rfl) _ _)
          refine HS.out.fin (s := (0, 0)) (nodes := nodes) (o := o) (bad := false) hpn (by omega) hnd41 HN40.out (fun h => by cases h) (fun _ => ?_)
          refine HGK.out l nodes at' b' HBB.out (fun hb => ?_)
          obtain ⟨i1, i2⟩ := HINV.out hb
          cases hbx : b' with
          | true => rw [i1 hbx]; rfl
          | false =>
            have hjn : j = n := by
              rcases hjb with h | h
              · exact h
              · rw [hbx] at h; cases h
            have := i2 hbx
            rw [hjn, Nat.sub_self] at this
            have e : manyS (patR f) n (39 - before) (all.drop atk) = some ((l, 40 - nodes), all.drop at') := by rw [← this]; simp [preS, manyS]
            rw [e]
            exact ⟨rfl, rfl, rfl⟩
        have HFIN := Lib.hid hfin
        clear hfin hll hnd40 hown hpats hs hbb hinv
        by_cases hjn : j < n
        · have hjI : (j : Int) < (n : Nat) := by omega
          have HJ := Lib.hid hjn
          cases b' with
          | true =>
            obtain ⟨A4, c4, rfl, hlc, hcm⟩ := ownsRow_form HOWN.out
            obtain ⟨x0, x1, x2, x3, x4, x5, x6⟩ := HS.out.bo.seven
            obtain ⟨z0, z1, z2, z3, z4, z5, z6⟩ := HS.out.rs.seven
            obtain ⟨v0, v1, v2, v3, v4, v5, v6⟩ := HS.out.rs.free7
            have HF1 := Lib.hid (HFIN.out (.inr rfl)); have HXF := Lib.hid (HS.out.rs.st7 (.int .i64 kI) (.int .u32 0) (.int .u32 0) (.bool false) (.int .i64 0) (.int .i64 0) (.slice A4 j c4))
            clear hjn
            go_wp2
            exact bodyPost_ret (results_pat2 Tryd.results84 _ _ _ _ _ _ _ _ _ _ rfl HXF.out) rfl HF1.out
          | false =>
            have hr1 := HS.out.rd.alloc (.cells #[.int .i64 0, .int .u32 0, .int .u32 0, .bool false, .int .i64 0, .int .i64 0, .slice none 0 0] 27)
            have hcall := HF.out (wr.alloc (.cells #[.int .i64 0, .int .u32 0, .int .u32 0, .bool false, .int .i64 0, .int .i64 0, .slice none 0 0] 27)) g at' nodes all false (HN40.out (by first | trivial | rfl)) (by omega) hr1
            have HCALL := Lib.hid hcall
            clear hr1 hcall hjn
            go_wp2_with fail
            refine HCALL.out.mono ?_
            rintro e w2 ⟨p, cs, nodes2, at2, b2, rfl, hpf, hnn, hn241, hn240, hc2, hr2, hb2, hg2⟩
            obtain ⟨k1', s1, neg1, lo1, hi1, A1, n1, c1', rfl⟩ := hpf.form
            have hone := hpf.one.2
            obtain ⟨hy2, w3, rfl, hs3, hown3, happ, hy3, hB3⟩ := round_mid HS.out HOWN.out HPATS.out hwk (HBR.out) hc2 hr2 hpf
            have HY2 := Lib.hid hy2; have HY3 := Lib.hid hy3
            have x6 := hs3.bo.cell 6
            simp only [List.getElem?_toArray, List.getElem?_cons_zero, List.getElem?_cons_succ] at x6
            have hinv : PartInv f n (39 - before) atk all bk b2 (l ++ [p]) (j + 1) nodes2 at2 := by
              refine ⟨fun hb => (by have := HBB.out hb; cases this), fun hb => ?_⟩
              have h1 := (HINV.out hb).2 (by first | trivial | rfl)
              have hm := hg2 (by first | trivial | rfl)
              rw [show n - j = (n - (j + 1)) + 1 by have := HJ.out; omega] at h1
              cases hx : patR f (40 - nodes) (all.drop at') with
              | none =>
                rw [hx] at hm
                rw [preS_none _ hx] at h1
                exact ⟨(fun _ => h1.symm), (fun h => by have hm' : b2 = true := hm; rw [hm'] at h; cases h)⟩
              | some y =>
                obtain ⟨⟨p2', lf2⟩, r2'⟩ := y
                rw [hx] at hm
                obtain ⟨e1, hb2, e3⟩ := hm
                obtain ⟨rfl, rfl⟩ := Prod.mk.inj e1
                subst e3
                rw [preS_some _ hx] at h1
                exact ⟨(fun h => by rw [hb2] at h; cases h), (fun _ => h1)⟩
            have hdn : before + 1 ≤ nodes2 := Nat.le_trans hnd hnn
            have hrn := reads_newk (w2.setRow wr.heap.size (patL k1' s1 neg1 lo1 hi1 (.slice A1 n1 c1')).toArray) 27 (patL k1' s1 neg1 lo1 hi1 (.slice A1 n1 c1')) 7 1 rfl
            simp only [size_setRow] at hrn
            have HOWN3 := Lib.hid hown3; have HS3 := Lib.hid hs3; have HAPP := Lib.hid happ; have HRN := Lib.hid hrn; have HI2 := Lib.hid hinv; have HN2 := Lib.hid hn240; have HONE := Lib.hid hone; have HB3 := Lib.hid hB3; have HDN := Lib.hid hdn
            clear hpf hnn hn240 hc2 hr2 hb2 hg2 hone hy2 hown3 hs3 happ hinv hrn HS HFIN HOWN HPATS hy3 hB3 HCALL hdn hnd hnd41
            go_wp2_with (first | (refine pat_store rfl _ _ rfl _ rfl (patL k1' s1 neg1 lo1 hi1 (.slice A1 n1 c1')) [.int .i64 0, .int .u32 0, .int .u32 0, .bool false, .int .i64 0, .int .i64 0, .slice none 0 0] rfl rfl HONE.out HY2.out rfl ?_; simp only [Act.put, List.setIfInBounds_toArray, List.set_cons_zero, List.set_cons_succ]) | (refine pat_load rfl _ rfl _ rfl (patL k1' s1 neg1 lo1 hi1 (.slice A1 n1 c1')) rfl HY3.out ?_; simp only [Act.put, List.setIfInBounds_toArray, List.set_cons_zero, List.set_cons_succ]) | (at_builtin; refine wpList_append_any _ rfl _ _ 25 rfl wk.heap.size 27 i0 (.agg #[.int .i64 0, .int .u32 0, .int .u32 0, .bool false, .int .i64 0, .int .i64 0, .slice none 0 0]) 7 64 Tryd.underlying25 hi0 hz0 hz1 hz3 rfl (by decide) _ _ _ rfl (HOWN3.out.alloc _) _ _ _ _ (patL k1' s1 neg1 lo1 hi1 (.slice A1 n1 c1')) rfl HRN.out HONE.out (by unfold maxLen; omega) (by omega) (by have := HB3.out; simp at this ⊢; omega) ?_; intro v' w4 hown' hgrow hx'; obtain ⟨A5, c5, rfl, -, -⟩ := ownsRow_form hown'; have hend := round_end HS3.out HOWN3.out HAPP.out hwk HB3.out hown' hgrow hx'; have HEND := Lib.hid hend.2; have e6 := hend.1.cell 6; have f6 := hend.1.frozen 6; clear hown' hgrow hx' hend; simp only [List.getElem?_toArray, List.getElem?_cons_zero, List.getElem?_cons_succ] at e6))
            go_roundw
            case rel => exact ⟨j + 1, nodes2, at2, b2, l ++ [p], _, _, by have := HJ.out; omega, by go_num, rfl, by rw [List.length_append, HLL.out]; rfl, ⟨HEND.out.2.2.2, HDN.out⟩, hn241, HN2.out, HEND.out.2.1, HEND.out.2.2.1, HEND.out.1, HI2.out⟩
            case measure => have := HJ.out; simp [Lib.intOf]; omega
        · obtain rfl : j = n := by omega
          obtain ⟨A4, c4, rfl, hlc, hcm⟩ := ownsRow_form HOWN.out
          obtain ⟨x0, x1, x2, x3, x4, x5, x6⟩ := HS.out.bo.seven
          obtain ⟨z0, z1, z2, z3, z4, z5, z6⟩ := HS.out.rs.seven
          obtain ⟨v0, v1, v2, v3, v4, v5, v6⟩ := HS.out.rs.free7
          have HF1 := Lib.hid (HFIN.out (.inl rfl)); have HXF := Lib.hid (HS.out.rs.st7 (.int .i64 kI) (.int .u32 0) (.int .u32 0) (.bool false) (.int .i64 0) (.int .i64 0) (.slice A4 j c4))
          go_wp2
          exact bodyPost_ret (results_pat2 Tryd.results84 _ _ _ _ _ _ _ _ _ _ rfl HXF.out) rfl HF1.out
    · go_wp2_with fail
      rw [HW2.out]
      clear HW2
      refine (scount_any W2 g at1 all b1 HS2.out.rd).mono ?_
      rintro e wk ⟨n, atk, bk, rfl, hn, hn0, hck, hrk, hbk, hgk⟩
      have hsk := HS2.out.chg hck hrk
      have hn30 : n ≤ 1073741824 := by have := hrk.all.2.2; omega
      have hszk := hck.size
      have hwk : w1.heap.size < wk.heap.size := by omega
      have hgot : ∀ (l : List Pt) (nodes at' : Nat) (b' : Bool), (bk = true → b' = true) → (bk = false → Got (l, 40 - nodes) b' (all.drop at') (manyS (patR f) n (39 - before) (all.drop atk))) → Got (Pt.mk kI (0, 0) false 0 0 l, 40 - nodes) b' (all.drop at') o := fun l nodes at' b' h1 h2 => by
        rw [← HO2.out]
        refine got_then G1.out (fun hb => h1 (hbk hb)) fun hb1 => ?_
        rw [if_neg HK1.out, if_pos HK34.out, HKI.out]
        refine got_then (x := n) (b1 := bk) (r1 := all.drop atk) (cnt_got (hgk hb1)) h1 fun hbk0 => ?_
        exact got_then (h2 hbk0) id fun hb' => got_ret hb'
      have HSK := Lib.hid hsk; have HGK := Lib.hid hgot
      clear hn hn0 hck hrk hbk hgk hsk hgot HS2 HO2 HK34 HK1 HKI
      go_wp2
      go_loopw [6, 9] (fun nd i wr => RoundSt w wr g all w1.heap.size wk.heap.size f n before atk bk kI 0 0 nd i) (fun _ i _ => n - (Lib.intOf i).toNat)
      case atStart => exact ⟨0, before + 1, atk, bk, [], [], .slice none 0 0, by omega, rfl, by simp, rfl, ⟨Nat.le_refl _, Nat.le_refl _⟩, by omega, (fun _ => by omega), World.ownsRow_nil _ _ _ _, patsF_nil.2 rfl, HSK.out, id, fun hb => ⟨(fun hb' => by rw [hb] at hb'; cases hb'), (fun _ => by rw [preS_nil, show 40 - (before + 1) = 39 - before by omega] <;> rfl)⟩⟩
      case round =>
        obtain ⟨j, nodes, at', b', l, xs, v, hj, rfl, rfl, hll, ⟨hbr, hnd⟩, hnd41, hnd40, hown, hpats, hs, hbb, hinv⟩ := hrel
        obtain ⟨A, c, ⟨c0, c1, c2⟩, -, -, -, -⟩ := hs.rd.cells
        have hwb := hs.wb
        have hgw := hs.gw
        have HBR := Lib.hid hbr
        clear hbr
        have HLL := Lib.hid hll; have HN40 := Lib.hid hnd40; have HOWN := Lib.hid hown; have HPATS := Lib.hid hpats; have HS := Lib.hid hs; have HBB := Lib.hid hbb; have HINV := Lib.hid hinv
        have hfin : (j = n ∨ b' = true) → SPatPost g before all false w o (.returned (.tuple #[.agg (patL kI (0, 0) false 0 0 v).toArray, .int .i64 nodes])) (st7 wr w.heap.size (.int .i64 kI) (.int .u32 0) (.int .u32 0) (.bool false) (.int .i64 0) (.int .i64 0) v) := fun hjb => by
          obtain ⟨A4, c4, rfl, hlc, hcm⟩ := ownsRow_form HOWN.out
          have hpn := patF_node (k := kI) (s := (0, 0)) (neg := false) (lo := 0) (hi := 0) (l := l) (S := fun b => w.heap.size < b ∧ b < wr.heap.size) (by unfold ok32 is32; decide) (by rw [HLL.out]; exact HOWN.out) (fun b hb => by have := HOWN.out.lt b hb; exact ⟨by omega, this.2⟩) (HPATS.out.keep (fun b hb => ⟨by omega, hb.2.1⟩) (fun _ _ => rfl) _ _)
          refine HS.out.fin (s := (0, 0)) (nodes := nodes) (o := o) (bad := false) hpn (by omega) hnd41 HN40.out (fun h => by cases h) (fun _ => ?_)
          refine HGK.out l nodes at' b' HBB.out (fun hb => ?_)
          obtain ⟨i1, i2⟩ := HINV.out hb
          cases hbx : b' with
          | true => rw [i1 hbx]; rfl
          | false =>
            have hjn : j = n := by
              rcases hjb with h | h
              · exact h
              · rw [hbx] at h; cases h
            have := i2 hbx
            rw [hjn, Nat.sub_self] at this
            have e : manyS (patR f) n (39 - before) (all.drop atk) = some ((l, 40 - nodes), all.drop at') := by rw [← this]; simp [preS, manyS]
            rw [e]
            exact ⟨rfl, rfl, rfl⟩
        have HFIN := Lib.hid hfin
        clear hfin hll hnd40 hown hpats hs hbb hinv
        by_cases hjn : j < n
        · have hjI : (j : Int) < (n : Nat) := by omega
          have HJ := Lib.hid hjn
          cases b' with
          | true =>
            obtain ⟨A4, c4, rfl, hlc, hcm⟩ := ownsRow_form HOWN.out
            obtain ⟨x0, x1, x2, x3, x4, x5, x6⟩ := HS.out.bo.seven
            obtain ⟨z0, z1, z2, z3, z4, z5, z6⟩ := HS.out.rs.seven
            obtain ⟨v0, v1, v2, v3, v4, v5, v6⟩ := HS.out.rs.free7
            have HF1 := Lib.hid (HFIN.out (.inr rfl)); have HXF := Lib.hid (HS.out.rs.st7 (.int .i64 kI) (.int .u32 0) (.int .u32 0) (.bool false) (.int .i64 0) (.int .i64 0) (.slice A4 j c4))
            clear hjn
            go_wp2
            exact bodyPost_ret (results_pat2 Tryd.results84 _ _ _ _ _ _ _ _ _ _ rfl HXF.out) rfl HF1.out
          | false =>
            have hr1 := HS.out.rd.alloc (.cells #[.int .i64 0, .int .u32 0, .int .u32 0, .bool false, .int .i64 0, .int .i64 0, .slice none 0 0] 27)
            have hcall := HF.out (wr.alloc (.cells #[.int .i64 0, .int .u32 0, .int .u32 0, .bool false, .int .i64 0, .int .i64 0, .slice none 0 0] 27)) g at' nodes all false (HN40.out (by first | trivial | rfl)) (by omega) hr1
            have HCALL := Lib.hid hcall
            clear hr1 hcall hjn
            go_wp2_with fail
            refine HCALL.out.mono ?_
            rintro e w2 ⟨p, cs, nodes2, at2, b2, rfl, hpf, hnn, hn241, hn240, hc2, hr2, hb2, hg2⟩
            obtain ⟨k1', s1, neg1, lo1, hi1, A1, n1, c1', rfl⟩ := hpf.form
            have hone := hpf.one.2
            obtain ⟨hy2, w3, rfl, hs3, hown3, happ, hy3, hB3⟩ := round_mid HS.out HOWN.out HPATS.out hwk (HBR.out) hc2 hr2 hpf
            have HY2 := Lib.hid hy2; have HY3 := Lib.hid hy3
            have x6 := hs3.bo.cell 6
            simp only [List.getElem?_toArray, List.getElem?_cons_zero, List.getElem?_cons_succ] at x6
            have hinv : PartInv f n (39 - before) atk all bk b2 (l ++ [p]) (j + 1) nodes2 at2 := by
              refine ⟨fun hb => (by have := HBB.out hb; cases this), fun hb => ?_⟩
              have h1 := (HINV.out hb).2 (by first | trivial | rfl)
              have hm := hg2 (by first | trivial | rfl)
              rw [show n - j = (n - (j + 1)) + 1 by have := HJ.out; omega] at h1
              cases hx : patR f (40 - nodes) (all.drop at') with
              | none =>
                rw [hx] at hm
                rw [preS_none _ hx] at h1
                exact ⟨(fun _ => h1.symm), (fun h => by have hm' : b2 = true := hm; rw [hm'] at h; cases h)⟩
              | some y =>
                obtain ⟨⟨p2', lf2⟩, r2'⟩ := y
                rw [hx] at hm
                obtain ⟨e1, hb2, e3⟩ := hm
                obtain ⟨rfl, rfl⟩ := Prod.mk.inj e1
                subst e3
                rw [preS_some _ hx] at h1
                exact ⟨(fun h => by rw [hb2] at h; cases h), (fun _ => h1)⟩
            have hdn : before + 1 ≤ nodes2 := Nat.le_trans hnd hnn
            have hrn := reads_newk (w2.setRow wr.heap.size (patL k1' s1 neg1 lo1 hi1 (.slice A1 n1 c1')).toArray) 27 (patL k1' s1 neg1 lo1 hi1 (.slice A1 n1 c1')) 7 1 rfl
            simp only [size_setRow] at hrn
            have HOWN3 := Lib.hid hown3; have HS3 := Lib.hid hs3; have HAPP := Lib.hid happ; have HRN := Lib.hid hrn; have HI2 := Lib.hid hinv; have HN2 := Lib.hid hn240; have HONE := Lib.hid hone; have HB3 := Lib.hid hB3; have HDN := Lib.hid hdn
            clear hpf hnn hn240 hc2 hr2 hb2 hg2 hone hy2 hown3 hs3 happ hinv hrn HS HFIN HOWN HPATS hy3 hB3 HCALL hdn hnd hnd41
            go_wp2_with (first | (refine pat_store rfl _ _ rfl _ rfl (patL k1' s1 neg1 lo1 hi1 (.slice A1 n1 c1')) [.int .i64 0, .int .u32 0, .int .u32 0, .bool false, .int .i64 0, .int .i64 0, .slice none 0 0] rfl rfl HONE.out HY2.out rfl ?_; simp only [Act.put, List.setIfInBounds_toArray, List.set_cons_zero, List.set_cons_succ]) | (refine pat_load rfl _ rfl _ rfl (patL k1' s1 neg1 lo1 hi1 (.slice A1 n1 c1')) rfl HY3.out ?_; simp only [Act.put, List.setIfInBounds_toArray, List.set_cons_zero, List.set_cons_succ]) | (at_builtin; refine wpList_append_any _ rfl _ _ 25 rfl wk.heap.size 27 i0 (.agg #[.int .i64 0, .int .u32 0, .int .u32 0, .bool false, .int .i64 0, .int .i64 0, .slice none 0 0]) 7 64 Tryd.underlying25 hi0 hz0 hz1 hz3 rfl (by decide) _ _ _ rfl (HOWN3.out.alloc _) _ _ _ _ (patL k1' s1 neg1 lo1 hi1 (.slice A1 n1 c1')) rfl HRN.out HONE.out (by unfold maxLen; omega) (by omega) (by have := HB3.out; simp at this ⊢; omega) ?_; intro v' w4 hown' hgrow hx'; obtain ⟨A5, c5, rfl, -, -⟩ := ownsRow_form hown'; have hend := round_end HS3.out HOWN3.out HAPP.out hwk HB3.out hown' hgrow hx'; have HEND := Lib.hid hend.2; have e6 := hend.1.cell 6; have f6 := hend.1.frozen 6; clear hown' hgrow hx' hend; simp only [List.getElem?_toArray, List.getElem?_cons_zero, List.getElem?_cons_succ] at e6))
            go_roundw
            case rel => exact ⟨j + 1, nodes2, at2, b2, l ++ [p], _, _, by have := HJ.out; omega, by go_num, rfl, by rw [List.length_append, HLL.out]; rfl, ⟨HEND.out.2.2.2, HDN.out⟩, hn241, HN2.out, HEND.out.2.1, HEND.out.2.2.1, HEND.out.1, HI2.out⟩
            case measure => have := HJ.out; simp [Lib.intOf]; omega
        · obtain rfl : j = n := by omega
          obtain ⟨A4, c4, rfl, hlc, hcm⟩ := ownsRow_form HOWN.out
          obtain ⟨x0, x1, x2, x3, x4, x5, x6⟩ := HS.out.bo.seven
          obtain ⟨z0, z1, z2, z3, z4, z5, z6⟩ := HS.out.rs.seven
          obtain ⟨v0, v1, v2, v3, v4, v5, v6⟩ := HS.out.rs.free7
          have HF1 := Lib.hid (HFIN.out (.inl rfl)); have HXF := Lib.hid (HS.out.rs.st7 (.int .i64 kI) (.int .u32 0) (.int .u32 0) (.bool false) (.int .i64 0) (.int .i64 0) (.slice A4 j c4))
          go_wp2
          exact bodyPost_ret (results_pat2 Tryd.results84 _ _ _ _ _ _ _ _ _ _ rfl HXF.out) rfl HF1.out
  by_cases k5 : k = 5
  · obtain rfl : kI = 5 := by omega
    obtain ⟨W2, hW2⟩ : ∃ W, w1.alloc (.cells #[.int .i64 5, .int .u32 0, .int .u32 0, .bool false, .int .i64 0, .int .i64 0, .slice none 0 0] 27) = W := ⟨_, rfl⟩
    have hW2s : W2.heap.size = w1.heap.size + 1 := by rw [← hW2]; simp
    rw [hW2] at hsst
    have HS2 := Lib.hid hsst; have HW2 := Lib.hid hW2; have HO2 := Lib.hid HO1; have HK34 := Lib.hid k34; have HK1 := Lib.hid k1; have HK5 := Lib.hid k5
    clear hsst hW2 HO1 k34 k1 k5 hkI
    go_wp2_with fail
    rw [HW2.out]
    clear HW2
    have hcl := snumV W2 g at1 all b1 HS2.out.rd
    unfold u32V at hcl
    refine hcl.mono ?_
    rintro e w3 ⟨lo, at2, b2, rfl, hlo, hc2, hr2, hb2, hg2⟩
    dsimp only
    have hlo32 : lo < 4294967296 := hlo
    have hs3 := HS2.out.chg hc2 hr2
    obtain ⟨x0, x1, x2, x3, x4, x5, x6⟩ := hs3.bo.seven
    obtain ⟨y0, y1, y2, y3, y4, y5, y6⟩ := hs3.bo.free7
    have hsz3 := hc2.size
    have hs4 := hs3.set_ 4 (.int .i64 lo)
    simp only [List.setIfInBounds_toArray, List.set_cons_zero, List.set_cons_succ] at hs4
    obtain ⟨W4, hW4⟩ : ∃ W, w3.setCell ⟨w1.heap.size, 4, none⟩ (.int .i64 lo) = W := ⟨_, rfl⟩
    have hW4s : W4.heap.size = w3.heap.size := by rw [← hW4]; simp [World.setCell]
    rw [hW4] at hs4
    have HS4 := Lib.hid hs4; have HW4 := Lib.hid hW4; have B2 := Lib.hid hb2; have G2 := Lib.hid hg2
    clear hs3 hs4 hW4 hc2 hr2 hb2 hg2 HS2 hlo hcl
    go_wp2_with fail
    rw [HW4.out]
    clear HW4 x0 x1 x2 x3 x4 x5 x6 y0 y1 y2 y3 y4 y5 y6
    have hcl := snumV W4 g at2 all b2 HS4.out.rd
    unfold u32V at hcl
    refine hcl.mono ?_
    rintro e wk ⟨hi, atk, bk, rfl, hhi, hc3, hr3, hb3, hg3⟩
    dsimp only
    have hhi32 : hi < 4294967296 := hhi
    have hs5 := HS4.out.chg hc3 hr3
    obtain ⟨x0, x1, x2, x3, x4, x5, x6⟩ := hs5.bo.seven
    obtain ⟨y0, y1, y2, y3, y4, y5, y6⟩ := hs5.bo.free7
    have hszk := hc3.size
    have hwk : w1.heap.size < wk.heap.size := by omega
    have hsk := hs5.set_ 5 (.int .i64 ((hi : Int) - 1))
    simp only [List.setIfInBounds_toArray, List.set_cons_zero, List.set_cons_succ] at hsk
    have hgot : ∀ (l : List Pt) (nodes at' : Nat) (b' : Bool), (bk = true → b' = true) → (bk = false → Got (l, 40 - nodes) b' (all.drop at') (manyS (patR f) 1 (39 - before) (all.drop atk))) → Got (Pt.mk 5 (0, 0) false lo ((hi : Int) - 1) l, 40 - nodes) b' (all.drop at') o := fun l nodes at' b' h1 h2 => by
      rw [← HO2.out]
      refine got_then G1.out (fun hb => h1 (hb3 (B2.out hb))) fun hb1 => ?_
      rw [if_neg HK1.out, if_neg HK34.out, if_pos HK5.out]
      refine got_then (G2.out hb1) (fun hb => h1 (hb3 hb)) fun hb2 => ?_
      refine got_then (hg3 hb2) h1 fun hb3' => ?_
      exact got_then (h2 hb3') id fun hb' => got_ret hb'
    have HSK := Lib.hid hsk; have HGK := Lib.hid hgot
    clear hs5 hsk hc3 hr3 hb3 hg3 hgot HS4 HO2 HK34 HK1 HK5 hhi hcl B2 G2
    go_wp2
    go_loopw [6, 9] (fun nd i wr => RoundSt w wr g all w1.heap.size wk.heap.size f 1 before atk bk 5 (lo : Int) ((hi : Int) - 1) nd i) (fun _ i _ => 1 - (Lib.intOf i).toNat)
    case atStart => exact ⟨0, before + 1, atk, bk, [], [], .slice none 0 0, by omega, rfl, by simp, rfl, ⟨by simp [World.setCell], Nat.le_refl _⟩, by omega, (fun _ => by omega), World.ownsRow_nil _ _ _ _, patsF_nil.2 rfl, HSK.out, id, fun hb => ⟨(fun hb' => by rw [hb] at hb'; cases hb'), (fun _ => by rw [preS_nil, show 40 - (before + 1) = 39 - before by omega] <;> rfl)⟩⟩
    case round =>
      obtain ⟨j, nodes, at', b', l, xs, v, hj, rfl, rfl, hll, ⟨hbr, hnd⟩, hnd41, hnd40, hown, hpats, hs, hbb, hinv⟩ := hrel
      obtain ⟨A, c, ⟨c0, c1, c2⟩, -, -, -, -⟩ := hs.rd.cells
      have hwb := hs.wb
      have hgw := hs.gw
      have HBR := Lib.hid hbr
      clear hbr
      have HLL := Lib.hid hll; have HN40 := Lib.hid hnd40; have HOWN := Lib.hid hown; have HPATS := Lib.hid hpats; have HS := Lib.hid hs; have HBB := Lib.hid hbb; have HINV := Lib.hid hinv
      have hfin : (j = 1 ∨ b' = true) → SPatPost g before all false w o (.returned (.tuple #[.agg (patL 5 (0, 0) false (lo : Int) ((hi : Int) - 1) v).toArray, .int .i64 nodes])) (st7 wr w.heap.size (.int .i64 5) (.int .u32 0) (.int .u32 0) (.bool false) (.int .i64 (lo : Int)) (.int .i64 ((hi : Int) - 1)) v) := fun hjb => by
        obtain ⟨A4, c4, rfl, hlc, hcm⟩ := ownsRow_form HOWN.out
        have hpn := patF_node (k := 5) (s := (0, 0)) (neg := false) (lo := (lo : Int)) (hi := ((hi : Int) - 1)) (l := l) (S := fun b => w.heap.size < b ∧ b < wr.heap.size) (by unfold ok32 is32; decide) (by rw [HLL.out]; exact HOWN.out) (fun b hb => by have := HOWN.out.lt b hb; exact ⟨by omega, this.2⟩) (HPATS.out.keep (fun b hb => ⟨by omega, hb.2.1⟩) (fun _ _ => rfl) _ _)
        refine HS.out.fin (s := (0, 0)) (nodes := nodes) (o := o) (bad := false) hpn (by omega) hnd41 HN40.out (fun h => by cases h) (fun _ => ?_)
        refine HGK.out l nodes at' b' HBB.out (fun hb => ?_)
        obtain ⟨i1, i2⟩ := HINV.out hb
        cases hbx : b' with
        | true => rw [i1 hbx]; rfl
        | false =>
          have hjn : j = 1 := by
            rcases hjb with h | h
            · exact h
            · rw [hbx] at h; cases h
          have := i2 hbx
          rw [hjn, Nat.sub_self] at this
          have e : manyS (patR f) 1 (39 - before) (all.drop atk) = some ((l, 40 - nodes), all.drop at') := by rw [← this]; simp [preS, manyS]
          rw [e]
          exact ⟨rfl, rfl, rfl⟩
      have HFIN := Lib.hid hfin
      clear hfin hll hnd40 hown hpats hs hbb hinv
      by_cases hjn : j < 1
      · have hjI : decide ((j : Int) < 1) = true := decide_eq_true (by omega)
        have HJ := Lib.hid hjn
        cases b' with
        | true =>
          obtain ⟨A4, c4, rfl, hlc, hcm⟩ := ownsRow_form HOWN.out
          obtain ⟨x0, x1, x2, x3, x4, x5, x6⟩ := HS.out.bo.seven
          obtain ⟨z0, z1, z2, z3, z4, z5, z6⟩ := HS.out.rs.seven
          obtain ⟨v0, v1, v2, v3, v4, v5, v6⟩ := HS.out.rs.free7
          have HF1 := Lib.hid (HFIN.out (.inr rfl)); have HXF := Lib.hid (HS.out.rs.st7 (.int .i64 5) (.int .u32 0) (.int .u32 0) (.bool false) (.int .i64 (lo : Int)) (.int .i64 ((hi : Int) - 1)) (.slice A4 j c4))
          clear hjn
          go_wp2
          exact bodyPost_ret (results_pat2 Tryd.results84 _ _ _ _ _ _ _ _ _ _ rfl HXF.out) rfl HF1.out
        | false =>
          have hr1 := HS.out.rd.alloc (.cells #[.int .i64 0, .int .u32 0, .int .u32 0, .bool false, .int .i64 0, .int .i64 0, .slice none 0 0] 27)
          have hcall := HF.out (wr.alloc (.cells #[.int .i64 0, .int .u32 0, .int .u32 0, .bool false, .int .i64 0, .int .i64 0, .slice none 0 0] 27)) g at' nodes all false (HN40.out (by first | trivial | rfl)) (by omega) hr1
          have HCALL := Lib.hid hcall
          clear hr1 hcall hjn
          go_wp2_with fail
          refine HCALL.out.mono ?_
          rintro e w2 ⟨p, cs, nodes2, at2, b2, rfl, hpf, hnn, hn241, hn240, hc2, hr2, hb2, hg2⟩
          obtain ⟨k1', s1, neg1, lo1, hi1, A1, n1, c1', rfl⟩ := hpf.form
          have hone := hpf.one.2
          obtain ⟨hy2, w3, rfl, hs3, hown3, happ, hy3, hB3⟩ := round_mid HS.out HOWN.out HPATS.out hwk (HBR.out) hc2 hr2 hpf
          have HY2 := Lib.hid hy2; have HY3 := Lib.hid hy3
          have x6 := hs3.bo.cell 6
          simp only [List.getElem?_toArray, List.getElem?_cons_zero, List.getElem?_cons_succ] at x6
          have hinv : PartInv f 1 (39 - before) atk all bk b2 (l ++ [p]) (j + 1) nodes2 at2 := by
            refine ⟨fun hb => (by have := HBB.out hb; cases this), fun hb => ?_⟩
            have h1 := (HINV.out hb).2 (by first | trivial | rfl)
            have hm := hg2 (by first | trivial | rfl)
            rw [show 1 - j = (1 - (j + 1)) + 1 by have := HJ.out; omega] at h1
            cases hx : patR f (40 - nodes) (all.drop at') with
            | none =>
              rw [hx] at hm
              rw [preS_none _ hx] at h1
              exact ⟨(fun _ => h1.symm), (fun h => by have hm' : b2 = true := hm; rw [hm'] at h; cases h)⟩
            | some y =>
              obtain ⟨⟨p2', lf2⟩, r2'⟩ := y
              rw [hx] at hm
              obtain ⟨e1, hb2, e3⟩ := hm
              obtain ⟨rfl, rfl⟩ := Prod.mk.inj e1
              subst e3
              rw [preS_some _ hx] at h1
              exact ⟨(fun h => by rw [hb2] at h; cases h), (fun _ => h1)⟩
          have hdn : before + 1 ≤ nodes2 := Nat.le_trans hnd hnn
          have hrn := reads_newk (w2.setRow wr.heap.size (patL k1' s1 neg1 lo1 hi1 (.slice A1 n1 c1')).toArray) 27 (patL k1' s1 neg1 lo1 hi1 (.slice A1 n1 c1')) 7 1 rfl
          simp only [size_setRow] at hrn
          have HOWN3 := Lib.hid hown3; have HS3 := Lib.hid hs3; have HAPP := Lib.hid happ; have HRN := Lib.hid hrn; have HI2 := Lib.hid hinv; have HN2 := Lib.hid hn240; have HONE := Lib.hid hone; have HB3 := Lib.hid hB3; have HDN := Lib.hid hdn
          clear hpf hnn hn240 hc2 hr2 hb2 hg2 hone hy2 hown3 hs3 happ hinv hrn HS HFIN HOWN HPATS hy3 hB3 HCALL hdn hnd hnd41
          go_wp2_with (first | (refine pat_store rfl _ _ rfl _ rfl (patL k1' s1 neg1 lo1 hi1 (.slice A1 n1 c1')) [.int .i64 0, .int .u32 0, .int .u32 0, .bool false, .int .i64 0, .int .i64 0, .slice none 0 0] rfl rfl HONE.out HY2.out rfl ?_; simp only [Act.put, List.setIfInBounds_toArray, List.set_cons_zero, List.set_cons_succ]) | (refine pat_load rfl _ rfl _ rfl (patL k1' s1 neg1 lo1 hi1 (.slice A1 n1 c1')) rfl HY3.out ?_; simp only [Act.put, List.setIfInBounds_toArray, List.set_cons_zero, List.set_cons_succ]) | (at_builtin; refine wpList_append_any _ rfl _ _ 25 rfl wk.heap.size 27 i0 (.agg #[.int .i64 0, .int .u32 0, .int .u32 0, .bool false, .int .i64 0, .int .i64 0, .slice none 0 0]) 7 64 Tryd.underlying25 hi0 hz0 hz1 hz3 rfl (by decide) _ _ _ rfl (HOWN3.out.alloc _) _ _ _ _ (patL k1' s1 neg1 lo1 hi1 (.slice A1 n1 c1')) rfl HRN.out HONE.out (by unfold maxLen; omega) (by omega) (by have := HB3.out; simp at this ⊢; omega) ?_; intro v' w4 hown' hgrow hx'; obtain ⟨A5, c5, rfl, -, -⟩ := ownsRow_form hown'; have hend := round_end HS3.out HOWN3.out HAPP.out hwk HB3.out hown' hgrow hx'; have HEND := Lib.hid hend.2; have e6 := hend.1.cell 6; have f6 := hend.1.frozen 6; clear hown' hgrow hx' hend; simp only [List.getElem?_toArray, List.getElem?_cons_zero, List.getElem?_cons_succ] at e6))
          go_roundw
          case rel => exact ⟨j + 1, nodes2, at2, b2, l ++ [p], _, _, by have := HJ.out; omega, by go_num, rfl, by rw [List.length_append, HLL.out]; rfl, ⟨HEND.out.2.2.2, HDN.out⟩, hn241, HN2.out, HEND.out.2.1, HEND.out.2.2.1, HEND.out.1, HI2.out⟩
          case measure => have := HJ.out; simp [Lib.intOf]; omega
      · obtain rfl : j = 1 := by omega
        obtain ⟨A4, c4, rfl, hlc, hcm⟩ := ownsRow_form HOWN.out
        obtain ⟨x0, x1, x2, x3, x4, x5, x6⟩ := HS.out.bo.seven
        obtain ⟨z0, z1, z2, z3, z4, z5, z6⟩ := HS.out.rs.seven
        obtain ⟨v0, v1, v2, v3, v4, v5, v6⟩ := HS.out.rs.free7
        have HF1 := Lib.hid (HFIN.out (.inl rfl)); have HXF := Lib.hid (HS.out.rs.st7 (.int .i64 5) (.int .u32 0) (.int .u32 0) (.bool false) (.int .i64 (lo : Int)) (.int .i64 ((hi : Int) - 1)) (.slice A4 1 c4))
        go_wp2
        exact bodyPost_ret (results_pat2 Tryd.results84 _ _ _ _ _ _ _ _ _ _ rfl HXF.out) rfl HF1.out
  · have t1 : (kI == 1) = false := by rw [beq_eq_false_iff_ne]; omega
    have t3 : (kI == 3) = false := by rw [beq_eq_false_iff_ne]; omega
    have t4 : (kI == 4) = false := by rw [beq_eq_false_iff_ne]; omega
    have t5 : (kI == 5) = false := by rw [beq_eq_false_iff_ne]; omega
    have hgot : Got (Pt.mk kI (0, 0) false 0 0 [], 39 - before) b1 (all.drop at1) o := by
      rw [← HO1]
      refine got_then G1.out id fun hb1 => ?_
      rw [if_neg k1, if_neg k34, if_neg k5, hkI]
      exact got_ret hb1
    have HS6 := Lib.hid hsst; have HG := Lib.hid hgot
    have hb40' : before + 1 ≤ 40 := by omega
    clear hsst hgot HO1 k1 k34 k5 hkI
    go_wp2
    go_loopw [6, 9] (fun nd i wr => nd = .int .i64 ((before : Int) + 1) ∧ i = .int .i64 0 ∧ SSt w wr g at1 all b1 w1.heap.size #[.int .i64 kI, .int .u32 0, .int .u32 0, .bool false, .int .i64 0, .int .i64 0, .slice none 0 0]) (fun _ _ _ => 0)
    case atStart => exact ⟨rfl, rfl, HS6.out⟩
    case round =>
      obtain ⟨rfl, rfl, hs⟩ := hrel
      obtain ⟨x0, x1, x2, x3, x4, x5, x6⟩ := hs.bo.seven
      obtain ⟨z0, z1, z2, z3, z4, z5, z6⟩ := hs.rs.seven
      obtain ⟨v0, v1, v2, v3, v4, v5, v6⟩ := hs.rs.free7
      obtain ⟨A, c, ⟨c0, c1, c2⟩, -, -, -, -⟩ := hs.rd.cells
      have hfin := hs.fin (s := (0, 0)) (nodes := before + 1) (o := o) (bad := false) (patF_leaf _ _ kI (0, 0) false 0 0 (by unfold ok32 is32; decide)) (Nat.le_succ before) (by omega) (fun _ => hb40') (fun h => by cases h) (fun _ => by rw [show 40 - (before + 1) = 39 - before by omega]; exact HG.out)
      rw [show ((before + 1 : Nat) : Int) = (before : Int) + 1 by simp] at hfin
      have HFIN := Lib.hid hfin; have HXF := Lib.hid (hs.rs.st7 (.int .i64 kI) (.int .u32 0) (.int .u32 0) (.bool false) (.int .i64 0) (.int .i64 0) (.slice none 0 0))
      clear hfin hs
      go_wp2
      exact bodyPost_ret (results_pat2 Tryd.results84 _ _ _ _ _ _ _ _ _ _ rfl HXF.out) rfl HFIN.out
theorem spat_any : ∀ f, SPat f
  | 0 => fun _ _ _ _ _ _ _ h _ => absurd h (Nat.not_lt_zero _)
  | f + 1 => fun w g at_ before all bad h40 hlt h => by
    by_cases hb : bad = true ∨ 40 ≤ before
    · refine (spat_bad w g at_ before all bad (by omega) h hb).mono fun e w' ⟨cs, at', h1, h2, h3, h4⟩ => ?_
      refine ⟨_, cs, before + 1, at', true, by rw [h1]; simp, h2, by omega, by omega, (fun h => by cases h), h3, h4, fun _ => rfl, fun hbad => ?_⟩
      have hb40 : before = 40 := by
        rcases hb with hb | hb
        · rw [hbad] at hb; cases hb
        · omega
      rw [hb40, Nat.sub_self, patR_zero]
      rfl
    · obtain rfl : bad = false := by
        cases bad with
        | false => rfl
        | true => exact absurd (.inl rfl) hb
      have hlt40 : before < 40 := Nat.lt_of_not_le fun h => hb (.inr h)
      rw [show 40 - before = (39 - before) + 1 by omega, patR_succ]
      exact spat_node f (spat_any f) w g at_ before all hlt40 (by omega) h
end Go.Proofs.YtipfhamhiaeieaaDoor
