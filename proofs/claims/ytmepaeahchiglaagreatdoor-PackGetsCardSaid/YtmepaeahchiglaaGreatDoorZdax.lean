/-
 layer 43: reading of projects that may end in a panic, caught. Conditions: bytes that can be read. (Printed by rdproj.py out of XPkLv.)
-/
import Derived.Test.YtmepaeahchiglaaGreatDoorZdPjGf
set_option maxRecDepth 20000
set_option maxHeartbeats 4000000
set_option linter.unusedSimpArgs false
namespace Go.Proofs.YtmepaeahchiglaaGreatDoor
open Go.RowKit Go.Lib
theorem pE : (Tryz.prog.info? 33).map (·.size) = some 8 := by kernel_rfl
theorem Oq : NA (Tryz.prog.underlying 33) = true := by kernel_rfl
theorem uO : ∃ fs, Tryz.prog.underlying 33 = some (.struct fs) := NA.get Oq
theorem dw.one {α : Type} {F : World → (Nat → Prop) → α → List Value → Prop} {k : Nat} {w : World} {S : Nat → Prop} {l : List α} {v : Value} (h : dw F k w S l v) : v.oneCell' = true := by
 obtain ⟨A, c, rfl⟩ := h.form
 rfl
theorem dF.all {w : World} {S : Nat → Prop} {p : Pj} {cs : List Value} (h : dF w S p cs) : cs.length = 8 ∧ ∀ u ∈ cs, u.oneCell' = true := by
 obtain ⟨v1, v2, v3, v4, v5, v6, v7, v8, rfl, h1, h2, h3, h4, h5, h6, h7, h8⟩ := h
 refine ⟨rfl, fun u hu => ?_⟩
 simp only [List.mem_cons, List.not_mem_nil, or_false] at hu
 rcases hu with rfl | rfl | rfl | rfl | rfl | rfl | rfl | rfl
 ·exact h1.one
 ·exact h2.one
 ·exact h3.one
 ·exact h4.one
 ·exact h5.one
 ·exact h6.one
 ·exact h7.one
 ·exact h8.one
theorem dF.aB {T : List Nat} {S S' : Nat → Prop} {w w' : World} {p : Pj} {cs : List Value} (h : dF w S p cs) (hc : av T w w') (ht : ∀ b, S b → b < w.heap.size ∧ b ∉ T) (hs : ∀ b, S b → S' b) : dF w' S' p cs :=
 dF.keep hs (fun q hq => by
  unfold World.cell?
  rw [hc.block q.block (ht _ hq).1 (ht _ hq).2]) h
theorem Mc {ops : Array Oper} {rest : List Oper} {o : Oper} {a : Act} {w : World} {Q : Exit → Act → World → Prop} (hgd : o.guard = none) (x : Operand) (ho : o.op = .load 33 x)
 (g : Nat) (hx : a.eval x = .pointer (some ⟨g, 0, none⟩)) (cs : List Value) (hlen : cs.length = 8) (hg : w.heap[g]? = some (.cells cs.toArray 33 (0, 0)))
 (h : wpList Tryz.prog ops Q rest (a.put o.dst (.agg cs.toArray)) w) : wpList Tryz.prog ops Q (o :: rest) a w := by
 obtain ⟨fs, hfs⟩ := uO
 exact wpList_load_row hgd _ x ho g hx _ _ _ _ hg hfs rfl (by rw [pE, List.size_toArray, hlen]) h
theorem Bh {ops : Array Oper} {rest : List Oper} {o : Oper} {a : Act} {w : World} {Q : Exit → Act → World → Prop} (hgd : o.guard = none) (x y : Operand) (ho : o.op = .store 33 x y)
 (g : Nat) (hx : a.eval x = .pointer (some ⟨g, 0, none⟩)) (cs old : List Value) (hy : a.eval y = .agg cs.toArray) (hlen : cs.length = 8) (h1 : ∀ u ∈ cs, u.oneCell' = true) (hg : Blk w g 33 old.toArray) (hold : old.length = 8)
 (h : wpList Tryz.prog ops Q rest (a.put o.dst undef) (w.setRow g cs.toArray)) : wpList Tryz.prog ops Q (o :: rest) a w :=
 wpList_store_row hgd _ x y ho g cs.toArray hx hy _ old.toArray hg (by rw [pE, List.size_toArray, hlen]) (by rw [List.size_toArray, List.size_toArray, hlen, hold]) (Array.all_eq_true_iff_forall_mem.2 (fun v hv => h1 v (by simpa using hv))) h
theorem I9 {w : World} {g : Nat} {cs : List Value} (hg : Blk w g 33 cs.toArray) (hlen : cs.length = 8) : (loadVar 33 ⟨g, 0, none⟩).run Tryz.prog w = .ok (.agg cs.toArray) w := by
 obtain ⟨fs, hfs⟩ := uO
 exact run_loadVar_row w g _ _ cs.toArray (0, 0) _ hg hfs rfl (by rw [pE, List.size_toArray, hlen])
abbrev mq : List Value := [.slice none 0 0, .slice none 0 0, .slice none 0 0, .slice none 0 0, .slice none 0 0, .slice none 0 0, .slice none 0 0, .slice none 0 0]
theorem Eu (a b c : Nat) (old : List Value) (y z : Value) (w : World) (ha : Blk w a 33 old.toArray) (hold : old.length = 8) (hb : Blk w b 3 #[y]) (hc : Blk w c 4 #[z]) :
 CallsD Tryz.prog 106 #[af a, af b, af c] (.panicking zI) w (Lp 33 a b c mq.toArray w) := by
 have QD : a ≠ b := ha.ne_ hb (by decide)
 have QC : a ≠ c := ha.ne_ hc (by decide)
 have QB : b ≠ c := hb.ne_ hc (by decide)
 have la := ha.lt
 have lb := hb.lt
 have lc := hc.lt
 have ha2 := (ha.alloc (.cells #[] 172)).alloc (.cells #[.slice none 0 0, .slice none 0 0, .slice none 0 0, .slice none 0 0, .slice none 0 0, .slice none 0 0, .slice none 0 0, .slice none 0 0] 33)
 have hb2 := (hb.alloc (.cells #[] 172)).alloc (.cells #[.slice none 0 0, .slice none 0 0, .slice none 0 0, .slice none 0 0, .slice none 0 0, .slice none 0 0, .slice none 0 0, .slice none 0 0] 33)
 have hc2 := (hc.alloc (.cells #[] 172)).alloc (.cells #[.slice none 0 0, .slice none 0 0, .slice none 0 0, .slice none 0 0, .slice none 0 0, .slice none 0 0, .slice none 0 0, .slice none 0 0] 33)
 have bQ := ((av.refl [a, b, c] w).alloc (.cells #[] 172)).alloc (.cells #[.slice none 0 0, .slice none 0 0, .slice none 0 0, .slice none 0 0, .slice none 0 0, .slice none 0 0, .slice none 0 0, .slice none 0 0] 33)
 have ht2 := Blk.new (w.alloc (.cells #[] 172)) 33 #[.slice none 0 0, .slice none 0 0, .slice none 0 0, .slice none 0 0, .slice none 0 0, .slice none 0 0, .slice none 0 0, .slice none 0 0]
 rw [World.size_alloc] at ht2
 obtain ⟨zl, hzl, BJ, JG⟩ : ∃ zl : List Value, mq = zl ∧ zl.length = 8 ∧ ∀ u ∈ zl, u.oneCell' = true := ⟨mq, rfl, rfl, by decide⟩
 have ht3 : Blk ((w.alloc (.cells #[] 172)).alloc (.cells #[.slice none 0 0, .slice none 0 0, .slice none 0 0, .slice none 0 0, .slice none 0 0, .slice none 0 0, .slice none 0 0, .slice none 0 0] 33)) (w.heap.size + 1) 33 zl.toArray := by
  rw [← hzl]; exact ht2
 rw [hzl]
 have HT := qh ht3; have HQV := qh hzl; have Cv := qh BJ; have TR := qh JG
 clear ht2 ht3 hzl BJ JG
 obtain ⟨W2, hW2⟩ : ∃ W, (w.alloc (.cells #[] 172)).alloc (.cells #[.slice none 0 0, .slice none 0 0, .slice none 0 0, .slice none 0 0, .slice none 0 0, .slice none 0 0, .slice none 0 0, .slice none 0 0] 33) = W := ⟨_, rfl⟩
 rw [hW2] at ha2 hb2 hc2 bQ
 have hs := av.setRow W2 a zl.toArray
 have k1 := ha2.setRow zl.toArray
 have k2 := hb2.aB hs (by simpa using Ne.symm QD)
 have k3 := hc2.aB hs (by simpa using Ne.symm QC)
 have gb := k2.cell 0
 have gc := k3.cell 0
 have fb := k2.frozen 0
 have fc := k3.frozen 0
 simp only [gq2] at gb gc
 have h1 := (k1.far (p := ⟨b, 0, none⟩) QD (.int .i64 0)).far (p := ⟨c, 0, none⟩) QC (.bool false)
 have h2 := (k2.set_ 0 (.int .i64 0)).far (p := ⟨c, 0, none⟩) QB (.bool false)
 have h3 := (k3.far (p := ⟨b, 0, none⟩) (Ne.symm QB) (.int .i64 0)).set_ 0 (.bool false)
 have h4 := ((bQ.trans (hs.mono (by simp))).setCell (p := ⟨b, 0, none⟩) (.inl (by simp)) (.int .i64 0)).setCell (p := ⟨c, 0, none⟩) (.inl (by simp)) (.bool false)
 have H1 := qh h1; have H2 := qh h2; have H3 := qh h3; have H4 := qh h4; have HA2 := qh ha2; have HW2 := qh hW2
 clear h1 h2 h3 h4 hs k1 k2 k3 ha hb hc ha2 hb2 hc2 bQ hW2
 refine callsD_of_wpS Tryz.func106 rfl fun c₀ cs hu => ?_
 apply wpS_seq
 apply wpS_region
 simp [wpOpsS, go_sem, recoverD, hu, Tryz.ntmps106, Exit.thenS]
 rw [frame19]
 refine wpS_of_wp (Code.wp_mono (Q := FM 33 a b c zl.toArray w) ?_ ?_)
 ·rintro ex act w' ⟨rfl, h1, h2⟩
  exact ⟨h1, _, rfl, _, results_none rfl _ _ _, rfl, ⟨_, rfl⟩, h2⟩
 ·have Fe := uw
  go_wp2_with (first | (refine Mc rfl _ rfl _ rfl _ Cv.out HT.out ?_; rw [HW2.out]; simp only [Act.put, gq1]) | (refine Bh rfl _ _ rfl _ rfl zl old rfl Cv.out TR.out HA2.out hold ?_; simp only [Act.put]))
  exact ⟨rfl, rfl, H1.out, by simpa using H2.out, by simpa using H3.out, H4.out⟩
theorem rP {fn : Func} {p q r : Tmp} (h : fn.results = #[.cell p 33, .cell q 3, .cell r 4]) (tmps : Array Value) (w : World) (a b c : Nat) (cs : List Value) (x : Int) (y : Bool)
 (hp : tmps.getD p undef = af a) (hq : tmps.getD q undef = af b) (hr : tmps.getD r undef = af c) (ha : Blk w a 33 cs.toArray) (hlen : cs.length = 8) (hb : Blk w b 3 #[.int .i64 x]) (hc : Blk w c 4 #[.bool y]) :
 (results fn tmps).run Tryz.prog w = .ok (.tuple #[.agg cs.toArray, .int .i64 x, .bool y]) w := by
 have e1 := I9 ha hlen
 have k2 := hb.cell 0
 have k3 := hc.cell 0
 simp only [gq2] at k2 k3
 have e2 : (loadVar 3 ⟨b, 0, none⟩).run Tryz.prog w = .ok (.int .i64 x) w := by simp [go_sem, k2]
 have e3 : (loadVar 4 ⟨c, 0, none⟩).run Tryz.prog w = .ok (.bool y) w := by simp [go_sem, k3]
 have hp' : tmps[p]?.getD undef = af a := by simpa using hp
 have hq' : tmps[q]?.getD undef = af b := by simpa using hq
 have hr' : tmps[r]?.getD undef = af c := by simpa using hr
 simp [results, h, hp', hq', hr', asAddr, e1, e2, e3]
theorem nD {K : Act → World → Prop} {R : Ending → World → Prop} (i : Nat) (hi : 7 ≤ i) (v : Value) (c : List PanicEntry) (a : Act) (w : World) (h : Exit.then K (bodyPostD Tryz.prog Tryz.f46 R) (.panic c) (a.put (some i) v) w) : Exit.then K (bodyPostD Tryz.prog Tryz.f46 R) (.panic c) a w := by
 refine lF (t := (a.put (some i) v).tmps) (fun W => ?_) a.defers (.panicking c) w h
 have h4 : (a.tmps.setIfInBounds i v)[4]? = a.tmps[4]? := Array.getElem?_setIfInBounds_ne (by omega)
 have h5 : (a.tmps.setIfInBounds i v)[5]? = a.tmps[5]? := Array.getElem?_setIfInBounds_ne (by omega)
 have h6 : (a.tmps.setIfInBounds i v)[6]? = a.tmps[6]? := Array.getElem?_setIfInBounds_ne (by omega)
 simp [results, Tryz.results46, Act.put, h4, h5, h6]
theorem zW {ops : Array Oper} {S : World → Prop} {op : Oper} {a : Act} (hw : Region.wanted op (yielded ops a.tmps) = true) (x : Operand) (ho : op.op = .load 33 x)
 (g : Nat) (hx : a.eval x = .pointer (some ⟨g, 0, none⟩)) (cs : List Value) (hlen : cs.length = 8) (hS : ∀ W, S W → Blk W g 33 cs.toArray) : YieldsIf Tryz.prog ops S op (.agg cs.toArray) a :=
 .inl ⟨hw, fun W hW => by
  unfold execOp
  simp only [ho, hx, Instr.loadAt, Instr.sureAddr, Sem.run_bind, Sem.run_pure, Result.andThen_ok, I9 (hS W hW) hlen]⟩
theorem wR {ops : Array Oper} {o : Oper} {a : Act} {w : World} {K : Act → World → Prop} {Q : Exit → Act → World → Prop} {E : Prop} (hgd : o.guard = none) (x y : Operand) (ho : o.op = .store 33 x y)
 (g : Nat) (hx : a.eval x = .pointer (some ⟨g, 0, none⟩)) (cs old : List Value) (hy : a.eval y = .agg cs.toArray) (hlen : cs.length = 8) (h1 : ∀ u ∈ cs, u.oneCell' = true) (hg : Blk w g 33 old.toArray) (hold : old.length = 8)
 (h : K (a.put o.dst undef) (w.setRow g cs.toArray)) : if Region.wanted o (yielded ops a.tmps) = true then Oper.wp Tryz.prog o a w K Q else E := by
 have hw : Region.wanted o (yielded ops a.tmps) = true := by simp [Region.wanted, hgd]
 rw [if_pos hw]
 exact wp_store_row _ x y ho g cs.toArray hx hy _ old.toArray hg (by rw [pE, List.size_toArray, hlen]) (by rw [List.size_toArray, List.size_toArray, hlen, hold]) (Array.all_eq_true_iff_forall_mem.2 (fun v hv => h1 v (by simpa using hv))) h
theorem Ch (a b c : Nat) (w : World) :
 CallsD Tryz.prog 106 #[af a, af b, af c] .returning w fun e u' w' => e = .returned (.tuple #[]) ∧ u' = .returning ∧ w = w' := by
 refine callsD_of_wpS Tryz.func106 rfl fun c₀ cs hu => ?_
 apply wpS_seq
 apply wpS_region
 simp [wpOpsS, go_sem, recoverD, hu, Tryz.ntmps106, Exit.thenS]
 rw [frame19]
 refine wpS_of_wp (Code.wp_mono (Q := fun ex act w' => ex = .normal ∧ act.defers = [] ∧ w = w') ?_ ?_)
 ·rintro ex act w' ⟨rfl, h1, rfl⟩
  cases c₀
  simp only at hu
  subst hu
  exact ⟨h1, _, rfl, _, results_none rfl _ _ _, rfl, rfl, rfl⟩
 ·go_wp2
def Hm (w : World) (o : Option (Pj × List Nat)) (e : Ending) (w' : World) : Prop :=
 Below w.heap.size w w' ∧ match o with
  | some (l, r) => ∃ cs, e = .returned (.tuple #[.agg cs.toArray, .int .i64 r.length, .bool true]) ∧ dF w' (fun b => w.heap.size ≤ b ∧ b < w'.heap.size) l cs
  | none => e = .returned (.tuple #[.agg mq.toArray, .int .i64 0, .bool false])
theorem Gv (w : World) (A : Option Addr) (n c B : Nat) (bs : List Nat) (hr : Reads w B 1 A n (bs.map bv)) (hB : B ≤ w.heap.size) (hn : n ≤ c) (hc : c ≤ maxLen) (hs : n ≤ 1073741824) (hb : ∀ b ∈ bs, b < 256) :
 Calls Tryz.prog 46 #[.slice A n c, .func (.func 47) #[] #[]] w (Hm w (iN bs)) := by
 have Ms : ∀ (fn : Fn) (first cap : Array Value) (w : World), (Instr.makeFunc fn first cap).run Tryz.prog w = .ok (.func fn first cap) w := fun _ _ _ _ => rfl
 have hbl : bs.length = n := by have := hr.1; simpa using this
 obtain ⟨zl, hzl, BJ, JG⟩ : ∃ zl : List Value, mq = zl ∧ zl.length = 8 ∧ ∀ u ∈ zl, u.oneCell' = true := ⟨mq, rfl, rfl, by decide⟩
 obtain ⟨w0, hw0⟩ : ∃ w0, (((w.alloc (.cells #[.slice none 0 0, .slice none 0 0, .slice none 0 0, .slice none 0 0, .slice none 0 0, .slice none 0 0, .slice none 0 0, .slice none 0 0] 33)).alloc (.cells #[.int .i64 0] 3)).alloc (.cells #[.bool false] 4)).alloc (.cells #[.slice A n c] 175) = w0 := ⟨_, rfl⟩
 have hsz : w0.heap.size = w.heap.size + 4 := by rw [← hw0]; simp
 have hB0 : Below w.heap.size w w0 := by
  rw [← hw0]
  exact ((((Below.refl _ w).alloc (Nat.le_refl _) _).alloc (by simp) _).alloc (by simp; omega) _).alloc (by simp; omega) _
 have ha : Blk w0 w.heap.size 33 zl.toArray := by
  rw [← hw0, ← hzl]
  exact (((Blk.new w _ _).alloc _).alloc _).alloc _
 have hb1 : Blk w0 (w.heap.size + 1) 3 #[.int .i64 0] := by
  rw [← hw0]
  exact ((by simpa using Blk.new (w.alloc (.cells #[.slice none 0 0, .slice none 0 0, .slice none 0 0, .slice none 0 0, .slice none 0 0, .slice none 0 0, .slice none 0 0, .slice none 0 0] 33)) 3 #[.int .i64 0] : Blk _ (w.heap.size + 1) _ _).alloc _).alloc _
 have hc1 : Blk w0 (w.heap.size + 2) 4 #[.bool false] := by
  rw [← hw0]
  exact (by simpa using Blk.new ((w.alloc (.cells #[.slice none 0 0, .slice none 0 0, .slice none 0 0, .slice none 0 0, .slice none 0 0, .slice none 0 0, .slice none 0 0, .slice none 0 0] 33)).alloc (.cells #[.int .i64 0] 3)) 4 #[.bool false] : Blk _ (w.heap.size + 2) _ _).alloc _
 have hd1 : Blk w0 (w.heap.size + 3) 175 #[.slice A n c] := by
  rw [← hw0]
  simpa using Blk.new (((w.alloc (.cells #[.slice none 0 0, .slice none 0 0, .slice none 0 0, .slice none 0 0, .slice none 0 0, .slice none 0 0, .slice none 0 0, .slice none 0 0] 33)).alloc (.cells #[.int .i64 0] 3)).alloc (.cells #[.bool false] 4)) 175 #[.slice A n c]
 have hrd : Rd w0 (w.heap.size + 3) bs := by
  refine ⟨A, c, by rw [hbl]; exact hd1, ?_, by omega, hc, by omega, hb⟩
  rw [hbl]
  exact (hr.below (hB0.mono hB)).more (by omega)
 have hg := Dm w0 (w.heap.size + 3) bs hrd
 have HW0 := qh hw0; have HA := qh ha; have HB1 := qh hb1; have ow := qh hc1; have HB0 := qh hB0; have HQV := qh hzl; have Cv := qh BJ
 clear hr hrd ha hb1 hc1 hd1 hb hB0 hzl BJ
 cases hw : iN bs with
 | none =>
   rw [hw] at hg
   have HG := qh hg
   clear hw0 hg
   go_enter_defers Tryz.func46, Tryz.ntmps46
   go_wp2_with fail
   rw [HW0.out]
   refine HG.out.mono ?_
   rintro e w1 ⟨h1, rfl⟩
   have hni : ∀ i, i < 3 → w.heap.size + i ∉ [w.heap.size + 3] := fun i hi hm => by simp at hm; omega
   refine leaves_cons (f := 106) (args := #[af w.heap.size, af (w.heap.size + 1), af (w.heap.size + 2)]) (by simp) (by simp [go_sem]) ?_
   refine (Eu w.heap.size (w.heap.size + 1) (w.heap.size + 2) _ _ _ w1 (HA.out.aB h1 (hni 0 (by omega))) Cv.out (HB1.out.aB h1 (hni 1 (by omega))) (ow.out.aB h1 (hni 2 (by omega)))).mono ?_
   rintro e u' w2 ⟨rfl, ⟨pv, rfl⟩, k1, k2, k3, k4⟩
   have dV : Below w.heap.size w w2 := by
    refine (HB0.out.trans (h1.below (by simp) (by omega))).trans (k4.below (by simp) ?_)
    have := h1.size; omega
   exact ⟨_, rP Tryz.results46 _ _ _ _ _ _ _ _ rfl rfl rfl k1 rfl k2 k3, dV, rfl⟩
 | some q =>
   obtain ⟨l, r⟩ := q
   rw [hw] at hg
   have HG := qh hg
   clear hw0 hg
   go_enter_defers Tryz.func46, Tryz.ntmps46
   go_wp2_with fail
   rw [HW0.out]
   refine HG.out.mono ?_
   rintro e w1 ⟨h1, cs, rfl, h2, h3⟩
   obtain ⟨hlen, gQ⟩ := h2.all
   have hni : ∀ i, i < 3 → w.heap.size + i ∉ [w.heap.size + 3] := fun i hi hm => by simp at hm; omega
   have hs1 := h1.size
   have ka := HA.out.aB h1 (hni 0 (by omega))
   have JM := av.setRow w1 w.heap.size cs.toArray
   have xa := ka.setRow cs.toArray
   have xb : Blk (w1.setRow w.heap.size cs.toArray) (w.heap.size + 1) 3 #[.int .i64 0] := (HB1.out.aB h1 (hni 1 (by omega))).aB JM (by simp)
   have xc : Blk (w1.setRow w.heap.size cs.toArray) (w.heap.size + 1 + 1) 4 #[.bool false] := (ow.out.aB h1 (hni 2 (by omega))).aB JM (by simp)
   obtain ⟨A3, c3, k1, k2, k3⟩ := h3
   have xd : Blk (w1.setRow w.heap.size cs.toArray) (w.heap.size + 1 + 1 + 1) 175 #[.slice A3 r.length c3] := k1.aB JM (by simp)
   have xl := h2.aB (S' := fun b => w.heap.size + 4 ≤ b ∧ b < (w1.setRow w.heap.size cs.toArray).heap.size) JM (fun b hb => ⟨hb.2, by have := hb.1; simp; omega⟩) (fun b hb => ⟨by have := hb.1; omega, by simpa using hb.2⟩)
   have xz : Below w.heap.size w (w1.setRow w.heap.size cs.toArray) := (HB0.out.trans (h1.below (by simp) (by omega))).trans (JM.below (by simp) (by omega))
   have U4 := qh ka; have gu := qh hlen; have jR := qh gQ
   obtain ⟨w2, hw2⟩ : ∃ W, w1.setRow w.heap.size cs.toArray = W := ⟨_, rfl⟩
   rw [hw2] at xa xb xc xd xl xz
   have HW2 := qh hw2; have XA := qh xa; have XB := qh xb; have XC := qh xc; have XD := qh xd; have XL := qh xl; have XZ := qh xz
   clear ka h1 h2 k1 k2 k3 JM xa xb xc xd xl xz hni hlen gQ hw2 hw Ms
   go_wp2_with (refine Bh rfl _ _ rfl _ rfl cs zl rfl gu.out jR.out U4.out Cv.out ?_; simp only [Act.put])
   rw [HW2.out]
   clear HW2
   have XE : Hid (Blk w2.drew w.heap.size 33 cs.toArray ∧ Blk w2.drew (w.heap.size + 1) 3 #[.int .i64 0] ∧ Blk w2.drew (w.heap.size + 1 + 1) 4 #[.bool false] ∧ Blk w2.drew (w.heap.size + 1 + 1 + 1) 175 #[.slice A3 r.length c3] ∧ dF w2.drew (fun b => w.heap.size + 4 ≤ b ∧ b < w2.drew.heap.size) l cs ∧ Below w.heap.size w w2.drew) := qh ⟨XA.out, XB.out, XC.out, XD.out, dF.keep (w := w2) (w' := w2.drew) (S := fun b => w.heap.size + 4 ≤ b ∧ b < w2.heap.size) (S' := fun b => w.heap.size + 4 ≤ b ∧ b < w2.drew.heap.size) (fun _ h => h) (fun _ _ => rfl) XL.out, XZ.out.drew⟩
   clear XA XB XC XD XL XZ
   obtain ⟨fs, hfs⟩ := uO
   have Rw : (Tryz.prog.info? 33).map (·.size) = some cs.length := by rw [pE, gu.out]
   have HFS := qh hfs; have HINF := qh Rw
   clear hfs Rw
   refine wp_region_held_drew (S := (fun W => Blk W w.heap.size 33 cs.toArray ∧ W.cell? ⟨w.heap.size + 1 + 1 + 1, 0, none⟩ = some (.slice A3 r.length c3))) (by kernel_rfl) ?_ (fun ah => ?_)
   ·(try dsimp only)
    (first | exact ⟨XE.out.1, by simpa using XE.out.2.2.2.1.cell 0⟩ | exact ⟨XA.out, g4⟩ | exact ⟨XA.out.far (p := ⟨w.heap.size + 1, 0, none⟩) (by simp) _, by (rw [World.cell?_setCell_other _ _ _ _ (by simp)]; exact g4)⟩ | exact ⟨(XA.out.far (p := ⟨w.heap.size + 1, 0, none⟩) (by simp) _).far (p := ⟨w.heap.size + 1 + 1, 0, none⟩) (by simp; omega) _, by (rw [World.cell?_setCell_other _ _ _ _ (by simp), World.cell?_setCell_other _ _ _ _ (by simp)]; exact g4)⟩)
   obtain ⟨w3, hw3⟩ : ∃ W, w2.drew = W := ⟨_, rfl⟩
   rw [hw3] at XE ah ⊢
   obtain ⟨xa, xb, xc, xd, xl, xz⟩ := XE.out
   have XA := qh xa; have XB := qh xb; have XC := qh xc; have XD := qh xd; have XL := qh xl; have XZ := qh xz
   clear XE hw3 xa xb xc xd xl xz
   have g4 := XD.out.cell 0
   have g2 := XB.out.cell 0
   have g3 := XC.out.cell 0
   have f2 := XB.out.frozen 0
   have f3 := XC.out.frozen 0
   simp only [gq2] at g2 g3 g4
   have g3' : (w3.setCell ⟨w.heap.size + 1, 0, none⟩ (.int .i64 r.length)).cell? ⟨w.heap.size + 1 + 1, 0, none⟩ = some (.bool false) := by
    rw [World.cell?_setCell_other _ _ _ _ (by simp)]; exact g3
   refine wpAnyH_take (i := 0) (v := .agg cs.toArray) rfl (by kernel_rfl) (by kernel_rfl) (by kernel_rfl) (nD 15 (by decide) _) (zW rfl _ rfl w.heap.size rfl cs gu.out (fun W hW => hW.1)) (by assumption) ?_
   try simp only [Act.put, gq3, gq1]
   refine wpAnyH_take (i := 1) (v := ?_) rfl (by kernel_rfl) (by kernel_rfl) (by kernel_rfl) (nD 16 (by decide) _) (Or.inl ⟨by rfl, ?_⟩) (by assumption) ?_
   rotate_left
   ·intro w hSw
    (try dsimp only at hSw)
    go_simp <;> with_reducible rfl
   try simp only [Act.put, gq3, gq1]
   refine wpAnyH_take (i := 2) (v := ?_) rfl (by kernel_rfl) (by kernel_rfl) (by kernel_rfl) (nD 17 (by decide) _) (Or.inl ⟨by rfl, ?_⟩) (by assumption) ?_
   rotate_left
   ·intro w hSw
    (try dsimp only at hSw)
    go_simp <;> with_reducible rfl
   try simp only [Act.put, gq3, gq1]
   refine wpAnyH_take (i := 3) (v := ?_) rfl (by kernel_rfl) (by kernel_rfl) (by kernel_rfl) (nD 18 (by decide) _) (Or.inl ⟨by rfl, ?_⟩) (by assumption) ?_
   rotate_left
   ·intro w hSw
    (try dsimp only at hSw)
    go_simp <;> with_reducible rfl
   try simp only [Act.put, gq3, gq1]
   refine wpAnyH_take (i := 4) (v := ?_) rfl (by kernel_rfl) (by kernel_rfl) (by kernel_rfl) (nD 19 (by decide) _) (Or.inl ⟨by rfl, ?_⟩) (by assumption) ?_
   rotate_left
   ·intro w hSw
    (try dsimp only at hSw)
    go_simp <;> with_reducible rfl
   try simp only [Act.put, gq3, gq1]
   refine wpAnyH_take (i := 5) (v := ?_) rfl (by kernel_rfl) (by kernel_rfl) (by kernel_rfl) (nD 20 (by decide) _) (Or.inl ⟨by rfl, ?_⟩) (by assumption) ?_
   rotate_left
   ·intro w hSw
    (try dsimp only at hSw)
    go_simp <;> with_reducible rfl
   try simp only [Act.put, gq3, gq1]
   refine rdH 6 fun K hK => ?_
   refine wR rfl _ _ rfl _ rfl cs cs rfl gu.out jR.out XA.out gu.out ?_
   rw [setRow_self _ _ _ _ _ XA.out]
   refine hK.out _ _ ?_ (fun aJ => ?_)
   ·(try dsimp only)
    (first | exact ⟨XE.out.1, by simpa using XE.out.2.2.2.1.cell 0⟩ | exact ⟨XA.out, g4⟩ | exact ⟨XA.out.far (p := ⟨w.heap.size + 1, 0, none⟩) (by simp) _, by (rw [World.cell?_setCell_other _ _ _ _ (by simp)]; exact g4)⟩ | exact ⟨(XA.out.far (p := ⟨w.heap.size + 1, 0, none⟩) (by simp) _).far (p := ⟨w.heap.size + 1 + 1, 0, none⟩) (by simp; omega) _, by (rw [World.cell?_setCell_other _ _ _ _ (by simp), World.cell?_setCell_other _ _ _ _ (by simp)]; exact g4)⟩)
   clear hK K ah; rename _ => ah
   refine rdH 7 fun K hK => ?_
   go_simp
   refine hK.out _ _ ?_ (fun aJ => ?_)
   ·(try dsimp only)
    (first | exact ⟨XE.out.1, by simpa using XE.out.2.2.2.1.cell 0⟩ | exact ⟨XA.out, g4⟩ | exact ⟨XA.out.far (p := ⟨w.heap.size + 1, 0, none⟩) (by simp) _, by (rw [World.cell?_setCell_other _ _ _ _ (by simp)]; exact g4)⟩ | exact ⟨(XA.out.far (p := ⟨w.heap.size + 1, 0, none⟩) (by simp) _).far (p := ⟨w.heap.size + 1 + 1, 0, none⟩) (by simp; omega) _, by (rw [World.cell?_setCell_other _ _ _ _ (by simp), World.cell?_setCell_other _ _ _ _ (by simp)]; exact g4)⟩)
   clear hK K ah; rename _ => ah
   refine rdH 8 fun K hK => ?_
   go_simp
   refine hK.out _ _ ?_ (fun aJ => ?_)
   ·(try dsimp only)
    (first | exact ⟨XE.out.1, by simpa using XE.out.2.2.2.1.cell 0⟩ | exact ⟨XA.out, g4⟩ | exact ⟨XA.out.far (p := ⟨w.heap.size + 1, 0, none⟩) (by simp) _, by (rw [World.cell?_setCell_other _ _ _ _ (by simp)]; exact g4)⟩ | exact ⟨(XA.out.far (p := ⟨w.heap.size + 1, 0, none⟩) (by simp) _).far (p := ⟨w.heap.size + 1 + 1, 0, none⟩) (by simp; omega) _, by (rw [World.cell?_setCell_other _ _ _ _ (by simp), World.cell?_setCell_other _ _ _ _ (by simp)]; exact g4)⟩)
   clear hK K ah; rename _ => ah
   refine wpAnyH_done (by kernel_rfl) ?_ _
   have m1 : (⟨w.heap.size + 1, 0, none⟩ : Addr).block ∈ [w.heap.size + 1, w.heap.size + 1 + 1] ∨ w3.heap.size ≤ (⟨w.heap.size + 1, 0, none⟩ : Addr).block := .inl (by simp)
   have m2 : (⟨w.heap.size + 1 + 1, 0, none⟩ : Addr).block ∈ [w.heap.size + 1, w.heap.size + 1 + 1] ∨ w3.heap.size ≤ (⟨w.heap.size + 1 + 1, 0, none⟩ : Addr).block := .inl (by simp)
   have bQ := ((av.refl [w.heap.size + 1, w.heap.size + 1 + 1] w3).setCell m1 (.int .i64 r.length)).setCell m2 (.bool true)
   have j1 := XA.out.aB bQ (by simp; omega)
   have j2 := (XB.out.set_ 0 (.int .i64 r.length)).far (p := ⟨w.heap.size + 1 + 1, 0, none⟩) (by simp) (.bool true)
   have j3 := (XC.out.far (p := ⟨w.heap.size + 1, 0, none⟩) (by simp) (.int .i64 r.length)).set_ 0 (.bool true)
   simp only [List.setIfInBounds_toArray, List.set_cons_zero] at j2 j3
   have jl := XL.out.aB (S' := fun b => w.heap.size ≤ b ∧ b < ((w3.setCell ⟨w.heap.size + 1, 0, none⟩ (.int .i64 r.length)).setCell ⟨w.heap.size + 1 + 1, 0, none⟩ (.bool true)).heap.size) bQ (fun b hb => ⟨hb.2, by have := hb.1; simp; omega⟩) (fun b hb => ⟨by have := hb.1; omega, Nat.lt_of_lt_of_le hb.2 bQ.size⟩)
   have jz := XZ.out.trans (bQ.below (by intro i hi; simp at hi; omega) XZ.out.size)
   have J1 := qh j1; have J2 := qh j2; have J3 := qh j3; have JL := qh jl; have JZ := qh jz
   clear m1 m2 bQ j1 j2 j3 jl jz ah g2 g3 g3' g4 f2 f3
   go_wp2
   refine leaves_cons (f := 106) (args := #[af w.heap.size, af (w.heap.size + 1), af (w.heap.size + 2)]) (by simp) (by simp [go_sem]) ?_
   refine (Ch w.heap.size (w.heap.size + 1) (w.heap.size + 2) _).mono ?_
   rintro e u' w4 ⟨rfl, rfl, rfl⟩
   exact ⟨_, rP Tryz.results46 _ _ _ _ _ _ _ _ rfl rfl rfl J1.out gu.out J2.out J3.out, JZ.out, cs, rfl, JL.out⟩
end Go.Proofs.YtmepaeahchiglaaGreatDoor
namespace Go.Proofs.YtmepaeahchiglaaGreatDoor
open Go.RowKit Go.Maps Go.WideMaps
def kg (w : World) (b n : Nat) (f : ByteArray → Bool) : Prop :=
 ∃ D : DataW Unit, w.ownsMap Tryz.prog 9 (plainElem Tryz.prog 4) b n D ∧ IsMap D ∧
  ∀ s : ByteArray, D.atKey (.string s.data.toList) (.lit (.bool false)) = .lit (.bool (f s))
theorem kg.made (w : World) : kg (w.alloc (.map #[] 0)) w.heap.size 0 (fun _ => false) :=
 ⟨.map [], World.ownsMap_made w _ _ _, isMap_empty, fun _ => rfl⟩
theorem kg.kept {w w' : World} {b n : Nat} {f : ByteArray → Bool} {row : Option Nat} (h : kg w b n f) (hg : w.grownBy w' row) (hne : some b ≠ row) : kg w' b n f := by
 obtain ⟨D, h1, h2⟩ := h; exact ⟨D, h1.kept hg hne, h2⟩
theorem kg.below {w w' : World} {b n : Nat} {f : ByteArray → Bool} (h : kg w b n f) (hb : Below w.heap.size w w') : kg w' b n f :=
 h.kept (row := none) ⟨hb.os, hb.tape, hb.output, hb.size, fun i hi _ => hb.block i hi⟩ (by simp)
theorem FN (w : World) : (zeroValue 4).run Tryz.prog w = .ok (.bool false) w := by kernel_rfl
theorem oH {H : Type} {P : Program} {e : TypeId} (he : P.underlying e = some .bool) {v : Value} {z : DataW H × List MemPlace} (h : plainElem P e v = some z) : ∃ x, v = .bool x ∧ z = (.lit (.bool x), []) := by
 unfold plainElem at h
 rw [he] at h
 cases v with
 | bool x => exact ⟨x, rfl, (Option.some.inj h).symm⟩
 | _ => cases h
theorem kg.look {w : World} {b n : Nat} {f : ByteArray → Bool} (h : kg w b n f) (s : ByteArray) (hs : s.size ≤ maxLen) :
 (Instr.lookup 271 (.map (some b)) (.string s) false).run Tryz.prog w = .ok (.bool (f s)) w := by
 obtain ⟨D, h1, h2, h3⟩ := h
 obtain ⟨v, ps, hrun, hv⟩ := h1.lookup vD Tryz.underlying271 (FN w) (plainElem_bool (H := Unit) Tryz.underlying4 false) (gm hs)
 obtain ⟨c, rfl, hc⟩ := oH Tryz.underlying4 hv
 simp only [Prod.mk.injEq] at hc
 rw [h3 s] at hc
 have : c = f s := (Lit.bool.inj (DataW.lit.inj hc.1)).symm
 rw [hrun, this]
theorem kv (l : List UInt8) : WideAt.IsKeyLit (.string l) := by first | trivial | rfl | (unfold WideAt.IsKeyLit; trivial)
theorem wQ {t s : ByteArray} (e : t ≠ s) : (Lit.string t.data.toList) ≠ .string s.data.toList := fun h => e (by
 injection h with h
 obtain ⟨⟨l⟩⟩ := t; obtain ⟨⟨l'⟩⟩ := s
 simp only at h; rw [h])
theorem yQ {w : World} {ops : Array Oper} {rest : List Oper} {o : Oper} {a : Act} {Q : Exit → Act → World → Prop}
 (hg : o.guard = none) (m x v : Operand) (hop : o.op = Op.mapUpdate 271 m x v) (b n : Nat) (f : ByteArray → Bool) (hm : a.eval m = .map (some b)) (h : kg w b n f) (hn : n < maxLen)
 (s : ByteArray) (hs : s.size ≤ maxLen) (hx : a.eval x = .string s) (hv : a.eval v = .bool true)
 (hK : ∀ w', kg w' b (n + 1) (fun t => if t = s then true else f t) → w.grownBy w' (some b) → wpList Tryz.prog ops Q rest (a.put o.dst undef) w') :
 wpList Tryz.prog ops Q (o :: rest) a w := by
 obtain ⟨D, h1, h2, h3⟩ := h
 refine wpList_mapUpdate_own w hg m x v 271 hop 9 4 vD Tryz.underlying271 _ b n D hm h1 hn (.string s) (.bool true) (.string s.data.toList) hx hv (gm hs) (.lit (.bool true)) [] (plainElem_bool Tryz.underlying4 true) ?_
 intro w1 hown ag
 refine hK w1 ⟨_, hown, h2.put _ _, fun t => ?_⟩ ag
 by_cases e : t = s
 ·subst e
  rw [atKey_put_same h2 (kv _)]
  simp
 ·rw [atKey_put_other (wQ e), h3 t]
  simp only [if_neg e]
def iY (w : World) (b : Nat) (ns : List (List UInt8)) : Prop :=
 ∃ D : DataW Unit, w.ownsMap Tryz.prog 9 (plainElem Tryz.prog 3) b ns.length D ∧ IsMap D ∧ (∀ l : List UInt8, has D (.string l) = decide (l ∈ ns)) ∧
  (∀ l : List UInt8, ∃ c : Int, 0 ≤ c ∧ c ≤ ns.length ∧ D.atKey (.string l) (.lit (.int .i64 0)) = .lit (.int .i64 c)) ∧ (Maps.size D = ns.length ∧ ns.Nodup ∨ Maps.size D < ns.length ∧ ¬ ns.Nodup)
theorem iY.made (w : World) : iY (w.alloc (.map #[] 0)) w.heap.size [] :=
 ⟨.map [], World.ownsMap_made w _ _ _, isMap_empty, fun _ => rfl, fun _ => ⟨0, Int.le_refl _, Int.le_refl _, rfl⟩, .inl ⟨rfl, List.nodup_nil⟩⟩
theorem iY.kept {w w' : World} {b : Nat} {ns : List (List UInt8)} {row : Option Nat} (h : iY w b ns) (hg : w.grownBy w' row) (hne : some b ≠ row) : iY w' b ns := by
 obtain ⟨D, h1, h2⟩ := h; exact ⟨D, h1.kept hg hne, h2⟩
theorem iY.below {w w' : World} {b : Nat} {ns : List (List UInt8)} (h : iY w b ns) (hb : Below w.heap.size w w') : iY w' b ns :=
 h.kept (row := none) ⟨hb.os, hb.tape, hb.output, hb.size, fun i hi _ => hb.block i hi⟩ (by simp)
theorem iY.look {w : World} {b : Nat} {ns : List (List UInt8)} (h : iY w b ns) (s : ByteArray) (hs : s.size ≤ maxLen) :
 ∃ c : Int, 0 ≤ c ∧ c ≤ ns.length ∧ (Instr.lookup 240 (.map (some b)) (.string s) false).run Tryz.prog w = .ok (.int .i64 c) w := by
 obtain ⟨D, h1, h2, -, h4, -⟩ := h
 obtain ⟨c, hrun, hat, -⟩ := h1.lookup_int vD Tryz.underlying240 Tryz.underlying3 (mi w) (gm hs)
 obtain ⟨c', hc1, hc2, hc3⟩ := h4 s.data.toList
 rw [hc3] at hat
 have : c' = c := (Lit.int.inj (DataW.lit.inj hat)).2
 subst this
 exact ⟨c', hc1, hc2, hrun⟩
theorem iY.len {w : World} {b : Nat} {ns : List (List UInt8)} (h : iY w b ns) (ty : TypeId) : ∃ n : Nat, (Builtin.len_ #[240] ty #[.map (some b)]).run Tryz.prog w = .ok (.int .i64 n) w ∧ (n = ns.length ∧ ns.Nodup ∨ n < ns.length ∧ ¬ ns.Nodup) := by
 obtain ⟨D, h1, -, -, -, h5⟩ := h
 exact ⟨_, h1.len Tryz.underlying240 ty, h5⟩
theorem yR {w : World} {ops : Array Oper} {rest : List Oper} {o : Oper} {a : Act} {Q : Exit → Act → World → Prop}
 (hg : o.guard = none) (m x v : Operand) (hop : o.op = Op.mapUpdate 240 m x v) (b : Nat) (ns : List (List UInt8)) (hm : a.eval m = .map (some b)) (h : iY w b ns) (hn : ns.length < 1000000)
 (s : ByteArray) (hs : s.size ≤ maxLen) (i : Int) (hi0 : 0 ≤ i) (hi1 : i ≤ ns.length + 1) (hx : a.eval x = .string s) (hv : a.eval v = .int .i64 i)
 (hK : ∀ w', iY w' b (ns ++ [s.data.toList]) → w.grownBy w' (some b) → wpList Tryz.prog ops Q rest (a.put o.dst undef) w') :
 wpList Tryz.prog ops Q (o :: rest) a w := by
 obtain ⟨D, h1, h2, h3, h4, h5⟩ := h
 have hwf : (Lit.int .i64 i).wf = true := WalkArith.wf_i64 (by omega)
 refine wpList_mapUpdate_own w hg m x v 240 hop 9 3 vD Tryz.underlying240 _ b ns.length D hm h1 (by unfold maxLen; omega) (.string s) (.int .i64 i) (.string s.data.toList) hx hv (gm hs) (.lit (.int .i64 i)) [] (plainElem_int Tryz.underlying3 hwf) ?_
 intro w1 hown ag
 have hsz := size_put (D := D) (k := .string s.data.toList) (h1.tidy vD) (.lit (.int .i64 i))
 rw [h3 s.data.toList] at hsz
 refine hK w1 ⟨_, by rw [List.length_append]; exact hown, h2.put _ _, fun t => ?_, fun t => ?_, ?_⟩ ag
 ·by_cases e : t = s.data.toList
  ·subst e
   rw [has_put_same h2 (kv _), eq_comm, decide_eq_true_iff]
   exact List.mem_append_right _ (List.mem_singleton.2 rfl)
  ·rw [has_put_other (fun h => e (Lit.string.inj h)), h3 t]
   exact decide_eq_decide.2 ⟨fun h => List.mem_append_left _ h, fun h => (List.mem_append.1 h).elim id fun h => absurd (List.mem_singleton.1 h) e⟩
 ·by_cases e : t = s.data.toList
  ·subst e
   rw [atKey_put_same h2 (kv _)]
   exact ⟨i, hi0, by rw [List.length_append]; simp only [List.length_cons, List.length_nil]; omega, rfl⟩
  ·rw [atKey_put_other (fun h => e (Lit.string.inj h))]
   obtain ⟨c, h6, h7, h8⟩ := h4 t
   exact ⟨c, h6, by rw [List.length_append]; simp only [List.length_cons, List.length_nil]; omega, h8⟩
 ·rw [hsz, List.length_append, List.length_singleton]
  by_cases hm : s.data.toList ∈ ns
  ·rw [decide_eq_true hm, if_pos rfl]
   refine .inr ⟨by rcases h5 with h | h <;> omega, fun eQ => ?_⟩
   rw [List.nodup_append] at eQ
   exact eQ.2.2 _ hm _ (List.mem_singleton.2 rfl) rfl
  ·rw [decide_eq_false hm, if_neg (by decide)]
   rcases h5 with ⟨h6, h7⟩ | ⟨h6, h7⟩
   ·refine .inl ⟨by omega, ?_⟩
    rw [List.nodup_append]
    refine ⟨h7, by simp, fun a ha b hb => ?_⟩
    rw [List.mem_singleton] at hb
    subst hb
    exact fun e => hm (e ▸ ha)
   ·exact .inr ⟨by omega, fun eQ => h7 (List.nodup_append.1 eQ).1⟩
end Go.Proofs.YtmepaeahchiglaaGreatDoor
