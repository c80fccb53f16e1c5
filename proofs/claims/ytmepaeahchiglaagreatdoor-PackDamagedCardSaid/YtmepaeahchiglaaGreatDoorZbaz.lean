/-
  layer 43: reading of projects that may end in a panic, caught. Conditions: bytes that can be read. (Printed by rdproj.py out of XPkLv.)
-/
import Derived.Test.YtmepaeahchiglaaGreatDoorZbPjGf
import Derived.Test.YtmepaeahchiglaaGreatDoorZbav
import Derived.Test.YtmepaeahchiglaaGreatDoorZban
namespace Go.Proofs.YtmepaeahchiglaaGreatDoor
open Go.RowKit Go.Lib

theorem pj_info : (Tryz.prog.info? 33).map (·.size) = some 8 := by kernel_rfl
theorem pj_isS : isS (Tryz.prog.underlying 33) = true := by kernel_rfl
theorem pj_under : ∃ fs, Tryz.prog.underlying 33 = some (.struct fs) := isS.get pj_isS
theorem SlF.one {α : Type} {F : World → (Nat → Prop) → α → List Value → Prop} {k : Nat} {w : World} {S : Nat → Prop} {l : List α} {v : Value} (h : SlF F k w S l v) : v.oneCell' = true := by
  obtain ⟨A, c, rfl⟩ := h.form
  rfl
theorem ProjF.all {w : World} {S : Nat → Prop} {p : Pj} {cs : List Value} (h : ProjF w S p cs) : cs.length = 8 ∧ ∀ u ∈ cs, u.oneCell' = true := by
  obtain ⟨v1, v2, v3, v4, v5, v6, v7, v8, rfl, h1, h2, h3, h4, h5, h6, h7, h8⟩ := h
  refine ⟨rfl, fun u hu => ?_⟩
  simp only [List.mem_cons, List.not_mem_nil, or_false] at hu
  rcases hu with rfl | rfl | rfl | rfl | rfl | rfl | rfl | rfl
  · exact h1.one
  · exact h2.one
  · exact h3.one
  · exact h4.one
  · exact h5.one
  · exact h6.one
  · exact h7.one
  · exact h8.one
theorem ProjF.chg {T : List Nat} {S S' : Nat → Prop} {w w' : World} {p : Pj} {cs : List Value} (h : ProjF w S p cs) (hc : Chg T w w') (ht : ∀ b, S b → b < w.heap.size ∧ b ∉ T) (hs : ∀ b, S b → S' b) : ProjF w' S' p cs :=
  ProjF.keep hs (fun q hq => by
    unfold World.cell?
    rw [hc.block q.block (ht _ hq).1 (ht _ hq).2]) h
theorem pj_load {ops : Array Oper} {rest : List Oper} {o : Oper} {a : Act} {w : World} {Q : Exit → Act → World → Prop} (hgd : o.guard = none) (x : Operand) (ho : o.op = .load 33 x)
    (g : Nat) (hx : a.eval x = .pointer (some ⟨g, 0, none⟩)) (cs : List Value) (hlen : cs.length = 8) (hg : w.heap[g]? = some (.cells cs.toArray 33 (0, 0)))
    (h : wpList Tryz.prog ops Q rest (a.put o.dst (.agg cs.toArray)) w) : wpList Tryz.prog ops Q (o :: rest) a w := by
  obtain ⟨fs, hfs⟩ := pj_under
  exact wpList_load_row hgd _ x ho g hx _ _ _ _ hg hfs rfl (by rw [pj_info, List.size_toArray, hlen]) h
theorem pj_store {ops : Array Oper} {rest : List Oper} {o : Oper} {a : Act} {w : World} {Q : Exit → Act → World → Prop} (hgd : o.guard = none) (x y : Operand) (ho : o.op = .store 33 x y)
    (g : Nat) (hx : a.eval x = .pointer (some ⟨g, 0, none⟩)) (cs old : List Value) (hy : a.eval y = .agg cs.toArray) (hlen : cs.length = 8) (h1 : ∀ u ∈ cs, u.oneCell' = true) (hg : Blk w g 33 old.toArray) (hold : old.length = 8)
    (h : wpList Tryz.prog ops Q rest (a.put o.dst undef) (w.setRow g cs.toArray)) : wpList Tryz.prog ops Q (o :: rest) a w :=
  wpList_store_row hgd _ x y ho g cs.toArray hx hy _ old.toArray hg (by rw [pj_info, List.size_toArray, hlen]) (by rw [List.size_toArray, List.size_toArray, hlen, hold]) (Array.all_eq_true_iff_forall_mem.2 (fun v hv => h1 v (by simpa using hv))) h
theorem pj_run {w : World} {g : Nat} {cs : List Value} (hg : Blk w g 33 cs.toArray) (hlen : cs.length = 8) : (loadVar 33 ⟨g, 0, none⟩).run Tryz.prog w = .ok (.agg cs.toArray) w := by
  obtain ⟨fs, hfs⟩ := pj_under
  exact run_loadVar_row w g _ _ cs.toArray (0, 0) _ hg hfs rfl (by rw [pj_info, List.size_toArray, hlen])
abbrev zeroPj : List Value := [.slice none 0 0, .slice none 0 0, .slice none 0 0, .slice none 0 0, .slice none 0 0, .slice none 0 0, .slice none 0 0, .slice none 0 0]
set_option maxRecDepth 20000 in
set_option maxHeartbeats 2000000 in
theorem catchP_mal (a b c : Nat) (old : List Value) (y z : Value) (w : World) (ha : Blk w a 33 old.toArray) (hold : old.length = 8) (hb : Blk w b 3 #[y]) (hc : Blk w c 4 #[z]) :
    CallsD Tryz.prog 106 #[wptr a, wptr b, wptr c] (.panicking MAL) w (Caught 33 a b c zeroPj.toArray w) := by
  have nab : a ≠ b := ha.ne_ hb (by decide)
  have nac : a ≠ c := ha.ne_ hc (by decide)
  have nbc : b ≠ c := hb.ne_ hc (by decide)
  have la := ha.lt
  have lb := hb.lt
  have lc := hc.lt
  have ha2 := (ha.alloc (.cells #[] 172)).alloc (.cells #[.slice none 0 0, .slice none 0 0, .slice none 0 0, .slice none 0 0, .slice none 0 0, .slice none 0 0, .slice none 0 0, .slice none 0 0] 33)
  have hb2 := (hb.alloc (.cells #[] 172)).alloc (.cells #[.slice none 0 0, .slice none 0 0, .slice none 0 0, .slice none 0 0, .slice none 0 0, .slice none 0 0, .slice none 0 0, .slice none 0 0] 33)
  have hc2 := (hc.alloc (.cells #[] 172)).alloc (.cells #[.slice none 0 0, .slice none 0 0, .slice none 0 0, .slice none 0 0, .slice none 0 0, .slice none 0 0, .slice none 0 0, .slice none 0 0] 33)
  have hch := ((Chg.refl [a, b, c] w).alloc (.cells #[] 172)).alloc (.cells #[.slice none 0 0, .slice none 0 0, .slice none 0 0, .slice none 0 0, .slice none 0 0, .slice none 0 0, .slice none 0 0, .slice none 0 0] 33)
  have ht2 := Blk.new (w.alloc (.cells #[] 172)) 33 #[.slice none 0 0, .slice none 0 0, .slice none 0 0, .slice none 0 0, .slice none 0 0, .slice none 0 0, .slice none 0 0, .slice none 0 0]
  rw [World.size_alloc] at ht2
  obtain ⟨zl, hzl, hzlen, hzone⟩ : ∃ zl : List Value, zeroPj = zl ∧ zl.length = 8 ∧ ∀ u ∈ zl, u.oneCell' = true := ⟨zeroPj, rfl, rfl, by decide⟩
  have ht3 : Blk ((w.alloc (.cells #[] 172)).alloc (.cells #[.slice none 0 0, .slice none 0 0, .slice none 0 0, .slice none 0 0, .slice none 0 0, .slice none 0 0, .slice none 0 0, .slice none 0 0] 33)) (w.heap.size + 1) 33 zl.toArray := by
    rw [← hzl]; exact ht2
  rw [hzl]
  have HT := Lib.hid ht3; have HQV := Lib.hid hzl; have HQLEN := Lib.hid hzlen; have HZONE := Lib.hid hzone
  clear ht2 ht3 hzl hzlen hzone
  obtain ⟨W2, hW2⟩ : ∃ W, (w.alloc (.cells #[] 172)).alloc (.cells #[.slice none 0 0, .slice none 0 0, .slice none 0 0, .slice none 0 0, .slice none 0 0, .slice none 0 0, .slice none 0 0, .slice none 0 0] 33) = W := ⟨_, rfl⟩
  rw [hW2] at ha2 hb2 hc2 hch
  have hs := Chg.setRow W2 a zl.toArray
  have k1 := ha2.setRow zl.toArray
  have k2 := hb2.chg hs (by simpa using Ne.symm nab)
  have k3 := hc2.chg hs (by simpa using Ne.symm nac)
  have gb := k2.cell 0
  have gc := k3.cell 0
  have fb := k2.frozen 0
  have fc := k3.frozen 0
  simp only [List.getElem?_toArray, List.getElem?_cons_zero] at gb gc
  have h1 := (k1.far (p := ⟨b, 0, none⟩) nab (.int .i64 0)).far (p := ⟨c, 0, none⟩) nac (.bool false)
  have h2 := (k2.set_ 0 (.int .i64 0)).far (p := ⟨c, 0, none⟩) nbc (.bool false)
  have h3 := (k3.far (p := ⟨b, 0, none⟩) (Ne.symm nbc) (.int .i64 0)).set_ 0 (.bool false)
  have h4 := ((hch.trans (hs.mono (by simp))).setCell (p := ⟨b, 0, none⟩) (.inl (by simp)) (.int .i64 0)).setCell (p := ⟨c, 0, none⟩) (.inl (by simp)) (.bool false)
  have H1 := Lib.hid h1; have H2 := Lib.hid h2; have H3 := Lib.hid h3; have H4 := Lib.hid h4; have HA2 := Lib.hid ha2; have HW2 := Lib.hid hW2
  clear h1 h2 h3 h4 hs k1 k2 k3 ha hb hc ha2 hb2 hc2 hch hW2
  refine callsD_of_wpS Tryz.func106 rfl fun c₀ cs hu => ?_
  apply wpS_seq
  apply wpS_region
  simp [wpOpsS, go_sem, recoverD, hu, Tryz.ntmps106, Exit.thenS]
  rw [frame19]
  refine wpS_of_wp (Code.wp_mono (Q := CaughtX 33 a b c zl.toArray w) ?_ ?_)
  · rintro ex act w' ⟨rfl, h1, h2⟩
    exact ⟨h1, _, rfl, _, results_none rfl _ _ _, rfl, ⟨_, rfl⟩, h2⟩
  · have hta := run_assert
    go_wp2_with (first | (refine pj_load rfl _ rfl _ rfl _ HQLEN.out HT.out ?_; rw [HW2.out]; simp only [Act.put, List.setIfInBounds_toArray, List.set_cons_zero, List.set_cons_succ]) | (refine pj_store rfl _ _ rfl _ rfl zl old rfl HQLEN.out HZONE.out HA2.out hold ?_; simp only [Act.put]))
    exact ⟨rfl, rfl, H1.out, by simpa using H2.out, by simpa using H3.out, H4.out⟩
theorem results_pj3 {fn : Func} {p q r : Tmp} (h : fn.results = #[.cell p 33, .cell q 3, .cell r 4]) (tmps : Array Value) (w : World) (a b c : Nat) (cs : List Value) (x : Int) (y : Bool)
    (hp : tmps.getD p undef = wptr a) (hq : tmps.getD q undef = wptr b) (hr : tmps.getD r undef = wptr c) (ha : Blk w a 33 cs.toArray) (hlen : cs.length = 8) (hb : Blk w b 3 #[.int .i64 x]) (hc : Blk w c 4 #[.bool y]) :
    (results fn tmps).run Tryz.prog w = .ok (.tuple #[.agg cs.toArray, .int .i64 x, .bool y]) w := by
  have e1 := pj_run ha hlen
  have k2 := hb.cell 0
  have k3 := hc.cell 0
  simp only [List.getElem?_toArray, List.getElem?_cons_zero] at k2 k3
  have e2 : (loadVar 3 ⟨b, 0, none⟩).run Tryz.prog w = .ok (.int .i64 x) w := by simp [go_sem, k2]
  have e3 : (loadVar 4 ⟨c, 0, none⟩).run Tryz.prog w = .ok (.bool y) w := by simp [go_sem, k3]
  have hp' : tmps[p]?.getD undef = wptr a := by simpa using hp
  have hq' : tmps[q]?.getD undef = wptr b := by simpa using hq
  have hr' : tmps[r]?.getD undef = wptr c := by simpa using hr
  simp [results, h, hp', hq', hr', asAddr, e1, e2, e3]
theorem quietQP {K : Act → World → Prop} {R : Ending → World → Prop} (i : Nat) (hi : 7 ≤ i) (v : Value) (c : List PanicEntry) (a : Act) (w : World) (h : Exit.then K (bodyPostD Tryz.prog Tryz.f46 R) (.panic c) (a.put (some i) v) w) : Exit.then K (bodyPostD Tryz.prog Tryz.f46 R) (.panic c) a w := by
  refine leaves_congr (t := (a.put (some i) v).tmps) (fun W => ?_) a.defers (.panicking c) w h
  have h4 : (a.tmps.setIfInBounds i v)[4]? = a.tmps[4]? := Array.getElem?_setIfInBounds_ne (by omega)
  have h5 : (a.tmps.setIfInBounds i v)[5]? = a.tmps[5]? := Array.getElem?_setIfInBounds_ne (by omega)
  have h6 : (a.tmps.setIfInBounds i v)[6]? = a.tmps[6]? := Array.getElem?_setIfInBounds_ne (by omega)
  simp [results, Tryz.results46, Act.put, h4, h5, h6]
/-- A law's load in a region that draws its order. -/
theorem yieldsIf_pj {ops : Array Oper} {S : World → Prop} {op : Oper} {a : Act} (hw : Region.wanted op (yielded ops a.tmps) = true) (x : Operand) (ho : op.op = .load 33 x)
    (g : Nat) (hx : a.eval x = .pointer (some ⟨g, 0, none⟩)) (cs : List Value) (hlen : cs.length = 8) (hS : ∀ W, S W → Blk W g 33 cs.toArray) : YieldsIf Tryz.prog ops S op (.agg cs.toArray) a :=
  .inl ⟨hw, fun W hW => by
    unfold execOp
    simp only [ho, hx, Instr.loadAt, Instr.sureAddr, Sem.run_bind, Sem.run_pure, Result.andThen_ok, pj_run (hS W hW) hlen]⟩
theorem step_store_pj {ops : Array Oper} {o : Oper} {a : Act} {w : World} {K : Act → World → Prop} {Q : Exit → Act → World → Prop} {E : Prop} (hgd : o.guard = none) (x y : Operand) (ho : o.op = .store 33 x y)
    (g : Nat) (hx : a.eval x = .pointer (some ⟨g, 0, none⟩)) (cs old : List Value) (hy : a.eval y = .agg cs.toArray) (hlen : cs.length = 8) (h1 : ∀ u ∈ cs, u.oneCell' = true) (hg : Blk w g 33 old.toArray) (hold : old.length = 8)
    (h : K (a.put o.dst undef) (w.setRow g cs.toArray)) : if Region.wanted o (yielded ops a.tmps) = true then Oper.wp Tryz.prog o a w K Q else E := by
  have hw : Region.wanted o (yielded ops a.tmps) = true := by simp [Region.wanted, hgd]
  rw [if_pos hw]
  exact wp_store_row _ x y ho g cs.toArray hx hy _ old.toArray hg (by rw [pj_info, List.size_toArray, hlen]) (by rw [List.size_toArray, List.size_toArray, hlen, hold]) (Array.all_eq_true_iff_forall_mem.2 (fun v hv => h1 v (by simpa using hv))) h
theorem catchP_idle (a b c : Nat) (w : World) :
    CallsD Tryz.prog 106 #[wptr a, wptr b, wptr c] .returning w fun e u' w' => e = .returned (.tuple #[]) ∧ u' = .returning ∧ w = w' := by
  refine callsD_of_wpS Tryz.func106 rfl fun c₀ cs hu => ?_
  apply wpS_seq
  apply wpS_region
  simp [wpOpsS, go_sem, recoverD, hu, Tryz.ntmps106, Exit.thenS]
  rw [frame19]
  refine wpS_of_wp (Code.wp_mono (Q := fun ex act w' => ex = .normal ∧ act.defers = [] ∧ w = w') ?_ ?_)
  · rintro ex act w' ⟨rfl, h1, rfl⟩
    cases c₀
    simp only at hu
    subst hu
    exact ⟨h1, _, rfl, _, results_none rfl _ _ _, rfl, rfl, rfl⟩
  · go_wp2
/-- What read returns: a law, how many bytes are left, true; or a zero law, 0, false. -/
def ReadPPost (w : World) (o : Option (Pj × List Nat)) (e : Ending) (w' : World) : Prop :=
  Below w.heap.size w w' ∧ match o with
    | some (l, r) => ∃ cs, e = .returned (.tuple #[.agg cs.toArray, .int .i64 r.length, .bool true]) ∧ ProjF w' (fun b => w.heap.size ≤ b ∧ b < w'.heap.size) l cs
    | none => e = .returned (.tuple #[.agg zeroPj.toArray, .int .i64 0, .bool false])
set_option linter.unusedSimpArgs false in
set_option maxRecDepth 20000 in
set_option maxHeartbeats 4000000 in
theorem readP_any (w : World) (A : Option Addr) (n c B : Nat) (bs : List Nat) (hr : Reads w B 1 A n (bs.map bv)) (hB : B ≤ w.heap.size) (hn : n ≤ c) (hc : c ≤ maxLen) (hs : n ≤ 1073741824) (hb : ∀ b ∈ bs, b < 256) :
    Calls Tryz.prog 46 #[.slice A n c, .func (.func 47) #[] #[]] w (ReadPPost w (projR bs)) := by
  have hmf : ∀ (fn : Fn) (first cap : Array Value) (w : World), (Instr.makeFunc fn first cap).run Tryz.prog w = .ok (.func fn first cap) w := fun _ _ _ _ => rfl
  have hbl : bs.length = n := by have := hr.1; simpa using this
  obtain ⟨zl, hzl, hzlen, hzone⟩ : ∃ zl : List Value, zeroPj = zl ∧ zl.length = 8 ∧ ∀ u ∈ zl, u.oneCell' = true := ⟨zeroPj, rfl, rfl, by decide⟩
  obtain ⟨w0, hw0⟩ : ∃ w0, (((w.alloc (.cells #[.slice none 0 0, .slice none 0 0, .slice none 0 0, .slice none 0 0, .slice none 0 0, .slice none 0 0, .slice none 0 0, .slice none 0 0] 33)).alloc (.cells #[.int .i64 0] 3)).alloc (.cells #[.bool false] 4)).alloc (.cells #[.slice A n c] 175) = w0 := ⟨_, rfl⟩
  have hsz : w0.heap.size = w.heap.size + 4 := by rw [← hw0]; simp
  have hB0 : Below w.heap.size w w0 := by
    rw [← hw0]
    exact ((((Below.refl _ w).alloc (Nat.le_refl _) _).alloc (by simp) _).alloc (by simp; omega) _).alloc (by simp; omega) _
  have ha : Blk w0 w.heap.size 33 zl.toArray := by
    rw [← hw0, ← hzl]
    exact (((Blk.new w _ _).alloc _).alloc _).alloc _
  have hb1 : Blk w0 (w.heap.size + 1) 3 #[.int .i64 0] := by
    rw [← hw0]
    exact ((by simpa using Blk.new (w.alloc (.cells #[.slice none 0 0, .slice none 0 0, .slice none 0 0, .slice none 0 0, .slice none 0 0, .slice none 0 0, .slice none 0 0, .slice none 0 0] 33)) 3 #[.int .i64 0] : Blk _ (w.heap.size + 1) _ _).alloc _).alloc _
  have hc1 : Blk w0 (w.heap.size + 2) 4 #[.bool false] := by
    rw [← hw0]
    exact (by simpa using Blk.new ((w.alloc (.cells #[.slice none 0 0, .slice none 0 0, .slice none 0 0, .slice none 0 0, .slice none 0 0, .slice none 0 0, .slice none 0 0, .slice none 0 0] 33)).alloc (.cells #[.int .i64 0] 3)) 4 #[.bool false] : Blk _ (w.heap.size + 2) _ _).alloc _
  have hd1 : Blk w0 (w.heap.size + 3) 175 #[.slice A n c] := by
    rw [← hw0]
    simpa using Blk.new (((w.alloc (.cells #[.slice none 0 0, .slice none 0 0, .slice none 0 0, .slice none 0 0, .slice none 0 0, .slice none 0 0, .slice none 0 0, .slice none 0 0] 33)).alloc (.cells #[.int .i64 0] 3)).alloc (.cells #[.bool false] 4)) 175 #[.slice A n c]
  have hrd : Rd w0 (w.heap.size + 3) bs := by
    refine ⟨A, c, by rw [hbl]; exact hd1, ?_, by omega, hc, by omega, hb⟩
    rw [hbl]
    exact (hr.below (hB0.mono hB)).more (by omega)
  have hg := project_el w0 (w.heap.size + 3) bs hrd
  have HW0 := Lib.hid hw0; have HA := Lib.hid ha; have HB1 := Lib.hid hb1; have HC1 := Lib.hid hc1; have HB0 := Lib.hid hB0; have HQV := Lib.hid hzl; have HQLEN := Lib.hid hzlen
  clear hr hrd ha hb1 hc1 hd1 hb hB0 hzl hzlen
  cases hw : projR bs with
  | none =>
    rw [hw] at hg
    have HG := Lib.hid hg
    clear hw0 hg
    go_enter_defers Tryz.func46, Tryz.ntmps46
    go_wp2_with fail
    rw [HW0.out]
    refine HG.out.mono ?_
    rintro e w1 ⟨h1, rfl⟩
    have hni : ∀ i, i < 3 → w.heap.size + i ∉ [w.heap.size + 3] := fun i hi hm => by simp at hm; omega
    refine leaves_cons (f := 106) (args := #[wptr w.heap.size, wptr (w.heap.size + 1), wptr (w.heap.size + 2)]) (by simp) (by simp [go_sem]) ?_
    refine (catchP_mal w.heap.size (w.heap.size + 1) (w.heap.size + 2) _ _ _ w1 (HA.out.chg h1 (hni 0 (by omega))) HQLEN.out (HB1.out.chg h1 (hni 1 (by omega))) (HC1.out.chg h1 (hni 2 (by omega)))).mono ?_
    rintro e u' w2 ⟨rfl, ⟨pv, rfl⟩, k1, k2, k3, k4⟩
    have hbel : Below w.heap.size w w2 := by
      refine (HB0.out.trans (h1.below (by simp) (by omega))).trans (k4.below (by simp) ?_)
      have := h1.size; omega
    exact ⟨_, results_pj3 Tryz.results46 _ _ _ _ _ _ _ _ rfl rfl rfl k1 rfl k2 k3, hbel, rfl⟩
  | some q =>
    obtain ⟨l, r⟩ := q
    rw [hw] at hg
    have HG := Lib.hid hg
    clear hw0 hg
    go_enter_defers Tryz.func46, Tryz.ntmps46
    go_wp2_with fail
    rw [HW0.out]
    refine HG.out.mono ?_
    rintro e w1 ⟨h1, cs, rfl, h2, h3⟩
    obtain ⟨hlen, hone⟩ := h2.all
    have hni : ∀ i, i < 3 → w.heap.size + i ∉ [w.heap.size + 3] := fun i hi hm => by simp at hm; omega
    have hs1 := h1.size
    have ka := HA.out.chg h1 (hni 0 (by omega))
    have hsr := Chg.setRow w1 w.heap.size cs.toArray
    have xa := ka.setRow cs.toArray
    have xb : Blk (w1.setRow w.heap.size cs.toArray) (w.heap.size + 1) 3 #[.int .i64 0] := (HB1.out.chg h1 (hni 1 (by omega))).chg hsr (by simp)
    have xc : Blk (w1.setRow w.heap.size cs.toArray) (w.heap.size + 1 + 1) 4 #[.bool false] := (HC1.out.chg h1 (hni 2 (by omega))).chg hsr (by simp)
    obtain ⟨A3, c3, k1, k2, k3⟩ := h3
    have xd : Blk (w1.setRow w.heap.size cs.toArray) (w.heap.size + 1 + 1 + 1) 175 #[.slice A3 r.length c3] := k1.chg hsr (by simp)
    have xl := h2.chg (S' := fun b => w.heap.size + 4 ≤ b ∧ b < (w1.setRow w.heap.size cs.toArray).heap.size) hsr (fun b hb => ⟨hb.2, by have := hb.1; simp; omega⟩) (fun b hb => ⟨by have := hb.1; omega, by simpa using hb.2⟩)
    have xz : Below w.heap.size w (w1.setRow w.heap.size cs.toArray) := (HB0.out.trans (h1.below (by simp) (by omega))).trans (hsr.below (by simp) (by omega))
    have HKA := Lib.hid ka; have HLEN := Lib.hid hlen; have HONE := Lib.hid hone
    obtain ⟨w2, hw2⟩ : ∃ W, w1.setRow w.heap.size cs.toArray = W := ⟨_, rfl⟩
    rw [hw2] at xa xb xc xd xl xz
    have HW2 := Lib.hid hw2; have XA := Lib.hid xa; have XB := Lib.hid xb; have XC := Lib.hid xc; have XD := Lib.hid xd; have XL := Lib.hid xl; have XZ := Lib.hid xz
    clear ka h1 h2 k1 k2 k3 hsr xa xb xc xd xl xz hni hlen hone hw2 hw hmf
    go_wp2_with (refine pj_store rfl _ _ rfl _ rfl cs zl rfl HLEN.out HONE.out HKA.out HQLEN.out ?_; simp only [Act.put])
    rw [HW2.out]
    clear HW2
    have XE : Hid (Blk w2.drew w.heap.size 33 cs.toArray ∧ Blk w2.drew (w.heap.size + 1) 3 #[.int .i64 0] ∧ Blk w2.drew (w.heap.size + 1 + 1) 4 #[.bool false] ∧ Blk w2.drew (w.heap.size + 1 + 1 + 1) 175 #[.slice A3 r.length c3] ∧ ProjF w2.drew (fun b => w.heap.size + 4 ≤ b ∧ b < w2.drew.heap.size) l cs ∧ Below w.heap.size w w2.drew) := Lib.hid ⟨XA.out, XB.out, XC.out, XD.out, ProjF.keep (w := w2) (w' := w2.drew) (S := fun b => w.heap.size + 4 ≤ b ∧ b < w2.heap.size) (S' := fun b => w.heap.size + 4 ≤ b ∧ b < w2.drew.heap.size) (fun _ h => h) (fun _ _ => rfl) XL.out, XZ.out.drew⟩
    clear XA XB XC XD XL XZ
    obtain ⟨fs, hfs⟩ := pj_under
    have hinf : (Tryz.prog.info? 33).map (·.size) = some cs.length := by rw [pj_info, HLEN.out]
    have HFS := Lib.hid hfs; have HINF := Lib.hid hinf
    clear hfs hinf
    refine wp_region_held_drew (S := (fun W => Blk W w.heap.size 33 cs.toArray ∧ W.cell? ⟨w.heap.size + 1 + 1 + 1, 0, none⟩ = some (.slice A3 r.length c3))) (by kernel_rfl) ?_ (fun hHeld => ?_)
    · (try dsimp only)
      (first | exact ⟨XE.out.1, by simpa using XE.out.2.2.2.1.cell 0⟩ | exact ⟨XA.out, g4⟩ | exact ⟨XA.out.far (p := ⟨w.heap.size + 1, 0, none⟩) (by simp) _, by (rw [World.cell?_setCell_other _ _ _ _ (by simp)]; exact g4)⟩ | exact ⟨(XA.out.far (p := ⟨w.heap.size + 1, 0, none⟩) (by simp) _).far (p := ⟨w.heap.size + 1 + 1, 0, none⟩) (by simp; omega) _, by (rw [World.cell?_setCell_other _ _ _ _ (by simp), World.cell?_setCell_other _ _ _ _ (by simp)]; exact g4)⟩)
    obtain ⟨w3, hw3⟩ : ∃ W, w2.drew = W := ⟨_, rfl⟩
    rw [hw3] at XE hHeld ⊢
    obtain ⟨xa, xb, xc, xd, xl, xz⟩ := XE.out
    have XA := Lib.hid xa; have XB := Lib.hid xb; have XC := Lib.hid xc; have XD := Lib.hid xd; have XL := Lib.hid xl; have XZ := Lib.hid xz
    clear XE hw3 xa xb xc xd xl xz
    have g4 := XD.out.cell 0
    have g2 := XB.out.cell 0
    have g3 := XC.out.cell 0
    have f2 := XB.out.frozen 0
    have f3 := XC.out.frozen 0
    simp only [List.getElem?_toArray, List.getElem?_cons_zero] at g2 g3 g4
    have g3' : (w3.setCell ⟨w.heap.size + 1, 0, none⟩ (.int .i64 r.length)).cell? ⟨w.heap.size + 1 + 1, 0, none⟩ = some (.bool false) := by
      rw [World.cell?_setCell_other _ _ _ _ (by simp)]; exact g3
    refine wpAnyH_take (i := 0) (v := .agg cs.toArray) rfl (by kernel_rfl) (by kernel_rfl) (by kernel_rfl) (quietQP 15 (by decide) _) (yieldsIf_pj rfl _ rfl w.heap.size rfl cs HLEN.out (fun W hW => hW.1)) (by assumption) ?_
    try simp only [Act.put, List.getElem_toArray, List.getElem_cons_succ, List.getElem_cons_zero, List.setIfInBounds_toArray, List.set_cons_zero, List.set_cons_succ]
    refine wpAnyH_take (i := 1) (v := ?_) rfl (by kernel_rfl) (by kernel_rfl) (by kernel_rfl) (quietQP 16 (by decide) _) (Or.inl ⟨by rfl, ?_⟩) (by assumption) ?_
    rotate_left
    · intro w hSw
      (try dsimp only at hSw)
      go_simp <;> with_reducible rfl
    try simp only [Act.put, List.getElem_toArray, List.getElem_cons_succ, List.getElem_cons_zero, List.setIfInBounds_toArray, List.set_cons_zero, List.set_cons_succ]
    refine wpAnyH_take (i := 2) (v := ?_) rfl (by kernel_rfl) (by kernel_rfl) (by kernel_rfl) (quietQP 17 (by decide) _) (Or.inl ⟨by rfl, ?_⟩) (by assumption) ?_
    rotate_left
    · intro w hSw
      (try dsimp only at hSw)
      go_simp <;> with_reducible rfl
    try simp only [Act.put, List.getElem_toArray, List.getElem_cons_succ, List.getElem_cons_zero, List.setIfInBounds_toArray, List.set_cons_zero, List.set_cons_succ]
    refine wpAnyH_take (i := 3) (v := ?_) rfl (by kernel_rfl) (by kernel_rfl) (by kernel_rfl) (quietQP 18 (by decide) _) (Or.inl ⟨by rfl, ?_⟩) (by assumption) ?_
    rotate_left
    · intro w hSw
      (try dsimp only at hSw)
      go_simp <;> with_reducible rfl
    try simp only [Act.put, List.getElem_toArray, List.getElem_cons_succ, List.getElem_cons_zero, List.setIfInBounds_toArray, List.set_cons_zero, List.set_cons_succ]
    refine wpAnyH_take (i := 4) (v := ?_) rfl (by kernel_rfl) (by kernel_rfl) (by kernel_rfl) (quietQP 19 (by decide) _) (Or.inl ⟨by rfl, ?_⟩) (by assumption) ?_
    rotate_left
    · intro w hSw
      (try dsimp only at hSw)
      go_simp <;> with_reducible rfl
    try simp only [Act.put, List.getElem_toArray, List.getElem_cons_succ, List.getElem_cons_zero, List.setIfInBounds_toArray, List.set_cons_zero, List.set_cons_succ]
    refine wpAnyH_take (i := 5) (v := ?_) rfl (by kernel_rfl) (by kernel_rfl) (by kernel_rfl) (quietQP 20 (by decide) _) (Or.inl ⟨by rfl, ?_⟩) (by assumption) ?_
    rotate_left
    · intro w hSw
      (try dsimp only at hSw)
      go_simp <;> with_reducible rfl
    try simp only [Act.put, List.getElem_toArray, List.getElem_cons_succ, List.getElem_cons_zero, List.setIfInBounds_toArray, List.set_cons_zero, List.set_cons_succ]
    refine wpAnyH_ready (rs := [6]) (by kernel_rfl) (by simp) ?_
    refine AllReadyH.cons rfl (fun K hK => ?_) AllReadyH.nil
    refine step_store_pj rfl _ _ rfl _ rfl cs cs rfl HLEN.out HONE.out XA.out HLEN.out ?_
    rw [setRow_self _ _ _ _ _ XA.out]
    refine hK.out _ _ ?_ (fun hHeld' => ?_)
    · (try dsimp only)
      (first | exact ⟨XE.out.1, by simpa using XE.out.2.2.2.1.cell 0⟩ | exact ⟨XA.out, g4⟩ | exact ⟨XA.out.far (p := ⟨w.heap.size + 1, 0, none⟩) (by simp) _, by (rw [World.cell?_setCell_other _ _ _ _ (by simp)]; exact g4)⟩ | exact ⟨(XA.out.far (p := ⟨w.heap.size + 1, 0, none⟩) (by simp) _).far (p := ⟨w.heap.size + 1 + 1, 0, none⟩) (by simp; omega) _, by (rw [World.cell?_setCell_other _ _ _ _ (by simp), World.cell?_setCell_other _ _ _ _ (by simp)]; exact g4)⟩)
    clear hK K hHeld
    have hHeld := hHeld'
    clear hHeld'
    refine wpAnyH_ready (rs := [7]) (by kernel_rfl) (by simp) ?_
    refine AllReadyH.cons rfl (fun K hK => ?_) AllReadyH.nil
    go_simp
    refine hK.out _ _ ?_ (fun hHeld' => ?_)
    · (try dsimp only)
      (first | exact ⟨XE.out.1, by simpa using XE.out.2.2.2.1.cell 0⟩ | exact ⟨XA.out, g4⟩ | exact ⟨XA.out.far (p := ⟨w.heap.size + 1, 0, none⟩) (by simp) _, by (rw [World.cell?_setCell_other _ _ _ _ (by simp)]; exact g4)⟩ | exact ⟨(XA.out.far (p := ⟨w.heap.size + 1, 0, none⟩) (by simp) _).far (p := ⟨w.heap.size + 1 + 1, 0, none⟩) (by simp; omega) _, by (rw [World.cell?_setCell_other _ _ _ _ (by simp), World.cell?_setCell_other _ _ _ _ (by simp)]; exact g4)⟩)
    clear hK K hHeld
    have hHeld := hHeld'
    clear hHeld'
    refine wpAnyH_ready (rs := [8]) (by kernel_rfl) (by simp) ?_
    refine AllReadyH.cons rfl (fun K hK => ?_) AllReadyH.nil
    go_simp
    refine hK.out _ _ ?_ (fun hHeld' => ?_)
    · (try dsimp only)
      (first | exact ⟨XE.out.1, by simpa using XE.out.2.2.2.1.cell 0⟩ | exact ⟨XA.out, g4⟩ | exact ⟨XA.out.far (p := ⟨w.heap.size + 1, 0, none⟩) (by simp) _, by (rw [World.cell?_setCell_other _ _ _ _ (by simp)]; exact g4)⟩ | exact ⟨(XA.out.far (p := ⟨w.heap.size + 1, 0, none⟩) (by simp) _).far (p := ⟨w.heap.size + 1 + 1, 0, none⟩) (by simp; omega) _, by (rw [World.cell?_setCell_other _ _ _ _ (by simp), World.cell?_setCell_other _ _ _ _ (by simp)]; exact g4)⟩)
    clear hK K hHeld
    have hHeld := hHeld'
    clear hHeld'
    refine wpAnyH_done (by kernel_rfl) ?_ _
    have m1 : (⟨w.heap.size + 1, 0, none⟩ : Addr).block ∈ [w.heap.size + 1, w.heap.size + 1 + 1] ∨ w3.heap.size ≤ (⟨w.heap.size + 1, 0, none⟩ : Addr).block := .inl (by simp)
    have m2 : (⟨w.heap.size + 1 + 1, 0, none⟩ : Addr).block ∈ [w.heap.size + 1, w.heap.size + 1 + 1] ∨ w3.heap.size ≤ (⟨w.heap.size + 1 + 1, 0, none⟩ : Addr).block := .inl (by simp)
    have hch := ((Chg.refl [w.heap.size + 1, w.heap.size + 1 + 1] w3).setCell m1 (.int .i64 r.length)).setCell m2 (.bool true)
    have j1 := XA.out.chg hch (by simp; omega)
    have j2 := (XB.out.set_ 0 (.int .i64 r.length)).far (p := ⟨w.heap.size + 1 + 1, 0, none⟩) (by simp) (.bool true)
    have j3 := (XC.out.far (p := ⟨w.heap.size + 1, 0, none⟩) (by simp) (.int .i64 r.length)).set_ 0 (.bool true)
    simp only [List.setIfInBounds_toArray, List.set_cons_zero] at j2 j3
    have jl := XL.out.chg (S' := fun b => w.heap.size ≤ b ∧ b < ((w3.setCell ⟨w.heap.size + 1, 0, none⟩ (.int .i64 r.length)).setCell ⟨w.heap.size + 1 + 1, 0, none⟩ (.bool true)).heap.size) hch (fun b hb => ⟨hb.2, by have := hb.1; simp; omega⟩) (fun b hb => ⟨by have := hb.1; omega, Nat.lt_of_lt_of_le hb.2 hch.size⟩)
    have jz := XZ.out.trans (hch.below (by intro i hi; simp at hi; omega) XZ.out.size)
    have J1 := Lib.hid j1; have J2 := Lib.hid j2; have J3 := Lib.hid j3; have JL := Lib.hid jl; have JZ := Lib.hid jz
    clear m1 m2 hch j1 j2 j3 jl jz hHeld g2 g3 g3' g4 f2 f3
    go_wp2
    refine leaves_cons (f := 106) (args := #[wptr w.heap.size, wptr (w.heap.size + 1), wptr (w.heap.size + 2)]) (by simp) (by simp [go_sem]) ?_
    refine (catchP_idle w.heap.size (w.heap.size + 1) (w.heap.size + 2) _).mono ?_
    rintro e u' w4 ⟨rfl, rfl, rfl⟩
    exact ⟨_, results_pj3 Tryz.results46 _ _ _ _ _ _ _ _ rfl rfl rfl J1.out HLEN.out J2.out J3.out, JZ.out, cs, rfl, JL.out⟩
end Go.Proofs.YtmepaeahchiglaaGreatDoor

namespace Go.Proofs.YtmepaeahchiglaaGreatDoor
open Go.RowKit Go.Lib

theorem allB_len {α : Type} {put : α → List Nat} {m : Nat} {l : List α} (h : ∀ x ∈ l, (put x).length ≤ m) : (allB put l).length ≤ 5 + m * l.length := by
  have := numB_len l.length
  have := flatB_mem h
  show (numB l.length ++ l.flatMap put).length ≤ _
  rw [List.length_append]; omega
/-- The sizes of a project that is written. -/
structure PjOk (p : Pj) : Prop where
  n1 : p.feats.length ≤ 1000
  n2 : p.sounds.length ≤ 1000
  n3 : p.marks.length ≤ 1000
  n4 : p.tree.length ≤ 1000
  n5 : p.laws.length ≤ 1000
  n6 : p.on.length ≤ 1000
  n7 : p.protos.length ≤ 1000
  n8 : p.entries.length ≤ 1000
  o1 : ∀ x ∈ p.feats, x.size ≤ 1000
  o2 : ∀ x ∈ p.sounds, x.1.size ≤ 1000 ∧ ok32 x.2
  o3 : ∀ x ∈ p.marks, x.text.size ≤ 1000 ∧ is32 x.clear ∧ ok32 x.set
  o4 : ∀ x ∈ p.tree, -1 ≤ x.1 ∧ x.1 < 4294967295 ∧ x.2.size ≤ 1000
  o5 : ∀ x ∈ p.laws, okLaw x ∧ (lawB x).length ≤ 100000
  o6 : ∀ l ∈ p.on, l.length ≤ 1000 ∧ ∀ x ∈ l, 0 ≤ x ∧ x < 4294967296
  o7 : ∀ x ∈ p.protos, x.w.length ≤ 1000 ∧ ∀ s ∈ x.w, ok32 s
  o8 : ∀ x ∈ p.entries, x.gloss.size ≤ 1000 ∧ x.forms.length ≤ 100 ∧ ∀ f ∈ x.forms, f.w.length ≤ 1000 ∧ ∀ s ∈ f.w, ok32 s
theorem PjOk.lens {p : Pj} (h : PjOk p) : (allB textB p.feats).length ≤ 2000000 ∧ (allB nmdB p.sounds).length ≤ 2000000 ∧ (allB mkdB p.marks).length ≤ 2000000 ∧ (allB ndB p.tree).length ≤ 2000000 ∧ (allB lawB p.laws).length ≤ 200000000 ∧ (∀ l ∈ p.on, (allB intB l).length ≤ 6000) ∧ (allB formB p.protos).length ≤ 20000000 ∧ (allB enB p.entries).length ≤ 2000000000 := by
  have n1 := h.n1; have n2 := h.n2; have n3 := h.n3; have n4 := h.n4; have n5 := h.n5; have n7 := h.n7; have n8 := h.n8
  refine ⟨?_, ?_, ?_, ?_, ?_, fun l hl => ?_, ?_, ?_⟩
  · have := allB_len (put := textB) (m := 1005) fun x hx => by have := textB_len x; have := h.o1 x hx; omega
    omega
  · have := allB_len (put := nmdB) (m := 1015) fun x hx => by have := nmdB_len x; have := (h.o2 x hx).1; omega
    omega
  · have := allB_len (put := mkdB) (m := 1020) fun x hx => by have := mkdB_len x; have := (h.o3 x hx).1; omega
    omega
  · have := allB_len (put := ndB) (m := 1015) fun x hx => by have := ndB_len x; have := (h.o4 x hx).2.2; omega
    omega
  · have := allB_len (put := lawB) (m := 100000) fun x hx => (h.o5 x hx).2
    omega
  · have := allB_len (put := intB) (m := 5) (l := l) fun x _ => numB_len _
    have := (h.o6 l hl).1
    omega
  · have := allB_len (put := formB) (m := 10020) fun x hx => by have := formB_len x; have := (h.o7 x hx).1; omega
    omega
  · have := allB_len (put := enB) (m := 1100000) fun x hx => by have h8 := h.o8 x hx; exact enB_len h8.1 h8.2.1 fun f hf => (h8.2.2 f hf).1
    omega
end Go.Proofs.YtmepaeahchiglaaGreatDoor
