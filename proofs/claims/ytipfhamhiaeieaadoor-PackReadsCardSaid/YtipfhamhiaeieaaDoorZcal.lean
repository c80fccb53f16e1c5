/-
  layer 43: the program's PutLaw. Conditions: a law that can be read.
-/
import Derived.Test.YtipfhamhiaeieaaDoorZcPkLc
import Derived.Test.YtipfhamhiaeieaaDoorZcPkLr
namespace Go.Proofs.YtipfhamhiaeieaaDoor
open Go.RowKit Go.Lib

theorem outOk_src32 {x : Ot} {k : Nat} (h : oOk k x = true) (hk : k ≤ 4) (h32 : is32 x.clear ∧ ok32 x.set ∧ is32 x.take) : ok32O x := by
  unfold oOk outOk at h
  simp only [Bool.and_eq_true, decide_eq_true_eq] at h
  obtain ⟨⟨h1, h2⟩, _, _, _, h5⟩ := h
  refine ⟨⟨h1, by omega⟩, h32.1, h32.2.1, h32.2.2, ?_⟩
  by_cases ht : x.take = 0
  · rw [if_pos ht, decide_eq_true_eq] at h5; omega
  · rw [if_neg ht, decide_eq_true_eq] at h5; omega
theorem okLaw_of {l : Lw} (h : lawOk l = true) (h32 : ∀ x ∈ l.outs, is32 x.clear ∧ ok32 x.set ∧ is32 x.take) : okLaw l := by
  unfold lawOk at h
  simp only [Bool.and_eq_true, decide_eq_true_eq] at h
  obtain ⟨h1, h2, h3, h4, h5, h6, h7, h8, h9⟩ := h
  unfold okName at h1
  unfold patOk at h2 h3
  simp only [Bool.and_eq_true, decide_eq_true_eq] at h1 h2 h3
  refine ⟨by omega, h2, h3, by omega, by omega, fun x hx => outOk_src32 (List.all_eq_true.1 h9 x hx) h4 (h32 x hx), by omega, by omega⟩
/-- What PutLaw returns. -/
def putL (l : Lw) : List Nat := if lawOk l then lawB l else []

theorem law_len {w : World} {B : Nat} {l : Lw} {cs : List Value} (hl : LawC w B l cs) : cs.length = 18 := by
  obtain ⟨k1, s1, n1, lo1, hi1, A1, m1, c1, k2, s2, n2, lo2, hi2, A2, m2, c2, A3, c3, A4, c4, rfl, -⟩ := hl.form
  rfl
theorem law_s32 {w : World} {B : Nat} {l : Lw} {cs : List Value} (hl : LawC w B l cs) : ∀ x ∈ l.outs, is32 x.clear ∧ ok32 x.set ∧ is32 x.take := by
  obtain ⟨k1, s1, n1, lo1, hi1, A1, m1, c1, k2, s2, n2, lo2, hi2, A2, m2, c2, A3, c3, A4, c4, rfl, -, -, -, -, -, hs4, -, -⟩ := hl.form
  exact hs4
theorem law_info : (Tryd.prog.info? 31).map (·.size) = some 18 := by kernel_rfl
def isS : Option TypeDesc → Bool
  | some (.struct _) => true
  | _ => false
theorem isS.get {d : Option TypeDesc} (h : isS d = true) : ∃ fs, d = some (.struct fs) := by
  cases d with
  | none => cases h
  | some d => cases d <;> first | exact ⟨_, rfl⟩ | cases h
theorem law_isS : isS (Tryd.prog.underlying 31) = true := by kernel_rfl
theorem law_under : ∃ fs, Tryd.prog.underlying 31 = some (.struct fs) := isS.get law_isS
/-- A law's load: the whole row. -/
theorem law_load {ops : Array Oper} {rest : List Oper} {o : Oper} {a : Act} {w : World} {Q : Exit → Act → World → Prop} (hgd : o.guard = none) (x : Operand) (ho : o.op = .load 31 x)
    (g : Nat) (hx : a.eval x = .pointer (some ⟨g, 0, none⟩)) (cs : List Value) (hlen : cs.length = 18) (hg : w.heap[g]? = some (.cells cs.toArray 31 (0, 0)))
    (h : wpList Tryd.prog ops Q rest (a.put o.dst (.agg cs.toArray)) w) : wpList Tryd.prog ops Q (o :: rest) a w := by
  obtain ⟨fs, hfs⟩ := law_under
  exact wpList_load_row hgd _ x ho g hx _ _ _ _ hg hfs rfl (by rw [law_info, List.size_toArray, hlen]) h
set_option maxRecDepth 20000 in
set_option maxHeartbeats 2000000 in
theorem putLaw_any (w : World) (B : Nat) (l : Lw) (cs : List Value) (hl : LawC w B l cs) (hB : B ≤ w.heap.size) (hnm : l.name.size ≤ maxLen) :
    Calls Tryd.prog 14 #[.agg cs.toArray] w (GivesBE w (putL l) (lawE l)) := by
  have hlen := law_len hl
  have hs4 := law_s32 hl
  have hck := fun W hW => lawCheck_any W B l _ (hl.below (hW : Below B w W)) (by have := hW.size; omega) hnm
  have hwl := fun hok W (hW : Below B w W) hB' => wlaw_any (W.alloc (.cells #[.slice none 0 0] 62)) W.heap.size W.heap.size B l _ [] (own_none rfl) ((hl.below hW).below ((Below.refl _ W).alloc hB' _)) hB' hok (by unfold CAP; simp)
  have hbel0 := (Below.refl w.heap.size w).alloc (Nat.le_refl _) (.cells cs.toArray 31)
  have hb0 := Blk.new w 31 cs.toArray
  obtain ⟨bs, hbs⟩ : ∃ bs, putL l = bs := ⟨_, rfl⟩
  obtain ⟨le, hle⟩ : ∃ le, lawE l = le := ⟨_, rfl⟩
  rw [hbs, hle]
  simp only [hle] at hck
  have HCK := Lib.hid hck; have HWL := Lib.hid hwl; have HE0 := Lib.hid hbel0; have HB0 := Lib.hid hb0; have HLEN := Lib.hid hlen
  unfold putL at hbs
  unfold lawE at hle
  have hokL := fun h => okLaw_of (l := l) h hs4
  have HOKL := Lib.hid hokL
  clear hck hwl hbel0 hb0 hl hs4 hokL hlen
  unfold GivesBE
  by_cases h0 : lawOk l = true
  · rw [if_pos h0] at hbs hle
    subst hle
    have hok := HOKL.out h0
    have HBS := Lib.hid hbs; have HOK := Lib.hid hok
    clear hbs hok h0 HOKL
    go_enter Tryd.func14, Tryd.ntmps14
    go_wp2_with (refine law_load rfl _ rfl _ rfl _ HLEN.out HB0.out ?_; simp only [Act.put, List.setIfInBounds_toArray, List.set_cons_zero, List.set_cons_succ])
    refine (HCK.out _ (HE0.out.mono hB)).mono ?_
    rintro e w1 ⟨rfl, hb1⟩
    have hbx := HB0.out.below hb1 HB0.out.lt
    have hex := HE0.out.trans (hb1.mono HE0.out.size)
    have HBX := Lib.hid (hbx.alloc (.cells #[.slice none 0 0] 62))
    have HEX := Lib.hid hex
    clear hb1 hbx hex
    go_wp2_with (refine law_load rfl _ rfl _ rfl _ HLEN.out HBX.out ?_; simp only [Act.put, List.setIfInBounds_toArray, List.set_cons_zero, List.set_cons_succ])
    refine (HWL.out HOK.out w1 (HEX.out.mono hB) (by have := HEX.out.size; omega)).mono ?_
    rintro e w2 ⟨rfl, h1, h2⟩
    have hw0 := own_none (w := w1) rfl
    have hbl := h2.below hw0
    obtain ⟨v, b1, b2, b3⟩ := h1
    have hc0 := b1.cell 0
    simp only [List.getElem?_toArray, List.getElem?_cons_zero] at hc0
    have hB2 : Below w.heap.size w w2 := (HEX.out.alloc HEX.out.size _).trans (hbl.mono HEX.out.size)
    have HB2 := Lib.hid hB2; have HO := Lib.hid b3
    clear hbl hw0 h2 b1 b2 b3 hB2
    go_wp2
    go_ret2
    refine ⟨_, rfl, ?_, HB2.out⟩
    rw [← HBS.out]
    exact own_mono HO.out HEX.out.size
  · rw [if_neg h0] at hbs hle
    subst hle hbs
    clear h0 HOKL
    go_enter Tryd.func14, Tryd.ntmps14
    go_wp2_with (refine law_load rfl _ rfl _ rfl _ HLEN.out HB0.out ?_; simp only [Act.put, List.setIfInBounds_toArray, List.set_cons_zero, List.set_cons_succ])
    refine (HCK.out _ (HE0.out.mono hB)).mono ?_
    rintro e w1 ⟨rfl, hb1⟩
    have HEX := Lib.hid (HE0.out.trans (hb1.mono HE0.out.size))
    clear hb1
    go_wp2
    go_ret2
    exact ⟨_, rfl, World.ownsRow_nil _ _ _ _, HEX.out⟩
end Go.Proofs.YtipfhamhiaeieaaDoor
namespace Go.Proofs.YtipfhamhiaeieaaDoor
open Go.RowKit Go.Lib

theorem rout_some {w : World} {g : Nat} {s : Ot} {bs r : List Nat} (h : Rd w g bs) (hr : outR bs = some (s, r)) :
    Calls Tryd.prog 81 #[wptr g] w fun e w' => e = .returned (outV s) ∧ Rd w' g r ∧ Chg [g] w w' ∧ is32 s.clear ∧ ok32 s.set ∧ is32 s.take := by
  have := rout_any w g bs h
  rw [hr] at this
  exact this.mono fun e w' ⟨h1, v, h2, h3, h4⟩ => ⟨by rw [h2, h3.1], h4, h1, h3.2⟩
theorem rout_none {w : World} {g : Nat} {bs : List Nat} (h : Rd w g bs) (hr : outR bs = none) :
    Calls Tryd.prog 81 #[wptr g] w fun e w' => e = .panicked MAL ∧ Chg [g] w w' := by
  have := rout_any w g bs h
  rw [hr] at this
  exact this.mono fun e w' ⟨h1, h2⟩ => ⟨h2, h1⟩
theorem outC_one (ws : List Ot) : ∀ u ∈ ws.flatMap outC, u.oneCell' = true := fun u hu => by
  obtain ⟨r, _, hr⟩ := List.mem_flatMap.1 hu
  simp only [List.mem_cons, List.not_mem_nil, or_false] at hr
  rcases hr with rfl | rfl | rfl | rfl | rfl | rfl <;> rfl
/-- A row of results in new memory. -/
def outsW (B : Nat) (xs : List Ot) (w : World) (v : Value) : Prop := w.ownsRow B 60 6 v xs.length (xs.flatMap outC) ∧ ∀ x ∈ xs, is32 x.clear ∧ ok32 x.set ∧ is32 x.take
set_option maxRecDepth 20000 in
set_option maxHeartbeats 1000000 in
theorem rsomeO_any (w : World) (g : Nat) (bs : List Nat) (h : Rd w g bs) :
    Calls Tryd.prog 80 #[wptr g, .func (.func 81) #[wptr g] #[]] w (RdPost g (outsW w.heap.size) w (someR outR bs)) := by
  obtain ⟨i0, hi, hz0, hz1, hz2⟩ := info_parts (show (Tryd.prog.info? 60).map (fun i => (i.zero, i.size, i.bytes)) = some (some (.agg #[.int .i64 0, .int .u32 0, .int .u32 0, .int .u32 0, .int .u32 0, .int .i64 0]), 6, 32) by kernel_rfl)
  have hgl := h.lt
  unfold someR
  cases hr : countR bs with
  | none =>
    have hc := rcount_none h hr
    rw [thenR_none hr]
    clear h hr
    go_enter Tryd.func80, Tryd.ntmps80
    go_wp2_with fail
    refine hc.mono ?_
    rintro e w1 ⟨rfl, h1⟩
    exact ⟨rfl, h1, rfl⟩
  | some q =>
    obtain ⟨n, r⟩ := q
    have hc := rcount_some h hr
    have hn := countR_le hr
    rw [thenR_some hr]
    obtain ⟨o, ho⟩ : ∃ o, manyR outR n r = o := ⟨_, rfl⟩
    rw [ho]
    have HO := Lib.hid ho
    clear h hr ho
    go_enter Tryd.func80, Tryd.ntmps80
    go_wp2_with fail
    refine hc.mono ?_
    rintro e w1 ⟨rfl, h1, h2⟩
    have hn30 : n ≤ 1073741824 := Nat.le_trans hn h1.bytes
    have H1 := Lib.hid h1; have H2 := Lib.hid h2
    clear h1 h2 hc
    go_wp2
    go_loopw [5, 8] (fun v i wr => ∃ k : Nat, ∃ xs : List Ot, ∃ b : List Nat, k ≤ n ∧ i = .int .i64 k ∧ xs.length = k ∧ wr.ownsRow w.heap.size 60 6 v k (xs.flatMap outC) ∧ (∀ x ∈ xs, is32 x.clear ∧ ok32 x.set ∧ is32 x.take) ∧ preO xs (manyR outR (n - k) b) = o ∧ Rd wr g b ∧ Chg [g] w wr) (fun _ i _ => n - (Lib.intOf i).toNat)
    case atStart => exact ⟨0, [], r, by omega, rfl, rfl, World.ownsRow_nil _ _ _ _, (fun x hx => by cases hx), by rw [preO_nil]; exact HO.out, H1.out, H2.out⟩
    case round =>
      obtain ⟨k, xs, b, hk, rfl, hxl, hown, hoks, hpre, hr, hch⟩ := hrel
      have HOKS := Lib.hid hoks
      clear hoks
      have HXL := Lib.hid hxl; have HOWN := Lib.hid hown; have HR := Lib.hid hr; have HCH := Lib.hid hch
      clear hxl hown hr hch
      by_cases hlt : k < n
      · have hkI : (k : Int) < n := by omega
        rw [show n - k = (n - (k + 1)) + 1 by omega] at hpre
        cases hs : outR b with
        | none =>
          rw [preO_none _ hs] at hpre
          subst hpre
          have hc2 := rout_none HR.out hs
          clear hs
          go_wp2_with fail
          refine hc2.mono ?_
          rintro e w2 ⟨rfl, h3⟩
          exact ⟨rfl, HCH.out.trans h3, rfl⟩
        | some q =>
          obtain ⟨s, b'⟩ := q
          rw [preO_some _ hs] at hpre
          have hc2 := rout_some HR.out hs
          have HP := Lib.hid hpre
          clear hs hpre
          go_wp2_with fail
          refine hc2.mono ?_
          rintro e w2 ⟨rfl, h3, h4, h5⟩
          have HOK5 := Lib.hid h5
          clear h5
          have hown2 := own_chg HOWN.out h4 (fun j hj hm => by
            have := HOWN.out.lt j hj
            simp at hm; omega)
          have hrn := reads_newk w2 60 (outC s) 6 1 rfl
          have H3 := Lib.hid h3; have H4 := Lib.hid h4; have HOWN2 := Lib.hid hown2; have HRN := Lib.hid hrn
          have hsz := HCH.out.size
          have hsz2 := h4.size
          clear h3 h4 hown2 hrn hc2
          go_wp2_with (at_builtin; refine wpList_append_any _ rfl _ _ 29 rfl w.heap.size 60 i0 (.agg #[.int .i64 0, .int .u32 0, .int .u32 0, .int .u32 0, .int .u32 0, .int .i64 0]) 6 32 Tryd.underlying29 hi hz0 hz1 hz2 rfl (by decide) _ _ _ rfl (HOWN2.out.alloc _) _ _ _ _ (outC s) rfl HRN.out (by simp [Value.oneCell']) (by unfold maxLen; omega) (by omega) (by simp; omega) ?_; intro v' w3 hown' hgrow hx'; clear hx')
          have hc3 : Chg [g] w w3 := ((HCH.out.trans H4.out).alloc _).grown hgrow (fun j hj => (HOWN2.out.lt j hj).1)
          have hr3 : Rd w3 g b' := (H3.out.alloc _).grown hgrow (fun j hj => by have := (HOWN2.out.lt j hj).1; omega)
          clear hgrow
          go_roundw
          case rel => exact ⟨k + 1, xs ++ [s], b', by omega, by go_num, by rw [List.length_append, HXL.out]; rfl, by rw [List.flatMap_append]; simpa using hown', (fun x hx => by rcases List.mem_append.1 hx with hx | hx; exact HOKS.out x hx; rw [List.mem_singleton.1 hx]; exact HOK5.out), HP.out, hr3, hc3⟩
          case measure => simp [Lib.intOf]; omega
      · obtain rfl : k = n := by omega
        go_wp2
        go_ret
        rw [Nat.sub_self] at hpre
        have e : o = some (xs, b) := by rw [← hpre]; simp [preO, manyR]
        subst e
        refine ⟨HCH.out, _, rfl, ⟨?_, HOKS.out⟩, HR.out⟩
        rw [HXL.out]; exact HOWN.out
/-- The cells of a law whose parts lie in blocks of S. -/
def LawF (w : World) (S : Nat → Prop) (l : Lw) (cs : List Value) : Prop := ∃ q1 q2 A3 c3 A4 c4, cs = .string l.name :: (q1 ++ (q2 ++ [.slice A3 l.ifs.length c3, .slice A4 l.outs.length c4, .int .i64 l.mode])) ∧ PatF w S l.left q1 ∧ PatF w S l.right q2 ∧
  RowF w S 2 A3 l.ifs.length (l.ifs.flatMap sndC) ∧ RowF w S 6 A4 l.outs.length (l.outs.flatMap outC) ∧ (∀ s ∈ l.ifs, ok32 s) ∧ (∀ x ∈ l.outs, is32 x.clear ∧ ok32 x.set ∧ is32 x.take) ∧ l.ifs.length ≤ maxLen ∧ l.outs.length ≤ maxLen
theorem LawF.keep {w w' : World} {S S' : Nat → Prop} {l : Lw} {cs : List Value} (h : LawF w S l cs) (hs : ∀ b, S b → S' b) (hk : ∀ q : Addr, S q.block → w'.cell? q = w.cell? q) : LawF w' S' l cs := by
  obtain ⟨q1, q2, A3, c3, A4, c4, h1, h2, h3, h4, h5, h6⟩ := h
  exact ⟨q1, q2, A3, c3, A4, c4, h1, h2.keep hs hk _ _, h3.keep hs hk _ _, h4.keep hs hk, h5.keep hs hk, h6⟩
theorem LawF.chg {T : List Nat} {S S' : Nat → Prop} {w w' : World} {l : Lw} {cs : List Value} (h : LawF w S l cs) (hc : Chg T w w') (ht : ∀ b, S b → b < w.heap.size ∧ b ∉ T) (hs : ∀ b, S b → S' b) : LawF w' S' l cs :=
  h.keep hs (fun q hq => by
    unfold World.cell?
    rw [hc.block q.block (ht _ hq).1 (ht _ hq).2])
theorem LawF.toC {w : World} {S : Nat → Prop} {B : Nat} {l : Lw} {cs : List Value} (h : LawF w S l cs) (hs : ∀ b, S b → b < B) : LawC w B l cs := by
  obtain ⟨q1, q2, A3, c3, A4, c4, h1, h2, h3, h4, h5, h6⟩ := h
  exact ⟨q1, q2, A3, c3, A4, c4, h1, h2.toC hs _ _, h3.toC hs _ _, h4.reads hs, h5.reads hs, h6⟩
/-- What reading a law ends in. -/
def LawPost (g : Nat) (w : World) (o : Option (Lw × List Nat)) (e : Ending) (w' : World) : Prop :=
  Chg [g] w w' ∧ match o with
    | some (l, r) => ∃ cs, e = .returned (.agg cs.toArray) ∧ LawF w' (fun b => w.heap.size ≤ b ∧ b < w'.heap.size) l cs ∧ Rd w' g r ∧ l.name.size ≤ 1073741824
    | none => e = .panicked MAL
theorem Blk.free18 {w : World} {g : Nat} {t : TypeId} {a0 a1 a2 a3 a4 a5 a6 a7 a8 a9 a10 a11 a12 a13 a14 a15 a16 a17 : Value} (h : Blk w g t #[a0, a1, a2, a3, a4, a5, a6, a7, a8, a9, a10, a11, a12, a13, a14, a15, a16, a17]) : w.frozen? ⟨g, 0, none⟩ = false ∧ w.frozen? ⟨g, 1, none⟩ = false ∧ w.frozen? ⟨g, 2, none⟩ = false ∧ w.frozen? ⟨g, 3, none⟩ = false ∧ w.frozen? ⟨g, 4, none⟩ = false ∧ w.frozen? ⟨g, 5, none⟩ = false ∧ w.frozen? ⟨g, 6, none⟩ = false ∧ w.frozen? ⟨g, 7, none⟩ = false ∧ w.frozen? ⟨g, 8, none⟩ = false ∧ w.frozen? ⟨g, 9, none⟩ = false ∧ w.frozen? ⟨g, 10, none⟩ = false ∧ w.frozen? ⟨g, 11, none⟩ = false ∧ w.frozen? ⟨g, 12, none⟩ = false ∧ w.frozen? ⟨g, 13, none⟩ = false ∧ w.frozen? ⟨g, 14, none⟩ = false ∧ w.frozen? ⟨g, 15, none⟩ = false ∧ w.frozen? ⟨g, 16, none⟩ = false ∧ w.frozen? ⟨g, 17, none⟩ = false :=
  ⟨h.frozen 0, h.frozen 1, h.frozen 2, h.frozen 3, h.frozen 4, h.frozen 5, h.frozen 6, h.frozen 7, h.frozen 8, h.frozen 9, h.frozen 10, h.frozen 11, h.frozen 12, h.frozen 13, h.frozen 14, h.frozen 15, h.frozen 16, h.frozen 17⟩
theorem LawF.all {w : World} {S : Nat → Prop} {l : Lw} {cs : List Value} (h : LawF w S l cs) : cs.length = 18 ∧ ∀ u ∈ cs, u.oneCell' = true := by
  obtain ⟨q1, q2, A3, c3, A4, c4, rfl, h1, h2, _⟩ := h
  obtain ⟨l1, o1⟩ := h1.one
  obtain ⟨l2, o2⟩ := h2.one
  refine ⟨by simp [l1, l2], fun u hu => ?_⟩
  simp only [List.mem_cons, List.mem_append, List.not_mem_nil, or_false] at hu
  rcases hu with rfl | hu | hu | rfl | rfl | rfl
  · rfl
  · exact o1 u hu
  · exact o2 u hu
  · rfl
  · rfl
  · rfl
theorem Blk.setRow {w : World} {g : Nat} {t : TypeId} {old : Array Value} (h : Blk w g t old) (cs : Array Value) : Blk (w.setRow g cs) g t cs := setRow_heap w g old cs t (0, 0) h
theorem Chg.setRow (w : World) (g : Nat) (cs : Array Value) : Chg [g] w (w.setRow g cs) :=
  ⟨rfl, rfl, rfl, by simp, fun k _ hk => setRow_other w g k cs (by simpa using hk)⟩
/-- A law's store: the whole row. -/
theorem law_store {ops : Array Oper} {rest : List Oper} {o : Oper} {a : Act} {w : World} {Q : Exit → Act → World → Prop} (hgd : o.guard = none) (x y : Operand) (ho : o.op = .store 31 x y)
    (g : Nat) (hx : a.eval x = .pointer (some ⟨g, 0, none⟩)) (cs old : List Value) (hy : a.eval y = .agg cs.toArray) (hlen : cs.length = 18) (h1 : ∀ u ∈ cs, u.oneCell' = true) (hg : Blk w g 31 old.toArray) (hold : old.length = 18)
    (h : wpList Tryd.prog ops Q rest (a.put o.dst undef) (w.setRow g cs.toArray)) : wpList Tryd.prog ops Q (o :: rest) a w :=
  wpList_store_row hgd _ x y ho g cs.toArray hx hy _ old.toArray hg (by rw [law_info, List.size_toArray, hlen]) (by rw [List.size_toArray, List.size_toArray, hlen, hold]) (Array.all_eq_true_iff_forall_mem.2 (fun v hv => h1 v (by simpa using hv))) h
theorem law_results {fn : Func} {p : Tmp} (h : fn.results = #[.cell p 31]) (tmps : Array Value) (w : World) (g : Nat) (cs : List Value) (hp : tmps.getD p undef = .pointer (some ⟨g, 0, none⟩)) (hg : Blk w g 31 cs.toArray) (hlen : cs.length = 18) :
    (results fn tmps).run Tryd.prog w = .ok (.agg cs.toArray) w := by
  obtain ⟨fs, hfs⟩ := law_under
  exact results_cell_row h tmps w g _ cs.toArray (0, 0) _ hp hg hfs rfl (by rw [law_info, List.size_toArray, hlen])
theorem law_run {w : World} {g : Nat} {cs : List Value} (hg : Blk w g 31 cs.toArray) (hlen : cs.length = 18) : (loadVar 31 ⟨g, 0, none⟩).run Tryd.prog w = .ok (.agg cs.toArray) w := by
  obtain ⟨fs, hfs⟩ := law_under
  exact run_loadVar_row w g _ _ cs.toArray (0, 0) _ hg hfs rfl (by rw [law_info, List.size_toArray, hlen])
end Go.Proofs.YtipfhamhiaeieaaDoor
