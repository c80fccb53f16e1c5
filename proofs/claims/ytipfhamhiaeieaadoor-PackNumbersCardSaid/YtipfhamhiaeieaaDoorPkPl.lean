/-
  layer 43: the program's PutLaw. Conditions: a law that can be read.
-/
import Derived.Test.YtipfhamhiaeieaaDoorPkLc
namespace Go.Proofs.YtipfhamhiaeieaaDoor
open Go.RowKit Go.Lib

theorem outOk_src32 {x : Ot} {k : Nat} (h : oOk k x = true) (hk : k ≤ 4) (h32 : is32 x.clear ∧ ok32 x.set ∧ is32 x.take) : ok32O x := by
  unfold oOk outOk at h
  simp only [Bool.and_eq_true, decide_eq_true_eq] at h
  obtain ⟨⟨h1, h2⟩, _, _, _, h5⟩ := h
  refine ⟨⟨h1, by omega⟩, h32.1, h32.2.1, h32.2.2, ?_⟩
  by_cases ht : x.take = 0
  · rw [if_pos ht, decide_eq_true_eq] at h5; omega
  · rw [if_neg ht, decide_eq_true_eq] at h5; omega
theorem okLaw_of {l : Lw} (h : lawOk l = true) (h32 : ∀ x ∈ l.outs, is32 x.clear ∧ ok32 x.set ∧ is32 x.take) : okLaw l := by
  unfold lawOk at h
  simp only [Bool.and_eq_true, decide_eq_true_eq] at h
  obtain ⟨h1, h2, h3, h4, h5, h6, h7, h8, h9⟩ := h
  unfold okName at h1
  unfold patOk at h2 h3
  simp only [Bool.and_eq_true, decide_eq_true_eq] at h1 h2 h3
  refine ⟨by omega, h2, h3, by omega, by omega, fun x hx => outOk_src32 (List.all_eq_true.1 h9 x hx) h4 (h32 x hx), by omega, by omega⟩
/-- What PutLaw returns. -/
def putL (l : Lw) : List Nat := if lawOk l then lawB l else []

theorem law_len {w : World} {B : Nat} {l : Lw} {cs : List Value} (hl : LawC w B l cs) : cs.length = 18 := by
  obtain ⟨k1, s1, n1, lo1, hi1, A1, m1, c1, k2, s2, n2, lo2, hi2, A2, m2, c2, A3, c3, A4, c4, rfl, -⟩ := hl.form
  rfl
theorem law_s32 {w : World} {B : Nat} {l : Lw} {cs : List Value} (hl : LawC w B l cs) : ∀ x ∈ l.outs, is32 x.clear ∧ ok32 x.set ∧ is32 x.take := by
  obtain ⟨k1, s1, n1, lo1, hi1, A1, m1, c1, k2, s2, n2, lo2, hi2, A2, m2, c2, A3, c3, A4, c4, rfl, -, -, -, -, -, hs4, -, -⟩ := hl.form
  exact hs4
theorem law_info : (Tryd.prog.info? 31).map (·.size) = some 18 := by kernel_rfl
def isS : Option TypeDesc → Bool
  | some (.struct _) => true
  | _ => false
theorem isS.get {d : Option TypeDesc} (h : isS d = true) : ∃ fs, d = some (.struct fs) := by
  cases d with
  | none => cases h
  | some d => cases d <;> first | exact ⟨_, rfl⟩ | cases h
theorem law_isS : isS (Tryd.prog.underlying 31) = true := by kernel_rfl
theorem law_under : ∃ fs, Tryd.prog.underlying 31 = some (.struct fs) := isS.get law_isS
/-- A law's load: the whole row. -/
theorem law_load {ops : Array Oper} {rest : List Oper} {o : Oper} {a : Act} {w : World} {Q : Exit → Act → World → Prop} (hgd : o.guard = none) (x : Operand) (ho : o.op = .load 31 x)
    (g : Nat) (hx : a.eval x = .pointer (some ⟨g, 0, none⟩)) (cs : List Value) (hlen : cs.length = 18) (hg : w.heap[g]? = some (.cells cs.toArray 31 (0, 0)))
    (h : wpList Tryd.prog ops Q rest (a.put o.dst (.agg cs.toArray)) w) : wpList Tryd.prog ops Q (o :: rest) a w := by
  obtain ⟨fs, hfs⟩ := law_under
  exact wpList_load_row hgd _ x ho g hx _ _ _ _ hg hfs rfl (by rw [law_info, List.size_toArray, hlen]) h
set_option maxRecDepth 20000 in
set_option maxHeartbeats 2000000 in
theorem putLaw_any (w : World) (B : Nat) (l : Lw) (cs : List Value) (hl : LawC w B l cs) (hB : B ≤ w.heap.size) (hnm : l.name.size ≤ maxLen) :
    Calls Tryd.prog 14 #[.agg cs.toArray] w (GivesBE w (putL l) (lawE l)) := by
  have hlen := law_len hl
  have hs4 := law_s32 hl
  have hck := fun W hW => lawCheck_any W B l _ (hl.below (hW : Below B w W)) (by have := hW.size; omega) hnm
  have hwl := fun hok W (hW : Below B w W) hB' => wlaw_any (W.alloc (.cells #[.slice none 0 0] 62)) W.heap.size W.heap.size B l _ [] (own_none rfl) ((hl.below hW).below ((Below.refl _ W).alloc hB' _)) hB' hok (by unfold CAP; simp)
  have hbel0 := (Below.refl w.heap.size w).alloc (Nat.le_refl _) (.cells cs.toArray 31)
  have hb0 := Blk.new w 31 cs.toArray
  obtain ⟨bs, hbs⟩ : ∃ bs, putL l = bs := ⟨_, rfl⟩
  obtain ⟨le, hle⟩ : ∃ le, lawE l = le := ⟨_, rfl⟩
  rw [hbs, hle]
  simp only [hle] at hck
  have HCK := Lib.hid hck; have HWL := Lib.hid hwl; have HE0 := Lib.hid hbel0; have HB0 := Lib.hid hb0; have HLEN := Lib.hid hlen
  unfold putL at hbs
  unfold lawE at hle
  have hokL := fun h => okLaw_of (l := l) h hs4
  have HOKL := Lib.hid hokL
  clear hck hwl hbel0 hb0 hl hs4 hokL hlen
  unfold GivesBE
  by_cases h0 : lawOk l = true
  · rw [if_pos h0] at hbs hle
    subst hle
    have hok := HOKL.out h0
    have HBS := Lib.hid hbs; have HOK := Lib.hid hok
    clear hbs hok h0 HOKL
    go_enter Tryd.func14, Tryd.ntmps14
    go_wp2_with (refine law_load rfl _ rfl _ rfl _ HLEN.out HB0.out ?_; simp only [Act.put, List.setIfInBounds_toArray, List.set_cons_zero, List.set_cons_succ])
    refine (HCK.out _ (HE0.out.mono hB)).mono ?_
    rintro e w1 ⟨rfl, hb1⟩
    have hbx := HB0.out.below hb1 HB0.out.lt
    have hex := HE0.out.trans (hb1.mono HE0.out.size)
    have HBX := Lib.hid (hbx.alloc (.cells #[.slice none 0 0] 62))
    have HEX := Lib.hid hex
    clear hb1 hbx hex
    go_wp2_with (refine law_load rfl _ rfl _ rfl _ HLEN.out HBX.out ?_; simp only [Act.put, List.setIfInBounds_toArray, List.set_cons_zero, List.set_cons_succ])
    refine (HWL.out HOK.out w1 (HEX.out.mono hB) (by have := HEX.out.size; omega)).mono ?_
    rintro e w2 ⟨rfl, h1, h2⟩
    have hw0 := own_none (w := w1) rfl
    have hbl := h2.below hw0
    obtain ⟨v, b1, b2, b3⟩ := h1
    have hc0 := b1.cell 0
    simp only [List.getElem?_toArray, List.getElem?_cons_zero] at hc0
    have hB2 : Below w.heap.size w w2 := (HEX.out.alloc HEX.out.size _).trans (hbl.mono HEX.out.size)
    have HB2 := Lib.hid hB2; have HO := Lib.hid b3
    clear hbl hw0 h2 b1 b2 b3 hB2
    go_wp2
    go_ret2
    refine ⟨_, rfl, ?_, HB2.out⟩
    rw [← HBS.out]
    exact own_mono HO.out HEX.out.size
  · rw [if_neg h0] at hbs hle
    subst hle hbs
    clear h0 HOKL
    go_enter Tryd.func14, Tryd.ntmps14
    go_wp2_with (refine law_load rfl _ rfl _ rfl _ HLEN.out HB0.out ?_; simp only [Act.put, List.setIfInBounds_toArray, List.set_cons_zero, List.set_cons_succ])
    refine (HCK.out _ (HE0.out.mono hB)).mono ?_
    rintro e w1 ⟨rfl, hb1⟩
    have HEX := Lib.hid (HE0.out.trans (hb1.mono HE0.out.size))
    clear hb1
    go_wp2
    go_ret2
    exact ⟨_, rfl, World.ownsRow_nil _ _ _ _, HEX.out⟩
end Go.Proofs.YtipfhamhiaeieaaDoor
