/-
  layer 43: the program's PutLaw. Conditions: a law that can be read.
-/
import Derived.Test.YtipfhamhiaeieaaDoorZbPkLc
import Derived.Test.YtipfhamhiaeieaaDoorZbai
namespace Go.Proofs.YtipfhamhiaeieaaDoor
open Go.RowKit Go.Lib

theorem outOk_src32 {x : Ot} {k : Nat} (h : oOk k x = true) (hk : k ≤ 4) (h32 : is32 x.clear ∧ ok32 x.set ∧ is32 x.take) : ok32O x := by
  unfold oOk outOk at h
  simp only [Bool.and_eq_true, decide_eq_true_eq] at h
  obtain ⟨⟨h1, h2⟩, _, _, _, h5⟩ := h
  refine ⟨⟨h1, by omega⟩, h32.1, h32.2.1, h32.2.2, ?_⟩
  by_cases ht : x.take = 0
  · rw [if_pos ht, decide_eq_true_eq] at h5; omega
  · rw [if_neg ht, decide_eq_true_eq] at h5; omega
theorem okLaw_of {l : Lw} (h : lawOk l = true) (h32 : ∀ x ∈ l.outs, is32 x.clear ∧ ok32 x.set ∧ is32 x.take) : okLaw l := by
  unfold lawOk at h
  simp only [Bool.and_eq_true, decide_eq_true_eq] at h
  obtain ⟨h1, h2, h3, h4, h5, h6, h7, h8, h9⟩ := h
  unfold okName at h1
  unfold patOk at h2 h3
  simp only [Bool.and_eq_true, decide_eq_true_eq] at h1 h2 h3
  refine ⟨by omega, h2, h3, by omega, by omega, fun x hx => outOk_src32 (List.all_eq_true.1 h9 x hx) h4 (h32 x hx), by omega, by omega⟩
/-- What PutLaw returns. -/
def putL (l : Lw) : List Nat := if lawOk l then lawB l else []

theorem law_len {w : World} {B : Nat} {l : Lw} {cs : List Value} (hl : LawC w B l cs) : cs.length = 18 := by
  obtain ⟨k1, s1, n1, lo1, hi1, A1, m1, c1, k2, s2, n2, lo2, hi2, A2, m2, c2, A3, c3, A4, c4, rfl, -⟩ := hl.form
  rfl
theorem law_s32 {w : World} {B : Nat} {l : Lw} {cs : List Value} (hl : LawC w B l cs) : ∀ x ∈ l.outs, is32 x.clear ∧ ok32 x.set ∧ is32 x.take := by
  obtain ⟨k1, s1, n1, lo1, hi1, A1, m1, c1, k2, s2, n2, lo2, hi2, A2, m2, c2, A3, c3, A4, c4, rfl, -, -, -, -, -, hs4, -, -⟩ := hl.form
  exact hs4
theorem law_info : (Tryd.prog.info? 31).map (·.size) = some 18 := by kernel_rfl
def isS : Option TypeDesc → Bool
  | some (.struct _) => true
  | _ => false
theorem isS.get {d : Option TypeDesc} (h : isS d = true) : ∃ fs, d = some (.struct fs) := by
  cases d with
  | none => cases h
  | some d => cases d <;> first | exact ⟨_, rfl⟩ | cases h
theorem law_isS : isS (Tryd.prog.underlying 31) = true := by kernel_rfl
theorem law_under : ∃ fs, Tryd.prog.underlying 31 = some (.struct fs) := isS.get law_isS
/-- A law's load: the whole row. -/
theorem law_load {ops : Array Oper} {rest : List Oper} {o : Oper} {a : Act} {w : World} {Q : Exit → Act → World → Prop} (hgd : o.guard = none) (x : Operand) (ho : o.op = .load 31 x)
    (g : Nat) (hx : a.eval x = .pointer (some ⟨g, 0, none⟩)) (cs : List Value) (hlen : cs.length = 18) (hg : w.heap[g]? = some (.cells cs.toArray 31 (0, 0)))
    (h : wpList Tryd.prog ops Q rest (a.put o.dst (.agg cs.toArray)) w) : wpList Tryd.prog ops Q (o :: rest) a w := by
  obtain ⟨fs, hfs⟩ := law_under
  exact wpList_load_row hgd _ x ho g hx _ _ _ _ hg hfs rfl (by rw [law_info, List.size_toArray, hlen]) h
set_option maxRecDepth 20000 in
set_option maxHeartbeats 2000000 in
theorem putLaw_any (w : World) (B : Nat) (l : Lw) (cs : List Value) (hl : LawC w B l cs) (hB : B ≤ w.heap.size) (hnm : l.name.size ≤ maxLen) :
    Calls Tryd.prog 14 #[.agg cs.toArray] w (GivesBE w (putL l) (lawE l)) := by
  have hlen := law_len hl
  have hs4 := law_s32 hl
  have hck := fun W hW => lawCheck_any W B l _ (hl.below (hW : Below B w W)) (by have := hW.size; omega) hnm
  have hwl := fun hok W (hW : Below B w W) hB' => wlaw_any (W.alloc (.cells #[.slice none 0 0] 62)) W.heap.size W.heap.size B l _ [] (own_none rfl) ((hl.below hW).below ((Below.refl _ W).alloc hB' _)) hB' hok (by unfold CAP; simp)
  have hbel0 := (Below.refl w.heap.size w).alloc (Nat.le_refl _) (.cells cs.toArray 31)
  have hb0 := Blk.new w 31 cs.toArray
  obtain ⟨bs, hbs⟩ : ∃ bs, putL l = bs := ⟨_, rfl⟩
  obtain ⟨le, hle⟩ : ∃ le, lawE l = le := ⟨_, rfl⟩
  rw [hbs, hle]
  simp only [hle] at hck
  have HCK := Lib.hid hck; have HWL := Lib.hid hwl; have HE0 := Lib.hid hbel0; have HB0 := Lib.hid hb0; have HLEN := Lib.hid hlen
  unfold putL at hbs
  unfold lawE at hle
  have hokL := fun h => okLaw_of (l := l) h hs4
  have HOKL := Lib.hid hokL
  clear hck hwl hbel0 hb0 hl hs4 hokL hlen
  unfold GivesBE
  by_cases h0 : lawOk l = true
  · rw [if_pos h0] at hbs hle
    subst hle
    have hok := HOKL.out h0
    have HBS := Lib.hid hbs; have HOK := Lib.hid hok
    clear hbs hok h0 HOKL
    go_enter Tryd.func14, Tryd.ntmps14
    go_wp2_with (refine law_load rfl _ rfl _ rfl _ HLEN.out HB0.out ?_; simp only [Act.put, List.setIfInBounds_toArray, List.set_cons_zero, List.set_cons_succ])
    refine (HCK.out _ (HE0.out.mono hB)).mono ?_
    rintro e w1 ⟨rfl, hb1⟩
    have hbx := HB0.out.below hb1 HB0.out.lt
    have hex := HE0.out.trans (hb1.mono HE0.out.size)
    have HBX := Lib.hid (hbx.alloc (.cells #[.slice none 0 0] 62))
    have HEX := Lib.hid hex
    clear hb1 hbx hex
    go_wp2_with (refine law_load rfl _ rfl _ rfl _ HLEN.out HBX.out ?_; simp only [Act.put, List.setIfInBounds_toArray, List.set_cons_zero, List.set_cons_succ])
    refine (HWL.out HOK.out w1 (HEX.out.mono hB) (by have := HEX.out.size; omega)).mono ?_
    rintro e w2 ⟨rfl, h1, h2⟩
    have hw0 := own_none (w := w1) rfl
    have hbl := h2.below hw0
    obtain ⟨v, b1, b2, b3⟩ := h1
    have hc0 := b1.cell 0
    simp only [List.getElem?_toArray, List.getElem?_cons_zero] at hc0
    have hB2 : Below w.heap.size w w2 := (HEX.out.alloc HEX.out.size _).trans (hbl.mono HEX.out.size)
    have HB2 := Lib.hid hB2; have HO := Lib.hid b3
    clear hbl hw0 h2 b1 b2 b3 hB2
    go_wp2
    go_ret2
    refine ⟨_, rfl, ?_, HB2.out⟩
    rw [← HBS.out]
    exact own_mono HO.out HEX.out.size
  · rw [if_neg h0] at hbs hle
    subst hle hbs
    clear h0 HOKL
    go_enter Tryd.func14, Tryd.ntmps14
    go_wp2_with (refine law_load rfl _ rfl _ rfl _ HLEN.out HB0.out ?_; simp only [Act.put, List.setIfInBounds_toArray, List.set_cons_zero, List.set_cons_succ])
    refine (HCK.out _ (HE0.out.mono hB)).mono ?_
    rintro e w1 ⟨rfl, hb1⟩
    have HEX := Lib.hid (HE0.out.trans (hb1.mono HE0.out.size))
    clear hb1
    go_wp2
    go_ret2
    exact ⟨_, rfl, World.ownsRow_nil _ _ _ _, HEX.out⟩
end Go.Proofs.YtipfhamhiaeieaaDoor
namespace Go.Proofs.YtipfhamhiaeieaaDoor

theorem strB_sbytes (s : ByteArray) : strB (sbytes s) = s := by
  apply ByteArray.ext
  apply Array.toList_inj.1
  show (((sbytes s).map UInt8.ofNat).toArray).toList = s.data.toList
  unfold sbytes
  rw [List.map_map]
  conv => rhs; rw [← List.map_id s.data.toList]
  exact List.map_congr_left fun u _ => by simp
theorem back_text (s : ByteArray) (r : List Nat) (h : s.size < 4294967296) : textR (textB s ++ r) = some (s, r) := by
  have hl : (sbytes s).length = s.size := by unfold sbytes; rw [List.length_map]; exact Array.length_toList
  unfold textR textB
  rw [List.append_assoc, thenR_some (countR_num h (by rw [List.length_append]; omega))]
  show some (strB ((sbytes s ++ r).take s.size), (sbytes s ++ r).drop s.size) = _
  rw [← hl, List.take_left, List.drop_left, strB_sbytes]
theorem back_out : Back ok32O outB outR := by
  rintro ⟨a, c, s, t, u⟩ r ⟨⟨h1, h2⟩, h3, h4, h5, h6, h7⟩
  simp only at h1 h2 h3 h4 h5 h6 h7
  unfold outR outB
  simp only
  rw [List.append_assoc, thenR_some (readN_num (n := (a + 1).toNat) (by show (a + 1).toNat < 4294967296; omega) _), List.append_assoc, thenR_some (readN_num h3 _), List.append_assoc, thenR_some (back_snd s _ h4), List.append_assoc, thenR_some (readN_num h5 _), thenR_some (readN_num (n := u.toNat) (by show u.toNat < 4294967296; omega) _)]
  rw [show (((a + 1).toNat : Nat) : Int) - 1 = a by omega, show ((u.toNat : Nat) : Int) = u by omega]
theorem out_pos (x : Ot) (_ : ok32O x) : 0 < (outB x).length := by
  unfold outB
  rw [List.length_append]
  have := numB_pos (x.src + 1).toNat
  omega
theorem back_side (p : Pt) (r : List Nat) (h : ptOk p = true) (h32 : pt32 p) (h40 : ptSize p ≤ 40) : sideR (patB p ++ r) = some (p, r) := by
  unfold sideR
  rw [thenR_some (back_pat 41 (by omega) p h h32 40 r h40 (by omega))]
theorem back_law (l : Lw) (r : List Nat) (hok : okLaw l) (hl : pt32 l.left) (hr : pt32 l.right) (hi : ∀ s ∈ l.ifs, ok32 s) : lawR (lawB l ++ r) = some (l, r) := by
  obtain ⟨nm, left, right, ifs, outs, mode⟩ := l
  obtain ⟨hnm, ⟨hpl, hsl⟩, ⟨hpr, hsr⟩, hif, hou, hok4, hmo, hmo2⟩ := hok
  simp only at hnm hpl hsl hpr hsr hif hou hok4 hmo hmo2 hl hr hi
  have ho : someR outR (outsB outs ++ (numB mode.toNat ++ r)) = some (outs, numB mode.toNat ++ r) := back_all back_out out_pos outs _ ⟨by show outs.length < 4294967296; omega, hok4⟩
  unfold lawR lawB
  simp only
  rw [List.append_assoc, thenR_some (back_text nm _ (by omega)), List.append_assoc, thenR_some (back_side left _ hpl hl hsl), List.append_assoc, thenR_some (back_side right _ hpr hr hsr), List.append_assoc, thenR_some (back_word ifs _ ⟨by show ifs.length < 4294967296; omega, hi⟩), List.append_assoc,
    thenR_some ho, thenR_some (readN_num (n := mode.toNat) (by show mode.toNat < 4294967296; omega) _)]
  rw [show ((mode.toNat : Nat) : Int) = mode by omega]
end Go.Proofs.YtipfhamhiaeieaaDoor
namespace Go.Proofs.YtipfhamhiaeieaaDoor

theorem part_text (s : ByteArray) (m : Nat) (h : s.size < 4294967296) (hm : m < (textB s).length) : textR ((textB s).take m) = none := by
  have hl : (sbytes s).length = s.size := by unfold sbytes; rw [List.length_map]; exact Array.length_toList
  unfold textR textB at *
  rw [List.length_append] at hm
  rcases Nat.lt_or_ge m (numB s.size).length with e | e
  · rw [List.take_append_of_le_length (by omega)]
    exact thenR_none (by unfold countR; exact thenR_none (readN_part e))
  · rw [List.take_append, List.take_of_length_le e]
    exact thenR_none (by unfold countR; rw [thenR_some (readN_num h _), if_neg (by rw [List.length_take]; omega)])
theorem part_out : Part ok32O outB outR := by
  rintro ⟨a, c, s, t, u⟩ m ⟨⟨h1, h2⟩, h3, h4, h5, h6, h7⟩ hm
  simp only at h1 h2 h3 h4 h5 h6 h7
  unfold outB at hm ⊢
  unfold outR
  simp only at hm ⊢
  refine part_then (x := (a + 1).toNat) (fun r => readN_num (by show (a + 1).toNat < 4294967296; omega) r) (fun h => readN_part h) (fun q1 g1 => ?_) hm
  refine part_then (x := c) (fun r => readN_num h3 r) (fun h => readN_part h) (fun q2 g2 => ?_) g1
  refine part_then (x := s) (fun r => back_snd s r h4) (fun h => part_snd s _ h4 h) (fun q3 g3 => ?_) g2
  refine part_then (x := t) (fun r => readN_num h5 r) (fun h => readN_part h) (fun q4 g4 => ?_) g3
  exact thenR_none (readN_part g4)
theorem part_side (p : Pt) (m : Nat) (h : ptOk p = true) (h32 : pt32 p) (h40 : ptSize p ≤ 40) (hm : m < (patB p).length) : sideR ((patB p).take m) = none :=
  thenR_none (part_pat 41 (by omega) p h h32 40 m h40 (by omega) hm)
theorem part_law (l : Lw) (m : Nat) (hok : okLaw l) (hl : pt32 l.left) (hr : pt32 l.right) (hi : ∀ s ∈ l.ifs, ok32 s) (hm : m < (lawB l).length) : lawR ((lawB l).take m) = none := by
  obtain ⟨nm, left, right, ifs, outs, mode⟩ := l
  obtain ⟨hnm, ⟨hpl, hsl⟩, ⟨hpr, hsr⟩, hif, hou, hok4, hmo, hmo2⟩ := hok
  simp only at hnm hpl hsl hpr hsr hif hou hok4 hmo hmo2 hl hr hi
  unfold lawB at hm ⊢
  unfold lawR
  simp only at hm ⊢
  have hw : okW ifs := ⟨by show ifs.length < 4294967296; omega, hi⟩
  have ho : is32 outs.length ∧ ∀ x ∈ outs, ok32O x := ⟨by show outs.length < 4294967296; omega, hok4⟩
  refine part_then (x := nm) (fun r => back_text nm r (by omega)) (fun h => part_text nm _ (by omega) h) (fun q1 g1 => ?_) hm
  refine part_then (x := left) (fun r => back_side left r hpl hl hsl) (fun h => part_side left _ hpl hl hsl h) (fun q2 g2 => ?_) g1
  refine part_then (x := right) (fun r => back_side right r hpr hr hsr) (fun h => part_side right _ hpr hr hsr h) (fun q3 g3 => ?_) g2
  refine part_then (x := ifs) (fun r => back_word ifs r hw) (fun h => part_word ifs _ hw h) (fun q4 g4 => ?_) g3
  refine part_then (g := someR outR) (x := outs) (fun r => back_all back_out out_pos outs r ho) (fun h => part_all back_out part_out outs _ ho h) (fun q5 g5 => ?_) g4
  exact thenR_none (readN_part g5)
end Go.Proofs.YtipfhamhiaeieaaDoor
namespace Go.Proofs.YtipfhamhiaeieaaDoor
open Go.RowKit Go.Lib

mutual
theorem PatC.p32 {w : World} {B : Nat} : ∀ (p : Pt) (cs : List Value), PatC w B p cs → pt32 p
  | .mk k s neg lo hi l, cs, h => by
    rw [patC_mk] at h
    obtain ⟨A, c, xs, _, h2, _, _, _, h6⟩ := h
    exact pt32_mk.2 ⟨h2, PatsC.p32 l xs h6⟩
theorem PatsC.p32 {w : World} {B : Nat} : ∀ (l : List Pt) (xs : List Value), PatsC w B l xs → pts32 l
  | [], _, _ => by rw [pts32]; trivial
  | p :: l, xs, h => by
    rw [patsC_cons] at h
    obtain ⟨c1, c2, _, h1, h2⟩ := h
    exact pts32_cons.2 ⟨PatC.p32 p c1 h1, PatsC.p32 l c2 h2⟩
end
/-- What was written is read, and no beginning of it. -/
theorem law_back {w : World} {B : Nat} {l : Lw} {cs : List Value} (h : LawC w B l cs) (hok : lawOk l = true) : (∀ r, lawR (lawB l ++ r) = some (l, r)) ∧ ∀ m, m < (lawB l).length → lawR ((lawB l).take m) = none := by
  have h32 := law_s32 h
  have hl := okLaw_of hok h32
  obtain ⟨q1, q2, A3, c3, A4, c4, _, h1, h2, _, _, h5, _⟩ := h
  exact ⟨fun r => back_law l r hl (h1.p32 _ _) (h2.p32 _ _) h5, fun m hm => part_law l m hl (h1.p32 _ _) (h2.p32 _ _) h5 hm⟩
end Go.Proofs.YtipfhamhiaeieaaDoor
namespace Go.Proofs.YtipfhamhiaeieaaDoor
open Go.RowKit Go.Lib

/-- A row that lies in a block of S. -/
def RowF (w : World) (S : Nat → Prop) (k : Nat) (A : Option Addr) (n : Nat) (xs : List Value) : Prop := xs.length = n * k ∧ (0 < n → ∃ a, A = some a ∧ S a.block ∧ ∀ j u, xs[j]? = some u → w.cell? (a.add j) = some u)
theorem RowF.keep {w w' : World} {S S' : Nat → Prop} {k n : Nat} {A : Option Addr} {xs : List Value} (h : RowF w S k A n xs) (hs : ∀ b, S b → S' b) (hk : ∀ q : Addr, S q.block → w'.cell? q = w.cell? q) : RowF w' S' k A n xs :=
  ⟨h.1, fun hn => by
    obtain ⟨a, e, h1, h2⟩ := h.2 hn
    exact ⟨a, e, hs _ h1, fun j u hu => (hk _ (by rw [block_of_add]; exact h1)).trans (h2 j u hu)⟩⟩
theorem RowF.reads {w : World} {S : Nat → Prop} {B k n : Nat} {A : Option Addr} {xs : List Value} (h : RowF w S k A n xs) (hs : ∀ b, S b → b < B) : Reads w B k A n xs :=
  ⟨h.1, fun hn => by
    obtain ⟨a, e, h1, h2⟩ := h.2 hn
    exact ⟨a, e, hs _ h1, h2⟩⟩
mutual
def PatF (w : World) (S : Nat → Prop) : Pt → List Value → Prop
  | .mk k s neg lo hi l, cs => ∃ A c xs, cs = patL k s neg lo hi (.slice A l.length c) ∧ ok32 s ∧ l.length ≤ c ∧ c ≤ maxLen ∧ RowF w S 7 A l.length xs ∧ PatsF w S l xs
def PatsF (w : World) (S : Nat → Prop) : List Pt → List Value → Prop
  | [], xs => xs = []
  | p :: l, xs => ∃ c1 c2, xs = c1 ++ c2 ∧ PatF w S p c1 ∧ PatsF w S l c2
end
theorem patF_mk {w : World} {S : Nat → Prop} {k : Int} {s : Snd} {neg : Bool} {lo hi : Int} {l : List Pt} {cs : List Value} :
    PatF w S (.mk k s neg lo hi l) cs ↔ ∃ A c xs, cs = patL k s neg lo hi (.slice A l.length c) ∧ ok32 s ∧ l.length ≤ c ∧ c ≤ maxLen ∧ RowF w S 7 A l.length xs ∧ PatsF w S l xs := by rw [PatF]
theorem patsF_nil {w : World} {S : Nat → Prop} {xs : List Value} : PatsF w S [] xs ↔ xs = [] := by rw [PatsF]
theorem patsF_cons {w : World} {S : Nat → Prop} {p : Pt} {l : List Pt} {xs : List Value} : PatsF w S (p :: l) xs ↔ ∃ c1 c2, xs = c1 ++ c2 ∧ PatF w S p c1 ∧ PatsF w S l c2 := by rw [PatsF]
mutual
theorem PatF.keep {w w' : World} {S S' : Nat → Prop} (hs : ∀ b, S b → S' b) (hk : ∀ q : Addr, S q.block → w'.cell? q = w.cell? q) : ∀ (p : Pt) (cs : List Value), PatF w S p cs → PatF w' S' p cs
  | .mk k s neg lo hi l, cs, h => by
    rw [patF_mk] at h ⊢
    obtain ⟨A, c, xs, h1, h2, h3, h4, h5, h6⟩ := h
    exact ⟨A, c, xs, h1, h2, h3, h4, h5.keep hs hk, PatsF.keep hs hk l xs h6⟩
theorem PatsF.keep {w w' : World} {S S' : Nat → Prop} (hs : ∀ b, S b → S' b) (hk : ∀ q : Addr, S q.block → w'.cell? q = w.cell? q) : ∀ (l : List Pt) (xs : List Value), PatsF w S l xs → PatsF w' S' l xs
  | [], xs, h => by rw [patsF_nil] at h ⊢; exact h
  | p :: l, xs, h => by
    rw [patsF_cons] at h ⊢
    obtain ⟨c1, c2, e, h1, h2⟩ := h
    exact ⟨c1, c2, e, PatF.keep hs hk p c1 h1, PatsF.keep hs hk l c2 h2⟩
end
mutual
theorem PatF.toC {w : World} {S : Nat → Prop} {B : Nat} (hs : ∀ b, S b → b < B) : ∀ (p : Pt) (cs : List Value), PatF w S p cs → PatC w B p cs
  | .mk k s neg lo hi l, cs, h => by
    rw [patF_mk] at h
    rw [patC_mk]
    obtain ⟨A, c, xs, h1, h2, h3, h4, h5, h6⟩ := h
    exact ⟨A, c, xs, h1, h2, h3, h4, h5.reads hs, PatsF.toC hs l xs h6⟩
theorem PatsF.toC {w : World} {S : Nat → Prop} {B : Nat} (hs : ∀ b, S b → b < B) : ∀ (l : List Pt) (xs : List Value), PatsF w S l xs → PatsC w B l xs
  | [], xs, h => by rw [patsF_nil] at h; rw [patsC_nil]; exact h
  | p :: l, xs, h => by
    rw [patsF_cons] at h
    rw [patsC_cons]
    obtain ⟨c1, c2, e, h1, h2⟩ := h
    exact ⟨c1, c2, e, PatF.toC hs p c1 h1, PatsF.toC hs l c2 h2⟩
end
theorem PatsF.append {w : World} {S : Nat → Prop} {p : Pt} {c2 : List Value} (h2 : PatF w S p c2) : ∀ (l : List Pt) (c1 : List Value), PatsF w S l c1 → PatsF w S (l ++ [p]) (c1 ++ c2)
  | [], c1, h => by
    rw [patsF_nil] at h
    subst h
    exact patsF_cons.2 ⟨c2, [], by simp, h2, patsF_nil.2 rfl⟩
  | q :: l, c1, h => by
    rw [patsF_cons] at h
    obtain ⟨d1, d2, rfl, k1, k2⟩ := h
    rw [List.cons_append, patsF_cons]
    exact ⟨d1, d2 ++ c2, by rw [List.append_assoc], k1, PatsF.append h2 l d2 k2⟩
theorem PatF.form {w : World} {S : Nat → Prop} {p : Pt} {cs : List Value} (h : PatF w S p cs) : ∃ k s neg lo hi A n c, cs = patL k s neg lo hi (.slice A n c) := by
  obtain ⟨k, s, neg, lo, hi, l⟩ := p
  rw [patF_mk] at h
  obtain ⟨A, c, xs, rfl, _⟩ := h
  exact ⟨k, s, neg, lo, hi, _, _, _, rfl⟩
theorem PatF.one {w : World} {S : Nat → Prop} {p : Pt} {cs : List Value} (h : PatF w S p cs) : cs.length = 7 ∧ ∀ u ∈ cs, u.oneCell' = true := by
  obtain ⟨k, s, neg, lo, hi, A, n, c, rfl⟩ := h.form
  refine ⟨rfl, fun u hu => ?_⟩
  simp only [patL, List.mem_cons, List.not_mem_nil, or_false] at hu
  rcases hu with rfl | rfl | rfl | rfl | rfl | rfl | rfl <;> rfl
/-- A row of one's own. -/
theorem own_rowF {w : World} {base : Nat} {e : TypeId} {size n : Nat} {v : Value} {xs : List Value} (h : w.ownsRow base e size v n xs) : ∃ A c, v = .slice A n c ∧ n ≤ c ∧ c ≤ maxLen ∧ RowF w (fun b => v.ownBlock = some b) size A n xs := by
  obtain ⟨A, c, rfl, h1, h2⟩ := ownsRow_form h
  have hr := Reads.of_own h
  refine ⟨A, c, rfl, h1, h2, hr.1, fun hn => ?_⟩
  obtain ⟨a, rfl, _, h3⟩ := hr.2 hn
  refine ⟨a, rfl, ?_, h3⟩
  rcases h.2 with ⟨h4, h5⟩ | ⟨g, cap, cur, h4, _⟩
  · cases h4
  · injection h4 with h4 _ _
    injection h4 with h4
    subst h4; rfl
/-- A pattern without parts. -/
theorem patF_leaf (w : World) (S : Nat → Prop) (k : Int) (s : Snd) (neg : Bool) (lo hi : Int) (h : ok32 s) : PatF w S (.mk k s neg lo hi []) (patL k s neg lo hi (.slice none 0 0)) :=
  patF_mk.2 ⟨none, 0, [], rfl, h, Nat.le_refl _, by unfold maxLen; omega, ⟨rfl, fun hn => absurd hn (Nat.lt_irrefl _)⟩, patsF_nil.2 rfl⟩
theorem patF_node {w : World} {S : Nat → Prop} {k : Int} {s : Snd} {neg : Bool} {lo hi : Int} {l : List Pt} {base : Nat} {v : Value} {xs : List Value} (h : ok32 s) (ho : w.ownsRow base 27 7 v l.length xs) (hv : ∀ b, v.ownBlock = some b → S b) (hp : PatsF w S l xs) :
    PatF w S (.mk k s neg lo hi l) (patL k s neg lo hi v) := by
  obtain ⟨A, c, rfl, h1, h2, h3⟩ := own_rowF ho
  exact patF_mk.2 ⟨A, c, xs, rfl, h, h1, h2, h3.keep hv (fun _ _ => rfl), hp⟩
end Go.Proofs.YtipfhamhiaeieaaDoor
