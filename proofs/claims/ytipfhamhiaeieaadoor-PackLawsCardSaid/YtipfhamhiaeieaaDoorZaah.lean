/-
  layer 43: the program's PutLaw. Conditions: a law that can be read.
-/
import Derived.Test.YtipfhamhiaeieaaDoorZaPkLc
import Derived.Test.YtipfhamhiaeieaaDoorZaae
import Derived.Laws.IdiomStrings
import Derived.WalkSmall
namespace Go.Proofs.YtipfhamhiaeieaaDoor
open Go.RowKit Go.Lib

theorem outOk_src32 {x : Ot} {k : Nat} (h : oOk k x = true) (hk : k ≤ 4) (h32 : is32 x.clear ∧ ok32 x.set ∧ is32 x.take) : ok32O x := by
  unfold oOk outOk at h
  simp only [Bool.and_eq_true, decide_eq_true_eq] at h
  obtain ⟨⟨h1, h2⟩, _, _, _, h5⟩ := h
  refine ⟨⟨h1, by omega⟩, h32.1, h32.2.1, h32.2.2, ?_⟩
  by_cases ht : x.take = 0
  · rw [if_pos ht, decide_eq_true_eq] at h5; omega
  · rw [if_neg ht, decide_eq_true_eq] at h5; omega
theorem okLaw_of {l : Lw} (h : lawOk l = true) (h32 : ∀ x ∈ l.outs, is32 x.clear ∧ ok32 x.set ∧ is32 x.take) : okLaw l := by
  unfold lawOk at h
  simp only [Bool.and_eq_true, decide_eq_true_eq] at h
  obtain ⟨h1, h2, h3, h4, h5, h6, h7, h8, h9⟩ := h
  unfold okName at h1
  unfold patOk at h2 h3
  simp only [Bool.and_eq_true, decide_eq_true_eq] at h1 h2 h3
  refine ⟨by omega, h2, h3, by omega, by omega, fun x hx => outOk_src32 (List.all_eq_true.1 h9 x hx) h4 (h32 x hx), by omega, by omega⟩
/-- What PutLaw returns. -/
def putL (l : Lw) : List Nat := if lawOk l then lawB l else []

theorem law_len {w : World} {B : Nat} {l : Lw} {cs : List Value} (hl : LawC w B l cs) : cs.length = 18 := by
  obtain ⟨k1, s1, n1, lo1, hi1, A1, m1, c1, k2, s2, n2, lo2, hi2, A2, m2, c2, A3, c3, A4, c4, rfl, -⟩ := hl.form
  rfl
theorem law_s32 {w : World} {B : Nat} {l : Lw} {cs : List Value} (hl : LawC w B l cs) : ∀ x ∈ l.outs, is32 x.clear ∧ ok32 x.set ∧ is32 x.take := by
  obtain ⟨k1, s1, n1, lo1, hi1, A1, m1, c1, k2, s2, n2, lo2, hi2, A2, m2, c2, A3, c3, A4, c4, rfl, -, -, -, -, -, hs4, -, -⟩ := hl.form
  exact hs4
theorem law_info : (Tryd.prog.info? 31).map (·.size) = some 18 := by kernel_rfl
def isS : Option TypeDesc → Bool
  | some (.struct _) => true
  | _ => false
theorem isS.get {d : Option TypeDesc} (h : isS d = true) : ∃ fs, d = some (.struct fs) := by
  cases d with
  | none => cases h
  | some d => cases d <;> first | exact ⟨_, rfl⟩ | cases h
theorem law_isS : isS (Tryd.prog.underlying 31) = true := by kernel_rfl
theorem law_under : ∃ fs, Tryd.prog.underlying 31 = some (.struct fs) := isS.get law_isS
/-- A law's load: the whole row. -/
theorem law_load {ops : Array Oper} {rest : List Oper} {o : Oper} {a : Act} {w : World} {Q : Exit → Act → World → Prop} (hgd : o.guard = none) (x : Operand) (ho : o.op = .load 31 x)
    (g : Nat) (hx : a.eval x = .pointer (some ⟨g, 0, none⟩)) (cs : List Value) (hlen : cs.length = 18) (hg : w.heap[g]? = some (.cells cs.toArray 31 (0, 0)))
    (h : wpList Tryd.prog ops Q rest (a.put o.dst (.agg cs.toArray)) w) : wpList Tryd.prog ops Q (o :: rest) a w := by
  obtain ⟨fs, hfs⟩ := law_under
  exact wpList_load_row hgd _ x ho g hx _ _ _ _ hg hfs rfl (by rw [law_info, List.size_toArray, hlen]) h
set_option maxRecDepth 20000 in
set_option maxHeartbeats 2000000 in
theorem putLaw_any (w : World) (B : Nat) (l : Lw) (cs : List Value) (hl : LawC w B l cs) (hB : B ≤ w.heap.size) (hnm : l.name.size ≤ maxLen) :
    Calls Tryd.prog 14 #[.agg cs.toArray] w (GivesBE w (putL l) (lawE l)) := by
  have hlen := law_len hl
  have hs4 := law_s32 hl
  have hck := fun W hW => lawCheck_any W B l _ (hl.below (hW : Below B w W)) (by have := hW.size; omega) hnm
  have hwl := fun hok W (hW : Below B w W) hB' => wlaw_any (W.alloc (.cells #[.slice none 0 0] 62)) W.heap.size W.heap.size B l _ [] (own_none rfl) ((hl.below hW).below ((Below.refl _ W).alloc hB' _)) hB' hok (by unfold CAP; simp)
  have hbel0 := (Below.refl w.heap.size w).alloc (Nat.le_refl _) (.cells cs.toArray 31)
  have hb0 := Blk.new w 31 cs.toArray
  obtain ⟨bs, hbs⟩ : ∃ bs, putL l = bs := ⟨_, rfl⟩
  obtain ⟨le, hle⟩ : ∃ le, lawE l = le := ⟨_, rfl⟩
  rw [hbs, hle]
  simp only [hle] at hck
  have HCK := Lib.hid hck; have HWL := Lib.hid hwl; have HE0 := Lib.hid hbel0; have HB0 := Lib.hid hb0; have HLEN := Lib.hid hlen
  unfold putL at hbs
  unfold lawE at hle
  have hokL := fun h => okLaw_of (l := l) h hs4
  have HOKL := Lib.hid hokL
  clear hck hwl hbel0 hb0 hl hs4 hokL hlen
  unfold GivesBE
  by_cases h0 : lawOk l = true
  · rw [if_pos h0] at hbs hle
    subst hle
    have hok := HOKL.out h0
    have HBS := Lib.hid hbs; have HOK := Lib.hid hok
    clear hbs hok h0 HOKL
    go_enter Tryd.func14, Tryd.ntmps14
    go_wp2_with (refine law_load rfl _ rfl _ rfl _ HLEN.out HB0.out ?_; simp only [Act.put, List.setIfInBounds_toArray, List.set_cons_zero, List.set_cons_succ])
    refine (HCK.out _ (HE0.out.mono hB)).mono ?_
    rintro e w1 ⟨rfl, hb1⟩
    have hbx := HB0.out.below hb1 HB0.out.lt
    have hex := HE0.out.trans (hb1.mono HE0.out.size)
    have HBX := Lib.hid (hbx.alloc (.cells #[.slice none 0 0] 62))
    have HEX := Lib.hid hex
    clear hb1 hbx hex
    go_wp2_with (refine law_load rfl _ rfl _ rfl _ HLEN.out HBX.out ?_; simp only [Act.put, List.setIfInBounds_toArray, List.set_cons_zero, List.set_cons_succ])
    refine (HWL.out HOK.out w1 (HEX.out.mono hB) (by have := HEX.out.size; omega)).mono ?_
    rintro e w2 ⟨rfl, h1, h2⟩
    have hw0 := own_none (w := w1) rfl
    have hbl := h2.below hw0
    obtain ⟨v, b1, b2, b3⟩ := h1
    have hc0 := b1.cell 0
    simp only [List.getElem?_toArray, List.getElem?_cons_zero] at hc0
    have hB2 : Below w.heap.size w w2 := (HEX.out.alloc HEX.out.size _).trans (hbl.mono HEX.out.size)
    have HB2 := Lib.hid hB2; have HO := Lib.hid b3
    clear hbl hw0 h2 b1 b2 b3 hB2
    go_wp2
    go_ret2
    refine ⟨_, rfl, ?_, HB2.out⟩
    rw [← HBS.out]
    exact own_mono HO.out HEX.out.size
  · rw [if_neg h0] at hbs hle
    subst hle hbs
    clear h0 HOKL
    go_enter Tryd.func14, Tryd.ntmps14
    go_wp2_with (refine law_load rfl _ rfl _ rfl _ HLEN.out HB0.out ?_; simp only [Act.put, List.setIfInBounds_toArray, List.set_cons_zero, List.set_cons_succ])
    refine (HCK.out _ (HE0.out.mono hB)).mono ?_
    rintro e w1 ⟨rfl, hb1⟩
    have HEX := Lib.hid (HE0.out.trans (hb1.mono HE0.out.size))
    clear hb1
    go_wp2
    go_ret2
    exact ⟨_, rfl, World.ownsRow_nil _ _ _ _, HEX.out⟩
end Go.Proofs.YtipfhamhiaeieaaDoor
namespace Go.Proofs.YtipfhamhiaeieaaDoor
open Go.RowKit Go.Lib

/-- The string of some bytes. -/
def strB (bs : List Nat) : ByteArray := ⟨(bs.map UInt8.ofNat).toArray⟩
theorem reads_conv {w : World} {B : Nat} {A : Option Addr} {n c : Nat} {bs : List Nat} (h : Reads w B 1 A n (bs.map bv)) (hb : ∀ b ∈ bs, b < 256) : (convert 35 9 (.slice A n c)).run Tryd.prog w = .ok (.string (strB bs)) w := by
  have hl : (bs.map UInt8.ofNat).length = n := by have := h.1; simpa using this
  rcases Nat.eq_zero_or_pos n with h0 | h0
  · subst h0
    obtain rfl : bs = [] := by
      have := h.1
      simpa using this
    rw [run_convert_bytes_string w 35 9 5 A 0 c Tryd.underlying35 Tryd.underlying5 Tryd.underlying9]
    cases A <;> rfl
  · obtain ⟨ad, rfl, _, hc⟩ := h.2 h0
    rw [← hl]
    refine run_convert_bytes_back (P := Tryd.prog) w 35 9 5 ad c (bs.map UInt8.ofNat) Tryd.underlying35 Tryd.underlying5 Tryd.underlying9 (fun j hj => ?_)
    have hj' : j < bs.length := by simpa using hj
    refine hc j _ ?_
    rw [List.getElem?_map, List.getElem?_eq_getElem hj']
    have := hb _ (List.getElem_mem hj')
    simp [bv, Nat.mod_eq_of_lt this]
theorem strB_inj {a b : List Nat} (ha : ∀ x ∈ a, x < 256) (hb : ∀ x ∈ b, x < 256) (h : strB a = strB b) : a = b := by
  have h' : a.map UInt8.ofNat = b.map UInt8.ofNat := by simpa [strB] using h
  have key : ∀ l : List Nat, (∀ x ∈ l, x < 256) → (l.map UInt8.ofNat).map UInt8.toNat = l := by
    intro l hl
    rw [List.map_map]
    conv => rhs; rw [← List.map_id l]
    exact List.map_congr_left fun x hx => by have := hl x hx; simp [Nat.mod_eq_of_lt this]
  rw [← key a ha, ← key b hb, h']
theorem strB_eq {a b : List Nat} (ha : ∀ x ∈ a, x < 256) (hb : ∀ x ∈ b, x < 256) : ((strB a).toList == (strB b).toList) = decide (a = b) := by
  rcases Decidable.em (a = b) with h | h
  · subst h; simp
  · rw [decide_eq_false h, beq_eq_false_iff_ne]
    intro h'
    exact h (strB_inj ha hb (ByteArray.ext (Array.toList_inj.mp (by rw [← ByteArray.toList_eq, ← ByteArray.toList_eq]; exact h'))))
set_option maxRecDepth 20000 in
theorem bytesEq_any (A A' : Option Addr) (n n' c c' B : Nat) (a b : List Nat) (w : World) (ha : Reads w B 1 A n (a.map bv)) (hb : Reads w B 1 A' n' (b.map bv)) (h1 : ∀ x ∈ a, x < 256) (h2 : ∀ x ∈ b, x < 256) :
    Calls Tryd.prog 16 #[.slice A n c, .slice A' n' c'] w fun e w' => e = .returned (.bool (decide (a = b))) ∧ w = w' := by
  have hc1 := reads_conv (c := c) ha h1
  have hc2 := reads_conv (c := c') hb h2
  have heq := strB_eq h1 h2
  generalize decide (a = b) = r at *
  generalize strB a = x at *
  generalize strB b = y at *
  clear ha hb h1 h2
  go_enter Tryd.func16, Tryd.ntmps16
  go_wp2
  go_ret
  exact ⟨rfl, rfl⟩
theorem snd_ne {s t : Snd} : (((s.1 : Int) == (t.1 : Int)) && ((s.2 : Int) == (t.2 : Int))) = decide (s = t) := by
  rw [Bool.eq_iff_iff]
  simp only [Bool.and_eq_true, beq_iff_eq, decide_eq_true_eq, Prod.ext_iff]
  omega
set_option maxRecDepth 20000 in
set_option maxHeartbeats 1000000 in
theorem refEqual_any (A A' : Option Addr) (n n' c c' B : Nat) (a b : List Snd) (w : World) (ha : Reads w B 2 A n (a.flatMap sndC)) (hb : Reads w B 2 A' n' (b.flatMap sndC)) (hB : B ≤ w.heap.size) (hn : n ≤ maxLen) :
    Calls Tryd.prog 29 #[.slice A n c, .slice A' n' c'] w fun e w' => e = .returned (.bool (decide (a = b))) ∧ w.heap = w'.heap ∧ Below w.heap.size w w' := by
  unfold maxLen at hn
  have hal := ha.len_of (fun _ => rfl) (by decide)
  have hbl := hb.len_of (fun _ => rfl) (by decide)
  obtain ⟨r, hr⟩ : ∃ r, decide (a = b) = r := ⟨_, rfl⟩
  rw [hr]
  have HA := Lib.hid ha; have HB := Lib.hid hb; have HAL := Lib.hid hal; have HBL := Lib.hid hbl; have HR := Lib.hid hr
  clear ha hb hal hbl hr
  by_cases hnn : n = n'
  · subst hnn
    go_enter Tryd.func29, Tryd.ntmps29
    go_wp2
    go_loopw [5] (fun i wr => ∃ k : Nat, k ≤ n ∧ i = .int .i64 k ∧ a.take k = b.take k ∧ w.heap = wr.heap ∧ Below w.heap.size w wr) (fun i _ => n - (Lib.intOf i).toNat)
    case atStart => exact ⟨0, by omega, rfl, rfl, rfl, Below.refl _ _⟩
    case round =>
      obtain ⟨k, hk, rfl, heq, hh, hbw⟩ := hrel
      have HEQ := Lib.hid heq; have HBW := Lib.hid hbw; have HH := Lib.hid hh
      clear heq hbw hh
      by_cases hlt : k < n
      · have hka : k < a.length := by rw [HAL.out]; exact hlt
        have hkb : k < b.length := by rw [HBL.out]; exact hlt
        have hkI : (k : Int) < (n : Int) := by omega
        obtain ⟨ad, rfl, had, hc0, hc1⟩ := snd_cells (HA.out.below (HBW.out.mono hB)) hka
        obtain ⟨ad', rfl, had', hc0', hc1'⟩ := snd_cells (HB.out.below (HBW.out.mono hB)) hkb
        have hT : a.take (k + 1) = b.take (k + 1) ↔ a[k] = b[k] := by
          have e1 := List.take_succ_eq_append_getElem hka
          have e2 := List.take_succ_eq_append_getElem hkb
          rw [e1, e2, HEQ.out]
          exact ⟨fun h => by have := List.append_cancel_left h; simpa using this, fun h => by rw [h]⟩
        have hne : a[k] ≠ b[k] → r = false := fun h => by
          rw [← HR.out, decide_eq_false]
          rintro rfl
          exact h rfl
        generalize a[k] = s at *
        generalize b[k] = t at *
        have HT := Lib.hid hT; have HN := Lib.hid hne
        clear hT hne
        by_cases h1 : s.1 = t.1
        · by_cases h2 : s.2 = t.2
          · have e1 : ((s.1 : Int) == (t.1 : Int)) = true := by rw [h1]; simp
            have e2 : ((s.2 : Int) == (t.2 : Int)) = true := by rw [h2]; simp
            have hst : s = t := Prod.ext h1 h2
            have HST := Lib.hid hst
            clear h1 h2 hst
            go_wp2
            go_region
            go_wp2
            go_roundw
            case rel => exact ⟨k + 1, by omega, by go_num, HT.out.2 HST.out, HH.out, HBW.out.drew⟩
            case measure => simp [Lib.intOf]; omega
          · have e1 : ((s.1 : Int) == (t.1 : Int)) = true := by rw [h1]; simp
            have e2 : ((s.2 : Int) == (t.2 : Int)) = false := by rw [beq_eq_false_iff_ne]; omega
            have hr0 := HN.out (fun h => h2 (by rw [h]))
            subst hr0
            clear h1 h2
            go_wp2
            go_region
            go_wp2
            go_ret
            exact ⟨rfl, HH.out, HBW.out.drew⟩
        · have e1 : ((s.1 : Int) == (t.1 : Int)) = false := by rw [beq_eq_false_iff_ne]; omega
          have hr0 := HN.out (fun h => h1 (by rw [h]))
          subst hr0
          clear h1
          go_wp2
          go_region
          go_wp2
          go_ret
          exact ⟨rfl, HH.out, HBW.out.drew⟩
      · obtain rfl : k = n := by omega
        have hr1 : r = true := by
          rw [← HR.out, decide_eq_true_eq]
          have h := HEQ.out
          rw [List.take_of_length_le (by rw [HAL.out]; exact Nat.le_refl _), List.take_of_length_le (by rw [HBL.out]; exact Nat.le_refl _)] at h
          exact h
        subst hr1
        go_wp2
        go_ret
        exact ⟨rfl, HH.out, HBW.out⟩
  · have hr0 : r = false := by
      rw [← HR.out, decide_eq_false]
      rintro rfl
      exact hnn (HAL.out.symm.trans HBL.out)
    subst hr0
    have hnI : ((n : Int) != (n' : Int)) = true := by rw [bne_iff_ne]; omega
    go_enter Tryd.func29, Tryd.ntmps29
    go_wp2
    go_ret
    exact ⟨rfl, rfl, Below.refl _ _⟩
end Go.Proofs.YtipfhamhiaeieaaDoor
namespace Go.Proofs.YtipfhamhiaeieaaDoor
open Go.RowKit Go.Lib

/-- All blocks but those of S are as they were. -/
structure Chg (S : List Nat) (w w' : World) : Prop where
  os : w'.os = w.os
  tape : w'.tape = w.tape
  output : w'.output = w.output
  size : w.heap.size ≤ w'.heap.size
  block : ∀ k, k < w.heap.size → k ∉ S → w'.heap[k]? = w.heap[k]?
theorem Chg.refl (S : List Nat) (w : World) : Chg S w w := ⟨rfl, rfl, rfl, Nat.le_refl _, fun _ _ _ => rfl⟩
section
variable {S : List Nat} {a w w' : World}
theorem Chg.trans (h : Chg S a w) (k : Chg S w w') : Chg S a w' :=
  ⟨k.os.trans h.os, k.tape.trans h.tape, k.output.trans h.output, Nat.le_trans h.size k.size, fun i hi hs => (k.block i (Nat.lt_of_lt_of_le hi h.size) hs).trans (h.block i hi hs)⟩
theorem Chg.mono {T : List Nat} (h : Chg S a w) (hs : ∀ k ∈ S, k ∈ T) : Chg T a w := ⟨h.os, h.tape, h.output, h.size, fun k hk hn => h.block k hk (fun hm => hn (hs k hm))⟩
theorem Chg.alloc (h : Chg S a w) (o : Obj) : Chg S a (w.alloc o) :=
  h.trans ⟨rfl, rfl, rfl, by simp, fun _ hk _ => Below.heap_alloc _ _ _ hk⟩
theorem Chg.drew (h : Chg S a w) : Chg S a w.drew := ⟨h.os, h.tape, h.output, h.size, h.block⟩
theorem Chg.setCell (h : Chg S a w) {p : Addr} (hp : p.block ∈ S ∨ a.heap.size ≤ p.block) (u : Value) : Chg S a (w.setCell p u) :=
  ⟨h.os, h.tape, h.output, by have := h.size; simpa [World.setCell] using this, fun k hk hs => (Below.heap_setCell _ _ _ _ (by
    rintro rfl
    rcases hp with hp | hp
    · exact hs hp
    · omega)).trans (h.block k hk hs)⟩
theorem Chg.of_below (h : Below w.heap.size w w') : Chg S w w' := ⟨h.os, h.tape, h.output, h.size, fun k hk _ => h.block k hk⟩
/-- What was changed there is new. -/
theorem Chg.new (h : Chg S a w) {T : List Nat} (k : Chg T w w') (hT : ∀ i ∈ T, i ∈ S ∨ a.heap.size ≤ i) : Chg S a w' :=
  ⟨k.os.trans h.os, k.tape.trans h.tape, k.output.trans h.output, Nat.le_trans h.size k.size, fun i hi hs => (k.block i (Nat.lt_of_lt_of_le hi h.size) (fun hm => by
    rcases hT i hm with h1 | h1
    · exact hs h1
    · omega)).trans (h.block i hi hs)⟩
theorem Chg.below {B : Nat} (h : Chg S w w') (hB : ∀ i ∈ S, B ≤ i) (hw : B ≤ w.heap.size) : Below B w w' :=
  ⟨h.os, h.tape, h.output, h.size, fun k hk => h.block k (by omega) (fun hm => by have := hB k hm; omega)⟩
theorem Blk.chg {g : Nat} {t : TypeId} {cs : Array Value} (h : Blk w g t cs) (hc : Chg S w w') (hg : g ∉ S) : Blk w' g t cs := (hc.block g h.lt hg).trans h
theorem own_chg {base : Nat} {e : TypeId} {size n : Nat} {v : Value} {xs : List Value} (h : w.ownsRow base e size v n xs) (hc : Chg S w w') (hs : ∀ k, v.ownBlock = some k → k ∉ S) : w'.ownsRow base e size v n xs := by
  rcases h.2 with ⟨rfl, rfl⟩ | ⟨g, cap, cur, rfl, h1, h2, h3⟩
  · exact ⟨h.1, .inl ⟨rfl, rfl⟩⟩
  · have hg : g < w.heap.size := (h.lt g rfl).2
    exact ⟨h.1, .inr ⟨g, cap, cur, rfl, h1, (hc.block g hg (hs g rfl)).trans h2, h3⟩⟩
end
def RT : Nat := 106
/-- The bytes that are left, behind a reader's pointer. -/
def Rd (w : World) (g : Nat) (bs : List Nat) : Prop :=
  ∃ A c, Blk w g 106 #[.slice A bs.length c] ∧ Reads w g 1 A bs.length (bs.map bv) ∧ bs.length ≤ c ∧ c ≤ maxLen ∧ bs.length ≤ 1073741824 ∧ ∀ b ∈ bs, b < 256
theorem Rd.lt {w : World} {g : Nat} {bs : List Nat} (h : Rd w g bs) : g < w.heap.size := by
  obtain ⟨A, c, h, _⟩ := h; exact h.lt
theorem Rd.alloc {w : World} {g : Nat} {bs : List Nat} (h : Rd w g bs) (o : Obj) : Rd (w.alloc o) g bs := by
  obtain ⟨A, c, h1, h2, h3⟩ := h
  exact ⟨A, c, h1.alloc o, h2.alloc (Nat.le_of_lt h1.lt) o, h3⟩
theorem Rd.chg {w w' : World} {g : Nat} {bs : List Nat} {S : List Nat} (h : Rd w g bs) (hc : Chg S w w') (hs : ∀ k ∈ S, g < k) : Rd w' g bs := by
  obtain ⟨A, c, h1, h2, h3⟩ := h
  have hl := h1.lt
  exact ⟨A, c, h1.chg hc (fun hm => Nat.lt_irrefl _ (hs g hm)), h2.below (hc.below (fun i hi => Nat.le_of_lt (hs i hi)) (by omega)), h3⟩
/-- What is behind the first k bytes. -/
theorem cut_at (A : Option Addr) (n c k : Nat) (hk : k ≤ n) (hn : n ≤ c) : ∃ A1, (∀ W : World, (Instr.slice 35 (.slice A n c) (some (.int .i64 k)) none none).run Tryd.prog W = .ok (.slice A1 (n - k) (c - k)) W) ∧
    ∀ (W : World) (B : Nat) (xs : List Value), Reads W B 1 A n xs → Reads W B 1 A1 (n - k) (xs.drop k) := by
  refine ⟨if c = k then A else A.map (·.add (k * 1)), fun W => ?_, fun W B xs hr => by simpa using hr.cut (k := k) (cap := c) hk hn⟩
  obtain ⟨i0, hi, hz0, hz1, hz2⟩ := info_parts (show (Tryd.prog.info? 5).map (fun i => (i.zero, i.size, i.bytes)) = some (some (.int .u8 0), 1, 1) by kernel_rfl)
  have he : Tryd.prog.elem 35 = 5 := by kernel_rfl
  have hs : (sizeOf 5).run Tryd.prog W = .ok 1 W := by simp [sizeOf, typeInfo, hi, hz1]
  rw [run_slice_l W 35 A n c (by rw [he]; exact Tryd.underlying35) .i64 k (by omega) (by omega), he, hs]
  simp only [Result.andThen, sliced, Int.toNat_natCast]
theorem cut_one (ad : Addr) (m c : Nat) (h : m + 1 ≤ c) : ∃ A1, (∀ W : World, (Instr.slice 35 (.slice (some ad) (m + 1) c) (some (.int .i64 1)) none none).run Tryd.prog W = .ok (.slice A1 m (c - 1)) W) ∧
    ∀ (W : World) (B : Nat) (x : Value) (xs : List Value), Reads W B 1 (some ad) (m + 1) (x :: xs) → Reads W B 1 A1 m xs := by
  obtain ⟨A1, h1, h2⟩ := cut_at (some ad) (m + 1) c 1 (by omega) h
  exact ⟨A1, h1, fun W B x xs hr => h2 W B _ hr⟩
theorem or_step {acc k b T : Nat} (ha : acc < 128 ^ k) (hT : acc + 128 ^ k * (b % 128) = T) (hb : b < 256) (hT35 : T < 34359738368) :
    bits .or .u64 (acc : Int) (IntKind.u64.wrap (IntKind.u64.wrap (bits .and .u8 (b : Int) 127) * 2 ^ (7 * k))) = (T : Int) := by
  have h1 : bits .and .u8 (b : Int) 127 = ((b % 128 : Nat) : Int) := by
    have := u8_and_nat b 127 hb (by decide)
    rw [show b &&& 127 = b % 128 from Nat.and_two_pow_sub_one_eq_mod b 7] at this
    exact this
  have hp : (128 : Nat) ^ k = 2 ^ (7 * k) := by rw [Nat.pow_mul]
  have hle : 128 ^ k * (b % 128) ≤ T := by omega
  have h2 : IntKind.u64.wrap ((b % 128 : Nat) : Int) = ((b % 128 : Nat) : Int) := IntWalk.u64_in _ (by omega)
  have h3 : ((b % 128 : Nat) : Int) * 2 ^ (7 * k) = ((128 ^ k * (b % 128) : Nat) : Int) := by
    rw [hp, Nat.mul_comm (2 ^ (7 * k))]; simp
  have h4 : IntKind.u64.wrap ((128 ^ k * (b % 128) : Nat) : Int) = ((128 ^ k * (b % 128) : Nat) : Int) := IntWalk.u64_in _ (by omega)
  rw [h1, h2, h3, h4, u64_or_nat acc _ (by omega) (by omega)]
  have h5 : acc ||| 128 ^ k * (b % 128) = T := by
    rw [Nat.or_comm, hp, ← Nat.two_pow_add_eq_or_of_lt (by rw [← hp]; exact ha), ← hp]; omega
  rw [h5]
/-- What a reader panics with. -/
abbrev MAL : List PanicEntry := [{ v := .iface 103 (.agg #[]), recovered := false }]
/-- What reading ends in: a value, and the bytes behind it, or a panic; all blocks but the reader's are as they were. -/
def RdPost {α : Type} (g : Nat) (val : α → World → Value → Prop) (w : World) (o : Option (α × List Nat)) (e : Ending) (w' : World) : Prop :=
  Chg [g] w w' ∧ match o with
    | some (x, r) => ∃ v, e = .returned v ∧ val x w' v ∧ Rd w' g r
    | none => e = .panicked MAL
section
variable {k acc b : Nat} {l : List Nat}
theorem readK_zero : readK 0 k acc l = none := rfl
theorem readK_nil (hk : k < 5) : readK (5 - k) k acc [] = none := by
  rw [show 5 - k = (4 - k) + 1 by omega]; rfl
theorem readK_cons (hk : k < 5) : readK (5 - k) k acc (b :: l) = if 128 ≤ b then readK (5 - (k + 1)) (k + 1) (acc + 128 ^ k * (b % 128)) l else if (b = 0 ∧ 0 < k) ∨ 4294967296 ≤ acc + 128 ^ k * b then none else some (acc + 128 ^ k * b, l) := by
  rw [show 5 - k = (4 - k) + 1 by omega, show 5 - (k + 1) = 4 - k by omega]; rfl
end
theorem rd_set {w : World} {g b c c1 : Nat} {bs : List Nat} {A A1 : Option Addr} (h1 : Blk w g 106 #[.slice A (b :: bs).length c]) (hr : Reads w g 1 A1 bs.length (bs.map bv)) (h2 : bs.length ≤ c1) (h3 : c1 ≤ maxLen) (h6 : bs.length ≤ 1073741824) (h4 : ∀ x ∈ bs, x < 256) : Rd (w.setCell ⟨g, 0, none⟩ (.slice A1 bs.length c1)) g bs :=
  ⟨A1, c1, by simpa using h1.set_ 0 (.slice A1 bs.length c1), hr.setCell (Nat.le_refl _) _, h2, h3, h6, h4⟩
set_option maxRecDepth 20000 in
set_option maxHeartbeats 4000000 in
theorem rnum_any (w : World) (g : Nat) (bs : List Nat) (h : Rd w g bs) :
    Calls Tryd.prog 76 #[wptr g] w (RdPost g (fun (n : Nat) _ v => v = .int .u32 n) w (readN bs)) := by
  have HH := Lib.hid h
  clear h
  obtain ⟨o, ho⟩ : ∃ o, readN bs = o := ⟨_, rfl⟩
  rw [ho]
  have HO := Lib.hid ho
  clear ho
  go_enter Tryd.func76, Tryd.ntmps76
  go_wp2
  go_loopw [3, 6] (fun a i wr => ∃ k acc : Nat, ∃ bs' : List Nat, k ≤ 5 ∧ i = .int .i64 k ∧ a = .int .u64 acc ∧ acc < 128 ^ k ∧ readK (5 - k) k acc bs' = o ∧ Rd wr g bs' ∧ Chg [g] w wr) (fun _ i _ => 5 - (Lib.intOf i).toNat)
  case atStart => exact ⟨0, 0, bs, by omega, rfl, rfl, by decide, HO.out, HH.out, Chg.refl _ _⟩
  case round =>
    obtain ⟨k, acc, bs', hk, rfl, rfl, hacc, hrd, hr, hch⟩ := hrel
    obtain ⟨A, c, h1, h2, h3, h4, h6, h5⟩ := id hr
    have HRD := Lib.hid hrd; have HR := Lib.hid hr; have HCH := Lib.hid hch; have HACC := Lib.hid hacc; have H1 := Lib.hid h1; have H2 := Lib.hid h2; have H5 := Lib.hid h5; have H4 := Lib.hid h4
    have hc0 := h1.cell 0
    have hf0 := h1.frozen 0
    have hgl := h1.lt
    simp only [List.getElem?_toArray, List.getElem?_cons_zero] at hc0
    clear hrd hr hch hacc h2 h5 h1
    unfold maxLen at h4
    by_cases hlt : k < 5
    · have hkI : (k : Int) < 5 := by omega
      cases bs' with
      | nil =>
        have e := HRD.out
        rw [readK_nil hlt] at e
        subst e
        simp only [List.length_nil] at *
        go_wp2
        exact ⟨rfl, HCH.out, rfl⟩
      | cons b bs' =>
        have h2 := H2.out
        obtain ⟨ad, rfl, had, hcell⟩ := h2.2 (by simp)
        have hb0 : wr.cell? ad = some (bv b) := by have := hcell 0 _ rfl; simpa [Addr.add] using this
        obtain ⟨A1, hcut, hcr⟩ := cut_one ad bs'.length c (by simpa using h3)
        have hbb := H5.out b (List.mem_cons_self ..)
        have hrest := fun x hx => H5.out x (List.mem_cons_of_mem b hx)
        have hset : Rd (wr.setCell ⟨g, 0, none⟩ (.slice A1 bs'.length (c - 1))) g bs' := rd_set H1.out (hcr wr g _ _ (by simpa using h2)) (by simp only [List.length_cons] at h3; omega) (by have := H4.out; omega) (by simp only [List.length_cons] at h6; omega) hrest
        have hchs := HCH.out.setCell (p := ⟨g, 0, none⟩) (.inl (by simp)) (.slice A1 bs'.length (c - 1))
        have e := HRD.out
        rw [readK_cons hlt] at e
        obtain ⟨T, hT⟩ : ∃ T : Nat, acc + 128 ^ k * (b % 128) = T := ⟨_, rfl⟩
        have hTk : T < 128 ^ (k + 1) := by
          have h128 : 128 ^ k * (b % 128) ≤ 128 ^ k * 127 := Nat.mul_le_mul_left _ (by omega)
          have := HACC.out
          rw [← hT, Nat.pow_succ]; omega
        have hT35 : T < 34359738368 := Nat.lt_of_lt_of_le hTk (by
          have : 128 ^ (k + 1) ≤ 128 ^ 5 := Nat.pow_le_pow_right (by decide) (by omega)
          exact this)
        have hor := or_step (k := k) (b := b) HACC.out hT hbb hT35
        rw [hT] at e
        have HTK := Lib.hid hTk; have HSET := Lib.hid hset; have HCHS := Lib.hid hchs
        simp only [List.length_cons] at *
        clear hcr hcell h2 hTk hset hchs hrest
        by_cases h128 : 128 ≤ b
        · have h128I : (128 : Int) ≤ b := by omega
          rw [if_pos h128] at e
          have HE := Lib.hid e
          clear e hT
          go_wp2
          go_roundw
          case rel => exact ⟨k + 1, T, bs', by omega, by go_num, rfl, HTK.out, HE.out, HSET.out, HCHS.out⟩
          case measure => simp [Lib.intOf]; omega
        · have h128I : ¬ (128 : Int) ≤ b := by omega
          rw [if_neg h128] at e
          have hTe : acc + 128 ^ k * b = T := by rw [← hT, Nat.mod_eq_of_lt (by omega)]
          rw [hTe] at e
          clear hT hTe
          by_cases hz : b = 0 ∧ 0 < k
          · have hz0 : ((b : Int) == 0) = true := by rw [beq_iff_eq]; omega
            have hkI0 : (0 : Int) < k := by omega
            rw [if_pos (.inl hz)] at e
            subst e
            clear hz
            go_wp2
            exact ⟨rfl, HCHS.out, rfl⟩
          · by_cases hbig : 4294967296 ≤ T
            · have hbI : ((T : Int) / 4294967296 != 0) = true := by rw [bne_iff_ne]; omega
              rw [if_pos (.inr hbig)] at e
              subst e
              by_cases hb0' : b = 0
              · have hz0 : ((b : Int) == 0) = true := by rw [beq_iff_eq]; omega
                have hkI0 : ¬ (0 : Int) < k := by omega
                clear hz hb0'
                go_wp2
                exact ⟨rfl, HCHS.out, rfl⟩
              · have hz0 : ((b : Int) == 0) = false := by rw [beq_eq_false_iff_ne]; omega
                clear hz hb0'
                go_wp2
                exact ⟨rfl, HCHS.out, rfl⟩
            · have hbI : ((T : Int) / 4294967296 != 0) = false := by rw [bne_eq_false_iff_eq]; omega
              have hmod : (T : Int) % 4294967296 = T := by omega
              rw [if_neg (by omega)] at e
              subst e
              by_cases hb0' : b = 0
              · have hz0 : ((b : Int) == 0) = true := by rw [beq_iff_eq]; omega
                have hkI0 : ¬ (0 : Int) < k := by omega
                clear hz hb0'
                go_wp2
                go_ret
                exact ⟨HCHS.out, _, rfl, rfl, HSET.out⟩
              · have hz0 : ((b : Int) == 0) = false := by rw [beq_eq_false_iff_ne]; omega
                clear hz hb0'
                go_wp2
                go_ret
                exact ⟨HCHS.out, _, rfl, rfl, HSET.out⟩
    · obtain rfl : k = 5 := by omega
      have e := HRD.out
      rw [show readK (5 - 5) 5 acc bs' = none from rfl] at e
      subst e
      go_wp2
      exact ⟨rfl, HCH.out, rfl⟩
end Go.Proofs.YtipfhamhiaeieaaDoor
