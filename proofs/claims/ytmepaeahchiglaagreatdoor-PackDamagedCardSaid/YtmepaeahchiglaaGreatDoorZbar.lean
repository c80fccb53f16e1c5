/-
  layer 4: signs; whether marks have a text. Conditions: texts and marks that can be read.
-/
import Derived.Test.YtmepaeahchiglaaGreatDoorZbae
import Derived.Test.YtmepaeahchiglaaGreatDoorZbNtI7
import Derived.Shelf.Strings.SlTrimAscii
namespace Go.Proofs.YtmepaeahchiglaaGreatDoor
open Go.RowKit Go.Lib

def signsB : ByteArray := ⟨#[58, 39, 34, 126, 94, 95, 61, 96]⟩
theorem trimSigns_any (s : ByteArray) (w : World) (hs : s.size ≤ maxLen) : Calls Tryz.prog 142 #[.string s, .string signsB] w fun e w' => ∃ t : ByteArray, e = .returned (.string t) ∧ (bs t = [] ↔ (bs s).all signC = true) ∧ Below w.heap.size w w' := by
  refine (Any.strings_Trim_laid Tryz.lays160 (by kernel_rfl) s signsB w (by unfold maxLen at hs; exact hs) (by decide) (ascii_of_all (by decide))).mono ?_
  rintro e w' ⟨rfl, hb⟩
  refine ⟨_, rfl, ?_, hb⟩
  show Lib.trimS s.data.toList signsB.data.toList = [] ↔ _
  rw [trim_nil]
  rfl
theorem beq_bs (s t : ByteArray) : (s.toList == t.toList) = decide (bs s = bs t) := by
  rw [ByteArray.toList_eq, ByteArray.toList_eq]
  show (s.data.toList == t.data.toList) = decide (s.data.toList = t.data.toList)
  rw [Bool.eq_iff_iff]
  simp only [beq_iff_eq, decide_eq_true_eq]
theorem beq_nil (s : ByteArray) : (s.toList == []) = decide (bs s = []) := by
  rw [ByteArray.toList_eq]
  show (s.data.toList == []) = decide (s.data.toList = [])
  rw [Bool.eq_iff_iff]
  simp only [beq_iff_eq, decide_eq_true_eq]
set_option maxRecDepth 20000 in
theorem new1_any (w : World) (bx : Nat) (y m : Mk) (hb : Blk w bx 76 #[.string m.text, .int .u32 m.clear, .int .u32 m.set.1, .int .u32 m.set.2]) :
    Calls Tryz.prog 175 #[markV y, wptr bx] w fun e w' => e = .returned (.bool (decide (bs y.text = bs m.text))) ∧ Below w.heap.size w w' := by
  have hl := hb.lt
  have c0 := hb.cell 0
  simp only [List.getElem?_toArray, List.getElem?_cons_zero] at c0
  have hq := beq_bs y.text m.text
  obtain ⟨r, hr⟩ : ∃ r, decide (bs y.text = bs m.text) = r := ⟨_, rfl⟩
  rw [hr] at hq ⊢
  clear hr hb
  go_enter Tryz.func175, Tryz.ntmps175
  go_wp2
  go_ret
  exact ⟨rfl, (Below.refl _ _).alloc (Nat.le_refl _) _⟩
set_option maxRecDepth 20000 in
set_option maxHeartbeats 1000000 in
theorem idxMark_any (A : Option Addr) (n c B : Nat) (ms : List Mk) (w : World) (bx : Nat) (m : Mk) (hr : Reads w B 4 A n (ms.flatMap markC)) (hB : B ≤ w.heap.size) (hn : n ≤ maxLen) (hb : Blk w bx 76 #[.string m.text, .int .u32 m.clear, .int .u32 m.set.1, .int .u32 m.set.2]) :
    Calls Tryz.prog 213 #[.slice A n c, .func (.func 175) #[] #[wptr bx]] w fun e w' => ∃ i : Int, e = .returned (.int .i64 i) ∧ decide (0 ≤ i) = (ms.any fun y => decide (bs y.text = bs m.text)) ∧ Below w.heap.size w w' := by
  unfold maxLen at hn
  have hl := hr.len_of (fun _ => rfl) (by decide)
  subst hl
  have HR := Lib.hid hr; have HB := Lib.hid hb
  have hbl := hb.lt
  clear hr hb
  go_enter Tryz.func213, Tryz.ntmps213
  go_wp2
  go_loopw [8] (fun i wr => ∃ k : Nat, k ≤ ms.length ∧ i = .int .i64 k ∧ ((ms.take k).any fun y => decide (bs y.text = bs m.text)) = false ∧ Below w.heap.size w wr) (fun i _ => ms.length - (RowKit.intOf i).toNat)
  case atStart => exact ⟨0, by omega, rfl, rfl, Below.refl _ _⟩
  case round =>
    obtain ⟨k, hk, rfl, hno, hbw⟩ := hrel
    have HNO := Lib.hid hno; have HBW := Lib.hid hbw
    clear hno hbw
    by_cases hlt : k < ms.length
    · have hkI : (k : Int) < (ms.length : Int) := by omega
      obtain ⟨ad, rfl, had, e0, e1, e2, e3⟩ := mark_cells (HR.out.below (HBW.out.mono hB)) hlt
      have hcall := new1_any wr bx ms[k] m (HB.out.below HBW.out hbl)
      have htk : ((ms.take (k + 1)).any fun y => decide (bs y.text = bs m.text)) = (((ms.take k).any fun y => decide (bs y.text = bs m.text)) || decide (bs ms[k].text = bs m.text)) := by
        rw [List.take_succ_eq_append_getElem hlt, List.any_append]; simp
      have hyes : decide (bs ms[k].text = bs m.text) = true → (ms.any fun y => decide (bs y.text = bs m.text)) = true := fun h => List.any_eq_true.2 ⟨_, List.getElem_mem hlt, h⟩
      generalize ms[k] = y at *
      obtain ⟨r, hr⟩ : ∃ r, decide (bs y.text = bs m.text) = r := ⟨_, rfl⟩
      rw [hr] at hcall htk hyes
      have HC := Lib.hid hcall; have HTK := Lib.hid htk; have HY := Lib.hid hyes
      clear hcall htk hyes hr
      go_wp2_with fail
      refine HC.out.mono ?_
      rintro e w1 ⟨rfl, hb1⟩
      have HB1 := Lib.hid (HBW.out.trans (hb1.mono HBW.out.size))
      clear hb1
      cases r with
      | true =>
        have hyt := HY.out rfl
        have HYT := Lib.hid hyt
        clear HY HTK hyt
        go_wp2
        go_ret
        exact ⟨k, rfl, by rw [HYT.out]; exact decide_eq_true (by omega), HB1.out⟩
      | false =>
        clear HY
        go_wp2
        go_roundw
        case rel => exact ⟨k + 1, by omega, by go_num, by rw [HTK.out, HNO.out]; rfl, HB1.out⟩
        case measure => simp [RowKit.intOf]; omega
    · obtain rfl : k = ms.length := by omega
      have hno := HNO.out
      rw [List.take_length] at hno
      have HN := Lib.hid hno
      clear hno
      go_wp2
      go_ret
      exact ⟨-1, rfl, by rw [HN.out]; decide, HBW.out⟩
set_option maxRecDepth 20000 in
theorem hasMark_any (A : Option Addr) (n c B : Nat) (ms : List Mk) (w : World) (bx : Nat) (m : Mk) (hr : Reads w B 4 A n (ms.flatMap markC)) (hB : B ≤ w.heap.size) (hn : n ≤ maxLen) (hb : Blk w bx 76 #[.string m.text, .int .u32 m.clear, .int .u32 m.set.1, .int .u32 m.set.2]) :
    Calls Tryz.prog 174 #[.slice A n c, .func (.func 175) #[] #[wptr bx]] w fun e w' => e = .returned (.bool (ms.any fun y => decide (bs y.text = bs m.text))) ∧ Below w.heap.size w w' := by
  have hc := idxMark_any A n c B ms w bx m hr hB hn hb
  obtain ⟨r, hr'⟩ : ∃ r, (ms.any fun y => decide (bs y.text = bs m.text)) = r := ⟨_, rfl⟩
  rw [hr'] at hc ⊢
  have HC := Lib.hid hc
  clear hr hb hc hr'
  go_enter Tryz.func174, Tryz.ntmps174
  go_wp2_with fail
  refine HC.out.mono ?_
  rintro e w1 ⟨i, rfl, hi, hb⟩
  subst hi
  have HB := Lib.hid hb
  clear hb
  go_wp2
  go_ret
  exact ⟨rfl, HB.out⟩
end Go.Proofs.YtmepaeahchiglaaGreatDoor
namespace Go.Proofs.YtmepaeahchiglaaGreatDoor
open Go.RowKit Go.Lib

/-- A mark as a caller may give it. -/
def okMk (m : Mk) : Prop := is32 m.clear ∧ ok32 m.set ∧ m.text.size ≤ maxLen
/-- A notation in memory, in blocks of S; at most N texts of sounds were found. -/
def NotN (w : World) (S : Nat → Prop) (g : Nat) (fs : List ByteArray) (L : List Nam) (ms : List Mk) (N : Nat) : Prop := ∃ gi A c bm n f,
  (Blk w g 238 #[wptr gi, .slice A ms.length c, .map (some bm)] ∧ S g) ∧ InvM w (fun b => S b ∧ b ≠ bm) gi fs L ∧
  (w.ownsRow 0 76 4 (.slice A ms.length c) ms.length (ms.flatMap markC) ∧ ∀ b, (Value.slice A ms.length c).ownBlock = some b → S b) ∧
  (MapKS w bm n f ∧ S bm ∧ ∀ s t, f s = some t → bs t = bestS L ms s) ∧ n ≤ N ∧ (∀ m ∈ ms, okMk m) ∧ notK fs.length ms = 0
def NewNPost (w : World) (fs : List ByteArray) (L : List Nam) (ms : List Mk) (e : Ending) (w' : World) : Prop :=
  Below w.heap.size w w' ∧ ((notK fs.length ms = 0 ∧ ∃ g, e = .returned (.tuple #[wptr g, .int .i64 0]) ∧ NotN w' (NewB4 w w') g fs L ms 0) ∨ (notK fs.length ms ≠ 0 ∧ e = .returned (.tuple #[.pointer none, .int .i64 (notK fs.length ms)])))
theorem newN_no {w w' : World} {fs : List ByteArray} {L : List Nam} {ms : List Mk} (x : Int) (hb : Below w.heap.size w w') (h : notK fs.length ms = x) (hx : x ≠ 0) : NewNPost w fs L ms (.returned (.tuple #[.pointer none, .int .i64 x])) w' :=
  ⟨hb, .inr ⟨by rw [h]; exact hx, by rw [h]⟩⟩
abbrev good (n : Nat) (ms : List Mk) (k : Nat) : Prop := ∀ i m, i < k → ms[i]? = some m → markE n (ms.take i) m = 0
/-- The error behind marks that are good. -/
theorem notE_pre {n : Nat} {ms : List Mk} {k : Nat} (hk : k ≤ ms.length) (hg : good n ms k) : notE n [] ms = notE n (ms.take k) (ms.drop k) := by
  induction k with
  | zero => rfl
  | succ k ih =>
    have hlt : k < ms.length := by omega
    rw [ih (by omega) (fun i m h => hg i m (by omega)), List.drop_eq_getElem_cons hlt]
    show (if markE n (ms.take k) ms[k] = 0 then notE n (ms.take k ++ [ms[k]]) (ms.drop (k + 1)) else markE n (ms.take k) ms[k]) = _
    rw [if_pos (hg k _ (by omega) (List.getElem?_eq_getElem hlt)), List.take_succ_eq_append_getElem hlt]
theorem notE_at {n : Nat} {ms : List Mk} {k : Nat} (hk : k < ms.length) (hg : good n ms k) (h : markE n (ms.take k) ms[k] ≠ 0) : notE n [] ms = markE n (ms.take k) ms[k] := by
  rw [notE_pre (by omega) hg, List.drop_eq_getElem_cons hk]
  show (if markE n (ms.take k) ms[k] = 0 then notE n (ms.take k ++ [ms[k]]) (ms.drop (k + 1)) else markE n (ms.take k) ms[k]) = _
  rw [if_neg h]
theorem notE_all {n : Nat} {ms : List Mk} (hg : good n ms ms.length) : notE n [] ms = 0 := by
  rw [notE_pre (Nat.le_refl _) hg, List.drop_length]; rfl
theorem good_next {n : Nat} {ms : List Mk} {k : Nat} (hk : k < ms.length) (hg : good n ms k) (h : markE n (ms.take k) ms[k] = 0) : good n ms (k + 1) := by
  intro i m hi hm
  by_cases e : i = k
  · subst e
    rw [List.getElem?_eq_getElem hk] at hm
    injection hm with hm
    rw [← hm]; exact h
  · exact hg i m (by omega) hm
theorem take_flat4 {α : Type} (f : α → List Value) (c : Nat) (hc : ∀ x, (f x).length = c) (l : List α) (k : Nat) : (l.flatMap f).take (k * c) = (l.take k).flatMap f := by
  induction l generalizing k with
  | nil => simp
  | cons x l ih =>
    cases k with
    | zero => simp
    | succ k =>
      rw [List.flatMap_cons, List.take_succ_cons, List.flatMap_cons, show (k + 1) * c = (f x).length + k * c by rw [hc, Nat.succ_mul, Nat.add_comm], List.take_length_add_append, ih]
theorem not32 {m : Nat} (h : m < 4294967296) : bits .xor .u32 IntKind.u32.max (m : Int) = ((4294967295 - m : Nat) : Int) := by
  have e : IntKind.u32.max = ((4294967295 : Nat) : Int) := by decide
  rw [e, u32_xor_nat _ _ (by decide) h]
  have : 4294967295 ^^^ m = 4294967295 - m := by
    refine Nat.eq_of_testBit_eq fun i => ?_
    have e1 : 4294967295 - m = 2 ^ 32 - (m + 1) := by omega
    have e2 : (4294967295 : Nat) = 2 ^ 32 - 1 := by decide
    rw [e1, Nat.testBit_two_pow_sub_succ h, Nat.testBit_xor, e2, Nat.testBit_two_pow_sub_one]
    by_cases hi : i < 32
    · simp [hi]
    · have hb : m.testBit i = false := Nat.testBit_lt_two_pow (Nat.lt_of_lt_of_le h (Nat.pow_le_pow_right (n := 2) (by decide) (show 32 ≤ i by omega)))
      simp [hi, hb]
  rw [this]
set_option maxRecDepth 20000 in
set_option maxHeartbeats 4000000 in
theorem newN_any (A : Option Addr) (n c B : Nat) (ms : List Mk) {w : World} {S : Nat → Prop} {g : Nat} {fs : List ByteArray} {L : List Nam} (h : InvM w S g fs L) (hr : Reads w B 4 A n (ms.flatMap markC)) (hB : B ≤ w.heap.size) (hn : n ≤ c) (hm : ∀ m ∈ ms, okMk m) :
    Calls Tryz.prog 128 #[wptr g, .slice A n c] w (NewNPost w fs L ms) := by
  have hfl := hr.len_of (fun _ => rfl) (by decide)
  subst hfl
  have hcp := copy_any h
  have hf24 := h.ok.f24
  have HCP := Lib.hid hcp; have HR := Lib.hid hr; have HM := Lib.hid hm
  clear hcp hr hm h
  have hmm := @run_makeMap Tryz.prog
  by_cases h24 : 32 < ms.length
  · have h24I : (32 : Int) < (ms.length : Int) := by omega
    have hE : notK fs.length ms = 12 := by unfold notK; rw [if_pos h24]
    have HE := Lib.hid hE
    clear h24 hE
    go_enter Tryz.func128, Tryz.ntmps128
    go_wp2_with fail
    refine HCP.out.mono ?_
    rintro e w1 ⟨gi, rfl, -, hb⟩
    have HB := Lib.hid hb
    clear hb
    go_wp2
    go_ret2
    exact newN_no 12 HB.out HE.out (by decide)
  have h24I : ¬ (32 : Int) < (ms.length : Int) := by omega
  have hp := pow_int hf24
  have hm : 2 ^ fs.length - 1 < 4294967296 := by have := Nat.pow_le_pow_right (n := 2) (by decide) hf24; omega
  have HMASK := Lib.hid hm
  clear hm
  go_enter Tryz.func128, Tryz.ntmps128
  go_wp2_with fail
  refine HCP.out.mono ?_
  rintro e w1 ⟨gi, rfl, hi, hb⟩
  have HI := Lib.hid hi; have HB := Lib.hid hb
  clear hi hb
  go_wp2_with fail
  refine (feats_any HI.out).mono ?_
  rintro e w2 ⟨v, rfl, ho, hb2⟩
  obtain ⟨A3, c3, rfl, -, -⟩ := ownsRow_form ho
  have hw12 := hb2.size
  have HB2 := Lib.hid (HB.out.trans (hb2.mono HB.out.size)); have HI2 := Lib.hid (HI.out.below hb2)
  clear ho hb2 HI HB
  have hM := fun o (ho : o < 4294967296) => mask0 (o := o) (n := fs.length) ho (by omega)
  have hE : ∀ x, notE fs.length [] ms = x → notK fs.length ms = x := fun x h => by unfold notK; rw [if_neg h24]; exact h
  have hnot := not32 HMASK.out
  have hMl : 4294967295 - (2 ^ fs.length - 1) < 4294967296 := by omega
  obtain ⟨M, hMe⟩ : ∃ M, 4294967295 - (2 ^ fs.length - 1) = M := ⟨_, rfl⟩
  rw [hMe] at hM hnot hMl
  have HE := Lib.hid hE; have HMM := Lib.hid hM; have HML := Lib.hid hMl
  have hR2 := HR.out.below (HB2.out.mono hB)
  have hB2s : B ≤ w2.heap.size := Nat.le_trans hB HB2.out.size
  have HR2 := Lib.hid hR2
  clear hE hM hMl hMe hR2 HMASK h24
  go_wp2
  clear hnot hp
  go_loopw [26] (fun i wr => ∃ k : Nat, k ≤ ms.length ∧ i = .int .i64 k ∧ good fs.length ms k ∧ Below w2.heap.size w2 wr) (fun i _ => ms.length - (RowKit.intOf i).toNat)
  case atStart => exact ⟨0, by omega, rfl, fun i m h => absurd h (by omega), Below.refl _ _⟩
  case round =>
    obtain ⟨k, hk, rfl, hgo, hbw⟩ := hrel
    have HGO := Lib.hid hgo; have HBW := Lib.hid hbw
    clear hgo hbw
    by_cases hlt : k < ms.length
    · have hkI : (k : Int) < (ms.length : Int) := by omega
      obtain ⟨ad, rfl, had, e0, e1, e2, e3⟩ := mark_cells (HR2.out.below (HBW.out.mono hB2s)) hlt
      have hno : ∀ x, markE fs.length (ms.take k) ms[k] = x → x ≠ 0 → notK fs.length ms = x := fun x h hx => HE.out x (by rw [notE_at hlt HGO.out (by rw [h]; exact hx)]; exact h)
      have hyes := good_next hlt HGO.out
      have hpre := (HR2.out.below (HBW.out.mono hB2s)).pre (Nat.le_of_lt hlt)
      rw [take_flat4 markC 4 (fun _ => rfl)] at hpre
      obtain ⟨hc32, hs32, hsz⟩ := HM.out _ (List.getElem_mem hlt)
      generalize ms[k] = y at *
      obtain ⟨text, clear_, set1, set2⟩ := y
      simp only [] at *
      have hmark := fun (h : okMark text = false) => hno 15 (by unfold markE; rw [if_neg (by rw [h]; decide)]) (by decide)
      have H15 := Lib.hid hmark
      have hmkE : okMark text = true → ∀ b1 b2 b3 b4 : Bool, decide (clear_ ||| hasB (set1, set2) < 2 ^ fs.length) = b1 → decide (clear_ &&& hasB (set1, set2) = 0) = b2 → validS (set1, set2) = b3 → ((ms.take k).any fun y => decide (bs y.text = bs text)) = b4 → markE fs.length (ms.take k) ⟨text, clear_, (set1, set2)⟩ = if (b1 && b2 && b3) = true then (if b4 = true then 6 else 0) else 2 := by
        intro h b1 b2 b3 b4 h1 h2 h3 h4
        unfold markE
        simp only []
        rw [if_pos h, h4, h3]
        subst h1; subst h2
        simp only [Bool.and_eq_true, decide_eq_true_eq]
        by_cases h1 : clear_ ||| hasB (set1, set2) < 2 ^ fs.length <;> by_cases h2 : clear_ &&& hasB (set1, set2) = 0 <;> cases b3 <;> simp [h1, h2]
      have HMK := Lib.hid hmkE; have HNO := Lib.hid hno; have HYES := Lib.hid hyes; have HPRE := Lib.hid hpre; have HS := Lib.hid hs32
      clear hmark hmkE hno hyes hpre HGO HM HR HR2 HE
      have hq := beq_nil text
      have htrim := fun W => trimSigns_any text W hsz
      have HT := Lib.hid htrim
      clear htrim
      by_cases hz : text.size = 0
      · have hbz : bs text = [] := List.eq_nil_of_length_eq_zero (by rw [size_bs]; exact hz)
        rw [hbz] at hq
        have hE := H15.out (by unfold okMark consC; rw [decide_eq_false (by omega)]; rfl)
        have HEE := Lib.hid hE
        clear hE hbz
        go_wp2
        go_ret2
        exact newN_no 15 (HB2.out.trans ((HBW.out.alloc (by have := HBW.out.size; omega) _).mono HB2.out.size)) HEE.out (by decide)
      have hbz : ¬ bs text = [] := fun e => hz (by rw [← size_bs, e]; rfl)
      rw [decide_eq_false hbz] at hq
      clear hbz
      by_cases h3 : 3 < text.size
      · have h3I : (3 : Int) < (text.size : Int) := by omega
        have hE := H15.out (by unfold okMark consC; rw [decide_eq_false (show ¬ text.size ≤ 3 by omega)]; simp)
        have HEE := Lib.hid hE
        clear hE
        go_wp2
        go_ret2
        exact newN_no 15 (HB2.out.trans ((HBW.out.alloc (by have := HBW.out.size; omega) _).mono HB2.out.size)) HEE.out (by decide)
      have h3I : ¬ (3 : Int) < (text.size : Int) := by omega
      have hokm : okMark text = (bs text).all signC := by unfold okMark consC; rw [decide_eq_true (show 1 ≤ text.size by omega), decide_eq_true (show text.size ≤ 3 by omega)]; rfl
      have HOKM := Lib.hid hokm
      clear hokm h3 hz
      go_wp2_with fail
      have hbk := Blk.new wr 76 #[.string text, .int .u32 clear_, .int .u32 set1, .int .u32 set2]
      have hsz1 : (wr.alloc (.cells #[.string text, .int .u32 clear_, .int .u32 set1, .int .u32 set2] 76)).heap.size = wr.heap.size + 1 := World.size_alloc _ _
      have hbw1 := HBW.out.alloc (by have := HBW.out.size; omega) (.cells #[.string text, .int .u32 clear_, .int .u32 set1, .int .u32 set2] 76)
      have hpre1 := HPRE.out.below (((Below.refl _ wr).alloc (Nat.le_refl _) (.cells #[.string text, .int .u32 clear_, .int .u32 set1, .int .u32 set2] 76)).mono (Nat.le_trans hB2s HBW.out.size))
      generalize wr.alloc (.cells #[.string text, .int .u32 clear_, .int .u32 set1, .int .u32 set2] 76) = wm at *
      have HPRE1 := Lib.hid hpre1; have HBW1 := Lib.hid hbw1
      refine (HT.out _).mono ?_
      rintro e w3 ⟨t, rfl, ht, hb3⟩
      have hbk3 := hbk.below hb3 (by omega)
      have HBK := Lib.hid hbk3; have HBW3 := Lib.hid (HBW1.out.trans (hb3.mono HBW1.out.size)); have HPRE3 := Lib.hid (HPRE1.out.below (hb3.mono (by have := HBW.out.size; omega)))
      have hqt := beq_nil t
      have hsz3 : wr.heap.size < w3.heap.size := by have := hb3.size; omega
      clear hbk hb3 hpre1 hbw1 e0 e1 e2 e3 hsz1 hq
      have c0 := hbk3.cell 0; have c1 := hbk3.cell 1; have c2 := hbk3.cell 2; have c3' := hbk3.cell 3
      simp only [List.getElem?_toArray, List.getElem?_cons_zero, List.getElem?_cons_succ] at c0 c1 c2 c3'
      clear hbk3
      cases hall : (bs text).all signC with
      | false =>
        have hE := H15.out (by rw [HOKM.out, hall])
        have hbz : ¬ bs t = [] := fun h => by rw [ht.1 h] at hall; cases hall
        rw [decide_eq_false hbz] at hqt
        have HEE := Lib.hid hE
        clear hE hbz ht hall
        go_wp2
        go_ret2
        exact newN_no 15 (HB2.out.trans (HBW3.out.mono HB2.out.size)) HEE.out (by decide)
      | true =>
        rw [decide_eq_true (ht.2 hall)] at hqt
        have hok : okMark text = true := by rw [HOKM.out, hall]
        have hmk := HMK.out hok
        have h1l : set1 < 4294967296 := HS.out.1
        have h2l : set2 < 4294967296 := HS.out.2
        have f1 := u32_or_nat set1 set2 h1l h2l
        have hol : set1 ||| set2 < 4294967296 := Nat.or_lt_two_pow (n := 32) h1l h2l
        have hcl : clear_ < 4294967296 := hc32
        have f2 := u32_or_nat clear_ (set1 ||| set2) hcl hol
        have hpl : clear_ ||| (set1 ||| set2) < 4294967296 := Nat.or_lt_two_pow (n := 32) hcl hol
        have f3 := u32_and_nat (clear_ ||| (set1 ||| set2)) M hpl HML.out
        have f4 := u32_and_nat clear_ (set1 ||| set2) hcl hol
        have hmm2 := HMM.out _ hpl
        have hhb : hasB (set1, set2) = set1 ||| set2 := rfl
        rw [hhb] at hmk
        have hmk2 := hmk (decide ((clear_ ||| (set1 ||| set2)) &&& M = 0)) _ _ _ (decide_eq_decide.2 hmm2.symm) rfl rfl rfl
        clear hmk hmm2 ht hall hok hol hpl h1l h2l hcl hc32 hhb
        have hval := fun W => fvalid_any (set1, set2) W HS.out
        have HV := Lib.hid hval
        clear hval
        generalize (clear_ ||| (set1 ||| set2)) &&& M = q at *
        generalize clear_ &&& (set1 ||| set2) = r at *
        generalize clear_ ||| (set1 ||| set2) = p at *
        generalize set1 ||| set2 = o at *
        generalize validS (set1, set2) = v at *
        by_cases hq0 : q = 0
        case neg =>
          have hqI : ((q : Int) == 0) = false := by rw [beq_eq_false_iff_ne]; omega
          have hE := HNO.out 2 (by rw [hmk2, decide_eq_false hq0]; rfl) (by decide)
          have HEE := Lib.hid hE
          clear hE hmk2
          go_wp2
          go_ret2
          exact newN_no 2 (HB2.out.trans (HBW3.out.mono HB2.out.size)) HEE.out (by decide)
        subst hq0
        by_cases hr0 : r = 0
        case neg =>
          have hrI : ((r : Int) == 0) = false := by rw [beq_eq_false_iff_ne]; omega
          have hE := HNO.out 2 (by rw [hmk2, decide_eq_false hr0]; rfl) (by decide)
          have HEE := Lib.hid hE
          clear hE hmk2
          go_wp2
          go_ret2
          exact newN_no 2 (HB2.out.trans (HBW3.out.mono HB2.out.size)) HEE.out (by decide)
        subst hr0
        cases v with
        | false =>
          have hE := HNO.out 2 (by rw [hmk2]; rfl) (by decide)
          have HEE := Lib.hid hE
          clear hE hmk2
          go_wp2_with fail
          refine (HV.out _).mono ?_
          rintro e w4 ⟨rfl, hb4⟩
          have HBW4 := Lib.hid (HBW3.out.trans (hb4.mono HBW3.out.size))
          clear hb4
          go_wp2
          go_ret2
          exact newN_no 2 (HB2.out.trans (HBW4.out.mono HB2.out.size)) HEE.out (by decide)
        | true =>
          have hmk3 : markE fs.length (ms.take k) ⟨text, clear_, (set1, set2)⟩ = if ((ms.take k).any fun y => decide (bs y.text = bs text)) = true then 6 else 0 := hmk2
          clear hmk2
          go_wp2_with fail
          refine (HV.out _).mono ?_
          rintro e w4 ⟨rfl, hb4⟩
          have hbk4 := HBK.out.below hb4 hsz3
          have hpre4 := HPRE3.out.below (hb4.mono (by have := HBW.out.size; omega))
          have hcont := hasMark_any (some ad) k c B (ms.take k) w4 wr.heap.size ⟨text, clear_, (set1, set2)⟩ hpre4 (by have := HBW.out.size; have := hb4.size; omega) (by unfold maxLen; omega) hbk4
          have HBW4 := Lib.hid (HBW3.out.trans (hb4.mono HBW3.out.size)); have HC := Lib.hid hcont
          have hkc : (k : Int) ≤ (c : Int) := by omega
          have d0 := hbk4.cell 0
          simp only [List.getElem?_toArray, List.getElem?_cons_zero] at d0
          clear hb4 hbk4 hpre4 hcont HPRE HPRE1 HPRE3
          cases hd : (ms.take k).any fun y => decide (bs y.text = bs text) with
          | true =>
            have hE := HNO.out 6 (by rw [hmk3, hd]; rfl) (by decide)
            have hC := HC.out
            simp only [hd] at hC
            have HEE := Lib.hid hE; have HC2 := Lib.hid hC
            clear hE hmk3 hd hC HC
            go_wp2_with fail
            refine HC2.out.mono ?_
            rintro e w5 ⟨rfl, hb5⟩
            have HBW5 := Lib.hid (HBW4.out.trans (hb5.mono HBW4.out.size))
            clear hb5
            go_wp2
            go_ret2
            exact newN_no 6 (HB2.out.trans (HBW5.out.mono HB2.out.size)) HEE.out (by decide)
          | false =>
            have hE := HYES.out (by rw [hmk3, hd]; rfl)
            have hC := HC.out
            simp only [hd] at hC
            have HEE := Lib.hid hE; have HC2 := Lib.hid hC
            clear hE hmk3 hd hC HC
            go_wp2_with fail
            refine HC2.out.mono ?_
            rintro e w5 ⟨rfl, hb5⟩
            have HBW5 := Lib.hid (HBW4.out.trans (hb5.mono HBW4.out.size))
            clear hb5
            go_wp2
            go_roundw
            case rel => exact ⟨k + 1, by omega, by go_num, HEE.out, HBW5.out⟩
            case measure => simp [RowKit.intOf]; omega
    · obtain rfl : k = ms.length := by omega
      have hE0 := HE.out 0 (notE_all HGO.out)
      have HE0 := Lib.hid hE0
      have hir := HI2.out.below HBW.out
      have hrr := HR2.out.below (HBW.out.mono hB2s)
      have hcl := fun W (hb : Below wr.heap.size wr W) => cloneM_any A ms.length c (ms.flatMap markC) W B (hrr.below (hb.mono (Nat.le_trans hB2s HBW.out.size))) (markC_one ms) (Nat.le_trans (Nat.le_trans hB2s HBW.out.size) hb.size) (by omega)
      have HIR := Lib.hid hir; have HCL := Lib.hid hcl
      clear hir hrr hcl hE0 hlt
      go_wp2_with fail
      refine (HCL.out _ (Below.refl _ _)).mono ?_
      rintro e w3 ⟨v, rfl, ho, hb3⟩
      obtain ⟨A4, c4, rfl, hc4, -⟩ := ownsRow_form ho
      have hz1 : (w3.alloc (.map #[] 0)).heap.size = w3.heap.size + 1 := World.size_alloc _ _
      have hba := ((Below.refl _ w3).alloc (Nat.le_refl _) (.map #[] 0)).alloc (by omega) (.cells #[wptr gi, .slice A4 ms.length c4, .map (some w3.heap.size)] 238)
      have hblk := Blk.new (w3.alloc (.map #[] 0)) 238 #[wptr gi, .slice A4 ms.length c4, .map (some w3.heap.size)]
      have hmap := (MapKS.made w3).chgS (ChgS.of_below (S := fun _ => False) ((Below.refl (w3.alloc (.map #[] 0)).heap.size _).alloc (Nat.le_refl _) (.cells #[wptr gi, .slice A4 ms.length c4, .map (some w3.heap.size)] 238))) (fun h => h)
      have hz2 : ((w3.alloc (.map #[] 0)).alloc (.cells #[wptr gi, .slice A4 ms.length c4, .map (some w3.heap.size)] 238)).heap.size = w3.heap.size + 2 := by rw [World.size_alloc, hz1]
      rw [hz1] at hblk
      have hfin : NewNPost w fs L ms (.returned (.tuple #[wptr (w3.heap.size + 1), .int .i64 0])) ((w3.alloc (.map #[] 0)).alloc (.cells #[wptr gi, .slice A4 ms.length c4, .map (some w3.heap.size)] 238)) := by
        generalize (w3.alloc (.map #[] 0)).alloc (.cells #[wptr gi, .slice A4 ms.length c4, .map (some w3.heap.size)] 238) = W at *
        have s1 := HB2.out.size
        have s2 := HBW.out.size
        have s3 := hb3.size
        have hbW := hb3.trans (hba.mono s3)
        have how := own_chgS (S := fun _ => False) ho (.of_below hba) (fun _ _ h => h)
        refine ⟨HB2.out.trans ((HBW.out.trans (hbW.mono s2)).mono s1), .inl ⟨HE0.out, _, rfl, ?_⟩⟩
        refine ⟨gi, A4, c4, w3.heap.size, 0, _, ⟨hblk, by omega, by omega⟩, (HIR.out.below hbW).mono (fun b hb => ⟨⟨hb.1, by have := hb.2; omega⟩, by have := hb.2; omega⟩), ⟨own_mono how (Nat.zero_le _), fun b hb => ?_⟩, ⟨hmap, ⟨by omega, by omega⟩, fun s t h => by cases h⟩, Nat.le_refl _, HM.out, HE0.out⟩
        have := how.lt b hb
        exact ⟨by omega, by omega⟩
      have HFIN := Lib.hid hfin
      clear ho hb3 HCL hz1 hba hblk hmap hz2 hfin
      go_wp2
      go_ret2
      exact HFIN.out
end Go.Proofs.YtmepaeahchiglaaGreatDoor
