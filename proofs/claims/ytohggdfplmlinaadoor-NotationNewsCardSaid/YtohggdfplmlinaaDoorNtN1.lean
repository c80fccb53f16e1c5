/-
  layer 4: signs; whether marks have a text. Conditions: texts and marks that can be read.
-/
import Derived.Test.YtohggdfplmlinaaDoorNtI7
import Derived.Shelf.Strings.SlTrimAscii
namespace Go.Proofs.YtohggdfplmlinaaDoor
open Go.RowKit Go.Lib

def signsB : ByteArray := ⟨#[58, 39, 34, 126, 94, 95, 61, 96]⟩
theorem dropWhile_nil {α : Type} (p : α → Bool) (l : List α) : l.dropWhile p = [] ↔ l.all p = true := by
  induction l with
  | nil => simp
  | cons x l ih =>
    rw [List.dropWhile_cons]
    cases h : p x <;> simp [h, ih]
theorem all_takeWhile {α : Type} (p : α → Bool) (l : List α) : (l.takeWhile p).all p = true := by
  induction l with
  | nil => rfl
  | cons x l ih =>
    rw [List.takeWhile_cons]
    cases h : p x
    · simp
    · simp only [if_true, List.all_cons, h, Bool.true_and]; exact ih
theorem trim_nil (l cs : List UInt8) : Lib.trimS l cs = [] ↔ l.all (fun b => cs.contains b) = true := by
  unfold Lib.trimS Lib.trimRightS Lib.trimLeftS
  rw [dropWhile_nil, List.all_reverse]
  have h3 := List.takeWhile_append_dropWhile (p := fun b => cs.contains b) (l := l.reverse)
  have h4 := all_takeWhile (fun b => cs.contains b) l.reverse
  constructor
  · intro h
    have : (l.reverse).all (fun b => cs.contains b) = true := by rw [← h3, List.all_append, h4, h]; rfl
    rwa [List.all_reverse] at this
  · intro h
    have : (l.reverse).all (fun b => cs.contains b) = true := by rw [List.all_reverse]; exact h
    rw [← h3, List.all_append, h4, Bool.true_and] at this
    exact this
theorem trimSigns_any (s : ByteArray) (w : World) (hs : s.size ≤ maxLen) : Calls Tryd.prog 36 #[.string s, .string signsB] w fun e w' => ∃ t : ByteArray, e = .returned (.string t) ∧ (bs t = [] ↔ (bs s).all signC = true) ∧ Below w.heap.size w w' := by
  refine (Any.strings_Trim_laid Tryd.lays160 (by kernel_rfl) s signsB w (by unfold maxLen at hs; exact hs) (by decide) (ascii_of_all (by decide))).mono ?_
  rintro e w' ⟨rfl, hb⟩
  refine ⟨_, rfl, ?_, hb⟩
  show Lib.trimS s.data.toList signsB.data.toList = [] ↔ _
  rw [trim_nil]
  rfl
theorem beq_bs (s t : ByteArray) : (s.toList == t.toList) = decide (bs s = bs t) := by
  rw [ByteArray.toList_eq, ByteArray.toList_eq]
  show (s.data.toList == t.data.toList) = decide (s.data.toList = t.data.toList)
  rw [Bool.eq_iff_iff]
  simp only [beq_iff_eq, decide_eq_true_eq]
theorem beq_nil (s : ByteArray) : (s.toList == []) = decide (bs s = []) := by
  rw [ByteArray.toList_eq]
  show (s.data.toList == []) = decide (s.data.toList = [])
  rw [Bool.eq_iff_iff]
  simp only [beq_iff_eq, decide_eq_true_eq]
set_option maxRecDepth 20000 in
theorem new1_any (w : World) (bx : Nat) (y m : Mk) (hb : Blk w bx 58 #[.string m.text, .int .u32 m.clear, .int .u32 m.set.1, .int .u32 m.set.2]) :
    Calls Tryd.prog 39 #[markV y, wptr bx] w fun e w' => e = .returned (.bool (decide (bs y.text = bs m.text))) ∧ Below w.heap.size w w' := by
  have hl := hb.lt
  have c0 := hb.cell 0
  simp only [List.getElem?_toArray, List.getElem?_cons_zero] at c0
  have hq := beq_bs y.text m.text
  obtain ⟨r, hr⟩ : ∃ r, decide (bs y.text = bs m.text) = r := ⟨_, rfl⟩
  rw [hr] at hq ⊢
  clear hr hb
  go_enter Tryd.func39, Tryd.ntmps39
  go_wp2
  go_ret
  exact ⟨rfl, (Below.refl _ _).alloc (Nat.le_refl _) _⟩
set_option maxRecDepth 20000 in
set_option maxHeartbeats 1000000 in
theorem idxMark_any (A : Option Addr) (n c B : Nat) (ms : List Mk) (w : World) (bx : Nat) (m : Mk) (hr : Reads w B 4 A n (ms.flatMap markC)) (hB : B ≤ w.heap.size) (hn : n ≤ maxLen) (hb : Blk w bx 58 #[.string m.text, .int .u32 m.clear, .int .u32 m.set.1, .int .u32 m.set.2]) :
    Calls Tryd.prog 63 #[.slice A n c, .func (.func 39) #[] #[wptr bx]] w fun e w' => ∃ i : Int, e = .returned (.int .i64 i) ∧ decide (0 ≤ i) = (ms.any fun y => decide (bs y.text = bs m.text)) ∧ Below w.heap.size w w' := by
  unfold maxLen at hn
  have hl := hr.len_of (fun _ => rfl) (by decide)
  subst hl
  have HR := Lib.hid hr; have HB := Lib.hid hb
  have hbl := hb.lt
  clear hr hb
  go_enter Tryd.func63, Tryd.ntmps63
  go_wp2
  go_loopw [8] (fun i wr => ∃ k : Nat, k ≤ ms.length ∧ i = .int .i64 k ∧ ((ms.take k).any fun y => decide (bs y.text = bs m.text)) = false ∧ Below w.heap.size w wr) (fun i _ => ms.length - (RowKit.intOf i).toNat)
  case atStart => exact ⟨0, by omega, rfl, rfl, Below.refl _ _⟩
  case round =>
    obtain ⟨k, hk, rfl, hno, hbw⟩ := hrel
    have HNO := Lib.hid hno; have HBW := Lib.hid hbw
    clear hno hbw
    by_cases hlt : k < ms.length
    · have hkI : (k : Int) < (ms.length : Int) := by omega
      obtain ⟨ad, rfl, had, e0, e1, e2, e3⟩ := mark_cells (HR.out.below (HBW.out.mono hB)) hlt
      have hcall := new1_any wr bx ms[k] m (HB.out.below HBW.out hbl)
      have htk : ((ms.take (k + 1)).any fun y => decide (bs y.text = bs m.text)) = (((ms.take k).any fun y => decide (bs y.text = bs m.text)) || decide (bs ms[k].text = bs m.text)) := by
        rw [List.take_succ_eq_append_getElem hlt, List.any_append]; simp
      have hyes : decide (bs ms[k].text = bs m.text) = true → (ms.any fun y => decide (bs y.text = bs m.text)) = true := fun h => List.any_eq_true.2 ⟨_, List.getElem_mem hlt, h⟩
      generalize ms[k] = y at *
      obtain ⟨r, hr⟩ : ∃ r, decide (bs y.text = bs m.text) = r := ⟨_, rfl⟩
      rw [hr] at hcall htk hyes
      have HC := Lib.hid hcall; have HTK := Lib.hid htk; have HY := Lib.hid hyes
      clear hcall htk hyes hr
      go_wp2_with fail
      refine HC.out.mono ?_
      rintro e w1 ⟨rfl, hb1⟩
      have HB1 := Lib.hid (HBW.out.trans (hb1.mono HBW.out.size))
      clear hb1
      cases r with
      | true =>
        have hyt := HY.out rfl
        have HYT := Lib.hid hyt
        clear HY HTK hyt
        go_wp2
        go_ret
        exact ⟨k, rfl, by rw [HYT.out]; exact decide_eq_true (by omega), HB1.out⟩
      | false =>
        clear HY
        go_wp2
        go_roundw
        case rel => exact ⟨k + 1, by omega, by go_num, by rw [HTK.out, HNO.out]; rfl, HB1.out⟩
        case measure => simp [RowKit.intOf]; omega
    · obtain rfl : k = ms.length := by omega
      have hno := HNO.out
      rw [List.take_length] at hno
      have HN := Lib.hid hno
      clear hno
      go_wp2
      go_ret
      exact ⟨-1, rfl, by rw [HN.out]; decide, HBW.out⟩
set_option maxRecDepth 20000 in
theorem hasMark_any (A : Option Addr) (n c B : Nat) (ms : List Mk) (w : World) (bx : Nat) (m : Mk) (hr : Reads w B 4 A n (ms.flatMap markC)) (hB : B ≤ w.heap.size) (hn : n ≤ maxLen) (hb : Blk w bx 58 #[.string m.text, .int .u32 m.clear, .int .u32 m.set.1, .int .u32 m.set.2]) :
    Calls Tryd.prog 38 #[.slice A n c, .func (.func 39) #[] #[wptr bx]] w fun e w' => e = .returned (.bool (ms.any fun y => decide (bs y.text = bs m.text))) ∧ Below w.heap.size w w' := by
  have hc := idxMark_any A n c B ms w bx m hr hB hn hb
  obtain ⟨r, hr'⟩ : ∃ r, (ms.any fun y => decide (bs y.text = bs m.text)) = r := ⟨_, rfl⟩
  rw [hr'] at hc ⊢
  have HC := Lib.hid hc
  clear hr hb hc hr'
  go_enter Tryd.func38, Tryd.ntmps38
  go_wp2_with fail
  refine HC.out.mono ?_
  rintro e w1 ⟨i, rfl, hi, hb⟩
  subst hi
  have HB := Lib.hid hb
  clear hb
  go_wp2
  go_ret
  exact ⟨rfl, HB.out⟩
end Go.Proofs.YtohggdfplmlinaaDoor
