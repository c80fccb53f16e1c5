/-
  layer 43: names, as the program's layer 8 and the reference's ask for them. Conditions: a string of the reach.
-/
import Derived.Test.YtmepaeahchiglaaGreatDoorZaaf
import Derived.Test.YtmepaeahchiglaaGreatDoorShelf
import Derived.Shelf.Strings.SlTrimAscii
namespace Go.Proofs.YtmepaeahchiglaaGreatDoor
open Go.RowKit Go.Lib

def okByte (c : UInt8) : Bool := (decide (97 ≤ c.toNat) && decide (c.toNat ≤ 122)) || (decide (65 ≤ c.toNat) && decide (c.toNat ≤ 90)) || (decide (48 ≤ c.toNat) && decide (c.toNat ≤ 57)) || decide (c.toNat = 45)
def okName (s : ByteArray) : Bool := decide (0 < s.size) && decide (s.size ≤ 24) && s.data.toList.all okByte
/-- The bytes of names. -/
def lettersB : ByteArray := ⟨#[97, 98, 99, 100, 101, 102, 103, 104, 105, 106, 107, 108, 109, 110, 111, 112, 113, 114, 115, 116, 117, 118, 119, 120, 121, 122, 65, 66, 67, 68, 69, 70, 71, 72, 73, 74, 75, 76, 77, 78, 79, 80, 81, 82, 83, 84, 85, 86, 87, 88, 89, 90, 48, 49, 50, 51, 52, 53, 54, 55, 56, 57, 45]⟩
theorem okByte_mem (c : UInt8) : okByte c = lettersB.data.toList.contains c := by
  have h : ∀ n : Fin 256, okByte (UInt8.ofNat n.val) = lettersB.data.toList.contains (UInt8.ofNat n.val) := by decide +kernel
  have := h ⟨c.toNat, c.toNat_lt⟩
  simpa using this
theorem dropWhile_nil {α : Type} (p : α → Bool) (l : List α) : l.dropWhile p = [] ↔ l.all p = true := by
  induction l with
  | nil => simp
  | cons x l ih =>
    rw [List.dropWhile_cons]
    cases h : p x <;> simp [h, ih]
theorem all_takeWhile {α : Type} (p : α → Bool) (l : List α) : (l.takeWhile p).all p = true := by
  induction l with
  | nil => rfl
  | cons x l ih =>
    rw [List.takeWhile_cons]
    cases h : p x
    · simp
    · simp only [if_true, List.all_cons, h, Bool.true_and]; exact ih
theorem trim_nil (l cs : List UInt8) : Lib.trimS l cs = [] ↔ l.all (fun b => cs.contains b) = true := by
  unfold Lib.trimS Lib.trimRightS Lib.trimLeftS
  rw [dropWhile_nil, List.all_reverse]
  have h3 := List.takeWhile_append_dropWhile (p := fun b => cs.contains b) (l := l.reverse)
  have h4 := all_takeWhile (fun b => cs.contains b) l.reverse
  constructor
  · intro h
    have : (l.reverse).all (fun b => cs.contains b) = true := by rw [← h3, List.all_append, h4, h]; rfl
    rwa [List.all_reverse] at this
  · intro h
    have : (l.reverse).all (fun b => cs.contains b) = true := by rw [List.all_reverse]; exact h
    rw [← h3, List.all_append, h4, Bool.true_and] at this
    exact this
theorem trimN_any (s : ByteArray) (w : World) (hs : s.size ≤ maxLen) : Calls Tryz.prog 142 #[.string s, .string lettersB] w fun e w' => ∃ t : ByteArray, e = .returned (.string t) ∧ (t.data.toList = [] ↔ s.data.toList.all okByte = true) ∧ Below w.heap.size w w' := by
  refine (Any.strings_Trim_laid Tryz.lays160 (by kernel_rfl) s lettersB w (by unfold maxLen at hs; exact hs) (by decide) (ascii_of_all (by decide))).mono ?_
  rintro e w' ⟨rfl, hb⟩
  refine ⟨_, rfl, ?_, hb⟩
  show Lib.trimS s.data.toList lettersB.data.toList = [] ↔ _
  rw [trim_nil]
  have : okByte = fun b => lettersB.data.toList.contains b := by funext b; exact okByte_mem b
  rw [this]
theorem okName_nil {x : ByteArray} (h : x.data.toList = []) : okName x = false := by
  have : x.size = 0 := by rw [Lib.size_eq, h]; rfl
  unfold okName; rw [this]; rfl
theorem okName_long {x : ByteArray} (h : 24 < x.size) : okName x = false := by
  unfold okName; rw [decide_eq_false (show ¬ x.size ≤ 24 by omega)]; simp
theorem okName_byte {x : ByteArray} (h : x.data.toList.all okByte = false) : okName x = false := by unfold okName; rw [h]; simp
theorem okName_yes {x : ByteArray} (h1 : x.data.toList ≠ []) (h2 : ¬ 24 < x.size) (h3 : x.data.toList.all okByte = true) : okName x = true := by
  have : 0 < x.size := by
    rw [Lib.size_eq]
    cases h : x.data.toList with
    | nil => exact absurd h h1
    | cons a l => simp
  unfold okName; rw [h3, decide_eq_true this, decide_eq_true (show x.size ≤ 24 by omega)]; rfl
theorem okByte_iff (c : UInt8) : okByte c = true ↔ (97 ≤ c.toNat ∧ c.toNat ≤ 122) ∨ (65 ≤ c.toNat ∧ c.toNat ≤ 90) ∨ (48 ≤ c.toNat ∧ c.toNat ≤ 57) ∨ c.toNat = 45 := by
  unfold okByte
  simp only [Bool.or_eq_true, Bool.and_eq_true, decide_eq_true_iff]
  omega
theorem okName_bad {s : ByteArray} {k : Nat} (hk : k < s.data.toList.length) (h : ¬ okByte s.data.toList[k] = true) : okName s = false := by
  unfold okName
  have : s.data.toList.all okByte = false := by
    rw [List.all_eq_false]
    exact ⟨_, List.getElem_mem hk, h⟩
  rw [this, Bool.and_false]
theorem okName_good {s : ByteArray} (h : ∀ j (hl : j < s.data.toList.length), okByte s.data.toList[j] = true) : okName s = (decide (0 < s.size) && decide (s.size ≤ 24)) := by
  unfold okName
  have : s.data.toList.all okByte = true := by
    rw [List.all_eq_true]
    intro x hx
    obtain ⟨i, hi, rfl⟩ := List.getElem_of_mem hx
    exact h i hi
  rw [this, Bool.and_true]
set_option maxRecDepth 20000 in
set_option maxHeartbeats 4000000 in
theorem refName_any (s : ByteArray) (w : World) (hs : s.size ≤ maxLen) : Calls Tryz.prog 228 #[.string s] w fun e w' => e = .returned (.bool (okName s)) ∧ w = w' := by
  obtain ⟨res, hres⟩ : ∃ res, okName s = res := ⟨_, rfl⟩
  rw [hres]
  unfold maxLen at hs
  have HRES := Lib.hid hres
  clear hres
  go_enter Tryz.func228, Tryz.ntmps228
  go_wp2
  go_loopw [3] (fun i wr => ∃ k : Nat, k ≤ s.size ∧ i = .int .i64 k ∧ (∀ j (hj : j < k) (hl : j < s.data.toList.length), okByte s.data.toList[j] = true) ∧ w = wr) (fun i _ => s.size - (RowKit.intOf i).toNat)
  case atStart => exact ⟨0, by omega, rfl, fun j hj => absurd hj (Nat.not_lt_zero j), rfl⟩
  case round =>
    obtain ⟨k, hk, rfl, ht, rfl⟩ := hrel
    have HT := Lib.hid ht
    clear ht
    by_cases hlt : k < s.size
    · have hkI : (k : Int) < (s.size : Int) := by omega
      have hkl : k < s.data.toList.length := by rw [← Lib.size_eq]; exact hlt
      have hkb : s.data.toList[k] = s[k] := by rw [Array.getElem_toList]; rfl
      have hyes : okByte s[k] = true → ∀ j (hj : j < k + 1) (hl : j < s.data.toList.length), okByte s.data.toList[j] = true := fun h j hj hl => by
        rcases Nat.lt_or_ge j k with h' | h'
        · exact HT.out j h' hl
        · obtain rfl : j = k := by omega
          rw [hkb]; exact h
      have hno : ¬ okByte s[k] = true → false = res := fun h => by rw [← HRES.out, okName_bad hkl (by rw [hkb]; exact h)]
      have hiff := okByte_iff s[k]
      have HY := Lib.hid hyes; have HN := Lib.hid hno; have HI := Lib.hid hiff
      clear hyes hno hkb hiff
      by_cases h45 : s[k].toNat = 45
      · have h45I : (s[k].toNat : Int) = 45 := by omega
        have hok := HY.out (HI.out.2 (by omega))
        have HOK := Lib.hid hok
        clear hok h45 HY HN HI
        go_wp2
        all_goals
          go_roundw
          case rel => exact ⟨k + 1, by omega, by go_num, HOK.out, trivial⟩
          case measure => simp [RowKit.intOf]; omega
      · have h45I : ¬ (s[k].toNat : Int) = 45 := by omega
        go_wp2
        all_goals first
          | (go_ret
             have hz : ¬ okByte s[k] = true := fun h => by
               have h2 := HI.out.1 h
               omega
             have e0 := HN.out hz
             subst e0
             exact ⟨rfl, rfl⟩)
          | (have hz : okByte s[k] = true := HI.out.2 (by omega)
             have hy := HY.out hz
             go_roundw
             case rel => exact ⟨k + 1, by omega, by go_num, hy, trivial⟩
             case measure => simp [RowKit.intOf]; omega)
          | (exfalso
             rename_i hq
             simp only [Bool.not_eq_false', decide_eq_true_iff, beq_iff_eq] at hq
             omega)
    · obtain rfl : k = s.size := by omega
      have hr := okName_good (s := s) (fun j hl => HT.out j (by rw [Lib.size_eq]; exact hl) hl)
      rw [HRES.out] at hr
      by_cases h1 : 1 ≤ s.size
      · by_cases h2 : s.size ≤ 24
        · have h1I : (1 : Int) ≤ (s.size : Int) := by omega
          have h2I : (s.size : Int) ≤ 24 := by omega
          rw [decide_eq_true (show 0 < s.size by omega), decide_eq_true h2] at hr
          subst hr
          go_wp2
          go_ret
          exact ⟨rfl, rfl⟩
        · have h1I : (1 : Int) ≤ (s.size : Int) := by omega
          have h2I : ¬ (s.size : Int) ≤ 24 := by omega
          rw [decide_eq_true (show 0 < s.size by omega), decide_eq_false h2] at hr
          subst hr
          go_wp2
          go_ret
          exact ⟨rfl, rfl⟩
      · have h1I : ¬ (1 : Int) ≤ (s.size : Int) := by omega
        rw [decide_eq_false (show ¬ 0 < s.size by omega)] at hr
        subst hr
        go_wp2
        go_ret
        exact ⟨rfl, rfl⟩
set_option maxRecDepth 20000 in
set_option maxHeartbeats 1000000 in
theorem named_any (x : ByteArray) (w : World) (hsz : x.size ≤ maxLen) : Calls Tryz.prog 69 #[.string x] w fun e w' => e = .returned (.bool (okName x)) ∧ Below w.heap.size w w' := by
  by_cases hx0 : x.data.toList = []
  · have hxe : x.toList = [] := by rw [Lib.toList_data]; exact hx0
    have hxe2 : x.toList.isEmpty = true := by rw [hxe]; rfl
    have hxe3 : (x.toList == []) = true := by rw [hxe]; rfl
    rw [okName_nil hx0]
    clear hx0
    go_enter Tryz.func69, Tryz.ntmps69
    go_wp2
    go_ret
    exact ⟨rfl, Below.refl _ _⟩
  · have hxe : x.toList.isEmpty = false := by rw [Lib.toList_data, List.isEmpty_eq_false_iff]; exact hx0
    have hxe2 : (x.toList == []) = false := by rw [Lib.toList_data, beq_eq_false_iff_ne]; exact hx0
    have hxe3 : ¬ x.toList = [] := by rw [Lib.toList_data]; exact hx0
    have HX := Lib.hid hx0
    clear hx0
    by_cases hx2 : 24 < x.size
    · have hx2I : ¬ (x.size : Int) ≤ 24 := by omega
      have hx2d : decide ((x.size : Int) ≤ 24) = false := decide_eq_false hx2I
      rw [okName_long hx2]
      clear hx2
      go_enter Tryz.func69, Tryz.ntmps69
      go_wp2
      go_ret
      exact ⟨rfl, Below.refl _ _⟩
    · have hx2I : (x.size : Int) ≤ 24 := by omega
      have hcall := trimN_any x w hsz
      have HX2 := Lib.hid hx2
      clear hx2
      cases hall : x.data.toList.all okByte
      · rw [okName_byte hall]
        have HALL := Lib.hid hall
        clear hall
        go_enter Tryz.func69, Tryz.ntmps69
        go_wp2_with fail
        refine hcall.mono ?_
        rintro e w1 ⟨t, rfl, ht, hb1⟩
        have hte : ¬ t.toList = [] := by
          rw [Lib.toList_data]; intro h
          have := ht.1 h
          rw [HALL.out] at this; cases this
        have hte2 : t.toList.isEmpty = false := by rw [List.isEmpty_eq_false_iff]; exact hte
        have hte3 : (t.toList == []) = false := by rw [beq_eq_false_iff_ne]; exact hte
        have HB1 := Lib.hid hb1
        clear ht hb1 hcall
        go_wp2
        go_ret
        exact ⟨rfl, HB1.out⟩
      · rw [okName_yes HX.out HX2.out hall]
        have HALL := Lib.hid hall
        clear hall
        go_enter Tryz.func69, Tryz.ntmps69
        go_wp2_with fail
        refine hcall.mono ?_
        rintro e w1 ⟨t, rfl, ht, hb1⟩
        have hte : t.toList = [] := by rw [Lib.toList_data]; exact ht.2 HALL.out
        have hte2 : t.toList.isEmpty = true := by rw [hte]; rfl
        have hte3 : (t.toList == []) = true := by rw [hte]; rfl
        have HB1 := Lib.hid hb1
        clear ht hb1 hcall
        go_wp2
        go_ret
        exact ⟨rfl, HB1.out⟩
end Go.Proofs.YtmepaeahchiglaaGreatDoor
