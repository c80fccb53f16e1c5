/-
  layer 4: the reference's inventories: letters, feature names, symbols. Conditions: texts of at most maxLen bytes.
-/
import Derived.Test.YtohggdfplmlinaaDoorNtI5
namespace Go.Proofs.YtohggdfplmlinaaDoor
open Go.RowKit Go.Lib

def bigC (c : UInt8) : Bool := (decide (65 ≤ c.toNat) && decide (c.toNat ≤ 90)) || otherC c
theorem symC_two (c : UInt8) : symC c = (smallC c || bigC c) := by unfold symC bigC; rw [Bool.or_assoc]
theorem otherC_nat (c : UInt8) : otherC c = decide (c.toNat = 64 ∨ c.toNat = 63 ∨ c.toNat = 33 ∨ c.toNat = 38 ∨ c.toNat = 42 ∨ c.toNat = 36 ∨ c.toNat = 37) := by
  rw [Bool.eq_iff_iff]
  simp [otherC, ← UInt8.toNat_inj]
set_option linter.unusedSimpArgs false in
set_option maxRecDepth 20000 in
theorem letter_any (c : UInt8) (w : World) : Calls Tryd.prog 86 #[.int .u8 c.toNat] w fun e w' => e = .returned (.bool (smallC c)) ∧ w = w' := by
  have hc := c.toNat_lt
  obtain ⟨r, hr⟩ : ∃ r, smallC c = r := ⟨_, rfl⟩
  rw [hr]
  unfold smallC at hr
  generalize c.toNat = n at *
  have HR := Lib.hid hr
  clear hr
  go_enter Tryd.func86, Tryd.ntmps86
  go_wp2
  all_goals
    go_ret
    refine ⟨?_, rfl⟩
    rw [← HR.out]
    simp
    try (first | omega | (rw [Bool.eq_iff_iff]; simp only [Bool.or_eq_true, Bool.and_eq_true, decide_eq_true_eq, beq_iff_eq]; omega))
set_option maxRecDepth 20000 in
theorem big_any (c : UInt8) (w : World) : Calls Tryd.prog 87 #[.int .u8 c.toNat] w fun e w' => e = .returned (.bool (bigC c)) ∧ w = w' := by
  have hc := c.toNat_lt
  obtain ⟨r, hr⟩ : ∃ r, bigC c = r := ⟨_, rfl⟩
  rw [hr]
  unfold bigC at hr
  rw [otherC_nat] at hr
  generalize c.toNat = n at *
  have HR := Lib.hid hr
  clear hr
  go_enter Tryd.func87, Tryd.ntmps87
  go_wp2
  all_goals
    go_ret
    refine ⟨?_, rfl⟩
    rw [← HR.out]
    simp
    try (first | omega | (rw [Bool.eq_iff_iff]; simp only [Bool.or_eq_true, Bool.and_eq_true, decide_eq_true_eq, beq_iff_eq]; omega))
theorem okFeat_eq {s : ByteArray} (h : 0 < s.size) : okFeat s = (decide (s.size ≤ 16) && (decide (97 ≤ s[0].toNat) && (decide (s[0].toNat ≤ 122) && (bs s).all smallC))) := by
  have hb : 0 < (bs s).length := by rw [size_bs]; exact h
  have hh : (bs s).headD 0 = s[0] := by
    have h0 : ∀ (l : List UInt8) (h : 0 < l.length), l.headD 0 = l[0] := fun l h => by
      cases l with
      | nil => cases h
      | cons a l => rfl
    exact h0 _ hb
  unfold okFeat consC
  rw [hh, decide_eq_true (show 1 ≤ s.size from h), Bool.true_and, Bool.eq_iff_iff]
  simp only [Bool.and_eq_true, decide_eq_true_eq]
  constructor
  · rintro ⟨⟨h1, h2⟩, h3⟩
    have := List.all_eq_true.1 h2 s[0] (show (bs s)[0] ∈ bs s from List.getElem_mem hb)
    unfold smallC at this
    simp only [Bool.or_eq_true, Bool.and_eq_true, decide_eq_true_eq] at this
    exact ⟨h1, by omega, by omega, h2⟩
  · rintro ⟨h1, h2, h3, h4⟩
    exact ⟨⟨h1, h4⟩, by omega⟩
theorem okFeat_nil {s : ByteArray} (h : ¬ 0 < s.size) : okFeat s = false := by
  unfold okFeat consC
  rw [decide_eq_false (show ¬ 1 ≤ s.size from h)]; rfl
set_option maxRecDepth 20000 in
set_option maxHeartbeats 1000000 in
theorem isFeat_any (s : ByteArray) (w : World) (hs : s.size ≤ maxLen) : Calls Tryd.prog 67 #[.string s] w fun e w' => e = .returned (.bool (okFeat s)) ∧ w = w' := by
  unfold maxLen at hs
  have hl := size_bs s
  by_cases h0 : 0 < s.size
  · rw [okFeat_eq h0]
    obtain ⟨r, hr⟩ : ∃ r, (decide (s.size ≤ 16) && (decide (97 ≤ s[0].toNat) && (decide (s[0].toNat ≤ 122) && (bs s).all smallC))) = r := ⟨_, rfl⟩
    rw [hr]
    have HR := Lib.hid hr
    have h1 : ¬ (s.size : Int) < 1 := by omega
    have hx256 : (s[0].toNat : Int) < 256 := by have := s[0].toNat_lt; omega
    clear hr
    by_cases h16 : s.size ≤ 16
    · have h16I : ¬ (16 : Int) < (s.size : Int) := by omega
      by_cases h97 : 97 ≤ s[0].toNat
      · have h97I : ¬ (s[0].toNat : Int) < 97 := by omega
        by_cases h122 : s[0].toNat ≤ 122
        · have h122I : ¬ (122 : Int) < (s[0].toNat : Int) := by omega
          have hr2 : (bs s).all smallC = r := by rw [← HR.out, decide_eq_true h16, decide_eq_true h97, decide_eq_true h122]; rfl
          have HR2 := Lib.hid hr2
          clear hr2 HR h97 h122 h16
          go_enter Tryd.func67, Tryd.ntmps67
          go_wp2
          go_loopw [3] (fun i wr => ∃ k : Nat, k ≤ s.size ∧ i = .int .i64 k ∧ ((bs s).take k).all smallC = true ∧ w = wr) (fun i _ => s.size - (RowKit.intOf i).toNat)
          case atStart => exact ⟨0, by omega, rfl, rfl, rfl⟩
          case round =>
            obtain ⟨k, hk, rfl, hall, rfl⟩ := hrel
            have HALL := Lib.hid hall
            clear hall
            by_cases hlt : k < s.size
            · have hkI : (k : Int) < (s.size : Int) := by omega
              have hk0 : (0 : Int) ≤ (k : Int) := by omega
              have hkb : k < (bs s).length := by rw [hl]; exact hlt
              have hk256 : (s[k].toNat : Int) < 256 := by have := s[k].toNat_lt; omega
              have hnx := all_take_next smallC (bs s) k hkb
              rw [HALL.out, Bool.true_and] at hnx
              have hc := letter_any s[k] w
              cases hcs : smallC s[k] with
              | true =>
                rw [hcs] at hc
                have HC := Lib.hid hc
                have HNX := Lib.hid (hnx.trans hcs)
                clear hc hnx hcs
                go_wp2_with fail
                refine HC.out.mono ?_
                rintro e w1 ⟨rfl, rfl⟩
                go_wp2
                go_roundw
                case rel => exact ⟨k + 1, by omega, by go_num, HNX.out, trivial⟩
                case measure => simp [RowKit.intOf]; omega
              | false =>
                rw [hcs] at hc
                obtain rfl : r = false := by
                  rw [← HR2.out, List.all_eq_false]
                  exact ⟨s[k], List.getElem_mem hkb, by rw [hcs]; decide⟩
                have HC := Lib.hid hc
                clear hc hnx hcs
                go_wp2_with fail
                refine HC.out.mono ?_
                rintro e w1 ⟨rfl, rfl⟩
                go_wp2
                go_ret
                exact ⟨rfl, rfl⟩
            · obtain rfl : k = s.size := by omega
              obtain rfl : r = true := by
                rw [← HR2.out]
                have := HALL.out
                rwa [List.take_of_length_le (by rw [hl]; exact Nat.le_refl _)] at this
              go_wp2
              go_ret
              exact ⟨rfl, rfl⟩
        · have h122I : (122 : Int) < (s[0].toNat : Int) := by omega
          obtain rfl : r = false := by rw [← HR.out, decide_eq_true h16, decide_eq_true h97, decide_eq_false h122]; rfl
          clear HR h97 h122 h16
          go_enter Tryd.func67, Tryd.ntmps67
          go_wp2
          go_ret
          exact ⟨rfl, rfl⟩
      · have h97I : (s[0].toNat : Int) < 97 := by omega
        obtain rfl : r = false := by rw [← HR.out, decide_eq_true h16, decide_eq_false h97]; rfl
        clear HR h97 h16
        go_enter Tryd.func67, Tryd.ntmps67
        go_wp2
        go_ret
        exact ⟨rfl, rfl⟩
    · have h16I : (16 : Int) < (s.size : Int) := by omega
      obtain rfl : r = false := by rw [← HR.out, decide_eq_false h16]; rfl
      clear HR h16
      go_enter Tryd.func67, Tryd.ntmps67
      go_wp2
      go_ret
      exact ⟨rfl, rfl⟩
  · rw [okFeat_nil h0]
    have h1 : (s.size : Int) < 1 := by omega
    clear h0
    go_enter Tryd.func67, Tryd.ntmps67
    go_wp2
    go_ret
    exact ⟨rfl, rfl⟩
set_option maxRecDepth 20000 in
set_option maxHeartbeats 1000000 in
theorem isSymbol_any (s : ByteArray) (w : World) (hs : s.size ≤ maxLen) : Calls Tryd.prog 69 #[.string s] w fun e w' => e = .returned (.bool (okSym s)) ∧ w = w' := by
  unfold maxLen at hs
  have hl := size_bs s
  obtain ⟨r, hr⟩ : ∃ r, okSym s = r := ⟨_, rfl⟩
  rw [hr]
  unfold okSym consC at hr
  have HR := Lib.hid hr
  clear hr
  by_cases h0 : 1 ≤ s.size
  · have h1 : ¬ (s.size : Int) < 1 := by omega
    by_cases h4 : s.size ≤ 4
    · have h4I : ¬ (4 : Int) < (s.size : Int) := by omega
      have hr2 : (bs s).all symC = r := by rw [← HR.out, decide_eq_true h0, decide_eq_true h4]; rfl
      have HR2 := Lib.hid hr2
      clear hr2 HR h0 h4
      go_enter Tryd.func69, Tryd.ntmps69
      go_wp2
      go_loopw [3] (fun i wr => ∃ k : Nat, k ≤ s.size ∧ i = .int .i64 k ∧ ((bs s).take k).all symC = true ∧ w = wr) (fun i _ => s.size - (RowKit.intOf i).toNat)
      case atStart => exact ⟨0, by omega, rfl, rfl, rfl⟩
      case round =>
        obtain ⟨k, hk, rfl, hall, rfl⟩ := hrel
        have HALL := Lib.hid hall
        clear hall
        by_cases hlt : k < s.size
        · have hkI : (k : Int) < (s.size : Int) := by omega
          have hk0 : (0 : Int) ≤ (k : Int) := by omega
          have hkb : k < (bs s).length := by rw [hl]; exact hlt
          have hk256 : (s[k].toNat : Int) < 256 := by have := s[k].toNat_lt; omega
          have hnx := all_take_next symC (bs s) k hkb
          rw [HALL.out, Bool.true_and] at hnx
          have hc := letter_any s[k] w
          have hc2 := big_any s[k] w
          have hsy := symC_two s[k]
          cases hcs : smallC s[k] with
          | true =>
            rw [hcs] at hc hsy
            have HC := Lib.hid hc
            have HNX := Lib.hid (hnx.trans (hsy.trans (Bool.true_or _)))
            clear hc hc2 hnx hcs hsy
            go_wp2_with fail
            refine HC.out.mono ?_
            rintro e w1 ⟨rfl, rfl⟩
            go_wp2
            go_roundw
            case rel => exact ⟨k + 1, by omega, by go_num, HNX.out, trivial⟩
            case measure => simp [RowKit.intOf]; omega
          | false =>
            rw [hcs] at hc hsy
            cases hbs : bigC s[k] with
            | true =>
              rw [hbs] at hc2 hsy
              have HC := Lib.hid hc; have HC2 := Lib.hid hc2
              have HNX := Lib.hid (hnx.trans hsy)
              clear hc hc2 hnx hcs hsy hbs
              go_wp2_with fail
              refine HC.out.mono ?_
              rintro e w1 ⟨rfl, rfl⟩
              go_wp2_with fail
              refine HC2.out.mono ?_
              rintro e w1 ⟨rfl, rfl⟩
              go_wp2
              go_roundw
              case rel => exact ⟨k + 1, by omega, by go_num, HNX.out, trivial⟩
              case measure => simp [RowKit.intOf]; omega
            | false =>
              rw [hbs] at hc2 hsy
              obtain rfl : r = false := by
                rw [← HR2.out, List.all_eq_false]
                exact ⟨s[k], List.getElem_mem hkb, by rw [hsy]; decide⟩
              have HC := Lib.hid hc; have HC2 := Lib.hid hc2
              clear hc hc2 hnx hcs hsy hbs
              go_wp2_with fail
              refine HC.out.mono ?_
              rintro e w1 ⟨rfl, rfl⟩
              go_wp2_with fail
              refine HC2.out.mono ?_
              rintro e w1 ⟨rfl, rfl⟩
              go_wp2
              go_ret
              exact ⟨rfl, rfl⟩
        · obtain rfl : k = s.size := by omega
          obtain rfl : r = true := by
            rw [← HR2.out]
            have := HALL.out
            rwa [List.take_of_length_le (by rw [hl]; exact Nat.le_refl _)] at this
          go_wp2
          go_ret
          exact ⟨rfl, rfl⟩
    · have h4I : (4 : Int) < (s.size : Int) := by omega
      obtain rfl : r = false := by rw [← HR.out, decide_eq_true h0, decide_eq_false h4]; rfl
      clear HR h4 h0
      go_enter Tryd.func69, Tryd.ntmps69
      go_wp2
      go_ret
      exact ⟨rfl, rfl⟩
  · have h1 : (s.size : Int) < 1 := by omega
    obtain rfl : r = false := by rw [← HR.out, decide_eq_false h0]; rfl
    clear HR h0
    go_enter Tryd.func69, Tryd.ntmps69
    go_wp2
    go_ret
    exact ⟨rfl, rfl⟩
end Go.Proofs.YtohggdfplmlinaaDoor
