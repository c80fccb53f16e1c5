/-
  layer 3: texts that consist of some bytes. Conditions: texts that can be read.
-/
import Derived.Test.YtohggdfplmlinaaDoorNtM
import Derived.Test.YtohggdfplmlinaaDoorShelf
namespace Go.Proofs.YtohggdfplmlinaaDoor
open Go.RowKit Go.Lib

set_option maxRecDepth 20000 in
theorem small_any (c : UInt8) (w : World) : Calls Tryd.prog 28 #[.int .u8 c.toNat] w fun e w' => e = .returned (.bool (smallC c)) ∧ w = w' := by
  have hc := c.toNat_lt
  obtain ⟨r, hr⟩ : ∃ r, smallC c = r := ⟨_, rfl⟩
  rw [hr]
  unfold smallC at hr
  generalize c.toNat = n at *
  have HR := Lib.hid hr
  clear hr
  by_cases h1 : 97 ≤ n
  · by_cases h2 : n ≤ 122
    · obtain rfl : r = true := by rw [← HR.out, decide_eq_true h1, decide_eq_true h2]; rfl
      have g1 : (97 : Int) ≤ (n : Int) := by omega
      have g2 : (n : Int) ≤ 122 := by omega
      clear h1 h2
      go_enter Tryd.func28, Tryd.ntmps28
      go_wp2
      go_ret
      exact ⟨rfl, rfl⟩
    · obtain rfl : r = false := by rw [← HR.out, decide_eq_false h2, decide_eq_false (show ¬ n ≤ 57 by omega)]; simp
      have g1 : (97 : Int) ≤ (n : Int) := by omega
      have g2 : ¬ (n : Int) ≤ 122 := by omega
      have g3 : (48 : Int) ≤ (n : Int) := by omega
      have g4 : ¬ (n : Int) ≤ 57 := by omega
      clear h1 h2
      go_enter Tryd.func28, Tryd.ntmps28
      go_wp2
      go_ret
      exact ⟨rfl, rfl⟩
  · have g1 : ¬ (97 : Int) ≤ (n : Int) := by omega
    by_cases h3 : 48 ≤ n
    · have g3 : (48 : Int) ≤ (n : Int) := by omega
      by_cases h4 : n ≤ 57
      · obtain rfl : r = true := by rw [← HR.out, decide_eq_false h1, decide_eq_true h3, decide_eq_true h4]; rfl
        have g4 : (n : Int) ≤ 57 := by omega
        clear h1 h3 h4
        go_enter Tryd.func28, Tryd.ntmps28
        go_wp2
        go_ret
        exact ⟨rfl, rfl⟩
      · obtain rfl : r = false := by rw [← HR.out, decide_eq_false h1, decide_eq_true h3, decide_eq_false h4]; rfl
        have g4 : ¬ (n : Int) ≤ 57 := by omega
        clear h1 h3 h4
        go_enter Tryd.func28, Tryd.ntmps28
        go_wp2
        go_ret
        exact ⟨rfl, rfl⟩
    · obtain rfl : r = false := by rw [← HR.out, decide_eq_false h1, decide_eq_false h3]; rfl
      have g3 : ¬ (48 : Int) ≤ (n : Int) := by omega
      clear h1 h3
      go_enter Tryd.func28, Tryd.ntmps28
      go_wp2
      go_ret
      exact ⟨rfl, rfl⟩
def otherB : ByteArray := ⟨#[64, 63, 33, 38, 42, 36, 37]⟩
theorem idx_has (l : List UInt8) (c : UInt8) : decide (0 ≤ Lib.indexByte l c) = l.contains c := by
  have hge := Lib.indexByte_ge l c
  by_cases h : Lib.indexByte l c = -1
  · rw [h, decide_eq_false (by decide)]
    have hn := Lib.indexByte_none h
    cases hc : l.contains c with
    | false => rfl
    | true =>
      obtain ⟨k, hk, e⟩ := List.getElem_of_mem (List.contains_iff_mem.1 hc)
      exact absurd (by rw [List.getElem?_eq_getElem hk, e]) (hn k)
  · rw [decide_eq_true (by omega)]
    have hs := (Lib.indexByte_some (l := l) (c := c) (o := (Lib.indexByte l c).toNat) (by omega)).1
    exact (List.contains_iff_mem.2 (List.mem_of_getElem? hs)).symm
theorem otherC_idx (c : UInt8) : otherC c = decide (0 ≤ Lib.indexByte otherB.data.toList c) := (idx_has _ _).symm
set_option maxRecDepth 20000 in
theorem sym_any (c : UInt8) (w : World) : Calls Tryd.prog 31 #[.int .u8 c.toNat] w fun e w' => e = .returned (.bool (symC c)) ∧ w = w' := by
  have hc := c.toNat_lt
  have hsm := small_any c w
  have hi := Tryd.strings_IndexByte otherB c.toNat w
  have hcc : (c.toNat : Int).toNat.toUInt8 = c := by simp
  rw [hcc] at hi
  have ho := otherC_idx c
  obtain ⟨r, hr⟩ : ∃ r, symC c = r := ⟨_, rfl⟩
  rw [hr]
  unfold symC at hr
  generalize smallC c = b1 at *
  generalize Lib.indexByte otherB.data.toList c = k at *
  generalize otherC c = b3 at *
  generalize c.toNat = n at *
  have HR := Lib.hid hr; have HS := Lib.hid hsm; have HI := Lib.hid hi; have HO := Lib.hid ho
  clear hr hsm hi ho hcc
  unfold otherB at HI
  cases b1 with
  | true =>
    obtain rfl : r = true := by rw [← HR.out]; rfl
    go_enter Tryd.func31, Tryd.ntmps31
    go_wp2_with (go_at_call 28; refine HS.out.mono ?_; rintro e w' ⟨rfl, rfl⟩)
    go_ret
    exact ⟨rfl, rfl⟩
  | false =>
    by_cases h1 : 65 ≤ n ∧ n ≤ 90
    · obtain rfl : r = true := by rw [← HR.out, decide_eq_true h1.1, decide_eq_true h1.2]; rfl
      have g1 : (65 : Int) ≤ (n : Int) := by omega
      have g2 : (n : Int) ≤ 90 := by omega
      clear h1
      go_enter Tryd.func31, Tryd.ntmps31
      go_wp2_with (go_at_call 28; refine HS.out.mono ?_; rintro e w' ⟨rfl, rfl⟩)
      go_ret
      exact ⟨rfl, rfl⟩
    · obtain rfl : r = decide (0 ≤ k) := by
        rw [← HR.out, ← HO.out]
        have : (decide (65 ≤ n) && decide (n ≤ 90)) = false := by rw [← Bool.decide_and, decide_eq_false h1]
        rw [this]
        rfl
      by_cases g1 : (65 : Int) ≤ (n : Int)
      · have g2 : decide ((n : Int) ≤ 90) = false := decide_eq_false (by omega)
        clear h1
        go_enter Tryd.func31, Tryd.ntmps31
        go_wp2_with (first | (go_at_call 28; refine HS.out.mono ?_; rintro e w' ⟨rfl, rfl⟩) | (go_at_call 32; refine HI.out.mono ?_; rintro e w' ⟨rfl, rfl⟩))
        go_ret
        exact ⟨rfl, rfl⟩
      · clear h1
        go_enter Tryd.func31, Tryd.ntmps31
        go_wp2_with (first | (go_at_call 28; refine HS.out.mono ?_; rintro e w' ⟨rfl, rfl⟩) | (go_at_call 32; refine HI.out.mono ?_; rintro e w' ⟨rfl, rfl⟩))
        go_ret
        exact ⟨rfl, rfl⟩
/-- What consists asks of its kind of bytes: a contract of the function that was handed in. -/
def KindOf (f : Nat) (p : UInt8 → Bool) : Prop := (∀ args w, (callFunc f args).run Tryd.prog w = .ok (.enter f args) w) ∧ ∀ (c : UInt8) (w : World), Calls Tryd.prog f #[.int .u8 c.toNat] w fun e w' => e = .returned (.bool (p c)) ∧ w = w'
theorem all_take_next {α : Type} (p : α → Bool) (l : List α) (k : Nat) (hk : k < l.length) : (l.take (k + 1)).all p = ((l.take k).all p && p l[k]) := by
  rw [List.take_succ_eq_append_getElem hk, List.all_append]; simp
theorem size_bs (s : ByteArray) : (bs s).length = s.size := by unfold bs; exact Array.length_toList
set_option maxRecDepth 20000 in
theorem consists_any (f : Nat) (p : UInt8 → Bool) (most : Nat) (s : ByteArray) (w : World) (hf : KindOf f p) (hs : s.size ≤ maxLen) :
    Calls Tryd.prog 27 #[.string s, .int .i64 most, .func (.func f) #[] #[]] w fun e w' => e = .returned (.bool (consC p most s)) ∧ w = w' := by
  unfold maxLen at hs
  obtain ⟨r, hr⟩ : ∃ r, consC p most s = r := ⟨_, rfl⟩
  rw [hr]
  unfold consC at hr
  have hl := size_bs s
  obtain ⟨hen, hf⟩ := hf
  have HR := Lib.hid hr; have HL := Lib.hid hl; have HF := Lib.hid hf
  clear hr hl hf
  by_cases h1 : 1 ≤ s.size
  · by_cases h2 : s.size ≤ most
    · have g1 : ¬ (s.size : Int) < 1 := by omega
      have g2 : ¬ (most : Int) < (s.size : Int) := by omega
      have HPRE : Hid (∀ b, (decide (1 ≤ s.size) && decide (s.size ≤ most) && b) = b) := Lib.hid fun b => by rw [decide_eq_true h1, decide_eq_true h2]; rfl
      rw [HPRE.out] at HR
      clear h1 h2
      go_enter Tryd.func27, Tryd.ntmps27
      go_wp2
      go_loop [19] (fun i => ∃ k : Nat, k ≤ s.size ∧ i = .int .i64 k ∧ ((bs s).take k).all p = true) (fun i => s.size - (RowKit.intOf i).toNat)
      case atStart => exact ⟨0, by omega, rfl, rfl⟩
      case round =>
        obtain ⟨k, hk, rfl, hall⟩ := hrel
        have HALL := Lib.hid hall
        clear hall
        by_cases hlt : k < s.size
        · have hkI : (k : Int) < (s.size : Int) := by omega
          have hkb : k < (bs s).length := by rw [HL.out]; exact hlt
          have hst := all_take_next p (bs s) k hkb
          have hge : (bs s)[k] = s[k] := rfl
          have hno : p (bs s)[k] = false → r = false := fun h => by
            rw [← HR.out]
            cases ha : (bs s).all p with
            | false => rfl
            | true => rw [List.all_eq_true.1 ha _ (List.getElem_mem hkb)] at h; cases h
          rw [hge] at hst hno
          have hcall := HF.out s[k] w
          obtain ⟨b, hb⟩ : ∃ b, p s[k] = b := ⟨_, rfl⟩
          rw [hb] at hst hno hcall
          have HST := Lib.hid hst; have HNO := Lib.hid hno; have HC := Lib.hid hcall
          clear hst hge hno hcall hb
          go_wp2_with fail
          refine HC.out.mono ?_
          rintro e w' ⟨rfl, rfl⟩
          cases b with
          | true =>
            go_wp2
            go_round
            case rel => exact ⟨k + 1, by omega, by go_num, by rw [HST.out, HALL.out]; rfl⟩
            case measure => simp [RowKit.intOf]; omega
          | false =>
            obtain rfl := HNO.out rfl
            go_wp2
            go_ret
            exact ⟨rfl, rfl⟩
        · obtain rfl : k = s.size := by omega
          have hr1 : r = true := by
            rw [← HR.out]
            have := HALL.out
            rwa [List.take_of_length_le (by rw [HL.out]; exact Nat.le_refl _)] at this
          subst hr1
          go_wp2
          go_ret
          exact ⟨rfl, rfl⟩
    · have g1 : ¬ (s.size : Int) < 1 := by omega
      have g2 : (most : Int) < (s.size : Int) := by omega
      obtain rfl : r = false := by rw [← HR.out, decide_eq_false h2]; simp
      clear h1 h2
      go_enter Tryd.func27, Tryd.ntmps27
      go_wp2
      go_ret
      exact ⟨rfl, rfl⟩
  · have g1 : (s.size : Int) < 1 := by omega
    obtain rfl : r = false := by rw [← HR.out, decide_eq_false h1]; rfl
    clear h1
    go_enter Tryd.func27, Tryd.ntmps27
    go_wp2
    go_ret
    exact ⟨rfl, rfl⟩
end Go.Proofs.YtohggdfplmlinaaDoor
