/-
  Plain facts of layer 39: strings.Split at a space is 'pieces'; a text has a rune of at most 32 just where it has a byte of at most 32. Conditions: none.
-/
import Derived.Test.YtcdpadggjkobjaaGreatDoorSpec
import Derived.Lib.SplitLaws
import Derived.Shelf.GgClosure.StringsIndexFunc
namespace Go.Proofs.YtcdpadggjkobjaaGreatDoor
open Go.RowKit

def spaceB : ByteArray := ⟨#[32]⟩
theorem split_space : ∀ (k : Nat) (l : Bs), l.count 32 = k → Lib.splitK [32] 0 k l = piecesL l := by
  intro k
  induction k with
  | zero =>
    intro l h
    rw [Lib.splitK, piecesL_none]
    intro c hc e; subst e
    have := List.count_pos_iff.2 hc; omega
  | succ k ih =>
    intro l h
    have hm : (32 : UInt8) ∈ l := List.count_pos_iff.1 (by omega)
    have hi : Lib.index l [32] = Lib.indexByte l 32 := Lib.index_one l 32
    have hne : Lib.indexByte l 32 ≠ -1 := fun e => by
      obtain ⟨j, hj, hv⟩ := List.getElem_of_mem hm
      exact Lib.indexByte_none e j (by rw [List.getElem?_eq_getElem hj, hv])
    have hge := Lib.indexByte_ge l 32
    obtain ⟨o, ho⟩ : ∃ o : Nat, Lib.indexByte l 32 = o := ⟨(Lib.indexByte l 32).toNat, by omega⟩
    obtain ⟨h1, h2⟩ := Lib.indexByte_some ho
    have hol : o < l.length := (List.getElem?_eq_some_iff.1 h1).1
    have hlo : l[o] = 32 := (List.getElem?_eq_some_iff.1 h1).2
    have hs : l = l.take o ++ 32 :: l.drop (o + 1) := by
      conv => lhs; rw [← List.take_append_drop o l, List.drop_eq_getElem_cons hol, hlo]
    have hn : ∀ c ∈ l.take o, c ≠ 32 := by
      intro c hc e; subst e
      obtain ⟨j, hj, hv⟩ := List.getElem_of_mem hc
      rw [List.getElem_take] at hv
      have hj' : j < o := by rw [List.length_take] at hj; omega
      exact h2 j hj' (by rw [List.getElem?_eq_getElem (by omega), hv])
    rw [Lib.splitK, if_neg (by rw [hi]; simpa using hne), hi, ho]
    have hc : (l.drop (o + 1)).count 32 = k := by
      have : l.count 32 = (l.take o).count 32 + ((32 :: l.drop (o + 1)).count 32) := by
        conv => lhs; rw [hs]
        rw [List.count_append]
      rw [List.count_eq_zero.2 (fun hm => hn 32 hm rfl), List.count_cons_self] at this
      omega
    have hp : piecesL l = l.take o :: piecesL (l.drop (o + 1)) := by
      conv => lhs; rw [hs]
      exact piecesL_cut hn
    rw [hp]
    simp only [Int.toNat_natCast, Nat.add_zero, List.length_singleton]
    rw [ih _ hc]
theorem splitB_space (s : ByteArray) : Lib.splitB spaceB 0 (Lib.countB s spaceB) s = piecesB s := by
  have h : (Lib.splitB spaceB 0 (Lib.countB s spaceB) s).map bl = piecesL (bl s) := by
    have := Lib.splitB_data spaceB 0 (Lib.countB s spaceB) s
    rw [show spaceB.data.toList = [32] from rfl] at this
    rw [show (fun x : ByteArray => x.data.toList) = bl from rfl] at this
    rw [this]
    exact split_space _ _ (Lib.count_one 32 _).symm
  unfold piecesB
  rw [← h, List.map_map, show mkB ∘ bl = id from funext mkB_bl, List.map_id]
theorem countB_space (s : ByteArray) : Lib.countB s spaceB + 1 = (piecesB s).length := by
  rw [piecesB_length]; exact congrArg (· + 1) (Lib.count_one 32 _)

theorem get!_eq (s : ByteArray) (i : Nat) (h : i < s.size) : s.get! i = s[i] := by
  show s.data.get!Internal i = _
  rw [Array.get!Internal_eq_getElem!, getElem!_pos s.data i h]; rfl

theorem decode_low (s : ByteArray) (i : Nat) (hi : i < s.size) (h : s[i].toNat < 128) : Utf8.decode s i = (s[i].toNat, 1) := by
  have h0 : (s.get! (i + 0)).toNat = s[i].toNat := by rw [Nat.add_zero, get!_eq s i hi]
  unfold Utf8.decode
  simp only [h0, h, ↓reduceIte]
theorem decode_high (s : ByteArray) (i : Nat) (hi : i < s.size) (h : ¬ s[i].toNat < 128) :
    32 < (Utf8.decode s i).1 ∧ 1 ≤ (Utf8.decode s i).2 ∧ ∀ j, i ≤ j → j < i + (Utf8.decode s i).2 → ∃ hj : j < s.size, 128 ≤ s[j].toNat := by
  have h0 : (s.get! (i + 0)).toNat = s[i].toNat := by rw [Nat.add_zero, get!_eq s i hi]
  have one : ∀ j, i ≤ j → j < i + 1 → ∃ hj : j < s.size, 128 ≤ s[j].toNat := fun j h1 h2 => by
    obtain rfl : j = i := by omega
    exact ⟨hi, by omega⟩
  have ct : ∀ k, (decide (i + k < s.size) && (s.get! (i + k)).toNat / 64 == 2) = true → ∃ hj : i + k < s.size, 128 ≤ s[i + k].toNat := fun k hk => by
    simp only [Bool.and_eq_true, decide_eq_true_eq, beq_iff_eq] at hk
    refine ⟨hk.1, ?_⟩
    have := hk.2
    rw [get!_eq s _ hk.1] at this; omega
  unfold Utf8.decode
  simp only [h0, h, ↓reduceIte]
  split
  · rename_i hc
    rw [Bool.and_eq_true] at hc
    have c1 := ct 1 hc.2
    split
    · rename_i hv
      refine ⟨by omega, by omega, fun j h1 h2 => ?_⟩
      rcases (show j = i ∨ j = i + 1 by omega) with rfl | rfl
      · exact ⟨hi, by omega⟩
      · exact c1
    · exact ⟨by unfold Utf8.runeError; omega, by omega, one⟩
  · split
    · rename_i hc
      simp only [Bool.and_eq_true] at hc
      have c1 := ct 1 (by simpa using hc.1.2)
      have c2 := ct 2 (by simpa using hc.2)
      split
      · rename_i hv
        rw [Bool.and_eq_true, decide_eq_true_eq] at hv
        refine ⟨by omega, by omega, fun j h1 h2 => ?_⟩
        rcases (show j = i ∨ j = i + 1 ∨ j = i + 2 by omega) with rfl | rfl | rfl
        · exact ⟨hi, by omega⟩
        · exact c1
        · exact c2
      · exact ⟨by unfold Utf8.runeError; omega, by omega, one⟩
    · split
      · rename_i hc
        simp only [Bool.and_eq_true] at hc
        have c1 := ct 1 (by simpa using hc.1.1.2)
        have c2 := ct 2 (by simpa using hc.1.2)
        have c3 := ct 3 (by simpa using hc.2)
        split
        · rename_i hv
          rw [Bool.and_eq_true, decide_eq_true_eq] at hv
          refine ⟨by omega, by omega, fun j h1 h2 => ?_⟩
          rcases (show j = i ∨ j = i + 1 ∨ j = i + 2 ∨ j = i + 3 by omega) with rfl | rfl | rfl | rfl
          · exact ⟨hi, by omega⟩
          · exact c1
          · exact c2
          · exact c3
        · exact ⟨by unfold Utf8.runeError; omega, by omega, one⟩
      · exact ⟨by unfold Utf8.runeError; omega, by omega, one⟩

def lowR (r : Nat) : Bool := decide (r ≤ 32)
theorem low_from (s : ByteArray) : ∀ (f pos : Nat), s.size ≤ pos + f → (0 ≤ Lib.idxFuncFrom lowR true s f pos ↔ ∃ j, ∃ hj : j < s.size, pos ≤ j ∧ s[j].toNat ≤ 32) := by
  intro f
  induction f with
  | zero =>
    intro pos h
    simp only [Lib.idxFuncFrom]
    exact ⟨fun h => by omega, fun ⟨j, hj, h1, _⟩ => by omega⟩
  | succ f ih =>
    intro pos h
    simp only [Lib.idxFuncFrom]
    by_cases hp : pos < s.size
    · rw [if_pos hp]
      by_cases hlow : s[pos].toNat < 128
      · rw [decode_low s pos hp hlow]
        by_cases h32 : s[pos].toNat ≤ 32
        · rw [if_pos (by simp [lowR, h32])]
          exact ⟨fun _ => ⟨pos, hp, Nat.le_refl _, h32⟩, fun _ => by omega⟩
        · rw [if_neg (by simp [lowR]; omega), ih (pos + 1) (by omega)]
          constructor
          · rintro ⟨j, hj, h1, h2⟩; exact ⟨j, hj, by omega, h2⟩
          · rintro ⟨j, hj, h1, h2⟩
            by_cases e : j = pos
            · subst e; exact absurd h2 h32
            · exact ⟨j, hj, by omega, h2⟩
      · obtain ⟨h1, h2, h3⟩ := decode_high s pos hp hlow
        rw [if_neg (by simp [lowR]; omega), ih (pos + (Utf8.decode s pos).2) (by omega)]
        constructor
        · rintro ⟨j, hj, h1, h2⟩; exact ⟨j, hj, by omega, h2⟩
        · rintro ⟨j, hj, hj1, hj2⟩
          refine ⟨j, hj, ?_, hj2⟩
          rcases Nat.lt_or_ge j (pos + (Utf8.decode s pos).2) with hlt | hge
          · obtain ⟨_, h4⟩ := h3 j hj1 hlt; omega
          · exact hge
    · rw [if_neg hp]
      exact ⟨fun h => by omega, fun ⟨j, hj, h1, _⟩ => by omega⟩
theorem low_iff (s : ByteArray) : decide (0 ≤ Lib.idxFunc lowR true s) = !((bl s).all (fun c => decide (32 < c.toNat))) := by
  unfold Lib.idxFunc
  rw [Bool.eq_iff_iff, decide_eq_true_eq, low_from s s.size 0 (by omega), Bool.not_eq_true', List.all_eq_false]
  constructor
  · rintro ⟨j, hj, _, h⟩; exact ⟨s[j], List.getElem_mem (by rw [bl_len]; exact hj), by simp; omega⟩
  · rintro ⟨c, hc, h⟩
    obtain ⟨j, hj, rfl⟩ := List.getElem_of_mem hc
    rw [bl_len] at hj
    exact ⟨j, hj, Nat.zero_le _, Nat.le_of_not_lt (fun hlt => h (decide_eq_true hlt))⟩
end Go.Proofs.YtcdpadggjkobjaaGreatDoor
