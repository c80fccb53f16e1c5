/-
  Layer 40: the reference's at and copied. Conditions: an article that is read.
-/
import Derived.Test.YtgkpoopiamicnaaGreatDoorDtRd
namespace Go.Proofs.YtgkpoopiamicnaaGreatDoor
open Go.RowKit Go.Lib

/-- The place of the article with a head; -1: there is none. -/
def atV (L : List Art) (s : ByteArray) : Int := match L.findIdx? fun x => decide (x.head = s) with
  | some i => (i : Int)
  | none => -1
theorem atV_there {L : List Art} {s : ByteArray} : decide (0 ≤ atV L s) = thereB L s := by
  unfold atV
  cases h : L.findIdx? fun x => decide (x.head = s) with
  | none =>
    rw [List.findIdx?_eq_none_iff] at h
    have : thereB L s = false := by
      rw [← Bool.not_eq_true, thereB_iff]
      rintro ⟨x, hx, e⟩
      have := h x hx
      rw [decide_eq_true e] at this
      cases this
    rw [this]; decide
  | some i =>
    rw [List.findIdx?_eq_some_iff_getElem] at h
    obtain ⟨h1, h2, -⟩ := h
    have : thereB L s = true := thereB_iff.2 ⟨_, List.getElem_mem h1, of_decide_eq_true h2⟩
    rw [this, decide_eq_true_iff]
    show (0 : Int) ≤ (i : Int)
    omega
theorem atV_at {gs : Grps} {L : List Art} {s : ByteArray} (hg : GoodD gs L) (hs : thereB L s = true) : ∃ i, ∃ hi : i < L.length, atV L s = i ∧ L[i].head = s ∧ artOf L s = L[i] := by
  have h0 := atV_there (L := L) (s := s)
  rw [hs, decide_eq_true_iff] at h0
  unfold atV at h0 ⊢
  cases h : L.findIdx? fun x => decide (x.head = s) with
  | none => rw [h] at h0; exact absurd h0 (by decide)
  | some i =>
    rw [List.findIdx?_eq_some_iff_getElem] at h
    obtain ⟨h1, h2, -⟩ := h
    have h3 := of_decide_eq_true h2
    refine ⟨i, h1, rfl, h3, ?_⟩
    have h4 := artOf_mem hg (List.getElem_mem h1)
    rw [h3] at h4
    exact h4
section
variable {w w' : World} {B a g : Nat} {lv : Value} {gs : Grps} {S : Nat → Prop} {L : List Art}
set_option linter.unusedSimpArgs false in
set_option maxRecDepth 20000 in
set_option maxHeartbeats 4000000 in
theorem rat_any (h : RDct w B a g lv gs S L) (s : ByteArray) : Calls Tryz.prog 66 #[wptr g, .string s] w fun e w' => e = .returned (.int .i64 (atV L s)) ∧ w = w' := by
  obtain ⟨c0, c1, c2⟩ := h.cells
  have hat := fun (i : Nat) A n c (e : lv = .slice A n c) (hi : i < L.length) => art_at (e ▸ h.list) hi
  obtain ⟨A, c, rfl, hc1, hc2⟩ := h.list.form
  have HAT := Lib.hid (fun i hi => hat i A L.length c rfl hi)
  have hlm : L.length ≤ 9223372036854775807 := by unfold maxLen at hc2; omega
  clear h hat hc1 hc2
  obtain ⟨r, hr⟩ : ∃ r, atV L s = r := ⟨_, rfl⟩
  rw [hr]
  have HR := Lib.hid hr
  clear hr
  obtain ⟨n, hn⟩ : ∃ n, L.length = n := ⟨_, rfl⟩
  have HN := Lib.hid hn
  rw [hn] at c2 hlm
  clear hn
  go_enter Tryz.func66, Tryz.ntmps66
  go_wp2
  go_loopw [5] (fun i wr => ∃ k : Nat, k ≤ n ∧ i = .int .i64 k ∧ (∀ j (hj : j < L.length), j < k → L[j].head ≠ s) ∧ w = wr) (fun i _ => n - (RowKit.intOf i).toNat)
  case atStart => exact ⟨0, by omega, rfl, fun j _ h => absurd h (by omega), rfl⟩
  case round =>
    obtain ⟨k, hk, rfl, hno, rfl⟩ := hrel
    have HNO := Lib.hid hno
    clear hno
    by_cases hlt : k < n
    · have hkI : (k : Int) < (n : Int) := by omega
      have hkl : k < L.length := by rw [HN.out]; exact hlt
      obtain ⟨ad, X1, y1, X2, y2, X3, y3, rfl, -, -, hrun⟩ := HAT.out k hkl
      obtain ⟨q0, -, -, -⟩ := hrun w (fun _ _ => rfl)
      have hb := beq_ba L[k].head s
      by_cases he : L[k].head = s
      · have hrk : r = (k : Int) := by
          rw [← HR.out]
          unfold atV
          rw [List.findIdx?_eq_some_iff_getElem.2 ⟨hkl, decide_eq_true he, fun j hj => by
            have := HNO.out j (by omega) hj
            simpa using this⟩]
        rw [decide_eq_true he] at hb
        subst hrk
        clear he hrun
        generalize L[k].head = x at *
        go_wp2
        go_ret
        exact ⟨rfl, rfl⟩
      · rw [decide_eq_false he] at hb
        have hno2 : ∀ j (hj : j < L.length), j < k + 1 → L[j].head ≠ s := fun j hj hjk => by
          rcases (by omega : j < k ∨ j = k) with h1 | rfl
          · exact HNO.out j hj h1
          · exact he
        have HN2 := Lib.hid hno2
        clear he hrun hno2
        generalize L[k].head = x at *
        go_wp2
        go_roundw
        case rel => exact ⟨k + 1, by omega, by go_num, HN2.out, trivial⟩
        case measure => simp [RowKit.intOf]; omega
    · obtain rfl : n = k := by omega
      have hrk : r = -1 := by
        rw [← HR.out]
        unfold atV
        rw [List.findIdx?_eq_none_iff.2 fun x hx => by
          obtain ⟨j, hj, rfl⟩ := List.getElem_of_mem hx
          have := HNO.out j hj (by rw [HN.out] at hj; exact hj)
          simpa using this]
      subst hrk
      go_wp2
      go_ret
      exact ⟨rfl, rfl⟩
end
end Go.Proofs.YtgkpoopiamicnaaGreatDoor
