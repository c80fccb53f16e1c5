/-
  CollateNews of layer 39, walked. Conditions: the cell of the library's MaxLen holds some int; arguments of the reach.
-/
import Derived.Test.YtcdpadggjkobjaaGreatDoorLetters
namespace Go.Proofs.YtcdpadggjkobjaaGreatDoor
open Go.RowKit Go.Lib

def flatO : Option (List (List ByteArray)) → List ByteArray
  | none => []
  | some gs => gs.flatten
set_option maxRecDepth 20000 in
set_option maxHeartbeats 1000000 in
theorem letters_prg (g : Nat) (gs : List (List ByteArray)) (w : World) (h : Alph w g gs) (hl : gs.flatten.length ≤ 16384) :
    Calls Tryz.prog 21 #[.pointer (some ⟨g, 0, none⟩)] w (GivesS w gs.flatten) := by
  have hm := made_any g gs w h
  obtain ⟨base, v, mb, cnt, cs, h1, h2, h3, _⟩ := h
  obtain ⟨A, c, rfl, hr, hc1, hc2⟩ := readM_of_own h3
  have hc := (h1.cell 0).trans h2.2.1
  have hcc := concat_any A gs.length c gs w hr (by omega) hl
  clear h1 h2 h3 hr hl hc1 hc2
  generalize gs.flatten = fl at hcc ⊢
  go_enter Tryz.func21, Tryz.ntmps21
  go_wp2_with fail
  refine hm.mono ?_
  rintro e w' ⟨rfl, rfl⟩
  go_wp2_with fail
  refine hcc.mono ?_
  rintro e w1 ⟨v1, rfl, ho, hb⟩
  obtain ⟨A1, c1, rfl, _, _⟩ := ownsRow_form ho
  go_wp2
  go_ret
  exact ⟨_, rfl, ho, hb⟩
theorem lettersN_any (w : World) : Calls Tryz.prog 21 #[.pointer none] w (GivesS w []) := by
  have hm := madeN_any w
  go_enter Tryz.func21, Tryz.ntmps21
  go_wp2_with (go_at_call 41; refine hm.mono ?_; rintro e w' ⟨rfl, rfl⟩)
  go_ret
  exact ⟨_, rfl, World.ownsRow_nil _ _ _ _, Below.refl _ _⟩
theorem lettersO_any (p : Option Addr) (og : Option (List (List ByteArray))) (w : World) (h : AlphO w p og) (hl : (flatO og).length ≤ 16384) : Calls Tryz.prog 21 #[.pointer p] w (GivesS w (flatO og)) := by
  cases og with
  | none => obtain rfl : p = none := h; exact lettersN_any w
  | some gs => obtain ⟨g, rfl, h1, _⟩ := h; exact letters_prg g gs w h1 hl
theorem GivesS.form {w w' : World} {xs : List ByteArray} {e : Ending} (h : GivesS w xs e w') :
    ∃ A n c, e = .returned (.slice A n c) ∧ ReadS w' w'.heap.size A n xs ∧ n ≤ maxLen ∧ Below w.heap.size w w' := by
  obtain ⟨v, rfl, ho, hb⟩ := h
  obtain ⟨A, c, rfl, h1, h2⟩ := ownsRow_form ho
  exact ⟨A, _, c, rfl, Reads.of_own ho, by omega, hb⟩
set_option maxRecDepth 20000 in
set_option maxHeartbeats 1000000 in
theorem cloneS_any (A : Option Addr) (n c : Nat) (ss : List ByteArray) (w : World) (K : Nat) (hr : ReadS w K A n ss) (hK : K ≤ w.heap.size) (hn : n ≤ 100000) :
    Calls Tryz.prog 11 #[.slice A n c] w (GivesS w ss) := by
  obtain ⟨i0, hi, hz0, hz1, hz2⟩ := info_parts info_string
  have HL := Lib.hid hr.len
  have hnil := fun (W : World) (a : Option Addr) (n c : Nat) => Lib.run_eql_slice_nil (P := Tryz.prog) W 22 9 a n c 0 0 Tryz.underlying22
  rcases A with _ | ad
  · have h0 : n = 0 := by
      rcases Nat.eq_zero_or_pos n with h | h
      · exact h
      · obtain ⟨_, h', _⟩ := hr.2 h; cases h'
    subst h0
    have hs : ss = [] := List.eq_nil_of_length_eq_zero HL.out
    subst hs
    go_enter Tryz.func11, Tryz.ntmps11
    go_wp2
    go_ret
    exact ⟨_, rfl, World.ownsRow_nil _ _ _ _, Below.refl _ _⟩
  · have hown := own_empty w 9 #[] 0 rfl (by unfold maxLen; omega)
    have hr' := (hr.more hK).alloc (Nat.le_refl _) (.cells #[] 9)
    go_enter Tryz.func11, Tryz.ntmps11
    go_wp2_with (at_builtin; refine wpList_append_any _ rfl _ _ _ rfl w.heap.size 9 i0 (.string ByteArray.empty) 1 16 Tryz.underlying22 hi hz0 hz1 hz2 rfl (by decide) _ _ _ rfl hown w.heap.size _ _ _ (ss.map Value.string) rfl hr' (by intro u hu; obtain ⟨x, _, rfl⟩ := List.mem_map.1 hu; rfl) (by unfold maxLen; omega) (by omega) (by simp) ?_; intro v' w1 hown' hgrow _)
    have hb1 : Below w.heap.size w w1 := ((Below.refl _ w).alloc (Nat.le_refl _) _).grown hgrow (by simp) (fun g hg => (hown.lt g hg).1)
    clear hgrow
    go_ret
    exact ⟨_, rfl, by rw [HL.out]; simpa using hown', hb1⟩

end Go.Proofs.YtcdpadggjkobjaaGreatDoor
