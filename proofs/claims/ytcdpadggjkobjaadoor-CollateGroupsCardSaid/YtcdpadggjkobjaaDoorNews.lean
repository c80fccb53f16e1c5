/-
  CollateNews of layer 39, walked. Conditions: the cell of the library's MaxLen holds some int; arguments of the reach.
-/
import Derived.Test.YtcdpadggjkobjaaDoorLetters
namespace Go.Proofs.YtcdpadggjkobjaaDoor
open Go.RowKit Go.Lib

def flatO : Option (List (List ByteArray)) → List ByteArray
  | none => []
  | some gs => gs.flatten
set_option maxRecDepth 20000 in
set_option maxHeartbeats 1000000 in
theorem letters_prg (g : Nat) (gs : List (List ByteArray)) (w : World) (h : Alph w g gs) (hl : gs.flatten.length ≤ 16384) :
    Calls Tryd.prog 30 #[.pointer (some ⟨g, 0, none⟩)] w (GivesS w gs.flatten) := by
  have hm := made_any g gs w h
  obtain ⟨base, v, mb, cnt, cs, h1, h2, h3, _⟩ := h
  obtain ⟨A, c, rfl, hr, hc1, hc2⟩ := readM_of_own h3
  have hc := (h1.cell 0).trans h2.2.1
  have hcc := concat_any A gs.length c gs w hr (by omega) hl
  clear h1 h2 h3 hr hl hc1 hc2
  generalize gs.flatten = fl at hcc ⊢
  go_enter Tryd.func30, Tryd.ntmps30
  go_wp2_with fail
  refine hm.mono ?_
  rintro e w' ⟨rfl, rfl⟩
  go_wp2_with fail
  refine hcc.mono ?_
  rintro e w1 ⟨v1, rfl, ho, hb⟩
  obtain ⟨A1, c1, rfl, _, _⟩ := ownsRow_form ho
  go_wp2
  go_ret
  exact ⟨_, rfl, ho, hb⟩
theorem lettersN_any (w : World) : Calls Tryd.prog 30 #[.pointer none] w (GivesS w []) := by
  have hm := madeN_any w
  go_enter Tryd.func30, Tryd.ntmps30
  go_wp2_with (go_at_call 57; refine hm.mono ?_; rintro e w' ⟨rfl, rfl⟩)
  go_ret
  exact ⟨_, rfl, World.ownsRow_nil _ _ _ _, Below.refl _ _⟩
theorem reflettersN_any (w : World) : Calls Tryd.prog 31 #[.pointer none] w (GivesS w []) := by
  have hm := refmadeN_any w
  go_enter Tryd.func31, Tryd.ntmps31
  go_wp2_with (go_at_call 59; refine hm.mono ?_; rintro e w' ⟨rfl, rfl⟩)
  go_ret
  exact ⟨_, rfl, World.ownsRow_nil _ _ _ _, Below.refl _ _⟩
theorem lettersO_any (p : Option Addr) (og : Option (List (List ByteArray))) (w : World) (h : AlphO w p og) (hl : (flatO og).length ≤ 16384) : Calls Tryd.prog 30 #[.pointer p] w (GivesS w (flatO og)) := by
  cases og with
  | none => obtain rfl : p = none := h; exact lettersN_any w
  | some gs => obtain ⟨g, rfl, h1, _⟩ := h; exact letters_prg g gs w h1 hl
theorem reflettersO_any (p : Option Addr) (og : Option (List (List ByteArray))) (w : World) (h : RefO w p og) (hl : (flatO og).length ≤ 16384) (hG : SmallO og) : Calls Tryd.prog 31 #[.pointer p] w (GivesS w (flatO og)) := by
  cases og with
  | none => obtain rfl : p = none := h; exact reflettersN_any w
  | some gs => obtain ⟨g, rfl, h1⟩ := h; exact refLetters_any g gs w h1 hl (by have : gs.length ≤ 20000 := hG.1; unfold maxLen; omega)
theorem GivesS.form {w w' : World} {xs : List ByteArray} {e : Ending} (h : GivesS w xs e w') :
    ∃ A n c, e = .returned (.slice A n c) ∧ ReadS w' w'.heap.size A n xs ∧ n ≤ maxLen ∧ Below w.heap.size w w' := by
  obtain ⟨v, rfl, ho, hb⟩ := h
  obtain ⟨A, c, rfl, h1, h2⟩ := ownsRow_form ho
  exact ⟨A, _, c, rfl, Reads.of_own ho, by omega, hb⟩
set_option maxRecDepth 20000 in
set_option maxHeartbeats 1000000 in
theorem cloneS_any (A : Option Addr) (n c : Nat) (ss : List ByteArray) (w : World) (K : Nat) (hr : ReadS w K A n ss) (hK : K ≤ w.heap.size) (hn : n ≤ 100000) :
    Calls Tryd.prog 29 #[.slice A n c] w (GivesS w ss) := by
  obtain ⟨i0, hi, hz0, hz1, hz2⟩ := info_parts info_string
  have HL := Lib.hid hr.len
  have hnil := fun (W : World) (a : Option Addr) (n c : Nat) => Lib.run_eql_slice_nil (P := Tryd.prog) W 22 9 a n c 0 0 Tryd.underlying22
  rcases A with _ | ad
  · have h0 : n = 0 := by
      rcases Nat.eq_zero_or_pos n with h | h
      · exact h
      · obtain ⟨_, h', _⟩ := hr.2 h; cases h'
    subst h0
    have hs : ss = [] := List.eq_nil_of_length_eq_zero HL.out
    subst hs
    go_enter Tryd.func29, Tryd.ntmps29
    go_wp2
    go_ret
    exact ⟨_, rfl, World.ownsRow_nil _ _ _ _, Below.refl _ _⟩
  · have hown := own_empty w 9 #[] 0 rfl (by unfold maxLen; omega)
    have hr' := (hr.more hK).alloc (Nat.le_refl _) (.cells #[] 9)
    go_enter Tryd.func29, Tryd.ntmps29
    go_wp2_with (at_builtin; refine wpList_append_any _ rfl _ _ _ rfl w.heap.size 9 i0 (.string ByteArray.empty) 1 16 Tryd.underlying22 hi hz0 hz1 hz2 rfl (by decide) _ _ _ rfl hown w.heap.size _ _ _ (ss.map Value.string) rfl hr' (by intro u hu; obtain ⟨x, _, rfl⟩ := List.mem_map.1 hu; rfl) (by unfold maxLen; omega) (by omega) (by simp) ?_; intro v' w1 hown' hgrow _)
    have hb1 : Below w.heap.size w w1 := ((Below.refl _ w).alloc (Nat.le_refl _) _).grown hgrow (by simp) (fun g hg => (hown.lt g hg).1)
    clear hgrow
    go_ret
    exact ⟨_, rfl, by rw [HL.out]; simpa using hown', hb1⟩

set_option maxRecDepth 20000 in
set_option maxHeartbeats 2000000 in
theorem news_any (A : Option Addr) (n c : Nat) (ss : List ByteArray) (w : World) (hm : MaxOk w) (hr : ReadS w w.heap.size A n ss) (hs : ∀ s ∈ ss, okS s) (hn : n ≤ maxLen) :
    Calls Tryd.prog 6 #[.slice A n c] w (WorksPost w) := by
  have hf := few_any A n c ss 300 3000 w _ hr hs hn (by omega)
  by_cases h1 : fewB ss 300 3000 = true
  · have h3 := fewB_yes h1
    have hL := hr.len
    have hb := fun W (h : Below w.heap.size w W) => both_any A n c ss W (hm.below h) ((hr.below h).more h.size) (by omega) (by omega)
    have hG := groupsO_small (ss := ss) (by omega) (by omega)
    have hfl : (flatO (groupsO ss)).length ≤ 16384 := by
      unfold groupsO
      split
      · have := totalP_le ss
        unfold totalP at this
        show (groupsB ss).flatten.length ≤ _
        omega
      · show 0 ≤ _; omega
    have hcl := cloneS_any A n c ss w _ hr (Nat.le_refl _) (by omega)
    rw [h1] at hf
    have kw := fun W (hb : Below w.heap.size w W) => works_any W (hm.below hb)
    have kl := fun p W (h : AlphO W p (groupsO ss)) => lettersO_any p (groupsO ss) W h hfl
    have rl := fun p W (h : RefO W p (groupsO ss)) => reflettersO_any p (groupsO ss) W h hfl hG
    unfold BothPost at hb
    generalize groupsO ss = og at hb kl rl
    generalize flatO og = fl at kl rl
    have KW := Lib.hid kw; have KL := Lib.hid kl; have RL := Lib.hid rl; have HB := Lib.hid hb; have HL := Lib.hid hL
    clear kw kl rl hG hfl hb h3 h1 hm hs hL
    go_enter Tryd.func6, Tryd.ntmps6
    go_wp2_with fail
    refine hf.mono ?_
    rintro e w' ⟨rfl, rfl⟩
    go_wp2_with fail
    refine hcl.mono ?_
    rintro e w1 hp
    obtain ⟨A1, n1, c1, rfl, hx, hn1, hb1⟩ := hp.form
    clear hp hcl hf
    go_wp2_with fail
    refine (HB.out _ hb1).mono ?_
    rintro e w2 ⟨p, q, rfl, hA, hR, hb2⟩
    have HA := Lib.hid hA; have HR := Lib.hid hR; clear hA hR
    have hx2 := hx.below hb2
    have hr2 := (hr.below hb1).below (hb2.mono hb1.size)
    go_wp2_with fail
    refine (equalS_refl A1 A n1 n c1 c _ _ _ _ hx2 hr2 hn1).mono ?_
    rintro e w3 ⟨rfl, q1, rfl⟩
    go_wp2_with fail
    refine (KL.out p _ (HA.out.below (below_drewN (Below.refl _ _) _))).mono ?_
    rintro e w4 hp
    obtain ⟨A2, n2, c2, rfl, hy, hn2, hb4⟩ := hp.form
    clear hp
    go_wp2_with fail
    refine (RL.out q _ ((HR.out.below (below_drewN (Below.refl _ _) q1)).below hb4)).mono ?_
    rintro e w5 hp
    obtain ⟨A3, n3, c3, rfl, hz, hn3, hb5⟩ := hp.form
    clear hp
    go_wp2_with fail
    refine (equalS_refl A2 A3 n2 n3 c2 c3 _ _ _ _ (hy.below hb5) hz hn2).mono ?_
    rintro e w6 ⟨rfl, q2, rfl⟩
    have hB : Below w.heap.size w (w5.drewN q2) := by
      have z1 := hb1.size; have z2 := hb2.size; have z4 := hb4.size
      have z4' : w2.heap.size ≤ w4.heap.size := z4
      exact below_drewN (((hb1.trans (hb2.mono z1)).trans ((below_drewN (Below.refl _ w2) q1).trans (hb4.mono (by show _ ≤ w2.heap.size; omega)))).trans (hb5.mono (by omega))) _
    go_wp2_with fail
    refine (KW.out _ hB).mono ?_
    rintro e w8 ⟨rfl, hb8⟩
    go_wp2
    go_ret
    exact ⟨rfl, hB.trans (hb8.mono hB.size)⟩
  · have kw := works_any w hm
    rw [Bool.not_eq_true] at h1
    rw [h1] at hf
    clear h1 hm hr hs hn
    go_enter Tryd.func6, Tryd.ntmps6
    go_wp2_with fail
    refine hf.mono ?_
    rintro e w' ⟨rfl, rfl⟩
    go_wp2_with fail
    refine kw.mono ?_
    rintro e w8 ⟨rfl, hb8⟩
    go_wp2
    go_ret
    exact ⟨rfl, hb8⟩
end Go.Proofs.YtcdpadggjkobjaaDoor
