/-
  The reference's 'made', 'Letters' of layer 39. Conditions: an alphabet in memory as New makes it; at most 16,384 letters.
-/
import Derived.Test.YtcdpadggjkobjaaDoorRef1
import Derived.Test.YtcdpadggjkobjaaDoorMat
namespace Go.Proofs.YtcdpadggjkobjaaDoor
open Go.RowKit

abbrev strM (gs : List (List ByteArray)) : List (List Value) := gs.map (·.map Value.string)
/-- The reference's alphabet in block g. -/
def RefAlph (w : World) (g : Nat) (gs : List (List ByteArray)) : Prop :=
  ∃ base v, Blk w g 93 #[.bool true, v] ∧ OwnM w base 22 9 v (strM gs)
theorem RefAlph.below {w w' : World} {g : Nat} {gs : List (List ByteArray)} (h : RefAlph w g gs) (hb : Below w.heap.size w w') : RefAlph w' g gs := by
  obtain ⟨base, v, h1, h2⟩ := h
  exact ⟨base, v, h1.below hb h1.lt, h2.below hb⟩

theorem refmade_any (g : Nat) (gs : List (List ByteArray)) (w : World) (h : RefAlph w g gs) :
    Calls Tryd.prog 59 #[.pointer (some ⟨g, 0, none⟩)] w fun e w' => e = .returned (.bool true) ∧ w = w' := by
  obtain ⟨base, v, h1, h2⟩ := h
  have hc := h1.cell 0
  simp only [List.getElem?_toArray, List.getElem?_cons_zero] at hc
  clear h1 h2
  go_enter Tryd.func59, Tryd.ntmps59
  go_wp2
  go_ret
  exact ⟨rfl, rfl⟩

theorem flatten_take_succ {gs : List (List ByteArray)} {k : Nat} (hk : k < gs.length) : (gs.take (k + 1)).flatten = (gs.take k).flatten ++ gs[k] := by
  rw [List.take_succ_eq_append_getElem hk, List.flatten_append]; simp
theorem flatten_take_le (gs : List (List ByteArray)) (k : Nat) : (gs.take k).flatten.length ≤ gs.flatten.length := by
  conv => rhs; rw [← List.take_append_drop k gs, List.flatten_append, List.length_append]
  omega

set_option maxRecDepth 20000 in
set_option maxHeartbeats 1000000 in
theorem refLetters_any (g : Nat) (gs : List (List ByteArray)) (w : World) (h : RefAlph w g gs) (hl : gs.flatten.length ≤ 16384) (hgl : gs.length ≤ maxLen) :
    Calls Tryd.prog 31 #[.pointer (some ⟨g, 0, none⟩)] w (GivesS w gs.flatten) := by
  obtain ⟨i0, hi, hz0, hz1, hz2⟩ := info_parts info_string
  have hmade := refmade_any g gs w h
  obtain ⟨base, v, hg, hM⟩ := h
  have hgl' := hgl
  unfold maxLen at hgl
  obtain ⟨A, c, rfl, hc1, hc2⟩ := hM.form
  have hm := Lib.hid hM
  clear hM
  have hglt := hg.lt
  have hc := hg.cell 1
  simp only [List.getElem?_toArray, List.getElem?_cons_succ, List.getElem?_cons_zero] at hc
  clear hg
  have HL := Lib.hid (show (strM gs).length = gs.length by simp)
  rw [HL.out] at hc hc1
  go_enter Tryd.func31, Tryd.ntmps31
  go_wp2_with (go_at_call 59; refine hmade.mono ?_; rintro e w' ⟨rfl, rfl⟩)
  go_loopw [3, 4] (fun v i wr => ∃ (k : Nat), k ≤ gs.length ∧ i = .int .i64 k ∧ wr.ownsRow w.heap.size 9 1 v (gs.take k).flatten.length ((gs.take k).flatten.map Value.string) ∧ Below w.heap.size w wr) (fun _ i _ => gs.length - (intOf i).toNat)
  case atStart => exact ⟨0, by omega, rfl, World.ownsRow_nil _ _ _ _, Below.refl _ _⟩
  case round =>
    obtain ⟨k, hk, rfl, hown, hb⟩ := hrel
    have hcr := (hb.cell (p := ⟨g, 1, none⟩) hglt).trans hc
    by_cases hlt : k < gs.length
    · obtain ⟨g', c', u, hv, hcu, hu⟩ := hm.out.at_ (k := k) (by simpa using hlt)
      obtain ⟨A', n', rfl, hn1, hn2⟩ := ownsRow_form hu
      have hR := Reads.of_own hu
      simp only [List.getElem_map, List.length_map] at hR hcu hu
      rw [HL.out] at hv
      injection hv with hv1 hv2 hv3
      subst hv1 hv3
      have hg' : g' < w.heap.size := by
        rcases Nat.lt_or_ge g' w.heap.size with h | h
        · exact h
        · rw [World.cell?, Array.getElem?_eq_none h] at hcu; cases hcu
      have hcur := (hb.cell (p := ⟨g', k, none⟩) hg').trans hcu
      have hRr := hR.below hb
      have hfl := flatten_take_succ hlt
      have hfle := flatten_take_le gs (k + 1)
      rw [hfl, List.length_append] at hfle
      have HF := Lib.hid hfl
      clear hfl hcu hu hR hcr
      have hcr := (hb.cell (p := ⟨g, 1, none⟩) hglt).trans hc
      clear hc hn1 hn2
      go_wp2_with (at_builtin; refine wpList_append_any _ rfl _ _ _ rfl w.heap.size 9 i0 (.string ByteArray.empty) 1 16 Tryd.underlying22 hi hz0 hz1 hz2 rfl (by decide) _ _ _ rfl hown w.heap.size _ _ _ (gs[k].map Value.string) rfl hRr (by intro u hu; obtain ⟨x, _, rfl⟩ := List.mem_map.1 hu; rfl) (by unfold maxLen; omega) (by omega) hb.size ?_; intro v' w1 hown' hgrow _)
      have hb1 : Below w.heap.size w w1 := hb.grown hgrow hb.size (fun g hg => (hown.lt g hg).1)
      clear hgrow hown
      go_roundw
      case rel => exact ⟨k + 1, by omega, by go_num, by rw [HF.out]; simpa using hown', hb1⟩
      case measure => simp [intOf]; omega
    · obtain rfl : k = gs.length := by omega
      rw [List.take_length] at hown
      go_wp2
      go_ret
      exact ⟨_, rfl, hown, hb⟩
end Go.Proofs.YtcdpadggjkobjaaDoor
