/-
  layer 25: the reference's line. Conditions: a history that can be read, whose tree is valid.
-/
import Derived.Test.YtmepaeahchiglaaGreatDoorZaaz
import Derived.Test.YtmepaeahchiglaaGreatDoorZaPkRl
namespace Go.Proofs.YtmepaeahchiglaaGreatDoor
open Go.RowKit Go.Lib

theorem lens_get (t : List Nd) (on : List (List Int)) (i : Nat) : ∀ k, i < k → (lensL t on k)[i]?.getD 0 = lenK t on i
  | 0, h => absurd h (Nat.not_lt_zero _)
  | k + 1, h => by
    rw [lens_at]
    by_cases e : i = k
    · rw [if_pos e, e]
    · rw [if_neg e]; exact lens_get t on i k (by omega)
theorem lenK_eq {t : List Nd} {on : List (List Int)} {v : Nat} (hv : v < t.length) (ho : v < on.length) (hnd : ndOk v t[v] = true) :
    lenK t on v = (if 0 ≤ t[v].1 then lenK t on t[v].1.toNat else 0) + on[v].length := by
  have hp := ndOk_par hnd
  unfold lenK
  rw [List.getElem?_eq_getElem hv, List.getElem?_eq_getElem ho, Option.getD_some, Option.getD_some, Nat.add_comm]
  congr 1
  by_cases h : 0 ≤ t[v].1
  · rw [if_pos h, if_pos h, lens_get t on _ v (by omega)]; rfl
  · rw [if_neg h, if_neg h]
theorem lenK_bound {t : List Nd} {on : List (List Int)} (hnd : ∀ (i : Nat) (hi : i < t.length), ndOk i t[i] = true) (hlen : on.length = t.length) (hon : ∀ l ∈ on, l.length ≤ 1000000000) : ∀ v, v < t.length → lenK t on v ≤ 1000000000 * (v + 1) := by
  intro v
  induction v using Nat.strongRecOn with
  | ind v ih =>
    intro hv
    have ho : v < on.length := by omega
    have h1 := hon _ (List.getElem_mem ho)
    rw [lenK_eq hv ho (hnd v hv)]
    have hp := ndOk_par (hnd v hv)
    by_cases h : 0 ≤ t[v].1
    · rw [if_pos h]
      have h2 := ih t[v].1.toNat (by omega) (by omega)
      have h3 : t[v].1.toNat + 1 ≤ v := by omega
      have h4 : 1000000000 * (t[v].1.toNat + 1) ≤ 1000000000 * v := Nat.mul_le_mul_left _ h3
      omega
    · rw [if_neg h]; omega
/-- What line makes. -/
def LineP (w : World) (n : Nat) (e : Ending) (w' : World) : Prop := ∃ v xs, e = .returned v ∧ w'.ownsRow w.heap.size 3 1 v n xs ∧ Below w.heap.size w w'
set_option maxRecDepth 20000 in
theorem line_neg (p : Int) (hp : p < 0) (A4 A5 A6 : Option Addr) (m4 m5 m6 c4 c5 c6 : Nat) (w : World) :
    Calls Tryz.prog 201 #[.agg #[.slice A4 m4 c4, .slice A5 m5 c5, .slice A6 m6 c6], .int .i64 p] w (LineP w 0) := by
  go_enter Tryz.func201, Tryz.ntmps201
  go_wp2
  go_ret
  exact ⟨_, [], rfl, World.ownsRow_nil _ _ _ _, (Below.refl _ _).alloc (Nat.le_refl _) _⟩
set_option linter.unusedSimpArgs false in
set_option maxRecDepth 20000 in
set_option maxHeartbeats 8000000 in
theorem line_any (A4 A5 A6 : Option Addr) (m4 m5 m6 c4 c5 c6 B : Nat) (t : List Nd) (on : List (List Int)) (hnd : ∀ (i : Nat) (hi : i < t.length), ndOk i t[i] = true) (h63 : t.length ≤ 63) (hlen : on.length = t.length) (hon : ∀ l ∈ on, l.length ≤ 1000000000) : ∀ (v : Nat) (w : World), SlC NdC 2 w B t (.slice A4 m4 c4) → SlC OnC 1 w B on (.slice A6 m6 c6) → B ≤ w.heap.size → v < t.length →
    Calls Tryz.prog 201 #[.agg #[.slice A4 m4 c4, .slice A5 m5 c5, .slice A6 m6 c6], .int .i64 (v : Int)] w (LineP w (lenK t on v)) := by
  obtain ⟨i0, hi, hz0, hz1, hz2⟩ := info_parts (show (Tryz.prog.info? 3).map (fun i => (i.zero, i.size, i.bytes)) = some (some (.int .i64 0), 1, 8) by kernel_rfl)
  intro v
  induction v using Nat.strongRecOn with
  | ind v ih =>
    intro w h4 h6 hB hv
    have ho : v < on.length := by omega
    have hpar := ndOk_par (hnd v hv)
    have hlk := lenK_eq hv ho (hnd v hv)
    have hbd := lenK_bound hnd hlen hon v hv
    have hb0 := (Below.refl w.heap.size w).alloc (Nat.le_refl _) (.cells #[.slice A4 m4 c4, .slice A5 m5 c5, .slice A6 m6 c6] 29)
    have hk0 := Blk.new w 29 #[.slice A4 m4 c4, .slice A5 m5 c5, .slice A6 m6 c6]
    have hle1 : w.heap.size ≤ (w.alloc (.cells #[.slice A4 m4 c4, .slice A5 m5 c5, .slice A6 m6 c6] 29)).heap.size := by rw [World.size_alloc]; omega
    have hlt1 : w.heap.size < (w.alloc (.cells #[.slice A4 m4 c4, .slice A5 m5 c5, .slice A6 m6 c6] 29)).heap.size := by rw [World.size_alloc]; omega
    have hkp := fun (W : World) (hW : Below w.heap.size w W) => fun (q : Addr) (hq : q.block < B) => hW.cell (p := q) (Nat.lt_of_lt_of_le hq hB)
    obtain ⟨W0, hW0⟩ : ∃ W, w.alloc (.cells #[.slice A4 m4 c4, .slice A5 m5 c5, .slice A6 m6 c6] 29) = W := ⟨_, rfl⟩
    rw [hW0] at hb0 hk0 hle1 hlt1
    have hcall : Calls Tryz.prog 201 #[.agg #[.slice A4 m4 c4, .slice A5 m5 c5, .slice A6 m6 c6], .int .i64 t[v].1] W0.drew (LineP W0.drew (if 0 ≤ t[v].1 then lenK t on t[v].1.toNat else 0)) := by
      by_cases h : 0 ≤ t[v].1
      · rw [if_pos h]
        have h2 := ih t[v].1.toNat (by omega) W0.drew (SlC.plain (hkp W0.drew hb0.drew) h4 (fun _ _ h => h)) (SlC.plain (hkp W0.drew hb0.drew) h6 (fun _ _ h => OnC.keep (hkp W0.drew hb0.drew) h)) (Nat.le_trans hB hle1) (by omega)
        rw [show ((t[v].1.toNat : Nat) : Int) = t[v].1 by omega] at h2
        exact h2
      · rw [if_neg h]
        exact line_neg _ (by omega) A4 A5 A6 m4 m5 m6 c4 c5 c6 W0.drew
    obtain ⟨ad, cs, rfl, had, hP, hcc⟩ := slC_cells (plain_len (f := fun x : Nd => [Value.int .i64 x.1, Value.string x.2]) (m := 2) fun _ => rfl) h4 hv
    obtain ⟨ad6, cs6, rfl, had6, hP6, hcc6⟩ := slC_cells on_len h6 ho
    have hm4 := h4.len.1
    have hm6 := h6.len.1
    have hm4' := h4.len.2
    have hm6' := h6.len.2
    unfold maxLen at hm4' hm6'
    have hvI : (v : Int) < (m4 : Int) := by omega
    have hvI6 : (v : Int) < (m6 : Int) := by omega
    have hv0 : (0 : Int) ≤ (v : Int) := by omega
    have hvn : ¬ (v : Int) < 0 := by omega
    generalize t[v] = x at *
    obtain ⟨par, nm⟩ := x
    obtain rfl : cs = [.int .i64 par, .string nm] := hP
    have e0 := hcc 0 _ rfl
    rw [Nat.add_zero] at e0
    generalize on[v] = l at *
    obtain ⟨vx, rfl, hvx⟩ := hP6
    obtain ⟨Ax, cx, rfl, ⟨hx1, hx2⟩, hxr⟩ := hvx.flat
    have e6 := hcc6 0 _ rfl
    rw [Nat.mul_one, Nat.add_zero] at e6
    simp only [] at hpar hlk hcall e0
    clear hcc hcc6 hpar ih
    obtain ⟨q, hq⟩ : ∃ q, (if 0 ≤ par then lenK t on par.toNat else 0) = q := ⟨_, rfl⟩
    rw [hq] at hlk hcall
    obtain ⟨ln, hln⟩ : ∃ m, l.length = m := ⟨_, rfl⟩
    obtain ⟨lk, hlke⟩ : ∃ m, lenK t on v = m := ⟨_, rfl⟩
    rw [flatMap_one] at hxr
    rw [hln] at hx1 e6 hxr hlk hvx
    rw [hlke] at hlk hbd ⊢
    have hv63 : v ≤ 62 := by omega
    have hbd2 : q + ln ≤ 63000000000 := by
      have : 1000000000 * (v + 1) ≤ 1000000000 * 63 := Nat.mul_le_mul_left _ (by omega)
      omega
    have hS : ∀ W : World, Below w.heap.size w W → Blk W w.heap.size 29 #[.slice (some ad) m4 c4, .slice A5 m5 c5, .slice (some ad6) m6 c6] → (W.cell? ⟨w.heap.size, 0, none⟩ = some (.slice (some ad) m4 c4) ∧ W.cell? ⟨w.heap.size, 1, none⟩ = some (.slice A5 m5 c5) ∧ W.cell? ⟨w.heap.size, 2, none⟩ = some (.slice (some ad6) m6 c6)) ∧ W.cell? (ad.add (v * 2)) = some (.int .i64 par) ∧ W.cell? (ad6.add v) = some (.slice Ax ln cx) := fun W hW hb => by
      have g0 := hb.cell 0
      have g1 := hb.cell 1
      have g2 := hb.cell 2
      simp only [List.getElem?_toArray, List.getElem?_cons_zero, List.getElem?_cons_succ] at g0 g1 g2
      exact ⟨⟨g0, g1, g2⟩, (hkp W hW _ (by rw [add_block_]; exact had)).trans e0, (hkp W hW _ (by rw [add_block_]; exact had6)).trans e6⟩
    have HS := Lib.hid hS; have HCALL := Lib.hid hcall; have HB0 := Lib.hid hb0; have HK0 := Lib.hid hk0; have HXR := Lib.hid hxr; have HLK := Lib.hid hlk; have HW0 := Lib.hid hW0
    have hs0 := hS _ hb0.drew hk0.drew
    clear hS hcall hb0 hk0 hxr hlk hW0 hkp e0 e6 h4 h6 hq hln hlke hvx hnd hbd hm4 hm6 hlen hon hv ho had had6
    obtain ⟨hq1, hq2, hq3⟩ := hs0
    go_enter Tryz.func201, Tryz.ntmps201
    go_wp2_with (rw [HW0.out])
    refine wp_region_held_drew (S := (fun W => (W.cell? ⟨w.heap.size, 0, none⟩ = some (.slice (some ad) m4 c4) ∧ W.cell? ⟨w.heap.size, 1, none⟩ = some (.slice A5 m5 c5) ∧ W.cell? ⟨w.heap.size, 2, none⟩ = some (.slice (some ad6) m6 c6)) ∧ W.cell? (ad.add (v * 2)) = some (.int .i64 par) ∧ W.cell? (ad6.add v) = some (.slice Ax ln cx))) (by kernel_rfl) ?_ (fun hHeld => ?_)
    · (try dsimp only)
      (first | exact ⟨hq1, hq2, hq3⟩ | exact hs3 | exact hs2)
    refine wpAnyH_take (i := 0) (v := ?_) rfl (by kernel_rfl) (by kernel_rfl) (by kernel_rfl) (fun _ _ _ h => h) (Or.inl ⟨by rfl, ?_⟩) (by assumption) ?_
    rotate_left
    · intro w hSw
      (try dsimp only at hSw)
      go_simp <;> with_reducible rfl
    try simp only [Act.put, List.getElem_toArray, List.getElem_cons_succ, List.getElem_cons_zero, List.setIfInBounds_toArray, List.set_cons_zero, List.set_cons_succ]
    refine wpAnyH_take (i := 1) (v := ?_) rfl (by kernel_rfl) (by kernel_rfl) (by kernel_rfl) (fun _ _ _ h => h) (Or.inl ⟨by rfl, ?_⟩) (by assumption) ?_
    rotate_left
    · intro w hSw
      (try dsimp only at hSw)
      go_simp <;> with_reducible rfl
    try simp only [Act.put, List.getElem_toArray, List.getElem_cons_succ, List.getElem_cons_zero, List.setIfInBounds_toArray, List.set_cons_zero, List.set_cons_succ]
    refine wpAnyH_take (i := 2) (v := ?_) rfl (by kernel_rfl) (by kernel_rfl) (by kernel_rfl) (fun _ _ _ h => h) (Or.inl ⟨by rfl, ?_⟩) (by assumption) ?_
    rotate_left
    · intro w hSw
      (try dsimp only at hSw)
      go_simp <;> with_reducible rfl
    try simp only [Act.put, List.getElem_toArray, List.getElem_cons_succ, List.getElem_cons_zero, List.setIfInBounds_toArray, List.set_cons_zero, List.set_cons_succ]
    refine wpAnyH_take (i := 3) (v := ?_) rfl (by kernel_rfl) (by kernel_rfl) (by kernel_rfl) (fun _ _ _ h => h) (Or.inl ⟨by rfl, ?_⟩) (by assumption) ?_
    rotate_left
    · intro w hSw
      (try dsimp only at hSw)
      go_simp <;> with_reducible rfl
    try simp only [Act.put, List.getElem_toArray, List.getElem_cons_succ, List.getElem_cons_zero, List.setIfInBounds_toArray, List.set_cons_zero, List.set_cons_succ]
    refine wpAnyH_take (i := 4) (v := ?_) rfl (by kernel_rfl) (by kernel_rfl) (by kernel_rfl) (fun _ _ _ h => h) (Or.inl ⟨by rfl, ?_⟩) (by assumption) ?_
    rotate_left
    · intro w hSw
      (try dsimp only at hSw)
      go_simp <;> with_reducible rfl
    try simp only [Act.put, List.getElem_toArray, List.getElem_cons_succ, List.getElem_cons_zero, List.setIfInBounds_toArray, List.set_cons_zero, List.set_cons_succ]
    refine wpAnyH_take (i := 5) (v := ?_) rfl (by kernel_rfl) (by kernel_rfl) (by kernel_rfl) (fun _ _ _ h => h) (Or.inl ⟨by rfl, ?_⟩) (by assumption) ?_
    rotate_left
    · intro w hSw
      (try dsimp only at hSw)
      go_simp <;> with_reducible rfl
    try simp only [Act.put, List.getElem_toArray, List.getElem_cons_succ, List.getElem_cons_zero, List.setIfInBounds_toArray, List.set_cons_zero, List.set_cons_succ]
    refine wpAnyH_take (i := 6) (v := ?_) rfl (by kernel_rfl) (by kernel_rfl) (by kernel_rfl) (fun _ _ _ h => h) (Or.inl ⟨by rfl, ?_⟩) (by assumption) ?_
    rotate_left
    · intro w hSw
      (try dsimp only at hSw)
      go_simp <;> with_reducible rfl
    try simp only [Act.put, List.getElem_toArray, List.getElem_cons_succ, List.getElem_cons_zero, List.setIfInBounds_toArray, List.set_cons_zero, List.set_cons_succ]
    refine wpAnyH_take (i := 8) (v := ?_) rfl (by kernel_rfl) (by kernel_rfl) (by kernel_rfl) (fun _ _ _ h => h) (Or.inl ⟨by rfl, ?_⟩) (by assumption) ?_
    rotate_left
    · intro w hSw
      (try dsimp only at hSw)
      go_simp <;> with_reducible rfl
    try simp only [Act.put, List.getElem_toArray, List.getElem_cons_succ, List.getElem_cons_zero, List.setIfInBounds_toArray, List.set_cons_zero, List.set_cons_succ]
    refine wpAnyH_take (i := 9) (v := ?_) rfl (by kernel_rfl) (by kernel_rfl) (by kernel_rfl) (fun _ _ _ h => h) (Or.inl ⟨by rfl, ?_⟩) (by assumption) ?_
    rotate_left
    · intro w hSw
      (try dsimp only at hSw)
      go_simp <;> with_reducible rfl
    try simp only [Act.put, List.getElem_toArray, List.getElem_cons_succ, List.getElem_cons_zero, List.setIfInBounds_toArray, List.set_cons_zero, List.set_cons_succ]
    refine wpAnyH_take (i := 10) (v := ?_) rfl (by kernel_rfl) (by kernel_rfl) (by kernel_rfl) (fun _ _ _ h => h) (Or.inl ⟨by rfl, ?_⟩) (by assumption) ?_
    rotate_left
    · intro w hSw
      (try dsimp only at hSw)
      go_simp <;> with_reducible rfl
    try simp only [Act.put, List.getElem_toArray, List.getElem_cons_succ, List.getElem_cons_zero, List.setIfInBounds_toArray, List.set_cons_zero, List.set_cons_succ]
    refine wpAnyH_take (i := 11) (v := ?_) rfl (by kernel_rfl) (by kernel_rfl) (by kernel_rfl) (fun _ _ _ h => h) (Or.inl ⟨by rfl, ?_⟩) (by assumption) ?_
    rotate_left
    · intro w hSw
      (try dsimp only at hSw)
      go_simp <;> with_reducible rfl
    try simp only [Act.put, List.getElem_toArray, List.getElem_cons_succ, List.getElem_cons_zero, List.setIfInBounds_toArray, List.set_cons_zero, List.set_cons_succ]
    refine wpAnyH_take (i := 12) (v := ?_) rfl (by kernel_rfl) (by kernel_rfl) (by kernel_rfl) (fun _ _ _ h => h) (Or.inl ⟨by rfl, ?_⟩) (by assumption) ?_
    rotate_left
    · intro w hSw
      (try dsimp only at hSw)
      go_simp <;> with_reducible rfl
    try simp only [Act.put, List.getElem_toArray, List.getElem_cons_succ, List.getElem_cons_zero, List.setIfInBounds_toArray, List.set_cons_zero, List.set_cons_succ]
    refine wpAnyH_ready (rs := [7]) (by kernel_rfl) (by simp) ?_
    refine AllReadyH.cons rfl (fun K hK => ?_) AllReadyH.nil
    go_simp
    (try go_wp2_with fail)
    refine HCALL.out.mono ?_
    rintro e w2 ⟨v2, xs2, rfl, ho2, hb2⟩
    have hb2' : Below w.heap.size w w2 := HB0.out.drew.trans (hb2.mono hle1)
    have hs2 := HS.out w2 hb2' ((HK0.out.drew).below hb2 hlt1)
    have HO2 := Lib.hid (own_mono ho2 hle1); have HB2 := Lib.hid hb2'; have HK2 := Lib.hid ((HK0.out.drew).below hb2 hlt1); have HXR2 := Lib.hid (HXR.out.below (hb2'.mono hB))
    clear ho2 hb2 hb2'
    (try go_simp)
    refine hK.out _ _ ?_ (fun hHeld' => ?_)
    · (try dsimp only)
      (first | exact ⟨hq1, hq2, hq3⟩ | exact hs3 | exact hs2)
    clear hK K hHeld
    have hHeld := hHeld'
    clear hHeld'
    refine wpAnyH_ready (rs := [13]) (by kernel_rfl) (by simp) ?_
    refine AllReadyH.cons rfl (fun K hK => ?_) AllReadyH.nil
    refine step_append_any _ (by rfl) (.tmp 14) (.tmp 19) 144 (by rfl) w.heap.size 3 i0 (.int .i64 0) 1 8 Tryz.underlying144 hi hz0 hz1 hz2 (by rfl) (by decide) v2 q xs2 (by simp [Act.eval, Act.put]) HO2.out B Ax ln cx (l.map fun k => Value.int .i64 k) (by simp [Act.eval, Act.put]) HXR2.out (by intro u hu; obtain ⟨k, _, rfl⟩ := List.mem_map.1 hu; rfl) (by unfold maxLen; omega) (by omega) HB2.out.size ?_
    intro v3 w3 hown3 hgrow3 hx3
    have hb3 : Below w.heap.size w w3 := HB2.out.grown hgrow3 HB2.out.size (fun g hg => (HO2.out.lt g hg).1)
    have hs3 := HS.out w3 hb3 (HK2.out.grown hgrow3 (fun e => own_blk_ne HO2.out HK2.out (by decide) e.symm))
    have HOWN3 := Lib.hid hown3; have HB3 := Lib.hid hb3
    clear hx3 hown3 hgrow3 hb3
    refine hK.out _ _ ?_ (fun hHeld' => ?_)
    · (try dsimp only)
      (first | exact ⟨hq1, hq2, hq3⟩ | exact hs3 | exact hs2)
    clear hK K hHeld
    have hHeld := hHeld'
    clear hHeld'
    refine wpAnyH_take (i := 14) (v := ?_) rfl (by kernel_rfl) (by kernel_rfl) (by kernel_rfl) (fun _ _ _ h => h) (Or.inl ⟨by rfl, ?_⟩) (by assumption) ?_
    rotate_left
    · intro w hSw
      (try dsimp only at hSw)
      go_simp <;> with_reducible rfl
    try simp only [Act.put, List.getElem_toArray, List.getElem_cons_succ, List.getElem_cons_zero, List.setIfInBounds_toArray, List.set_cons_zero, List.set_cons_succ]
    refine wpAnyH_done (by kernel_rfl) ?_ _
    go_wp2
    go_ret
    exact ⟨_, _, rfl, by rw [HLK.out]; exact HOWN3.out, HB3.out⟩
end Go.Proofs.YtmepaeahchiglaaGreatDoor

