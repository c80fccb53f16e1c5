/-
  layer 3: Copy of the program: what is made, in whatever order. Conditions: an inventory in memory. (Printed by copy.py.)
-/
import Derived.Test.YtmepaeahchiglaaGreatDoorZbNtI6
import Derived.Test.YtmepaeahchiglaaGreatDoorZbNtM2
namespace Go.Proofs.YtmepaeahchiglaaGreatDoor
open Go.RowKit Go.Lib

section
variable {P : Program} {ops : Array Oper} {Q : Exit → Act → World → Prop} {md : Region.Mode} {S : World → Prop}
/-- A word that holds behind every operation, whatever comes up. -/
theorem wpAnyH_inv (I : Nat → Array Bool → Act → World → Prop)
    (step : ∀ fuel listed a w, I (fuel + 1) listed a w → wpAnyH P md ops Q S (fuel + 1) listed a w ∨ (Region.ready md ops listed ≠ [] ∧ ∀ i ∈ Region.ready md ops listed, ∃ o, ops[i]? = some o ∧ ∀ K : Act → World → Prop, (∀ a w, S w → I fuel (listed.setIfInBounds i true) a w → K a w) → if Region.wanted o (yielded ops a.tmps) = true then Oper.wp P o a w K Q else K (a.put o.dst undef) w))
    (zero : ∀ listed a w, I 0 listed a w → wpAnyH P md ops Q S 0 listed a w) : ∀ fuel listed a w, I fuel listed a w → wpAnyH P md ops Q S fuel listed a w
  | 0, listed, a, w, h => zero listed a w h
  | fuel + 1, listed, a, w, h => by
    rcases step fuel listed a w h with h1 | ⟨h1, h2⟩
    · exact h1
    · refine wpAnyH_all rfl h1 fun i hi => ?_
      obtain ⟨o, ho, h3⟩ := h2 i hi
      exact wpOp_step ho (fun K hK => h3 K (fun a w hS hI => hK a w ⟨hS, wpAnyH_inv I step zero fuel _ a w hI⟩))
end
theorem mem_chk {l : List Nat} {p : Nat → Bool} {i : Nat} (h : l.all p = true) (hi : i ∈ l) : p i = true := List.all_eq_true.1 h i hi
theorem ne_chk {l : List Nat} (h : l.isEmpty = false) : l ≠ [] := fun e => by rw [e] at h; cases h
/-- What was made so far: the clones, the maps. -/
structure CpI (W0 : World) (g : Nat) (fs : List ByteArray) (L : List Nam) (k : Nat) (m1 m2 m3 : Bool) (u15 u20 u21 u22 u23 : Value) (w : World) : Prop where
  below : Below W0.heap.size W0 w
  r1 : 1 ≤ k → ∃ A c, u15 = .slice A fs.length c ∧ w.ownsRow W0.heap.size 9 1 u15 fs.length (fs.map Value.string)
  r5 : 2 ≤ k → ∃ A c, u20 = .slice A L.length c ∧ w.ownsRow W0.heap.size 74 3 u20 L.length (L.flatMap namC)
  k1 : m1 = true → ∃ b, u21 = .map (some b) ∧ W0.heap.size ≤ b ∧ MapSI w b 0 fun _ => none
  k2 : m2 = true → ∃ b, u22 = .map (some b) ∧ W0.heap.size ≤ b ∧ MapSI w b 0 fun _ => none
  k3 : m3 = true → ∃ b, u23 = .map (some b) ∧ W0.heap.size ≤ b ∧ MapKI w b 0 fun _ => none
  d12 : m1 = true → m2 = true → u21 ≠ u22
  d13 : m1 = true → m3 = true → u21 ≠ u23
  d23 : m2 = true → m3 = true → u22 ≠ u23
theorem MapKI.below {w w' : World} {b n : Nat} {f : Snd → Option Int} (h : MapKI w b n f) (hb : Below w.heap.size w w') : MapKI w' b n f :=
  h.chgS (S := fun _ => False) (.of_below hb) (fun h => h)
section
variable {W0 w w' : World} {g : Nat} {fs : List ByteArray} {L : List Nam} {k : Nat} {m1 m2 m3 : Bool} {u15 u20 u21 u22 u23 : Value}
theorem CpI.next (h : CpI W0 g fs L k m1 m2 m3 u15 u20 u21 u22 u23 w) (hb : Below w.heap.size w w') : CpI W0 g fs L k m1 m2 m3 u15 u20 u21 u22 u23 w' where
  below := h.below.trans (hb.mono h.below.size)
  r1 hk := by
    obtain ⟨A, c, e, ho⟩ := h.r1 hk
    exact ⟨A, c, e, own_chgS (S := fun _ => False) ho (.of_below hb) (fun _ _ h => h)⟩
  r5 hk := by
    obtain ⟨A, c, e, ho⟩ := h.r5 hk
    exact ⟨A, c, e, own_chgS (S := fun _ => False) ho (.of_below hb) (fun _ _ h => h)⟩
  k1 hk := by
    obtain ⟨b, e, hb1, ho⟩ := h.k1 hk
    exact ⟨b, e, hb1, ho.below hb⟩
  k2 hk := by
    obtain ⟨b, e, hb1, ho⟩ := h.k2 hk
    exact ⟨b, e, hb1, ho.below hb⟩
  k3 hk := by
    obtain ⟨b, e, hb1, ho⟩ := h.k3 hk
    exact ⟨b, e, hb1, ho.below hb⟩
  d12 := h.d12
  d13 := h.d13
  d23 := h.d23
theorem CpI.lt1 (h : CpI W0 g fs L k m1 m2 m3 u15 u20 u21 u22 u23 w) : (m1 = true → u21 ≠ .map (some w.heap.size)) ∧ (m2 = true → u22 ≠ .map (some w.heap.size)) ∧ (m3 = true → u23 ≠ .map (some w.heap.size)) := by
  refine ⟨fun hm e => ?_, fun hm e => ?_, fun hm e => ?_⟩
  · obtain ⟨b, e1, _, h1⟩ := h.k1 hm
    rw [e1] at e; injection e with e; injection e with e
    have := h1.lt; omega
  · obtain ⟨b, e1, _, h1⟩ := h.k2 hm
    rw [e1] at e; injection e with e; injection e with e
    have := h1.lt; omega
  · obtain ⟨b, e1, _, h1⟩ := h.k3 hm
    rw [e1] at e; injection e with e; injection e with e
    have := h1.lt; omega
theorem CpI.map1 (h : CpI W0 g fs L k m1 m2 m3 u15 u20 u21 u22 u23 w) : CpI W0 g fs L k true m2 m3 u15 u20 (.map (some w.heap.size)) u22 u23 (w.alloc (.map #[] 0)) := by
  have hl := h.lt1
  have hn := h.next ((Below.refl _ w).alloc (Nat.le_refl _) (.map #[] 0))
  exact { hn with k1 := fun _ => ⟨_, rfl, h.below.size, MapSI.made w⟩, d12 := fun _ hm e => hl.2.1 hm e.symm, d13 := fun _ hm e => hl.2.2 hm e.symm }
theorem CpI.map2 (h : CpI W0 g fs L k m1 m2 m3 u15 u20 u21 u22 u23 w) : CpI W0 g fs L k m1 true m3 u15 u20 u21 (.map (some w.heap.size)) u23 (w.alloc (.map #[] 0)) := by
  have hl := h.lt1
  have hn := h.next ((Below.refl _ w).alloc (Nat.le_refl _) (.map #[] 0))
  exact { hn with k2 := fun _ => ⟨_, rfl, h.below.size, MapSI.made w⟩, d12 := fun hm _ e => hl.1 hm e, d23 := fun _ hm e => hl.2.2 hm e.symm }
theorem CpI.map3 (h : CpI W0 g fs L k m1 m2 m3 u15 u20 u21 u22 u23 w) : CpI W0 g fs L k m1 m2 true u15 u20 u21 u22 (.map (some w.heap.size)) (w.alloc (.map #[] 0)) := by
  have hl := h.lt1
  have hn := h.next ((Below.refl _ w).alloc (Nat.le_refl _) (.map #[] 0))
  exact { hn with k3 := fun _ => ⟨_, rfl, h.below.size, MapKI.made w⟩, d13 := fun hm _ e => hl.1 hm e, d23 := fun hm _ e => hl.2.1 hm e }
theorem CpI.call1 (h : CpI W0 g fs L 0 m1 m2 m3 u15 u20 u21 u22 u23 w) {v : Value} (hb : Below w.heap.size w w') (ho : w'.ownsRow w.heap.size 9 1 v fs.length (fs.map Value.string)) : CpI W0 g fs L 1 m1 m2 m3 v u20 u21 u22 u23 w' := by
  have hn := h.next hb
  obtain ⟨A, c, e, _, _⟩ := ownsRow_form ho
  exact { hn with r1 := fun _ => ⟨A, c, e, own_mono ho h.below.size⟩, r5 := fun h => absurd h (by omega) }
theorem CpI.call5 (h : CpI W0 g fs L 1 m1 m2 m3 u15 u20 u21 u22 u23 w) {v : Value} (hb : Below w.heap.size w w') (ho : w'.ownsRow w.heap.size 74 3 v L.length (L.flatMap namC)) : CpI W0 g fs L 2 m1 m2 m3 u15 v u21 u22 u23 w' := by
  have hn := h.next hb
  obtain ⟨A, c, e, _, _⟩ := ownsRow_form ho
  exact { hn with r1 := fun _ => hn.r1 (by omega), r5 := fun _ => ⟨A, c, e, own_mono ho h.below.size⟩ }
end
theorem sym_take {L : List Nam} (h : (L.map fun x => bs x.1).Nodup) {k : Nat} (hk : k < L.length) : hasSym (L.take k) (bs L[k].1) = false := by
  unfold hasSym
  rw [List.any_eq_false]
  intro x hx
  simp only [decide_eq_true_eq]
  intro e
  have h' : ((L.take (k + 1)).map fun x => bs x.1).Nodup := h.sublist ((List.take_sublist _ _).map _)
  rw [List.take_succ_eq_append_getElem hk, List.map_append, List.nodup_append] at h'
  exact h'.2.2 _ (List.mem_map.2 ⟨x, hx, rfl⟩) _ (by simp) e
def chkC (k : Nat) (m1 m2 m3 : Bool) (i : Nat) : Bool := (decide (i = 4) && decide (k = 0)) || ((decide (i = 9) && decide (k = 1)) || ((decide (i = 10) && !m1) || ((decide (i = 11) && !m2) || (decide (i = 12) && !m3))))
theorem chkC_cases {k : Nat} {m1 m2 m3 : Bool} {i : Nat} (h : chkC k m1 m2 m3 i = true) : (i = 4 ∧ k = 0) ∨ (i = 9 ∧ k = 1) ∨ (i = 10 ∧ m1 = false) ∨ (i = 11 ∧ m2 = false) ∨ (i = 12 ∧ m3 = false) := by
  unfold chkC at h
  simpa only [Bool.or_eq_true, Bool.and_eq_true, decide_eq_true_eq, Bool.not_eq_true'] using h
def leftC (k : Nat) (m1 m2 m3 : Bool) : Nat := (2 - k) + ((if m1 then 0 else 1) + (if m2 then 0 else 1) + (if m3 then 0 else 1))
set_option linter.unusedSimpArgs false in
set_option maxRecDepth 20000 in
set_option maxHeartbeats 8000000 in
theorem copy_any {w : World} {S : Nat → Prop} {g : Nat} {fs : List ByteArray} {L : List Nam} (h : InvM w S g fs L) : Calls Tryz.prog 172 #[wptr g] w fun e w' => ∃ g', e = .returned (wptr g') ∧ InvM w' (NewB4 w w') g' fs L ∧ Below w.heap.size w w' := by
  have hm := made_any h
  obtain ⟨A, c, A2, c2, b1, b2, b3, f2, f3, h1, hr1, hr2, ⟨-, -, -, -⟩, -, -, -⟩ := h.parts
  have hok := h.ok
  have hgl := h1.lt
  have c0 := h1.cell 0
  have c2' := h1.cell 2
  simp only [List.getElem?_toArray, List.getElem?_cons_zero, List.getElem?_cons_succ] at c0 c2'
  have HM := Lib.hid hm; have HR1 := Lib.hid hr1; have HR2 := Lib.hid hr2; have HOK := Lib.hid hok
  have hl24 := hok.f24
  have hl256 := hok.l256
  have hmm := @run_makeMap Tryz.prog
  clear hm hr1 hr2 h1 hok h
  go_enter Tryz.func172, Tryz.ntmps172
  go_wp2_with (go_at_call 208; refine HM.out.mono ?_; rintro e w' ⟨rfl, rfl⟩)
  refine wp_region_held_drew (S := (fun W => Below w.heap.size w W ∧ W.cell? ⟨g, 0, none⟩ = some (.slice A fs.length c) ∧ W.cell? ⟨g, 2, none⟩ = some (.slice A2 L.length c2))) (by kernel_rfl) ?_ (fun hHeld => ?_)
  · exact ⟨(Below.refl _ w).drew, c0, c2'⟩
  have hkeep : ∀ W : World, Below w.heap.size w W → Below w.heap.size w W ∧ W.cell? ⟨g, 0, none⟩ = some (.slice A fs.length c) ∧ W.cell? ⟨g, 2, none⟩ = some (.slice A2 L.length c2) := fun W hb => ⟨hb, (hb.cell (p := ⟨g, 0, none⟩) hgl).trans c0, (hb.cell (p := ⟨g, 2, none⟩) hgl).trans c2'⟩
  have HKEEP := Lib.hid hkeep
  clear hkeep c0 c2' HM
  obtain ⟨w0, hw0⟩ : ∃ W, w.drew = W := ⟨_, rfl⟩
  have hs0 : w0.heap.size = w.heap.size := by rw [← hw0]; rfl
  have hb0 : Below w.heap.size w w0 := by rw [← hw0]; exact (Below.refl _ w).drew
  rw [hw0] at hHeld ⊢
  clear hw0
  refine wpAnyH_take (i := 0) (v := ?_) rfl (by kernel_rfl) (by kernel_rfl) (by kernel_rfl) (fun _ _ _ h => h) (Or.inl ⟨by rfl, ?_⟩) (by assumption) ?_
  rotate_left
  · intro w hSw
    (try dsimp only at hSw)
    go_simp <;> with_reducible rfl
  try simp only [Act.put, List.getElem_toArray, List.getElem_cons_succ, List.getElem_cons_zero, List.setIfInBounds_toArray, List.set_cons_zero, List.set_cons_succ]
  refine wpAnyH_take (i := 1) (v := ?_) rfl (by kernel_rfl) (by kernel_rfl) (by kernel_rfl) (fun _ _ _ h => h) (Or.inl ⟨by rfl, ?_⟩) (by assumption) ?_
  rotate_left
  · intro w hSw
    (try dsimp only at hSw)
    go_simp <;> with_reducible rfl
  try simp only [Act.put, List.getElem_toArray, List.getElem_cons_succ, List.getElem_cons_zero, List.setIfInBounds_toArray, List.set_cons_zero, List.set_cons_succ]
  refine wpAnyH_take (i := 2) (v := ?_) rfl (by kernel_rfl) (by kernel_rfl) (by kernel_rfl) (fun _ _ _ h => h) (Or.inl ⟨by rfl, ?_⟩) (by assumption) ?_
  rotate_left
  · intro w hSw
    (try dsimp only at hSw)
    go_simp <;> with_reducible rfl
  try simp only [Act.put, List.getElem_toArray, List.getElem_cons_succ, List.getElem_cons_zero, List.setIfInBounds_toArray, List.set_cons_zero, List.set_cons_succ]
  refine wpAnyH_take (i := 3) (v := ?_) rfl (by kernel_rfl) (by kernel_rfl) (by kernel_rfl) (fun _ _ _ h => h) (Or.inl ⟨by rfl, ?_⟩) (by assumption) ?_
  rotate_left
  · intro w hSw
    (try dsimp only at hSw)
    go_simp <;> with_reducible rfl
  try simp only [Act.put, List.getElem_toArray, List.getElem_cons_succ, List.getElem_cons_zero, List.setIfInBounds_toArray, List.set_cons_zero, List.set_cons_succ]
  refine wpAnyH_take (i := 5) (v := ?_) rfl (by kernel_rfl) (by kernel_rfl) (by kernel_rfl) (fun _ _ _ h => h) (Or.inl ⟨by rfl, ?_⟩) (by assumption) ?_
  rotate_left
  · intro w hSw
    (try dsimp only at hSw)
    go_simp <;> with_reducible rfl
  try simp only [Act.put, List.getElem_toArray, List.getElem_cons_succ, List.getElem_cons_zero, List.setIfInBounds_toArray, List.set_cons_zero, List.set_cons_succ]
  refine wpAnyH_take (i := 6) (v := ?_) rfl (by kernel_rfl) (by kernel_rfl) (by kernel_rfl) (fun _ _ _ h => h) (Or.inl ⟨by rfl, ?_⟩) (by assumption) ?_
  rotate_left
  · intro w hSw
    (try dsimp only at hSw)
    go_simp <;> with_reducible rfl
  try simp only [Act.put, List.getElem_toArray, List.getElem_cons_succ, List.getElem_cons_zero, List.setIfInBounds_toArray, List.set_cons_zero, List.set_cons_succ]
  refine wpAnyH_take (i := 7) (v := ?_) rfl (by kernel_rfl) (by kernel_rfl) (by kernel_rfl) (fun _ _ _ h => h) (Or.inl ⟨by rfl, ?_⟩) (by assumption) ?_
  rotate_left
  · intro w hSw
    (try dsimp only at hSw)
    go_simp <;> with_reducible rfl
  try simp only [Act.put, List.getElem_toArray, List.getElem_cons_succ, List.getElem_cons_zero, List.setIfInBounds_toArray, List.set_cons_zero, List.set_cons_succ]
  refine wpAnyH_take (i := 8) (v := ?_) rfl (by kernel_rfl) (by kernel_rfl) (by kernel_rfl) (fun _ _ _ h => h) (Or.inl ⟨by rfl, ?_⟩) (by assumption) ?_
  rotate_left
  · intro w hSw
    (try dsimp only at hSw)
    go_simp <;> with_reducible rfl
  try simp only [Act.put, List.getElem_toArray, List.getElem_cons_succ, List.getElem_cons_zero, List.setIfInBounds_toArray, List.set_cons_zero, List.set_cons_succ]
  refine wpAnyH_inv (fun fuel listed a w' => ∃ k m1 m2 m3 u15 u20 u21 u22 u23, fuel = 3 + leftC k m1 m2 m3 ∧ k ≤ 2 ∧ listed = #[true, true, true, true, decide (1 ≤ k), true, true, true, true, decide (2 ≤ k), m1, m2, m3, false, false, false] ∧ a = { tmps := #[wptr g, undef, .pointer none, undef, undef, undef, undef, undef, wptr g, .bool true, .bool false, wptr g, wptr g, .pointer (some ⟨g, 0, none⟩), .slice A fs.length c, u15, wptr g, wptr g, .pointer (some ⟨g, 2, none⟩), .slice A2 L.length c2, u20, u21, u22, u23, undef, undef, undef, undef, undef, undef, undef, undef, undef, undef, undef, undef, undef, undef, undef, undef, undef, undef, undef, undef, undef, undef, undef, undef, undef, undef, undef, undef, undef, undef, undef, undef, undef, undef, undef, undef, undef, undef, undef, undef, undef, undef, undef, undef, undef, undef, undef, undef, undef], defers := [] } ∧ CpI w g fs L k m1 m2 m3 u15 u20 u21 u22 u23 w') ?step ?zero 8 _ _ _ ⟨0, false, false, false, undef, undef, undef, undef, undef, rfl, by omega, rfl, rfl, ⟨hb0, fun h => absurd h (by omega), fun h => absurd h (by omega), fun h => (by cases h), fun h => (by cases h), fun h => (by cases h), fun h => (by cases h), fun h => (by cases h), fun h => (by cases h)⟩⟩
  case zero =>
    rintro listed a w' ⟨k, m1, m2, m3, u15, u20, u21, u22, u23, hf, -⟩
    omega
  case step =>
    rintro fuel listed a w' ⟨k, m1, m2, m3, u15, u20, u21, u22, u23, hf, hk5, rfl, rfl, hI⟩
    have HI := Lib.hid hI
    clear hI
    by_cases hfin : k = 2 ∧ m1 = true ∧ m2 = true ∧ m3 = true
    · obtain ⟨rfl, rfl, rfl, rfl⟩ := hfin
      left
      obtain ⟨A3, c3, rfl, ho3⟩ := HI.out.r1 (by omega)
      obtain ⟨A4, c4, rfl, ho4⟩ := HI.out.r5 (by omega)
      obtain ⟨e1, rfl, hb1, hk1⟩ := HI.out.k1 rfl
      obtain ⟨e2, rfl, hb2, hk2⟩ := HI.out.k2 rfl
      obtain ⟨e3, rfl, hb3, hk3⟩ := HI.out.k3 rfl
      have hd12 := HI.out.d12 rfl rfl
      have hd13 := HI.out.d13 rfl rfl
      have hd23 := HI.out.d23 rfl rfl
      obtain rfl : fuel = 2 := by unfold leftC at hf; simp at hf; omega
      clear hf
      have hb' := HI.out.below
      have hHeld := HKEEP.out _ hb'
      refine wpAnyH_ready (rs := [13]) (by kernel_rfl) (by simp) ?_
      refine AllReadyH.cons rfl (fun K hK => ?_) AllReadyH.nil
      go_simp
      refine hK.out _ _ ?_ (fun hHeld' => ?_)
      · (try dsimp only)
        exact HKEEP.out _ (by first | exact hb' | exact hb'.alloc hb'.size _)
      clear hK K hHeld
      have hHeld := hHeld'
      clear hHeld'
      refine wpAnyH_ready (rs := [14]) (by kernel_rfl) (by simp) ?_
      refine AllReadyH.cons rfl (fun K hK => ?_) AllReadyH.nil
      go_simp
      refine hK.out _ _ ?_ (fun hHeld' => ?_)
      · (try dsimp only)
        exact HKEEP.out _ (by first | exact hb' | exact hb'.alloc hb'.size _)
      clear hK K hHeld
      have hHeld := hHeld'
      clear hHeld'
      refine wpAnyH_ready (rs := [15]) (by kernel_rfl) (by simp) ?_
      refine AllReadyH.cons rfl (fun K hK => ?_) AllReadyH.nil
      go_simp
      refine hK.out _ _ ?_ (fun hHeld' => ?_)
      · (try dsimp only)
        exact HKEEP.out _ (by first | exact hb' | exact hb'.alloc hb'.size _)
      clear hK K hHeld
      have hHeld := hHeld'
      clear hHeld'
      refine wpAnyH_done (by kernel_rfl) ?_ _
      have hbl := (Below.refl w'.heap.size w').alloc (Nat.le_refl _) (.cells #[.slice A3 fs.length c3, .map (some e1), .slice A4 L.length c4, .map (some e2), .map (some e3)] 265)
      have hg1 := Blk.new w' 265 #[.slice A3 fs.length c3, .map (some e1), .slice A4 L.length c4, .map (some e2), .map (some e3)]
      obtain ⟨g', hg'⟩ : ∃ g', w'.heap.size = g' := ⟨_, rfl⟩
      obtain ⟨W1, hW1⟩ : ∃ W, w'.alloc (.cells #[.slice A3 fs.length c3, .map (some e1), .slice A4 L.length c4, .map (some e2), .map (some e3)] 265) = W := ⟨_, rfl⟩
      have ho31 := own_chgS (S := fun _ => False) ho3 (.of_below hbl) (fun _ _ h => h)
      have ho41 := own_chgS (S := fun _ => False) ho4 (.of_below hbl) (fun _ _ h => h)
      have hk11 := hk1.below hbl
      have hk21 := hk2.below hbl
      have hk31 := hk3.below hbl
      have hb1' := hb'.alloc hb'.size (.cells #[.slice A3 fs.length c3, .map (some e1), .slice A4 L.length c4, .map (some e2), .map (some e3)] 265)
      have hsz1 : W1.heap.size = g' + 1 := by rw [← hW1, ← hg']; simp
      have hgw : w.heap.size ≤ g' := by rw [← hg']; exact hb'.size
      have hle : e1 < g' ∧ e2 < g' ∧ e3 < g' := by rw [← hg']; exact ⟨hk1.lt, hk2.lt, hk3.lt⟩
      rw [hW1] at hHeld hg1 ho31 ho41 hk11 hk21 hk31 hb1' ⊢
      rw [hg'] at hg1 ⊢
      simp only [ne_eq, Value.map.injEq, Option.some.injEq] at hd12 hd13 hd23
      obtain ⟨hle1, hle2, hle3⟩ := hle
      have HO3 := Lib.hid ho31; have HO4 := Lib.hid ho41; have HK1 := Lib.hid hk11; have HK2 := Lib.hid hk21; have HK3 := Lib.hid hk31; have HB1 := Lib.hid hb1'; have HG1 := Lib.hid hg1
      have g0 := hg1.cell 0
      simp only [List.getElem?_toArray, List.getElem?_cons_zero, List.getElem?_cons_succ] at g0
      have hr3 := Reads.of_own ho31
      have HR3 := Lib.hid hr3
      clear hbl hg1 hW1 ho31 ho41 hk11 hk21 hk31 hb1' hk1 hk2 hk3 ho3 ho4 hg' hb' hHeld hr3 HI
      go_wp2
      go_loopw [31] (fun i wr => ∃ (k : Nat) (f : ByteArray → Option Int), k ≤ fs.length ∧ i = .int .i64 k ∧ MapSI wr e1 k f ∧ ChgS (fun b => b = e1) W1 wr) (fun i _ => fs.length - (RowKit.intOf i).toNat)
      case atStart => exact ⟨0, _, by omega, rfl, HK1.out, ChgS.refl _ _⟩
      case round =>
        obtain ⟨k, f, hk, rfl, hmap, hch⟩ := hrel
        have hsz := hch.size
        have hgr := HG1.out.chgS hch (by omega)
        have g1 := hgr.cell 1
        simp only [List.getElem?_toArray, List.getElem?_cons_zero, List.getElem?_cons_succ] at g1
        have ho3r := own_chgS HO3.out hch (fun j hj e => by
          obtain ⟨es, clock, h⟩ := HK1.out.isMap
          exact map_own_ne h HO3.out (e ▸ hj))
        have HMAP := Lib.hid hmap; have HCH := Lib.hid hch; have HGR := Lib.hid hgr; have HO3R := Lib.hid ho3r
        clear hmap hch hgr ho3r
        by_cases hlt : k < fs.length
        · have hkI : (k : Int) < (fs.length : Int) := by omega
          have hrs : ReadS wr wr.heap.size A3 fs.length fs := Reads.of_own HO3R.out
          obtain ⟨ad, rfl, had, hcell⟩ := hrs.at_ hlt
          have hs16 := HOK.out.feat _ (List.getElem_mem hlt)
          generalize fs[k] = s at *
          clear hrs
          go_wp2_with (refine wpList_putSI rfl _ _ _ rfl _ _ _ rfl HMAP.out (by unfold maxLen; omega) s (by unfold maxLen; omega) (k : Int) (wf64 (by omega)) rfl rfl ?_; intro w1 hmap1 hgrow1)
          go_roundw
          case rel => exact ⟨k + 1, _, by omega, by go_num, hmap1, HCH.out.grown hgrow1 (fun j hj => by injection hj with hj; exact .inl hj.symm)⟩
          case measure => simp [RowKit.intOf]; omega
        · obtain rfl : k = fs.length := by omega
          have g2 := HGR.out.cell 2
          simp only [List.getElem?_toArray, List.getElem?_cons_zero, List.getElem?_cons_succ] at g2
          have ho4r := own_chgS HO4.out HCH.out (fun j hj e => by
            obtain ⟨es, clock, h⟩ := HK1.out.isMap
            exact map_own_ne h HO4.out (e ▸ hj))
          have hk2r := HK2.out.chgS HCH.out (fun (e : e2 = e1) => hd12 e.symm)
          have hk3r := HK3.out.chgS HCH.out (fun (e : e3 = e1) => hd13 e.symm)
          have HO4R := Lib.hid ho4r; have HK2R := Lib.hid hk2r; have HK3R := Lib.hid hk3r
          clear ho4r hk2r hk3r hlt
          obtain ⟨W2, rfl⟩ : ∃ W, W = wr := ⟨_, rfl⟩
          go_wp2
          go_loopw [48] (fun i wr => ∃ (k : Nat) (f2 : ByteArray → Option Int) (f3 : Snd → Option Int), k ≤ L.length ∧ i = .int .i64 k ∧ (MapSI wr e2 k f2 ∧ SymOf (L.take k) f2) ∧ (MapKI wr e3 k f3 ∧ ValOf (L.take k) f3) ∧ ChgS (fun b => b = e2 ∨ b = e3) W2 wr) (fun i _ => L.length - (RowKit.intOf i).toNat)
          case atStart => exact ⟨0, _, _, by omega, rfl, ⟨HK2R.out, fun s => ⟨rfl, fun i hi => by cases hi⟩⟩, ⟨HK3R.out, fun s => rfl⟩, ChgS.refl _ _⟩
          case round =>
            obtain ⟨k, h2, h3, hk, rfl, ⟨hm2, hs2⟩, ⟨hm3, hv3⟩, hch2⟩ := hrel
            have hszq := hch2.size
            have hgq := HGR.out.chgS hch2 (fun e => by omega)
            have hoq := own_chgS HO4R.out hch2 (fun j hj e => by
              rcases e with e | e
              · obtain ⟨es, clock, h⟩ := HK2R.out.isMap; exact map_own_ne h HO4R.out (e ▸ hj)
              · obtain ⟨es, clock, h⟩ := HK3R.out.isMap; exact map_own_ne h HO4R.out (e ▸ hj))
            have HM2 := Lib.hid hm2; have HS2 := Lib.hid hs2; have HM3 := Lib.hid hm3; have HV3 := Lib.hid hv3; have HCH2 := Lib.hid hch2; have HGQ := Lib.hid hgq; have HOQ := Lib.hid hoq
            clear hm2 hs2 hm3 hv3 hch2 hgq hoq
            by_cases hlt : k < L.length
            · have hkI : (k : Int) < (L.length : Int) := by omega
              obtain ⟨ad, rfl, had, hcl0, hcl1, hcl2⟩ := nam_cells (Reads.of_own HOQ.out) hlt
              have hxok := HOK.out.sym _ (List.getElem_mem hlt)
              have hnd := sym_take HOK.out.nd hlt
              have htk := List.take_succ_eq_append_getElem hlt
              obtain ⟨x, hx⟩ : ∃ x, L[k] = x := ⟨_, rfl⟩
              rw [hx] at hcl0 hcl1 hcl2 hxok hnd htk
              obtain ⟨sym, p, q⟩ := x
              simp only at hcl0 hcl1 hcl2 hxok hnd
              have hsy4 : sym.size ≤ 4 := by
                have := hxok.1
                unfold okSym consC at this
                simp only [Bool.and_eq_true, decide_eq_true_eq] at this
                omega
              have hok32 : ok32 (p, q) := hxok.2.2
              have HND := Lib.hid hnd; have HTK := Lib.hid htk
              clear hxok hnd htk hx
              have hbx := Blk.new wr 74 #[.string sym, .int .u32 p, .int .u32 q]
              have hba := (Below.refl wr.heap.size wr).alloc (Nat.le_refl _) (.cells #[.string sym, .int .u32 p, .int .u32 q] 74)
              obtain ⟨W3, hW3⟩ : ∃ W, wr.alloc (.cells #[.string sym, .int .u32 p, .int .u32 q] 74) = W := ⟨_, rfl⟩
              rw [hW3] at hbx hba
              have HW3 := Lib.hid hW3; have HBX := Lib.hid hbx; have HBA := Lib.hid hba
              clear hW3 hbx hba
              go_wp2
              rw [HW3.out]
              clear HW3 hcl0 hcl1 hcl2
              have hg3 := HGQ.out.below HBA.out HGQ.out.lt
              have g3 := hg3.cell 3
              have g4 := hg3.cell 4
              have d0 := HBX.out.cell 0
              have d1 := HBX.out.cell 1
              have d2 := HBX.out.cell 2
              simp only [List.getElem?_toArray, List.getElem?_cons_zero, List.getElem?_cons_succ] at g3 g4 d0 d1 d2
              have hm23 : MapSI W3.drew e2 k h2 := HM2.out.below HBA.out.drew
              have hm33 : MapKI W3.drew e3 k h3 := HM3.out.below HBA.out.drew
              obtain ⟨v0, st, w4, hr4, hgw4, hst4⟩ := hm23.entry (by unfold maxLen; omega) sym (by unfold maxLen; omega)
              obtain ⟨w5, hr5, hm5, hgw5⟩ := hst4 w4 (k : Int) rfl (wf64 (by omega))
              obtain ⟨v1, st1, w6, hr6, hgw6, hst6⟩ := ((hm33.kept hgw4 (fun e => by injection e with e; exact hd23 e.symm)).kept hgw5 (fun e => by injection e with e; exact hd23 e.symm)).entry (by unfold maxLen; omega) (p, q) hok32
              obtain ⟨w7, hr7, hm7, hgw7⟩ := hst6 w6 (k : Int) rfl (wf64 (by omega))
              have hm5' := (hm5.kept hgw6 (fun e => by injection e with e; exact hd23 e)).kept hgw7 (fun e => by injection e with e; exact hd23 e)
              have hch7 : ChgS (fun b => b = e2 ∨ b = e3) W2 w7 := (((((HCH2.out.new (T := fun _ => False) (.of_below HBA.out) (fun _ _ h => h.elim)).drewN 1).grown hgw4 (fun j hj => by injection hj with hj; exact .inl (.inl hj.symm))).grown hgw5 (fun j hj => by injection hj with hj; exact .inl (.inl hj.symm))).grown hgw6 (fun j hj => by injection hj with hj; exact .inl (.inr hj.symm))).grown hgw7 (fun j hj => by injection hj with hj; exact .inl (.inr hj.symm))
              have hC4 : ChgS (fun b => b = e2 ∨ b = e3) W3.drew w4 := (ChgS.refl _ _).grown hgw4 (fun j hj => by injection hj with hj; exact .inl (.inl hj.symm))
              have hC5 := hC4.grown hgw5 (fun j hj => by injection hj with hj; exact .inl (.inl hj.symm))
              have hC6 := hC5.grown hgw6 (fun j hj => by injection hj with hj; exact .inl (.inr hj.symm))
              have hC7 := hC6.grown hgw7 (fun j hj => by injection hj with hj; exact .inl (.inr hj.symm))
              have hkeep : ∀ W, ChgS (fun b => b = e2 ∨ b = e3) W3.drew W → W.cell? ⟨g', 3, none⟩ = some (.map (some e2)) ∧ W.cell? ⟨g', 4, none⟩ = some (.map (some e3)) ∧ W.cell? ⟨wr.heap.size, 0, none⟩ = some (.string sym) ∧ W.cell? ⟨wr.heap.size, 1, none⟩ = some (.int .u32 p) ∧ W.cell? ⟨wr.heap.size, 2, none⟩ = some (.int .u32 q) := fun W hc => by
                have hgD : Blk W3.drew g' 265 #[.slice A3 fs.length c3, .map (some e1), .slice _ L.length c4, .map (some e2), .map (some e3)] := hg3
                have hbD : Blk W3.drew wr.heap.size 74 #[.string sym, .int .u32 p, .int .u32 q] := HBX.out
                have hgW := hgD.chgS hc (fun e => by omega)
                have hbW := hbD.chgS hc (fun e => by omega)
                have g3 := hgW.cell 3
                have g4 := hgW.cell 4
                have d0 := hbW.cell 0
                have d1 := hbW.cell 1
                have d2 := hbW.cell 2
                simp only [List.getElem?_toArray, List.getElem?_cons_zero, List.getElem?_cons_succ] at g3 g4 d0 d1 d2
                exact ⟨g3, g4, d0, d1, d2⟩
              have C4 := Lib.hid hC4; have C5 := Lib.hid hC5; have C6 := Lib.hid hC6; have C7 := Lib.hid hC7; have HKEEP := Lib.hid hkeep
              clear hC4 hC5 hC6 hC7 hkeep
              have hkt : (L.take k).length = k := by rw [List.length_take]; omega
              have hsy7 := symOf_add (s := (p, q)) HS2.out HND.out
              have hva7 := valOf_add (sym := sym) (s := (p, q)) HV3.out
              rw [hkt, ← HTK.out] at hsy7 hva7
              have HM7 := Lib.hid hm5'; have HK7 := Lib.hid hm7; have HCH7 := Lib.hid hch7; have HSY7 := Lib.hid hsy7; have HVA7 := Lib.hid hva7
              have HR4 := Lib.hid hr4; have HR5 := Lib.hid hr5; have HR6 := Lib.hid hr6; have HR7 := Lib.hid hr7
              clear hm23 hm33 hr4 hgw4 hst4 hr5 hm5 hgw5 hr6 hgw6 hst6 hr7 hm7 hgw7 hm5' hch7 hsy7 hva7 hg3 hkt
              refine wp_region_held_drew (S := (fun W => W.cell? ⟨g', 3, none⟩ = some (.map (some e2)) ∧ W.cell? ⟨g', 4, none⟩ = some (.map (some e3)) ∧ W.cell? ⟨wr.heap.size, 0, none⟩ = some (.string sym) ∧ W.cell? ⟨wr.heap.size, 1, none⟩ = some (.int .u32 p) ∧ W.cell? ⟨wr.heap.size, 2, none⟩ = some (.int .u32 q))) (by kernel_rfl) ?_ (fun hHeld => ?_)
              · exact ⟨g3, g4, d0, d1, d2⟩
              clear g3 g4 d0 d1 d2
              refine wpAnyH_take (i := 0) (v := ?_) rfl (by kernel_rfl) (by kernel_rfl) (by kernel_rfl) (fun _ _ _ h => h) (Or.inl ⟨by rfl, ?_⟩) (by assumption) ?_
              rotate_left
              · intro w hSw
                (try dsimp only at hSw)
                go_simp <;> with_reducible rfl
              try simp only [Act.put, List.getElem_toArray, List.getElem_cons_succ, List.getElem_cons_zero, List.setIfInBounds_toArray, List.set_cons_zero, List.set_cons_succ]
              refine wpAnyH_take (i := 1) (v := ?_) rfl (by kernel_rfl) (by kernel_rfl) (by kernel_rfl) (fun _ _ _ h => h) (Or.inl ⟨by rfl, ?_⟩) (by assumption) ?_
              rotate_left
              · intro w hSw
                (try dsimp only at hSw)
                go_simp <;> with_reducible rfl
              try simp only [Act.put, List.getElem_toArray, List.getElem_cons_succ, List.getElem_cons_zero, List.setIfInBounds_toArray, List.set_cons_zero, List.set_cons_succ]
              refine wpAnyH_take (i := 2) (v := ?_) rfl (by kernel_rfl) (by kernel_rfl) (by kernel_rfl) (fun _ _ _ h => h) (Or.inl ⟨by rfl, ?_⟩) (by assumption) ?_
              rotate_left
              · intro w hSw
                (try dsimp only at hSw)
                go_simp <;> with_reducible rfl
              try simp only [Act.put, List.getElem_toArray, List.getElem_cons_succ, List.getElem_cons_zero, List.setIfInBounds_toArray, List.set_cons_zero, List.set_cons_succ]
              refine wpAnyH_take (i := 3) (v := ?_) rfl (by kernel_rfl) (by kernel_rfl) (by kernel_rfl) (fun _ _ _ h => h) (Or.inl ⟨by rfl, ?_⟩) (by assumption) ?_
              rotate_left
              · intro w hSw
                (try dsimp only at hSw)
                go_simp <;> with_reducible rfl
              try simp only [Act.put, List.getElem_toArray, List.getElem_cons_succ, List.getElem_cons_zero, List.setIfInBounds_toArray, List.set_cons_zero, List.set_cons_succ]
              refine wpAnyH_take (i := 4) (v := ?_) rfl (by kernel_rfl) (by kernel_rfl) (by kernel_rfl) (fun _ _ _ h => h) (Or.inl ⟨by rfl, ?_⟩) (by assumption) ?_
              rotate_left
              · intro w hSw
                (try dsimp only at hSw)
                go_simp <;> with_reducible rfl
              try simp only [Act.put, List.getElem_toArray, List.getElem_cons_succ, List.getElem_cons_zero, List.setIfInBounds_toArray, List.set_cons_zero, List.set_cons_succ]
              refine wpAnyH_take (i := 5) (v := ?_) rfl (by kernel_rfl) (by kernel_rfl) (by kernel_rfl) (fun _ _ _ h => h) (Or.inl ⟨by rfl, ?_⟩) (by assumption) ?_
              rotate_left
              · intro w hSw
                (try dsimp only at hSw)
                go_simp <;> with_reducible rfl
              try simp only [Act.put, List.getElem_toArray, List.getElem_cons_succ, List.getElem_cons_zero, List.setIfInBounds_toArray, List.set_cons_zero, List.set_cons_succ]
              refine wpAnyH_take (i := 6) (v := ?_) rfl (by kernel_rfl) (by kernel_rfl) (by kernel_rfl) (fun _ _ _ h => h) (Or.inl ⟨by rfl, ?_⟩) (by assumption) ?_
              rotate_left
              · intro w hSw
                (try dsimp only at hSw)
                go_simp <;> with_reducible rfl
              try simp only [Act.put, List.getElem_toArray, List.getElem_cons_succ, List.getElem_cons_zero, List.setIfInBounds_toArray, List.set_cons_zero, List.set_cons_succ]
              refine wpAnyH_take (i := 7) (v := ?_) rfl (by kernel_rfl) (by kernel_rfl) (by kernel_rfl) (fun _ _ _ h => h) (Or.inl ⟨by rfl, ?_⟩) (by assumption) ?_
              rotate_left
              · intro w hSw
                (try dsimp only at hSw)
                go_simp <;> with_reducible rfl
              try simp only [Act.put, List.getElem_toArray, List.getElem_cons_succ, List.getElem_cons_zero, List.setIfInBounds_toArray, List.set_cons_zero, List.set_cons_succ]
              refine wpAnyH_take (i := 8) (v := ?_) rfl (by kernel_rfl) (by kernel_rfl) (by kernel_rfl) (fun _ _ _ h => h) (Or.inl ⟨by rfl, ?_⟩) (by assumption) ?_
              rotate_left
              · intro w hSw
                (try dsimp only at hSw)
                go_simp <;> with_reducible rfl
              try simp only [Act.put, List.getElem_toArray, List.getElem_cons_succ, List.getElem_cons_zero, List.setIfInBounds_toArray, List.set_cons_zero, List.set_cons_succ]
              refine wpAnyH_take (i := 9) (v := ?_) rfl (by kernel_rfl) (by kernel_rfl) (by kernel_rfl) (fun _ _ _ h => h) (Or.inl ⟨by rfl, ?_⟩) (by assumption) ?_
              rotate_left
              · intro w hSw
                (try dsimp only at hSw)
                go_simp <;> with_reducible rfl
              try simp only [Act.put, List.getElem_toArray, List.getElem_cons_succ, List.getElem_cons_zero, List.setIfInBounds_toArray, List.set_cons_zero, List.set_cons_succ]
              refine wpAnyH_take (i := 10) (v := ?_) rfl (by kernel_rfl) (by kernel_rfl) (by kernel_rfl) (fun _ _ _ h => h) (Or.inl ⟨by rfl, ?_⟩) (by assumption) ?_
              rotate_left
              · intro w hSw
                (try dsimp only at hSw)
                go_simp <;> with_reducible rfl
              try simp only [Act.put, List.getElem_toArray, List.getElem_cons_succ, List.getElem_cons_zero, List.setIfInBounds_toArray, List.set_cons_zero, List.set_cons_succ]
              refine wpAnyH_take (i := 11) (v := ?_) rfl (by kernel_rfl) (by kernel_rfl) (by kernel_rfl) (fun _ _ _ h => h) (Or.inl ⟨by rfl, ?_⟩) (by assumption) ?_
              rotate_left
              · intro w hSw
                (try dsimp only at hSw)
                go_simp <;> with_reducible rfl
              try simp only [Act.put, List.getElem_toArray, List.getElem_cons_succ, List.getElem_cons_zero, List.setIfInBounds_toArray, List.set_cons_zero, List.set_cons_succ]
              refine wpAnyH_take (i := 12) (v := ?_) rfl (by kernel_rfl) (by kernel_rfl) (by kernel_rfl) (fun _ _ _ h => h) (Or.inl ⟨by rfl, ?_⟩) (by assumption) ?_
              rotate_left
              · intro w hSw
                (try dsimp only at hSw)
                go_simp <;> with_reducible rfl
              try simp only [Act.put, List.getElem_toArray, List.getElem_cons_succ, List.getElem_cons_zero, List.setIfInBounds_toArray, List.set_cons_zero, List.set_cons_succ]
              refine wpAnyH_take (i := 13) (v := ?_) rfl (by kernel_rfl) (by kernel_rfl) (by kernel_rfl) (fun _ _ _ h => h) (Or.inl ⟨by rfl, ?_⟩) (by assumption) ?_
              rotate_left
              · intro w hSw
                (try dsimp only at hSw)
                go_simp <;> with_reducible rfl
              try simp only [Act.put, List.getElem_toArray, List.getElem_cons_succ, List.getElem_cons_zero, List.setIfInBounds_toArray, List.set_cons_zero, List.set_cons_succ]
              refine wpAnyH_ready (rs := [14]) (by kernel_rfl) (by simp) ?_
              refine AllReadyH.cons rfl (fun K hK => ?_) AllReadyH.nil
              refine step_mapEntry rfl _ _ _ rfl HR4.out ?_
              refine hK.out _ _ ?_ (fun hHeld' => ?_)
              · (try dsimp only)
                exact HKEEP.out _ (by first | exact C4.out | exact C5.out | exact C6.out | exact C7.out)
              clear hK K hHeld
              have hHeld := hHeld'
              clear hHeld'
              refine wpAnyH_ready (rs := [15]) (by kernel_rfl) (by simp) ?_
              refine AllReadyH.cons rfl (fun K hK => ?_) AllReadyH.nil
              go_simp
              refine hK.out _ _ ?_ (fun hHeld' => ?_)
              · (try dsimp only)
                exact HKEEP.out _ (by first | exact C4.out | exact C5.out | exact C6.out | exact C7.out)
              clear hK K hHeld
              have hHeld := hHeld'
              clear hHeld'
              refine wpAnyH_ready (rs := [16]) (by kernel_rfl) (by simp) ?_
              refine AllReadyH.cons rfl (fun K hK => ?_) AllReadyH.nil
              refine step_entryStore rfl _ _ _ _ rfl HR5.out ?_
              refine hK.out _ _ ?_ (fun hHeld' => ?_)
              · (try dsimp only)
                exact HKEEP.out _ (by first | exact C4.out | exact C5.out | exact C6.out | exact C7.out)
              clear hK K hHeld
              have hHeld := hHeld'
              clear hHeld'
              refine wpAnyH_ready (rs := [17]) (by kernel_rfl) (by simp) ?_
              refine AllReadyH.cons rfl (fun K hK => ?_) AllReadyH.nil
              refine step_mapEntry rfl _ _ _ rfl HR6.out ?_
              refine hK.out _ _ ?_ (fun hHeld' => ?_)
              · (try dsimp only)
                exact HKEEP.out _ (by first | exact C4.out | exact C5.out | exact C6.out | exact C7.out)
              clear hK K hHeld
              have hHeld := hHeld'
              clear hHeld'
              refine wpAnyH_ready (rs := [18]) (by kernel_rfl) (by simp) ?_
              refine AllReadyH.cons rfl (fun K hK => ?_) AllReadyH.nil
              go_simp
              refine hK.out _ _ ?_ (fun hHeld' => ?_)
              · (try dsimp only)
                exact HKEEP.out _ (by first | exact C4.out | exact C5.out | exact C6.out | exact C7.out)
              clear hK K hHeld
              have hHeld := hHeld'
              clear hHeld'
              refine wpAnyH_ready (rs := [19]) (by kernel_rfl) (by simp) ?_
              refine AllReadyH.cons rfl (fun K hK => ?_) AllReadyH.nil
              refine step_entryStore rfl _ _ _ _ rfl HR7.out ?_
              refine hK.out _ _ ?_ (fun hHeld' => ?_)
              · (try dsimp only)
                exact HKEEP.out _ (by first | exact C4.out | exact C5.out | exact C6.out | exact C7.out)
              clear hK K hHeld
              have hHeld := hHeld'
              clear hHeld'
              refine wpAnyH_done (by kernel_rfl) ?_ _
              go_wp2
              go_roundw
              case rel => exact ⟨k + 1, _, _, by omega, by go_num, ⟨HM7.out, HSY7.out⟩, ⟨HK7.out, HVA7.out⟩, HCH7.out⟩
              case measure => simp [RowKit.intOf]; omega
            · obtain rfl : k = L.length := by omega
              have hfin : InvM wr (NewB4 w wr) g' fs L ∧ Below w.heap.size w wr := by
                have hsy := HS2.out
                have hva := HV3.out
                rw [List.take_length] at hsy hva
                have hbel := (HB1.out.trans (HCH.out.below (fun i hi => by omega) (by omega))).trans (HCH2.out.below (fun i hi => by omega) (by omega))
                have ho3q := own_chgS HO3R.out HCH2.out (fun j hj e => by
                  rcases e with e | e
                  · obtain ⟨es, clock, h⟩ := HK2R.out.isMap; exact map_own_ne h HO3R.out (e ▸ hj)
                  · obtain ⟨es, clock, h⟩ := HK3R.out.isMap; exact map_own_ne h HO3R.out (e ▸ hj))
                exact ⟨⟨A3, c3, .slice A4 L.length c4, e1, e2, e3, _, _, _, ⟨HGQ.out, hgw, by omega⟩, ⟨own_mono ho3q (Nat.zero_le _), fun b hb => ho3q.lt b hb⟩, ⟨own_mono HOQ.out (Nat.zero_le _), fun b hb => HOQ.out.lt b hb⟩, ⟨HMAP.out.chgS HCH2.out (fun e => by rcases e with e | e; exact hd12 e; exact hd13 e), by omega, by omega⟩, ⟨HM2.out, ⟨by omega, by omega⟩, hsy⟩, ⟨HM3.out, ⟨by omega, by omega⟩, hva⟩, ⟨hd12, hd13, hd23⟩, HOK.out⟩, hbel⟩
              have HFIN := Lib.hid hfin
              clear hfin hlt
              go_wp2
              go_ret
              exact ⟨g', rfl, HFIN.out.1, HFIN.out.2⟩
    · right
      refine ⟨ne_chk ?_, fun i hi => ?_⟩
      · clear HI hf
        rcases (by omega : k = 0 ∨ k = 1 ∨ k = 2) with rfl | rfl | rfl <;> cases m1 <;> cases m2 <;> cases m3 <;> first | exact absurd ⟨rfl, rfl, rfl, rfl⟩ hfin | kernel_rfl
      have hp : chkC k m1 m2 m3 i = true := by
        refine mem_chk ?_ hi
        clear HI hf hi
        rcases (by omega : k = 0 ∨ k = 1 ∨ k = 2) with rfl | rfl | rfl <;> cases m1 <;> cases m2 <;> cases m3 <;> first | exact absurd ⟨rfl, rfl, rfl, rfl⟩ hfin | kernel_rfl
      have hb' := HI.out.below
      have hS' := HKEEP.out _ hb'
      obtain ⟨-, s0, s2⟩ := hS'
      clear hi hfin
      rcases chkC_cases hp with ⟨rfl, rfl⟩ | ⟨rfl, rfl⟩ | ⟨rfl, rfl⟩ | ⟨rfl, rfl⟩ | ⟨rfl, rfl⟩
      · refine ⟨_, rfl, fun K hK => ?_⟩
        have HKK := Lib.hid hK
        clear hK hp
        go_simp
        (try go_wp2_with fail)
        refine (cloneS_any A fs.length c _ w' w.heap.size (HR1.out.below hb') (strC_one fs) hb'.size (by omega)).mono ?_
        rintro e w1 ⟨v, rfl, ho, hb1⟩
        have hn := HI.out.call1 hb1 ho
        refine HKK.out _ _ (HKEEP.out _ hn.below) ⟨1, m1, m2, m3, v, _, _, _, _, ?_, by omega, rfl, rfl, hn⟩
        unfold leftC at hf ⊢; omega
      · refine ⟨_, rfl, fun K hK => ?_⟩
        have HKK := Lib.hid hK
        clear hK hp
        go_simp
        (try go_wp2_with fail)
        refine (cloneN_any A2 L.length c2 _ w' w.heap.size (HR2.out.below hb') (namC_one L) hb'.size (by omega)).mono ?_
        rintro e w1 ⟨v, rfl, ho, hb1⟩
        have hn := HI.out.call5 hb1 ho
        refine HKK.out _ _ (HKEEP.out _ hn.below) ⟨2, m1, m2, m3, _, v, _, _, _, ?_, by omega, rfl, rfl, hn⟩
        unfold leftC at hf ⊢; omega
      · refine ⟨_, rfl, fun K hK => ?_⟩
        have hn := HI.out.map1
        have HKK := Lib.hid (hK _ _ (HKEEP.out _ hn.below) ⟨k, true, m2, m3, _, _, _, _, _, by unfold leftC at hf ⊢; simp at hf ⊢; omega, hk5, rfl, rfl, hn⟩)
        clear hK hp
        go_simp
        exact HKK.out
      · refine ⟨_, rfl, fun K hK => ?_⟩
        have hn := HI.out.map2
        have HKK := Lib.hid (hK _ _ (HKEEP.out _ hn.below) ⟨k, m1, true, m3, _, _, _, _, _, by unfold leftC at hf ⊢; simp at hf ⊢; omega, hk5, rfl, rfl, hn⟩)
        clear hK hp
        go_simp
        exact HKK.out
      · refine ⟨_, rfl, fun K hK => ?_⟩
        have hn := HI.out.map3
        have HKK := Lib.hid (hK _ _ (HKEEP.out _ hn.below) ⟨k, m1, m2, true, _, _, _, _, _, by unfold leftC at hf ⊢; simp at hf ⊢; omega, hk5, rfl, rfl, hn⟩)
        clear hK hp
        go_simp
        exact HKK.out
end Go.Proofs.YtmepaeahchiglaaGreatDoor
