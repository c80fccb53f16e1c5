/-
 layer 3: Copy of the program: what is made, in whatever order. Conditions: an inventory in memory. (Printed by copy.py.)
-/
import Derived.Test.YtmepaeahchiglaaGreatDoorZdbb
set_option maxRecDepth 20000
set_option maxHeartbeats 8000000
set_option linter.unusedSimpArgs false
namespace Go.Proofs.YtmepaeahchiglaaGreatDoor
open Go.RowKit Go.Lib
section
variable {P : Program} {ops : Array Oper} {Q : Exit → Act → World → Prop} {md : Region.Mode} {S : World → Prop}
theorem tT (I : Nat → Array Bool → Act → World → Prop)
 (step : ∀ fuel listed a w, I (fuel + 1) listed a w → wpAnyH P md ops Q S (fuel + 1) listed a w ∨ (Region.ready md ops listed ≠ [] ∧ ∀ i ∈ Region.ready md ops listed, ∃ o, ops[i]? = some o ∧ ∀ K : Act → World → Prop, (∀ a w, S w → I fuel (listed.setIfInBounds i true) a w → K a w) → if Region.wanted o (yielded ops a.tmps) = true then Oper.wp P o a w K Q else K (a.put o.dst undef) w))
 (zero : ∀ listed a w, I 0 listed a w → wpAnyH P md ops Q S 0 listed a w) : ∀ fuel listed a w, I fuel listed a w → wpAnyH P md ops Q S fuel listed a w
 | 0, listed, a, w, h => zero listed a w h
 | fuel + 1, listed, a, w, h => by
   rcases step fuel listed a w h with h1 | ⟨h1, h2⟩
   ·exact h1
   ·refine wpAnyH_all rfl h1 fun i hi => ?_
    obtain ⟨o, ho, h3⟩ := h2 i hi
    exact wpOp_step ho (fun K hK => h3 K (fun a w hS hI => hK a w ⟨hS, tT I step zero fuel _ a w hI⟩))
end
theorem Mj {l : List Nat} {p : Nat → Bool} {i : Nat} (h : l.all p = true) (hi : i ∈ l) : p i = true := List.all_eq_true.1 h i hi
theorem Ou {l : List Nat} (h : l.isEmpty = false) : l ≠ [] := fun e => by rw [e] at h; cases h
structure xC (W0 : World) (g : Nat) (fs : List ByteArray) (L : List fw) (k : Nat) (m1 m2 m3 : Bool) (u15 u20 u21 u22 u23 : Value) (w : World) : Prop where
 below : Below W0.heap.size W0 w
 r1 : 1 ≤ k → ∃ A c, u15 = .slice A fs.length c ∧ w.ownsRow W0.heap.size 9 1 u15 fs.length (fs.map Value.string)
 r5 : 2 ≤ k → ∃ A c, u20 = .slice A L.length c ∧ w.ownsRow W0.heap.size 74 3 u20 L.length (L.flatMap eP)
 k1 : m1 = true → ∃ b, u21 = .map (some b) ∧ W0.heap.size ≤ b ∧ bC w b 0 fun _ => none
 k2 : m2 = true → ∃ b, u22 = .map (some b) ∧ W0.heap.size ≤ b ∧ bC w b 0 fun _ => none
 k3 : m3 = true → ∃ b, u23 = .map (some b) ∧ W0.heap.size ≤ b ∧ bI w b 0 fun _ => none
 d12 : m1 = true → m2 = true → u21 ≠ u22
 d13 : m1 = true → m3 = true → u21 ≠ u23
 d23 : m2 = true → m3 = true → u22 ≠ u23
theorem bI.below {w w' : World} {b n : Nat} {f : Snd → Option Int} (h : bI w b n f) (hb : Below w.heap.size w w') : bI w' b n f :=
 h.dQ (S := fun _ => False) (.of_below hb) (fun h => h)
section
variable {W0 w w' : World} {g : Nat} {fs : List ByteArray} {L : List fw} {k : Nat} {m1 m2 m3 : Bool} {u15 u20 u21 u22 u23 : Value}
theorem xC.next (h : xC W0 g fs L k m1 m2 m3 u15 u20 u21 u22 u23 w) (hb : Below w.heap.size w w') : xC W0 g fs L k m1 m2 m3 u15 u20 u21 u22 u23 w' where
 below := h.below.trans (hb.mono h.below.size)
 r1 hk := by
  obtain ⟨A, c, e, ho⟩ := h.r1 hk
  exact ⟨A, c, e, bH (S := fun _ => False) ho (.of_below hb) (fun _ _ h => h)⟩
 r5 hk := by
  obtain ⟨A, c, e, ho⟩ := h.r5 hk
  exact ⟨A, c, e, bH (S := fun _ => False) ho (.of_below hb) (fun _ _ h => h)⟩
 k1 hk := by
  obtain ⟨b, e, hb1, ho⟩ := h.k1 hk
  exact ⟨b, e, hb1, ho.below hb⟩
 k2 hk := by
  obtain ⟨b, e, hb1, ho⟩ := h.k2 hk
  exact ⟨b, e, hb1, ho.below hb⟩
 k3 hk := by
  obtain ⟨b, e, hb1, ho⟩ := h.k3 hk
  exact ⟨b, e, hb1, ho.below hb⟩
 d12 := h.d12
 d13 := h.d13
 d23 := h.d23
theorem xC.lt1 (h : xC W0 g fs L k m1 m2 m3 u15 u20 u21 u22 u23 w) : (m1 = true → u21 ≠ .map (some w.heap.size)) ∧ (m2 = true → u22 ≠ .map (some w.heap.size)) ∧ (m3 = true → u23 ≠ .map (some w.heap.size)) := by
 refine ⟨fun hm e => ?_, fun hm e => ?_, fun hm e => ?_⟩
 ·obtain ⟨b, e1, _, h1⟩ := h.k1 hm
  rw [e1] at e; injection e with e; injection e with e
  have := h1.lt; omega
 ·obtain ⟨b, e1, _, h1⟩ := h.k2 hm
  rw [e1] at e; injection e with e; injection e with e
  have := h1.lt; omega
 ·obtain ⟨b, e1, _, h1⟩ := h.k3 hm
  rw [e1] at e; injection e with e; injection e with e
  have := h1.lt; omega
theorem xC.map1 (h : xC W0 g fs L k m1 m2 m3 u15 u20 u21 u22 u23 w) : xC W0 g fs L k true m2 m3 u15 u20 (.map (some w.heap.size)) u22 u23 (w.alloc (.map #[] 0)) := by
 have hl := h.lt1
 have hn := h.next ((Below.refl _ w).alloc (Nat.le_refl _) (.map #[] 0))
 exact { hn with k1 := fun _ => ⟨_, rfl, h.below.size, bC.made w⟩, d12 := fun _ hm e => hl.2.1 hm e.symm, d13 := fun _ hm e => hl.2.2 hm e.symm }
theorem xC.map2 (h : xC W0 g fs L k m1 m2 m3 u15 u20 u21 u22 u23 w) : xC W0 g fs L k m1 true m3 u15 u20 u21 (.map (some w.heap.size)) u23 (w.alloc (.map #[] 0)) := by
 have hl := h.lt1
 have hn := h.next ((Below.refl _ w).alloc (Nat.le_refl _) (.map #[] 0))
 exact { hn with k2 := fun _ => ⟨_, rfl, h.below.size, bC.made w⟩, d12 := fun hm _ e => hl.1 hm e, d23 := fun _ hm e => hl.2.2 hm e.symm }
theorem xC.map3 (h : xC W0 g fs L k m1 m2 m3 u15 u20 u21 u22 u23 w) : xC W0 g fs L k m1 m2 true u15 u20 u21 u22 (.map (some w.heap.size)) (w.alloc (.map #[] 0)) := by
 have hl := h.lt1
 have hn := h.next ((Below.refl _ w).alloc (Nat.le_refl _) (.map #[] 0))
 exact { hn with k3 := fun _ => ⟨_, rfl, h.below.size, bI.made w⟩, d13 := fun hm _ e => hl.1 hm e, d23 := fun hm _ e => hl.2.1 hm e }
theorem xC.call1 (h : xC W0 g fs L 0 m1 m2 m3 u15 u20 u21 u22 u23 w) {v : Value} (hb : Below w.heap.size w w') (ho : w'.ownsRow w.heap.size 9 1 v fs.length (fs.map Value.string)) : xC W0 g fs L 1 m1 m2 m3 v u20 u21 u22 u23 w' := by
 have hn := h.next hb
 obtain ⟨A, c, e, _, _⟩ := ownsRow_form ho
 exact { hn with r1 := fun _ => ⟨A, c, e, dh ho h.below.size⟩, r5 := fun h => absurd h (by omega) }
theorem xC.call5 (h : xC W0 g fs L 1 m1 m2 m3 u15 u20 u21 u22 u23 w) {v : Value} (hb : Below w.heap.size w w') (ho : w'.ownsRow w.heap.size 74 3 v L.length (L.flatMap eP)) : xC W0 g fs L 2 m1 m2 m3 u15 v u21 u22 u23 w' := by
 have hn := h.next hb
 obtain ⟨A, c, e, _, _⟩ := ownsRow_form ho
 exact { hn with r1 := fun _ => hn.r1 (by omega), r5 := fun _ => ⟨A, c, e, dh ho h.below.size⟩ }
end
theorem IG {L : List fw} (h : (L.map fun x => bs x.1).Nodup) {k : Nat} (hk : k < L.length) : fH (L.take k) (bs L[k].1) = false := by
 unfold fH
 rw [List.any_eq_false]
 intro x hx
 simp only [decide_eq_true_eq]
 intro e
 have h' : ((L.take (k + 1)).map fun x => bs x.1).Nodup := h.sublist ((List.take_sublist _ _).map _)
 rw [List.take_succ_eq_append_getElem hk, List.map_append, List.nodup_append] at h'
 exact h'.2.2 _ (List.mem_map.2 ⟨x, hx, rfl⟩) _ (by simp) e
def O6 (k : Nat) (m1 m2 m3 : Bool) (i : Nat) : Bool := (decide (i = 4) && decide (k = 0)) || ((decide (i = 9) && decide (k = 1)) || ((decide (i = 10) && !m1) || ((decide (i = 11) && !m2) || (decide (i = 12) && !m3))))
theorem Er {k : Nat} {m1 m2 m3 : Bool} {i : Nat} (h : O6 k m1 m2 m3 i = true) : (i = 4 ∧ k = 0) ∨ (i = 9 ∧ k = 1) ∨ (i = 10 ∧ m1 = false) ∨ (i = 11 ∧ m2 = false) ∨ (i = 12 ∧ m3 = false) := by
 unfold O6 at h
 simpa only [Bool.or_eq_true, Bool.and_eq_true, decide_eq_true_eq, Bool.not_eq_true'] using h
def vz (k : Nat) (m1 m2 m3 : Bool) : Nat := (2 - k) + ((if m1 then 0 else 1) + (if m2 then 0 else 1) + (if m3 then 0 else 1))
theorem Kn {w : World} {S : Nat → Prop} {g : Nat} {fs : List ByteArray} {L : List fw} (h : gU w S g fs L) : Calls Tryz.prog 172 #[af g] w fun e w' => ∃ g', e = .returned (af g') ∧ gU w' (ni w w') g' fs L ∧ Below w.heap.size w w' := by
 have hm := vo h
 obtain ⟨A, c, A2, c2, b1, b2, b3, f2, f3, h1, hr1, hr2, ⟨-, -, -, -⟩, -, -, -⟩ := h.parts
 have hok := h.ok
 have hgl := h1.lt
 have c0 := h1.cell 0
 have c2' := h1.cell 2
 simp only [gq2] at c0 c2'
 have HM := qh hm; have HR1 := qh hr1; have HR2 := qh hr2; have gW := qh hok
 have hl24 := hok.f24
 have hl256 := hok.l256
 have hmm := @run_makeMap Tryz.prog
 clear hm hr1 hr2 h1 hok h
 go_enter Tryz.func172, Tryz.ntmps172
 go_wp2_with (go_at_call 208; refine HM.out.mono ?_; rintro e w' ⟨rfl, rfl⟩)
 refine wp_region_held_drew (S := (fun W => Below w.heap.size w W ∧ W.cell? ⟨g, 0, none⟩ = some (.slice A fs.length c) ∧ W.cell? ⟨g, 2, none⟩ = some (.slice A2 L.length c2))) (by kernel_rfl) ?_ (fun ah => ?_)
 ·exact ⟨(Below.refl _ w).drew, c0, c2'⟩
 have hkeep : ∀ W : World, Below w.heap.size w W → Below w.heap.size w W ∧ W.cell? ⟨g, 0, none⟩ = some (.slice A fs.length c) ∧ W.cell? ⟨g, 2, none⟩ = some (.slice A2 L.length c2) := fun W hb => ⟨hb, (hb.cell (p := ⟨g, 0, none⟩) hgl).trans c0, (hb.cell (p := ⟨g, 2, none⟩) hgl).trans c2'⟩
 have bR := qh hkeep
 clear hkeep c0 c2' HM
 obtain ⟨w0, hw0⟩ : ∃ W, w.drew = W := ⟨_, rfl⟩
 have hs0 : w0.heap.size = w.heap.size := by rw [← hw0]; rfl
 have hb0 : Below w.heap.size w w0 := by rw [← hw0]; exact (Below.refl _ w).drew
 rw [hw0] at ah ⊢
 clear hw0
 iterate 4
  refine tkH 0 (v := ?_) rfl (fun _ _ _ h => h) ?_ ?_
  rotate_left
  ·intro w hSw; (try dsimp only at hSw); (try simp only [tkN, gq3, gq1]); go_simp <;> with_reducible rfl
  try simp only [tkN, Act.put, gq3, gq1]
 iterate 4
  refine tkH 5 (v := ?_) rfl (fun _ _ _ h => h) ?_ ?_
  rotate_left
  ·intro w hSw; (try dsimp only at hSw); (try simp only [tkN, gq3, gq1]); go_simp <;> with_reducible rfl
  try simp only [tkN, Act.put, gq3, gq1]
 refine tT (fun fuel listed a w' => ∃ k m1 m2 m3 u15 u20 u21 u22 u23, fuel = 3 + vz k m1 m2 m3 ∧ k ≤ 2 ∧ listed = #[true, true, true, true, decide (1 ≤ k), true, true, true, true, decide (2 ≤ k), m1, m2, m3, false, false, false] ∧ a = { tmps := #[af g, undef, .pointer none, undef, undef, undef, undef, undef, af g, .bool true, .bool false, af g, af g, .pointer (some ⟨g, 0, none⟩), .slice A fs.length c, u15, af g, af g, .pointer (some ⟨g, 2, none⟩), .slice A2 L.length c2, u20, u21, u22, u23, undef, undef, undef, undef, undef, undef, undef, undef, undef, undef, undef, undef, undef, undef, undef, undef, undef, undef, undef, undef, undef, undef, undef, undef, undef, undef, undef, undef, undef, undef, undef, undef, undef, undef, undef, undef, undef, undef, undef, undef, undef, undef, undef, undef, undef, undef, undef, undef, undef], defers := [] } ∧ xC w g fs L k m1 m2 m3 u15 u20 u21 u22 u23 w') ?step ?zero 8 _ _ _ ⟨0, false, false, false, undef, undef, undef, undef, undef, rfl, by omega, rfl, rfl, ⟨hb0, fun h => absurd h (by omega), fun h => absurd h (by omega), fun h => (by cases h), fun h => (by cases h), fun h => (by cases h), fun h => (by cases h), fun h => (by cases h), fun h => (by cases h)⟩⟩
 case zero =>
  rintro listed a w' ⟨k, m1, m2, m3, u15, u20, u21, u22, u23, hf, -⟩
  omega
 case step =>
  rintro fuel listed a w' ⟨k, m1, m2, m3, u15, u20, u21, u22, u23, hf, hk5, rfl, rfl, hI⟩
  have HI := qh hI
  clear hI
  by_cases ay : k = 2 ∧ m1 = true ∧ m2 = true ∧ m3 = true
  ·obtain ⟨rfl, rfl, rfl, rfl⟩ := ay
   left
   obtain ⟨A3, c3, rfl, ho3⟩ := HI.out.r1 (by omega)
   obtain ⟨A4, c4, rfl, ho4⟩ := HI.out.r5 (by omega)
   obtain ⟨e1, rfl, hb1, hk1⟩ := HI.out.k1 rfl
   obtain ⟨e2, rfl, hb2, hk2⟩ := HI.out.k2 rfl
   obtain ⟨e3, rfl, hb3, hk3⟩ := HI.out.k3 rfl
   have hd12 := HI.out.d12 rfl rfl
   have hd13 := HI.out.d13 rfl rfl
   have hd23 := HI.out.d23 rfl rfl
   obtain rfl : fuel = 2 := by unfold vz at hf; simp at hf; omega
   clear hf
   have hb' := HI.out.below
   have ah := bR.out _ hb'
   refine rdH 13 fun K hK => ?_
   go_simp
   refine hK.out _ _ ?_ (fun aJ => ?_)
   ·(try dsimp only)
    exact bR.out _ (by first | exact hb' | exact hb'.alloc hb'.size _)
   clear hK K ah; rename _ => ah
   refine rdH 14 fun K hK => ?_
   go_simp
   refine hK.out _ _ ?_ (fun aJ => ?_)
   ·(try dsimp only)
    exact bR.out _ (by first | exact hb' | exact hb'.alloc hb'.size _)
   clear hK K ah; rename _ => ah
   refine rdH 15 fun K hK => ?_
   go_simp
   refine hK.out _ _ ?_ (fun aJ => ?_)
   ·(try dsimp only)
    exact bR.out _ (by first | exact hb' | exact hb'.alloc hb'.size _)
   clear hK K ah; rename _ => ah
   refine wpAnyH_done (by kernel_rfl) ?_ _
   have hbl := (Below.refl w'.heap.size w').alloc (Nat.le_refl _) (.cells #[.slice A3 fs.length c3, .map (some e1), .slice A4 L.length c4, .map (some e2), .map (some e3)] 265)
   have hg1 := Blk.new w' 265 #[.slice A3 fs.length c3, .map (some e1), .slice A4 L.length c4, .map (some e2), .map (some e3)]
   obtain ⟨g', hg'⟩ : ∃ g', w'.heap.size = g' := ⟨_, rfl⟩
   obtain ⟨W1, hW1⟩ : ∃ W, w'.alloc (.cells #[.slice A3 fs.length c3, .map (some e1), .slice A4 L.length c4, .map (some e2), .map (some e3)] 265) = W := ⟨_, rfl⟩
   have ho31 := bH (S := fun _ => False) ho3 (.of_below hbl) (fun _ _ h => h)
   have ho41 := bH (S := fun _ => False) ho4 (.of_below hbl) (fun _ _ h => h)
   have hk11 := hk1.below hbl
   have hk21 := hk2.below hbl
   have hk31 := hk3.below hbl
   have hb1' := hb'.alloc hb'.size (.cells #[.slice A3 fs.length c3, .map (some e1), .slice A4 L.length c4, .map (some e2), .map (some e3)] 265)
   have hsz1 : W1.heap.size = g' + 1 := by rw [← hW1, ← hg']; simp
   have hgw : w.heap.size ≤ g' := by rw [← hg']; exact hb'.size
   have hle : e1 < g' ∧ e2 < g' ∧ e3 < g' := by rw [← hg']; exact ⟨hk1.lt, hk2.lt, hk3.lt⟩
   rw [hW1] at ah hg1 ho31 ho41 hk11 hk21 hk31 hb1' ⊢
   rw [hg'] at hg1 ⊢
   simp only [ne_eq, Value.map.injEq, Option.some.injEq] at hd12 hd13 hd23
   obtain ⟨hle1, hle2, hle3⟩ := hle
   have N7 := qh ho31; have Zq := qh ho41; have jr := qh hk11; have zL := qh hk21; have Io := qh hk31; have HB1 := qh hb1'; have HG1 := qh hg1
   have g0 := hg1.cell 0
   simp only [gq2] at g0
   have hr3 := Reads.of_own ho31
   have HR3 := qh hr3
   clear hbl hg1 hW1 ho31 ho41 hk11 hk21 hk31 hb1' hk1 hk2 hk3 ho3 ho4 hg' hb' ah hr3 HI
   go_wp2
   go_loopw [31] (fun i wr => ∃ (k : Nat) (f : ByteArray → Option Int), k ≤ fs.length ∧ i = .int .i64 k ∧ bC wr e1 k f ∧ bA (fun b => b = e1) W1 wr) (fun i _ => fs.length - (RowKit.intOf i).toNat)
   case atStart => exact ⟨0, _, by omega, rfl, jr.out, bA.refl _ _⟩
   case round =>
    obtain ⟨k, f, hk, rfl, hmap, bQ⟩ := hrel
    have hsz := bQ.size
    have hgr := HG1.out.dQ bQ (by omega)
    have g1 := hgr.cell 1
    simp only [gq2] at g1
    have Rf := bH N7.out bQ (fun j hj e => by
     obtain ⟨es, clock, h⟩ := jr.out.isMap
     exact di h N7.out (e ▸ hj))
    have Ht := qh hmap; have bz := qh bQ; have VR := qh hgr; have Na := qh Rf
    clear hmap bQ hgr Rf
    by_cases hlt : k < fs.length
    ·have cB : (k : Int) < (fs.length : Int) := by omega
     have hrs : ReadS wr wr.heap.size A3 fs.length fs := Reads.of_own Na.out
     obtain ⟨ad, rfl, had, hcell⟩ := hrs.at_ hlt
     have hs16 := gW.out.O3 _ (List.getElem_mem hlt)
     generalize fs[k] = s at *
     clear hrs
     go_wp2_with (refine lh rfl _ _ _ rfl _ _ _ rfl Ht.out (by unfold maxLen; omega) s (by unfold maxLen; omega) (k : Int) (wf64 (by omega)) rfl rfl ?_; intro w1 hmap1 hgrow1)
     go_roundw
     case rel => exact ⟨k + 1, _, by omega, by go_num, hmap1, bz.out.grown hgrow1 (fun j hj => by injection hj with hj; exact .inl hj.symm)⟩
     case measure => simp [RowKit.intOf]; omega
    ·obtain rfl : k = fs.length := by omega
     have g2 := VR.out.cell 2
     simp only [gq2] at g2
     have Re := bH Zq.out bz.out (fun j hj e => by
      obtain ⟨es, clock, h⟩ := jr.out.isMap
      exact di h Zq.out (e ▸ hj))
     have Ru := zL.out.dQ bz.out (fun (e : e2 = e1) => hd12 e.symm)
     have Rt := Io.out.dQ bz.out (fun (e : e3 = e1) => hd13 e.symm)
     have Py := qh Re; have PN := qh Ru; have PM := qh Rt
     clear Re Ru Rt hlt
     obtain ⟨W2, rfl⟩ : ∃ W, W = wr := ⟨_, rfl⟩
     go_wp2
     go_loopw [48] (fun i wr => ∃ (k : Nat) (f2 : ByteArray → Option Int) (f3 : Snd → Option Int), k ≤ L.length ∧ i = .int .i64 k ∧ (bC wr e2 k f2 ∧ Co (L.take k) f2) ∧ (bI wr e3 k f3 ∧ Cn (L.take k) f3) ∧ bA (fun b => b = e2 ∨ b = e3) W2 wr) (fun i _ => L.length - (RowKit.intOf i).toNat)
     case atStart => exact ⟨0, _, _, by omega, rfl, ⟨PN.out, fun s => ⟨rfl, fun i hi => by cases hi⟩⟩, ⟨PM.out, fun s => rfl⟩, bA.refl _ _⟩
     case round =>
      obtain ⟨k, h2, h3, hk, rfl, ⟨hm2, hs2⟩, ⟨hm3, hv3⟩, hch2⟩ := hrel
      have hszq := hch2.size
      have YZ := VR.out.dQ hch2 (fun e => by omega)
      have hoq := bH Py.out hch2 (fun j hj e => by
       rcases e with e | e
       ·obtain ⟨es, clock, h⟩ := PN.out.isMap; exact di h Py.out (e ▸ hj)
       ·obtain ⟨es, clock, h⟩ := PM.out.isMap; exact di h Py.out (e ▸ hj))
      have N9 := qh hm2; have HS2 := qh hs2; have VN := qh hm3; have TY := qh hv3; have Nh := qh hch2; have Yr := qh YZ; have X6 := qh hoq
      clear hm2 hs2 hm3 hv3 hch2 YZ hoq
      by_cases hlt : k < L.length
      ·have cB : (k : Int) < (L.length : Int) := by omega
       obtain ⟨ad, rfl, had, hcl0, hcl1, hcl2⟩ := kS (Reads.of_own X6.out) hlt
       have JI := gW.out.sym _ (List.getElem_mem hlt)
       have eQ := IG gW.out.nd hlt
       have htk := List.take_succ_eq_append_getElem hlt
       obtain ⟨x, hx⟩ : ∃ x, L[k] = x := ⟨_, rfl⟩
       rw [hx] at hcl0 hcl1 hcl2 JI eQ htk
       obtain ⟨sym, p, q⟩ := x
       simp only at hcl0 hcl1 hcl2 JI eQ
       have hsy4 : sym.size ≤ 4 := by
        have := JI.1
        unfold iO gT at this
        simp only [Bool.and_eq_true, decide_eq_true_eq] at this
        omega
       have hok32 : ok32 (p, q) := JI.2.2
       have CO := qh eQ; have FD := qh htk
       clear JI eQ htk hx
       have bE := Blk.new wr 74 #[.string sym, .int .u32 p, .int .u32 q]
       have lH := (Below.refl wr.heap.size wr).alloc (Nat.le_refl _) (.cells #[.string sym, .int .u32 p, .int .u32 q] 74)
       obtain ⟨W3, hW3⟩ : ∃ W, wr.alloc (.cells #[.string sym, .int .u32 p, .int .u32 q] 74) = W := ⟨_, rfl⟩
       rw [hW3] at bE lH
       have HW3 := qh hW3; have FJ := qh bE; have fZ := qh lH
       clear hW3 bE lH
       go_wp2
       rw [HW3.out]
       clear HW3 hcl0 hcl1 hcl2
       have hg3 := Yr.out.below fZ.out Yr.out.lt
       have g3 := hg3.cell 3
       have g4 := hg3.cell 4
       have d0 := FJ.out.cell 0
       have d1 := FJ.out.cell 1
       have d2 := FJ.out.cell 2
       simp only [gq2] at g3 g4 d0 d1 d2
       have hm23 : bC W3.drew e2 k h2 := N9.out.below fZ.out.drew
       have hm33 : bI W3.drew e3 k h3 := VN.out.below fZ.out.drew
       obtain ⟨v0, st, w4, hr4, hgw4, hst4⟩ := hm23.entry (by unfold maxLen; omega) sym (by unfold maxLen; omega)
       obtain ⟨w5, hr5, hm5, hgw5⟩ := hst4 w4 (k : Int) rfl (wf64 (by omega))
       obtain ⟨v1, st1, w6, hr6, hgw6, hst6⟩ := ((hm33.kept hgw4 (fun e => by injection e with e; exact hd23 e.symm)).kept hgw5 (fun e => by injection e with e; exact hd23 e.symm)).entry (by unfold maxLen; omega) (p, q) hok32
       obtain ⟨w7, hr7, hm7, hgw7⟩ := hst6 w6 (k : Int) rfl (wf64 (by omega))
       have Mt := (hm5.kept hgw6 (fun e => by injection e with e; exact hd23 e)).kept hgw7 (fun e => by injection e with e; exact hd23 e)
       have hch7 : bA (fun b => b = e2 ∨ b = e3) W2 w7 := (((((Nh.out.new (T := fun _ => False) (.of_below fZ.out) (fun _ _ h => h.elim)).drewN 1).grown hgw4 (fun j hj => by injection hj with hj; exact .inl (.inl hj.symm))).grown hgw5 (fun j hj => by injection hj with hj; exact .inl (.inl hj.symm))).grown hgw6 (fun j hj => by injection hj with hj; exact .inl (.inr hj.symm))).grown hgw7 (fun j hj => by injection hj with hj; exact .inl (.inr hj.symm))
       have Xo : bA (fun b => b = e2 ∨ b = e3) W3.drew w4 := (bA.refl _ _).grown hgw4 (fun j hj => by injection hj with hj; exact .inl (.inl hj.symm))
       have Xn := Xo.grown hgw5 (fun j hj => by injection hj with hj; exact .inl (.inl hj.symm))
       have Xm := Xn.grown hgw6 (fun j hj => by injection hj with hj; exact .inl (.inr hj.symm))
       have Y9 := Xm.grown hgw7 (fun j hj => by injection hj with hj; exact .inl (.inr hj.symm))
       have hkeep : ∀ W, bA (fun b => b = e2 ∨ b = e3) W3.drew W → W.cell? ⟨g', 3, none⟩ = some (.map (some e2)) ∧ W.cell? ⟨g', 4, none⟩ = some (.map (some e3)) ∧ W.cell? ⟨wr.heap.size, 0, none⟩ = some (.string sym) ∧ W.cell? ⟨wr.heap.size, 1, none⟩ = some (.int .u32 p) ∧ W.cell? ⟨wr.heap.size, 2, none⟩ = some (.int .u32 q) := fun W hc => by
        have ZX : Blk W3.drew g' 265 #[.slice A3 fs.length c3, .map (some e1), .slice _ L.length c4, .map (some e2), .map (some e3)] := hg3
        have hbD : Blk W3.drew wr.heap.size 74 #[.string sym, .int .u32 p, .int .u32 q] := FJ.out
        have hgW := ZX.dQ hc (fun e => by omega)
        have hbW := hbD.dQ hc (fun e => by omega)
        have g3 := hgW.cell 3
        have g4 := hgW.cell 4
        have d0 := hbW.cell 0
        have d1 := hbW.cell 1
        have d2 := hbW.cell 2
        simp only [gq2] at g3 g4 d0 d1 d2
        exact ⟨g3, g4, d0, d1, d2⟩
       have C4 := qh Xo; have C5 := qh Xn; have C6 := qh Xm; have C7 := qh Y9; have bR := qh hkeep
       clear Xo Xn Xm Y9 hkeep
       have hkt : (L.take k).length = k := by rw [List.length_take]; omega
       have hsy7 := xI (s := (p, q)) HS2.out CO.out
       have hva7 := xE (sym := sym) (s := (p, q)) TY.out
       rw [hkt, ← FD.out] at hsy7 hva7
       have HM7 := qh Mt; have HK7 := qh hm7; have YC := qh hch7; have XP := qh hsy7; have XM := qh hva7
       have HR4 := qh hr4; have VI := qh hr5; have HR6 := qh hr6; have VH := qh hr7
       clear hm23 hm33 hr4 hgw4 hst4 hr5 hm5 hgw5 hr6 hgw6 hst6 hr7 hm7 hgw7 Mt hch7 hsy7 hva7 hg3 hkt
       refine wp_region_held_drew (S := (fun W => W.cell? ⟨g', 3, none⟩ = some (.map (some e2)) ∧ W.cell? ⟨g', 4, none⟩ = some (.map (some e3)) ∧ W.cell? ⟨wr.heap.size, 0, none⟩ = some (.string sym) ∧ W.cell? ⟨wr.heap.size, 1, none⟩ = some (.int .u32 p) ∧ W.cell? ⟨wr.heap.size, 2, none⟩ = some (.int .u32 q))) (by kernel_rfl) ?_ (fun ah => ?_)
       ·exact ⟨g3, g4, d0, d1, d2⟩
       clear g3 g4 d0 d1 d2
       iterate 14
        refine tkH 0 (v := ?_) rfl (fun _ _ _ h => h) ?_ ?_
        rotate_left
        ·intro w hSw; (try dsimp only at hSw); (try simp only [tkN, gq3, gq1]); go_simp <;> with_reducible rfl
        try simp only [tkN, Act.put, gq3, gq1]
       refine rdH 14 fun K hK => ?_
       refine nY rfl _ _ _ rfl HR4.out ?_
       refine hK.out _ _ ?_ (fun aJ => ?_)
       ·(try dsimp only)
        exact bR.out _ (by first | exact C4.out | exact C5.out | exact C6.out | exact C7.out)
       clear hK K ah; rename _ => ah
       refine rdH 15 fun K hK => ?_
       go_simp
       refine hK.out _ _ ?_ (fun aJ => ?_)
       ·(try dsimp only)
        exact bR.out _ (by first | exact C4.out | exact C5.out | exact C6.out | exact C7.out)
       clear hK K ah; rename _ => ah
       refine rdH 16 fun K hK => ?_
       refine lT rfl _ _ _ _ rfl VI.out ?_
       refine hK.out _ _ ?_ (fun aJ => ?_)
       ·(try dsimp only)
        exact bR.out _ (by first | exact C4.out | exact C5.out | exact C6.out | exact C7.out)
       clear hK K ah; rename _ => ah
       refine rdH 17 fun K hK => ?_
       refine nY rfl _ _ _ rfl HR6.out ?_
       refine hK.out _ _ ?_ (fun aJ => ?_)
       ·(try dsimp only)
        exact bR.out _ (by first | exact C4.out | exact C5.out | exact C6.out | exact C7.out)
       clear hK K ah; rename _ => ah
       refine rdH 18 fun K hK => ?_
       go_simp
       refine hK.out _ _ ?_ (fun aJ => ?_)
       ·(try dsimp only)
        exact bR.out _ (by first | exact C4.out | exact C5.out | exact C6.out | exact C7.out)
       clear hK K ah; rename _ => ah
       refine rdH 19 fun K hK => ?_
       refine lT rfl _ _ _ _ rfl VH.out ?_
       refine hK.out _ _ ?_ (fun aJ => ?_)
       ·(try dsimp only)
        exact bR.out _ (by first | exact C4.out | exact C5.out | exact C6.out | exact C7.out)
       clear hK K ah; rename _ => ah
       refine wpAnyH_done (by kernel_rfl) ?_ _
       go_wp2
       go_roundw
       case rel => exact ⟨k + 1, _, _, by omega, by go_num, ⟨HM7.out, XP.out⟩, ⟨HK7.out, XM.out⟩, YC.out⟩
       case measure => simp [RowKit.intOf]; omega
      ·obtain rfl : k = L.length := by omega
       have ay : gU wr (ni w wr) g' fs L ∧ Below w.heap.size w wr := by
        have hsy := HS2.out
        have hva := TY.out
        rw [List.take_length] at hsy hva
        have dV := (HB1.out.trans (bz.out.below (fun i hi => by omega) (by omega))).trans (Nh.out.below (fun i hi => by omega) (by omega))
        have Rh := bH Na.out Nh.out (fun j hj e => by
         rcases e with e | e
         ·obtain ⟨es, clock, h⟩ := PN.out.isMap; exact di h Na.out (e ▸ hj)
         ·obtain ⟨es, clock, h⟩ := PM.out.isMap; exact di h Na.out (e ▸ hj))
        exact ⟨⟨A3, c3, .slice A4 L.length c4, e1, e2, e3, _, _, _, ⟨Yr.out, hgw, by omega⟩, ⟨dh Rh (Nat.zero_le _), fun b hb => Rh.lt b hb⟩, ⟨dh X6.out (Nat.zero_le _), fun b hb => X6.out.lt b hb⟩, ⟨Ht.out.dQ Nh.out (fun e => by rcases e with e | e; exact hd12 e; exact hd13 e), by omega, by omega⟩, ⟨N9.out, ⟨by omega, by omega⟩, hsy⟩, ⟨VN.out, ⟨by omega, by omega⟩, hva⟩, ⟨hd12, hd13, hd23⟩, gW.out⟩, dV⟩
       have aD := qh ay
       clear ay hlt
       go_wp2
       go_ret
       exact ⟨g', rfl, aD.out.1, aD.out.2⟩
  ·right
   refine ⟨Ou ?_, fun i hi => ?_⟩
   ·clear HI hf
    rcases (by omega : k = 0 ∨ k = 1 ∨ k = 2) with rfl | rfl | rfl <;> cases m1 <;> cases m2 <;> cases m3 <;> first | exact absurd ⟨rfl, rfl, rfl, rfl⟩ ay | kernel_rfl
   have hp : O6 k m1 m2 m3 i = true := by
    refine Mj ?_ hi
    clear HI hf hi
    rcases (by omega : k = 0 ∨ k = 1 ∨ k = 2) with rfl | rfl | rfl <;> cases m1 <;> cases m2 <;> cases m3 <;> first | exact absurd ⟨rfl, rfl, rfl, rfl⟩ ay | kernel_rfl
   have hb' := HI.out.below
   have hS' := bR.out _ hb'
   obtain ⟨-, s0, s2⟩ := hS'
   clear hi ay
   rcases Er hp with ⟨rfl, rfl⟩ | ⟨rfl, rfl⟩ | ⟨rfl, rfl⟩ | ⟨rfl, rfl⟩ | ⟨rfl, rfl⟩
   ·refine ⟨_, rfl, fun K hK => ?_⟩
    have HKK := qh hK
    clear hK hp
    go_simp
    (try go_wp2_with fail)
    refine (oP A fs.length c _ w' w.heap.size (HR1.out.below hb') (mE fs) hb'.size (by omega)).mono ?_
    rintro e w1 ⟨v, rfl, ho, hb1⟩
    have hn := HI.out.call1 hb1 ho
    refine HKK.out _ _ (bR.out _ hn.below) ⟨1, m1, m2, m3, v, _, _, _, _, ?_, by omega, rfl, rfl, hn⟩
    unfold vz at hf ⊢; omega
   ·refine ⟨_, rfl, fun K hK => ?_⟩
    have HKK := qh hK
    clear hK hp
    go_simp
    (try go_wp2_with fail)
    refine (Eo A2 L.length c2 _ w' w.heap.size (HR2.out.below hb') (BB L) hb'.size (by omega)).mono ?_
    rintro e w1 ⟨v, rfl, ho, hb1⟩
    have hn := HI.out.call5 hb1 ho
    refine HKK.out _ _ (bR.out _ hn.below) ⟨2, m1, m2, m3, _, v, _, _, _, ?_, by omega, rfl, rfl, hn⟩
    unfold vz at hf ⊢; omega
   ·refine ⟨_, rfl, fun K hK => ?_⟩
    have hn := HI.out.map1
    have HKK := qh (hK _ _ (bR.out _ hn.below) ⟨k, true, m2, m3, _, _, _, _, _, by unfold vz at hf ⊢; simp at hf ⊢; omega, hk5, rfl, rfl, hn⟩)
    clear hK hp
    go_simp
    exact HKK.out
   ·refine ⟨_, rfl, fun K hK => ?_⟩
    have hn := HI.out.map2
    have HKK := qh (hK _ _ (bR.out _ hn.below) ⟨k, m1, true, m3, _, _, _, _, _, by unfold vz at hf ⊢; simp at hf ⊢; omega, hk5, rfl, rfl, hn⟩)
    clear hK hp
    go_simp
    exact HKK.out
   ·refine ⟨_, rfl, fun K hK => ?_⟩
    have hn := HI.out.map3
    have HKK := qh (hK _ _ (bR.out _ hn.below) ⟨k, m1, m2, true, _, _, _, _, _, by unfold vz at hf ⊢; simp at hf ⊢; omega, hk5, rfl, rfl, hn⟩)
    clear hK hp
    go_simp
    exact HKK.out
def C8 : ByteArray := ⟨#[58, 39, 34, 126, 94, 95, 61, 96]⟩
theorem wP (s : ByteArray) (w : World) (hs : s.size ≤ maxLen) : Calls Tryz.prog 142 #[.string s, .string C8] w fun e w' => ∃ t : ByteArray, e = .returned (.string t) ∧ (bs t = [] ↔ (bs s).all kH = true) ∧ Below w.heap.size w w' := by
 refine (Any.strings_Trim_laid Tryz.lays160 (by kernel_rfl) s C8 w (by unfold maxLen at hs; exact hs) (by decide) (ascii_of_all (by decide))).mono ?_
 rintro e w' ⟨rfl, hb⟩
 refine ⟨_, rfl, ?_, hb⟩
 show Lib.trimS s.data.toList C8.data.toList = [] ↔ _
 rw [Ac]
 rfl
theorem oQ (s t : ByteArray) : (s.toList == t.toList) = decide (bs s = bs t) := by
 rw [ByteArray.toList_eq, ByteArray.toList_eq]
 show (s.data.toList == t.data.toList) = decide (s.data.toList = t.data.toList)
 rw [Bool.eq_iff_iff]
 simp only [beq_iff_eq, decide_eq_true_eq]
theorem Fh (s : ByteArray) : (s.toList == []) = decide (bs s = []) := by
 rw [ByteArray.toList_eq]
 show (s.data.toList == []) = decide (s.data.toList = [])
 rw [Bool.eq_iff_iff]
 simp only [beq_iff_eq, decide_eq_true_eq]
theorem Jl (w : World) (bx : Nat) (y m : Mk) (hb : Blk w bx 76 #[.string m.text, .int .u32 m.clear, .int .u32 m.set.1, .int .u32 m.set.2]) :
 Calls Tryz.prog 175 #[QI y, af bx] w fun e w' => e = .returned (.bool (decide (bs y.text = bs m.text))) ∧ Below w.heap.size w w' := by
 have hl := hb.lt
 have c0 := hb.cell 0
 simp only [gq2] at c0
 have hq := oQ y.text m.text
 obtain ⟨r, hr⟩ : ∃ r, decide (bs y.text = bs m.text) = r := ⟨_, rfl⟩
 rw [hr] at hq ⊢
 clear hr hb
 go_enter Tryz.func175, Tryz.ntmps175
 go_wp2
 go_ret
 exact ⟨rfl, (Below.refl _ _).alloc (Nat.le_refl _) _⟩
theorem BH (A : Option Addr) (n c B : Nat) (ms : List Mk) (w : World) (bx : Nat) (m : Mk) (hr : Reads w B 4 A n (ms.flatMap ib)) (hB : B ≤ w.heap.size) (hn : n ≤ maxLen) (hb : Blk w bx 76 #[.string m.text, .int .u32 m.clear, .int .u32 m.set.1, .int .u32 m.set.2]) :
 Calls Tryz.prog 213 #[.slice A n c, .func (.func 175) #[] #[af bx]] w fun e w' => ∃ i : Int, e = .returned (.int .i64 i) ∧ decide (0 ≤ i) = (ms.any fun y => decide (bs y.text = bs m.text)) ∧ Below w.heap.size w w' := by
 unfold maxLen at hn
 have hl := hr.iD (fun _ => rfl) (by decide)
 subst hl
 have HR := qh hr; have HB := qh hb
 have hbl := hb.lt
 clear hr hb
 go_enter Tryz.func213, Tryz.ntmps213
 go_wp2
 go_loopw [8] (fun i wr => ∃ k : Nat, k ≤ ms.length ∧ i = .int .i64 k ∧ ((ms.take k).any fun y => decide (bs y.text = bs m.text)) = false ∧ Below w.heap.size w wr) (fun i _ => ms.length - (RowKit.intOf i).toNat)
 case atStart => exact ⟨0, by omega, rfl, rfl, Below.refl _ _⟩
 case round =>
  obtain ⟨k, hk, rfl, aS, hbw⟩ := hrel
  have cu := qh aS; have aQ := qh hbw
  clear aS hbw
  by_cases hlt : k < ms.length
  ·have cB : (k : Int) < (ms.length : Int) := by omega
   obtain ⟨ad, rfl, had, e0, e1, e2, e3⟩ := lD (HR.out.below (aQ.out.mono hB)) hlt
   have ae := Jl wr bx ms[k] m (HB.out.below aQ.out hbl)
   have htk : ((ms.take (k + 1)).any fun y => decide (bs y.text = bs m.text)) = (((ms.take k).any fun y => decide (bs y.text = bs m.text)) || decide (bs ms[k].text = bs m.text)) := by
    rw [List.take_succ_eq_append_getElem hlt, List.any_append]; simp
   have eu : decide (bs ms[k].text = bs m.text) = true → (ms.any fun y => decide (bs y.text = bs m.text)) = true := fun h => List.any_eq_true.2 ⟨_, List.getElem_mem hlt, h⟩
   generalize ms[k] = y at *
   obtain ⟨r, hr⟩ : ∃ r, decide (bs y.text = bs m.text) = r := ⟨_, rfl⟩
   rw [hr] at ae htk eu
   have HC := qh ae; have FD := qh htk; have HY := qh eu
   clear ae htk eu hr
   go_wp2_with fail
   refine HC.out.mono ?_
   rintro e w1 ⟨rfl, hb1⟩
   have HB1 := qh (aQ.out.trans (hb1.mono aQ.out.size))
   clear hb1
   cases r with
   | true =>
     have YQ := HY.out rfl
     have HYT := qh YQ
     clear HY FD YQ
     go_wp2
     go_ret
     exact ⟨k, rfl, by rw [HYT.out]; exact decide_eq_true (by omega), HB1.out⟩
   | false =>
     clear HY
     go_wp2
     go_roundw
     case rel => exact ⟨k + 1, by omega, by go_num, by rw [FD.out, cu.out]; rfl, HB1.out⟩
     case measure => simp [RowKit.intOf]; omega
  ·obtain rfl : k = ms.length := by omega
   have aS := cu.out
   rw [List.take_length] at aS
   have HN := qh aS
   clear aS
   go_wp2
   go_ret
   exact ⟨-1, rfl, by rw [HN.out]; decide, aQ.out⟩
theorem BP (A : Option Addr) (n c B : Nat) (ms : List Mk) (w : World) (bx : Nat) (m : Mk) (hr : Reads w B 4 A n (ms.flatMap ib)) (hB : B ≤ w.heap.size) (hn : n ≤ maxLen) (hb : Blk w bx 76 #[.string m.text, .int .u32 m.clear, .int .u32 m.set.1, .int .u32 m.set.2]) :
 Calls Tryz.prog 174 #[.slice A n c, .func (.func 175) #[] #[af bx]] w fun e w' => e = .returned (.bool (ms.any fun y => decide (bs y.text = bs m.text))) ∧ Below w.heap.size w w' := by
 have hc := BH A n c B ms w bx m hr hB hn hb
 obtain ⟨r, hr'⟩ : ∃ r, (ms.any fun y => decide (bs y.text = bs m.text)) = r := ⟨_, rfl⟩
 rw [hr'] at hc ⊢
 have HC := qh hc
 clear hr hb hc hr'
 go_enter Tryz.func174, Tryz.ntmps174
 go_wp2_with fail
 refine HC.out.mono ?_
 rintro e w1 ⟨i, rfl, hi, hb⟩
 subst hi
 have HB := qh hb
 clear hb
 go_wp2
 go_ret
 exact ⟨rfl, HB.out⟩
end Go.Proofs.YtmepaeahchiglaaGreatDoor
