/-
  Layer 40: cloned and List once more: what they make is not frozen and lies apart. Conditions: a dictionary in memory.
-/
import Derived.Test.YtgkpoopiamicnaaGreatDoorZbas
namespace Go.Proofs.YtgkpoopiamicnaaGreatDoor
open Go.RowKit Go.Lib

/-- A block of which nothing is frozen. -/
def SoftB (w : World) (b : Nat) : Prop := ∀ q : Addr, q.block = b → w.frozen? q = false
theorem own_soft {w : World} {base size n : Nat} {t : TypeId} {v : Value} {xs : List Value} (h : w.ownsRow base t size v n xs) {b : Nat} (hb : v.ownBlock = some b) : SoftB w b := fun q hq => by
  rcases h.2 with ⟨rfl, -⟩ | ⟨g, cap, cur, rfl, -, hg, -⟩
  · cases hb
  · injection hb with hb
    subst hb
    have hq2 : q.block = g := hq
    unfold World.frozen?
    rw [hq2, hg]
    simp
/-- Articles whose parts lie in blocks of S that are not frozen. -/
def ArtZ (w : World) (S : Nat → Prop) (x : Art) (cs : List Value) : Prop := ArtF w (fun b => S b ∧ SoftB w b) x cs
/-- The blocks of S are as they were. -/
def KeepH (S : Nat → Prop) (w w' : World) : Prop := ∀ b, S b → w'.heap[b]? = w.heap[b]?
theorem keepH_below {S : Nat → Prop} {w w' : World} {B : Nat} (hb : Below B w w') (hl : ∀ b, S b → b < B) : KeepH S w w' := fun b h => hb.block b (hl b h)
theorem KeepH.cells {S : Nat → Prop} {w w' : World} (h : KeepH S w w') : KeepS S w w' := fun q hq => by unfold World.cell?; rw [h _ hq]
theorem KeepH.soft {S : Nat → Prop} {w w' : World} (h : KeepH S w w') {b : Nat} (hb : S b) (hs : SoftB w b) : SoftB w' b := fun q hq => by
  have := hs q hq
  unfold World.frozen? at this ⊢
  rw [hq] at this ⊢
  rw [h _ hb]
  exact this
def KeepG {α : Type} (F : World → (Nat → Prop) → α → List Value → Prop) : Prop := ∀ (w w' : World) (S S' : Nat → Prop) (x : α) (cs : List Value), (∀ b, S b → S' b) → KeepH S w w' → F w S x cs → F w' S' x cs
theorem keepG_art : KeepG ArtZ := fun _ _ _ _ _ _ hs hk h => ArtF.keep h (fun b hb => ⟨hs b hb.1, hk.soft hb.1 hb.2⟩) (fun q hq => hk.cells q hq.1)
section
variable {α : Type} {F : World → (Nat → Prop) → α → List Value → Prop} {k : Nat} {t : TypeId} {w w0 wr w2 w3 : World} {l : List α} {v v' : Value} {xs ys : List Value} {x : α}
theorem GR.belowZ (hF : KeepG F) (h : GR F k t w wr l v xs) (hb : Below wr.heap.size wr w2) : GR F k t w w2 l v xs :=
  ⟨own_below h.own hb, h.rows.imp fun _ _ hy => hF _ _ _ _ _ _ (fun _ hb2 => ⟨hb2.1, Nat.lt_of_lt_of_le hb2.2.1 hb.size, hb2.2.2⟩) (keepH_below hb fun _ hb2 => hb2.2.1) hy, h.ch.trans (hb.mono h.ch.size)⟩
theorem GR.nextZ (hF : KeepG F) (h : GR F k t w wr l v xs) (hc : Below wr.heap.size wr w2) (hx : F w2 (NewS wr w2) x ys)
    (hown' : w3.ownsRow w.heap.size t k v' (l.length + 1) (xs ++ ys)) (hgrow : (w2.alloc (.cells ys.toArray t)).grownBy w3 v.ownBlock) (hv : v'.ownBlock = v.ownBlock ∨ v'.ownBlock = some (w2.alloc (.cells ys.toArray t)).heap.size) :
    GR F k t w w3 (l ++ [x]) v' (xs ++ ys) := by
  have hsz0 := h.ch.size
  have hsz2 := hc.size
  have hsz3 := hgrow.size
  simp only [World.size_alloc] at hsz3 hv
  have hown2 := h.own2 hc
  have hcell3 : ∀ b, b < w2.heap.size → some b ≠ v.ownBlock → w3.heap[b]? = w2.heap[b]? := fun b hq hne => by
    rw [hgrow.block b (by rw [World.size_alloc]; omega) hne, Below.heap_alloc _ _ _ hq]
  have hnew : ∀ c, c < w2.heap.size → v.ownBlock ≠ some c → v'.ownBlock ≠ some c := fun c hc hne e => by
    rcases hv with hv | hv
    · exact hne (by rw [← hv, e])
    · rw [e] at hv
      injection hv with hv
      omega
  have hold : RowsF F w2 (fun b => w.heap.size ≤ b ∧ b < w2.heap.size ∧ v.ownBlock ≠ some b) l xs := (h.belowZ hF hc).rows
  have hp1 : F w2 (fun b => w.heap.size ≤ b ∧ b < w2.heap.size ∧ v.ownBlock ≠ some b) x ys := hF _ _ _ _ _ _ (fun c hc => by
    have h0 : wr.heap.size ≤ c := hc.1
    exact ⟨by omega, hc.2, fun e => by have := (h.own.lt c e).2; omega⟩) (fun _ _ => rfl) hx
  refine ⟨by rw [List.length_append]; exact hown', (RowsF.append hp1 hold).imp fun y cy hy => hF _ _ _ _ _ _ (fun c hc => ⟨hc.1, by have := hc.2.1; omega, hnew c hc.2.1 hc.2.2⟩) (fun q hq => hcell3 q hq.2.1 (fun e => hq.2.2 e.symm)) hy, ?_⟩
  have hb2 := (h.ch.trans (hc.mono hsz0)).alloc (by omega) (.cells ys.toArray t)
  exact hb2.grown hgrow (by rw [World.size_alloc]; omega) (fun c hc => (hown2.lt c hc).1)
end
def CloneZ (w : World) (x : Art) (e : Ending) (w' : World) : Prop := ∃ cs, e = .returned (aggM cs) ∧ ArtZ w' (NewS w w') x cs ∧ Below w.heap.size w w'
set_option linter.unusedSimpArgs false in
set_option maxRecDepth 20000 in
set_option maxHeartbeats 4000000 in
theorem cloned_soft {w : World} {S : Nat → Prop} {x : Art} {cs : List Value} (h : ArtF w S x cs) (hS : ∀ b, S b → b < w.heap.size) (hx : ArtShort x) :
    Calls Tryz.prog 56 #[aggM cs] w (CloneZ w x) := by
  obtain ⟨v1, v2, v3, rfl, ⟨A1, c1, rfl, q1, r1⟩, ⟨A2, c2, rfl, q2, r2⟩, ⟨A3, c3, rfl, q3, r3⟩⟩ := h
  have hR1 := r1.reads hS
  have hR2 := r2.reads hS
  have hR3 := r3.reads hS
  have k1 := fun W (hb : Below w.heap.size w W) => cloneSn_any A1 _ c1 _ W w.heap.size (hR1.below hb) (snd_one _) hb.size hx.word
  have k2 := fun W (hb : Below w.heap.size w W) => cloneTx_any A2 _ c2 _ W w.heap.size (hR2.below hb) (str_one _) hb.size hx.texts
  have k3 := fun W (hb : Below w.heap.size w W) => cloneTx_any A3 _ c3 _ W w.heap.size (hR3.below hb) (str_one _) hb.size hx.see
  have K1 := Lib.hid k1; have K2 := Lib.hid k2; have K3 := Lib.hid k3
  clear k1 k2 k3 hR1 hR2 hR3 r1 r2 r3 q1 q2 q3 hS hx
  obtain ⟨hd, l1, l2, l3⟩ := x
  dsimp only at *
  generalize hn1 : l1.length = n1 at *
  generalize hn2 : l2.length = n2 at *
  generalize hn3 : l3.length = n3 at *
  have HN1 := Lib.hid hn1; have HN2 := Lib.hid hn2; have HN3 := Lib.hid hn3
  clear hn1 hn2 hn3
  have hb0 := (Below.refl w.heap.size w).alloc (Nat.le_refl _) (.cells #[.string hd, .slice A1 n1 c1, .slice A2 n2 c2, .slice A3 n3 c3] 42)
  have hb1 := hb0.alloc hb0.size (.cells #[.string ⟨#[]⟩, .slice none 0 0, .slice none 0 0, .slice none 0 0] 42)
  have hx := (Blk.new w 42 #[.string hd, .slice A1 n1 c1, .slice A2 n2 c2, .slice A3 n3 c3]).alloc (.cells #[.string ⟨#[]⟩, .slice none 0 0, .slice none 0 0, .slice none 0 0] 42)
  have hr := Blk.new (w.alloc (.cells #[.string hd, .slice A1 n1 c1, .slice A2 n2 c2, .slice A3 n3 c3] 42)) 42 #[.string ⟨#[]⟩, .slice none 0 0, .slice none 0 0, .slice none 0 0]
  rw [World.size_alloc] at hr
  go_enter Tryz.func56, Tryz.ntmps56
  go_upto_region 1 with fail
  obtain ⟨W0, hW0⟩ : ∃ W, (w.alloc (.cells #[.string hd, .slice A1 n1 c1, .slice A2 n2 c2, .slice A3 n3 c3] 42)).alloc (.cells #[.string ⟨#[]⟩, .slice none 0 0, .slice none 0 0, .slice none 0 0] 42) = W := ⟨_, rfl⟩
  have hsz0 : W0.heap.size = w.heap.size + 2 := by rw [← hW0]; simp
  rw [hW0] at hb1 hx hr ⊢
  obtain ⟨b, hbw⟩ : ∃ b, w.heap.size = b := ⟨_, rfl⟩
  rw [hbw] at hx hr hsz0 ⊢
  have HB1 := Lib.hid hb1; have HR := Lib.hid hr; have HBW := Lib.hid hbw
  clear hb0 hb1 hW0 hr hbw
  refine wp_region_held_drew (S := fun _ => True) (by kernel_rfl) trivial (fun hHeld => ?_)
  refine wpAnyH_take (i := 0) (v := ?_) rfl (by kernel_rfl) (by kernel_rfl) (by kernel_rfl) (fun _ _ _ h => h) (Or.inl ⟨by rfl, ?_⟩) (by assumption) ?_
  rotate_left
  · intro w hSw
    (try dsimp only at hSw)
    go_simp <;> with_reducible rfl
  try simp only [Act.put, List.getElem_toArray, List.getElem_cons_succ, List.getElem_cons_zero, List.setIfInBounds_toArray, List.set_cons_zero, List.set_cons_succ]
  refine wpAnyH_take (i := 3) (v := ?_) rfl (by kernel_rfl) (by kernel_rfl) (by kernel_rfl) (fun _ _ _ h => h) (Or.inl ⟨by rfl, ?_⟩) (by assumption) ?_
  rotate_left
  · intro w hSw
    (try dsimp only at hSw)
    go_simp <;> with_reducible rfl
  try simp only [Act.put, List.getElem_toArray, List.getElem_cons_succ, List.getElem_cons_zero, List.setIfInBounds_toArray, List.set_cons_zero, List.set_cons_succ]
  refine wpAnyH_take (i := 6) (v := ?_) rfl (by kernel_rfl) (by kernel_rfl) (by kernel_rfl) (fun _ _ _ h => h) (Or.inl ⟨by rfl, ?_⟩) (by assumption) ?_
  rotate_left
  · intro w hSw
    (try dsimp only at hSw)
    go_simp <;> with_reducible rfl
  try simp only [Act.put, List.getElem_toArray, List.getElem_cons_succ, List.getElem_cons_zero, List.setIfInBounds_toArray, List.set_cons_zero, List.set_cons_succ]
  refine wpAnyH_inv40 (fun fuel listed a w' => ∃ k m1 m2 m3 m9 u1 u2 u3, fuel = 5 + leftL k m1 m2 m3 m9 ∧ k ≤ 3 ∧ (1 ≤ k → m1 = true) ∧ (2 ≤ k → m2 = true) ∧ (3 ≤ k → m3 = true) ∧ (m9 = true → m1 = true ∧ m2 = true ∧ m3 = true ∧ 1 ≤ k) ∧ listed = #[true, m1, decide (1 ≤ k), true, m2, decide (2 ≤ k), true, m3, decide (3 ≤ k), m9, false, false, false, false, false] ∧
    a = { tmps := #[aggM [.string hd, .slice A1 n1 c1, .slice A2 n2 c2, .slice A3 n3 c3], .pointer (some ⟨b, 0, none⟩), .pointer (some ⟨b + 1, 0, none⟩), .pointer (some ⟨b, 1, none⟩), cond m1 (.slice A1 n1 c1) undef, u1, .pointer (some ⟨b, 2, none⟩), cond m2 (.slice A2 n2 c2) undef, u2, .pointer (some ⟨b, 3, none⟩), cond m3 (.slice A3 n3 c3) undef, u3, cond m9 (.pointer (some ⟨b, 1, none⟩)) undef, undef, undef, undef], defers := [] } ∧
    ClI W0 b hd A1 A2 A3 c1 c2 c3 n1 n2 n3 (l1.flatMap sndC) (l2.map Value.string) (l3.map Value.string) k u1 u2 u3 w') ?step ?zero 12 _ _ _ ⟨0, false, false, false, false, undef, undef, undef, rfl, by omega, fun h => absurd h (by omega), fun h => absurd h (by omega), fun h => absurd h (by omega), fun h => (by cases h), rfl, rfl, ⟨(Below.refl W0.heap.size W0).drew, by omega, hx, fun h => absurd h (by omega), fun h => absurd h (by omega), fun h => absurd h (by omega)⟩⟩
  case zero =>
    rintro listed a w' ⟨k, m1, m2, m3, m9, u1, u2, u3, hf, -⟩
    omega
  case step =>
    rintro fuel listed a w' ⟨k, m1, m2, m3, m9, u1, u2, u3, hf, hk3, g1, g2, g3, g9, rfl, rfl, hI⟩
    have HI := Lib.hid hI
    clear hI
    by_cases hfin : k = 3 ∧ m9 = true
    · obtain ⟨rfl, rfl⟩ := hfin
      obtain rfl := g1 (by omega)
      obtain rfl := g2 (by omega)
      obtain rfl := g3 (by omega)
      left
      obtain rfl : fuel = 4 := by unfold leftL at hf; simp at hf; omega
      have o1 := HI.out.r1 (by omega)
      have o2 := HI.out.r2 (by omega)
      have o3 := HI.out.r3 (by omega)
      obtain ⟨B1, d1, rfl, _⟩ := ownsRow_form o1
      obtain ⟨B2, d2, rfl, _⟩ := ownsRow_form o2
      obtain ⟨B3, d3, rfl, _⟩ := ownsRow_form o3
      have hxb := HI.out.blk.below HI.out.below (by have := HI.out.blt; omega)
      have hrb := HR.out.below HI.out.below (by have := HI.out.blt; omega)
      have x0 := hxb.cell 0; have x1 := hxb.cell 1; have x2 := hxb.cell 2; have x3 := hxb.cell 3
      have f1 := hxb.frozen 1; have f2 := hxb.frozen 2; have f3 := hxb.frozen 3
      have y0 := hrb.cell 0; have y1 := hrb.cell 1; have y2 := hrb.cell 2; have y3 := hrb.cell 3
      have e0 := hrb.frozen 0; have e1 := hrb.frozen 1; have e2 := hrb.frozen 2; have e3 := hrb.frozen 3
      simp only [List.getElem?_toArray, List.getElem?_cons_zero, List.getElem?_cons_succ] at x0 x1 x2 x3 y0 y1 y2 y3
      have hfb := ((((((hrb.far (p := ⟨b, 1, none⟩) (by simp) (.slice B1 n1 d1)).far (p := ⟨b, 2, none⟩) (by simp) (.slice B2 n2 d2)).far (p := ⟨b, 3, none⟩) (by simp) (.slice B3 n3 d3)).set_ 0 (.string hd)).set_ 1 (.slice B1 n1 d1)).set_ 2 (.slice B2 n2 d2)).set_ 3 (.slice B3 n3 d3)
      simp only [List.setIfInBounds_toArray, List.set_cons_zero, List.set_cons_succ] at hfb
      have hch := (((((((ChgS.refl (fun k => k = b ∨ k = b + 1) w').setCell (p := ⟨b, 1, none⟩) (.inl (.inl rfl)) (.slice B1 n1 d1)).setCell (p := ⟨b, 2, none⟩) (.inl (.inl rfl)) (.slice B2 n2 d2)).setCell (p := ⟨b, 3, none⟩) (.inl (.inl rfl)) (.slice B3 n3 d3)).setCell (p := ⟨b + 1, 0, none⟩) (.inl (.inr rfl)) (.string hd)).setCell (p := ⟨b + 1, 1, none⟩) (.inl (.inr rfl)) (.slice B1 n1 d1)).setCell (p := ⟨b + 1, 2, none⟩) (.inl (.inr rfl)) (.slice B2 n2 d2)).setCell (p := ⟨b + 1, 3, none⟩) (.inl (.inr rfl)) (.slice B3 n3 d3)
      have hblt := HI.out.blt
      have p1 := own_chgS o1 hch (fun k hk hs => by have := (o1.lt k hk).1; omega)
      have p2 := own_chgS o2 hch (fun k hk hs => by have := (o2.lt k hk).1; omega)
      have p3 := own_chgS o3 hch (fun k hk hs => by have := (o3.lt k hk).1; omega)
      have hbel : Below w.heap.size w _ := (HB1.out.trans (HI.out.below.mono HB1.out.size)).trans (hch.below (B := w.heap.size) (fun k hk => by have := HBW.out; omega) (by have := HBW.out; have := HI.out.below.size; omega))
      have z0 := hfb.cell 0; have z1 := hfb.cell 1; have z2 := hfb.cell 2; have z3 := hfb.cell 3
      simp only [List.getElem?_toArray, List.getElem?_cons_zero, List.getElem?_cons_succ] at z0 z1 z2 z3
      have P1 := Lib.hid p1; have P2 := Lib.hid p2; have P3 := Lib.hid p3; have BEL := Lib.hid hbel; have Z0 := Lib.hid z0; have Z1 := Lib.hid z1; have Z2 := Lib.hid z2; have Z3 := Lib.hid z3; have LT := Lib.hid (show ∀ k, W0.heap.size ≤ k → w.heap.size ≤ k from fun k hk => by have := HBW.out; omega)
      clear hf o1 o2 o3 g1 g2 g3 g9 hxb hrb hfb hch p1 p2 p3 hbel z0 z1 z2 z3
      refine wpAnyH_ready (rs := [10]) (by kernel_rfl) (by simp) ?_
      refine AllReadyH.cons rfl (fun K hK => ?_) AllReadyH.nil
      go_simp
      refine hK.out _ _ trivial (fun hHeld' => ?_)
      clear hK K hHeld
      have hHeld := hHeld'
      clear hHeld'
      refine wpAnyH_ready (rs := [11]) (by kernel_rfl) (by simp) ?_
      refine AllReadyH.cons rfl (fun K hK => ?_) AllReadyH.nil
      go_simp
      refine hK.out _ _ trivial (fun hHeld' => ?_)
      clear hK K hHeld
      have hHeld := hHeld'
      clear hHeld'
      refine wpAnyH_ready (rs := [12]) (by kernel_rfl) (by simp) ?_
      refine AllReadyH.cons rfl (fun K hK => ?_) AllReadyH.nil
      go_simp
      refine hK.out _ _ trivial (fun hHeld' => ?_)
      clear hK K hHeld
      have hHeld := hHeld'
      clear hHeld'
      refine wpAnyH_ready (rs := [13]) (by kernel_rfl) (by simp) ?_
      refine AllReadyH.cons rfl (fun K hK => ?_) AllReadyH.nil
      go_simp
      refine hK.out _ _ trivial (fun hHeld' => ?_)
      clear hK K hHeld
      have hHeld := hHeld'
      clear hHeld'
      refine wpAnyH_ready (rs := [14]) (by kernel_rfl) (by simp) ?_
      refine AllReadyH.cons rfl (fun K hK => ?_) AllReadyH.nil
      go_simp
      refine hK.out _ _ trivial (fun hHeld' => ?_)
      clear hK K hHeld
      have hHeld := hHeld'
      clear hHeld'
      refine wpAnyH_done (by kernel_rfl) ?_ _
      go_wp2
      refine bodyPost_ret (v := aggM [.string hd, .slice B1 n1 d1, .slice B2 n2 d2, .slice B3 n3 d3]) (by simp [results, Tryz.results56, go_sem, Z0.out, Z1.out, Z2.out, Z3.out]) rfl ⟨_, rfl, ⟨_, _, _, rfl, ?_, ?_, ?_⟩, BEL.out⟩
      · exact wdF_own (base := W0.heap.size) (by rw [HN1.out]; exact P1.out) (fun k hk => ⟨⟨LT.out _ (P1.out.lt k hk).1, (P1.out.lt k hk).2⟩, own_soft P1.out hk⟩)
      · exact txF_own (base := W0.heap.size) (by rw [HN2.out]; exact P2.out) (fun k hk => ⟨⟨LT.out _ (P2.out.lt k hk).1, (P2.out.lt k hk).2⟩, own_soft P2.out hk⟩)
      · exact txF_own (base := W0.heap.size) (by rw [HN3.out]; exact P3.out) (fun k hk => ⟨⟨LT.out _ (P3.out.lt k hk).1, (P3.out.lt k hk).2⟩, own_soft P3.out hk⟩)
    · right
      refine ⟨ne_chk40 ?_, fun i hi => ?_⟩
      · clear HI hf
        rcases (by omega : k = 0 ∨ k = 1 ∨ k = 2 ∨ k = 3) with rfl | rfl | rfl | rfl <;> cases m1 <;> cases m2 <;> cases m3 <;> cases m9 <;> first | (exact absurd (g1 (by omega)) (by decide)) | (exact absurd (g2 (by omega)) (by decide)) | (exact absurd (g3 (by omega)) (by decide)) | (exact absurd ⟨rfl, rfl⟩ hfin) | (exact absurd (g9 rfl) (by decide)) | kernel_rfl
      have hp : chkL k m1 m2 m3 m9 i = true := by
        refine mem_chk40 ?_ hi
        clear HI hf hi
        rcases (by omega : k = 0 ∨ k = 1 ∨ k = 2 ∨ k = 3) with rfl | rfl | rfl | rfl <;> cases m1 <;> cases m2 <;> cases m3 <;> cases m9 <;> first | (exact absurd (g1 (by omega)) (by decide)) | (exact absurd (g2 (by omega)) (by decide)) | (exact absurd (g3 (by omega)) (by decide)) | (exact absurd ⟨rfl, rfl⟩ hfin) | (exact absurd (g9 rfl) (by decide)) | kernel_rfl
      obtain ⟨s1, s2, s3⟩ := HI.out.cells
      have hbb : Below w.heap.size w w' := HB1.out.trans (HI.out.below.mono HB1.out.size)
      have HBB := Lib.hid hbb
      clear hi hbb
      rcases chkL_cases hp with ⟨rfl, rfl⟩ | ⟨rfl, rfl⟩ | ⟨rfl, rfl⟩ | ⟨rfl, rfl, rfl⟩ | ⟨rfl, rfl, rfl⟩ | ⟨rfl, rfl, rfl⟩ | ⟨rfl, rfl, rfl, rfl, rfl, hk1⟩
      · refine ⟨_, rfl, fun K hK => ?_⟩
        have HKK := Lib.hid (hK _ _ trivial ⟨k, true, m2, m3, m9, u1, u2, u3, by unfold leftL at hf ⊢; simp at hf ⊢; omega, hk3, fun _ => rfl, g2, g3, fun h => absurd (g9 h).1 (by decide), rfl, rfl, HI.out⟩)
        clear hK hp
        go_simp
        exact HKK.out
      · refine ⟨_, rfl, fun K hK => ?_⟩
        have HKK := Lib.hid (hK _ _ trivial ⟨k, m1, true, m3, m9, u1, u2, u3, by unfold leftL at hf ⊢; simp at hf ⊢; omega, hk3, g1, fun _ => rfl, g3, fun h => absurd (g9 h).2.1 (by decide), rfl, rfl, HI.out⟩)
        clear hK hp
        go_simp
        exact HKK.out
      · refine ⟨_, rfl, fun K hK => ?_⟩
        have HKK := Lib.hid (hK _ _ trivial ⟨k, m1, m2, true, m9, u1, u2, u3, by unfold leftL at hf ⊢; simp at hf ⊢; omega, hk3, g1, g2, fun _ => rfl, fun h => absurd (g9 h).2.2.1 (by decide), rfl, rfl, HI.out⟩)
        clear hK hp
        go_simp
        exact HKK.out
      · refine ⟨_, rfl, fun K hK => ?_⟩
        have HKK := Lib.hid hK
        clear hK hp
        go_simp
        (try go_wp2_with fail)
        refine (K1.out w' HBB.out).mono ?_
        rintro e w1 ⟨v, rfl, ho, hb1⟩
        refine HKK.out _ _ trivial ⟨1, true, m2, m3, m9, v, _, _, ?_, by omega, fun _ => rfl, fun h => absurd h (by omega), fun h => absurd h (by omega), fun h => absurd (g9 h).2.2.2 (by omega), rfl, rfl, HI.out.call1 hb1 ho⟩
        unfold leftL at hf ⊢; omega
      · obtain rfl : m1 = true := g1 (by omega)
        refine ⟨_, rfl, fun K hK => ?_⟩
        have HKK := Lib.hid hK
        clear hK hp
        go_simp
        (try go_wp2_with fail)
        refine (K2.out w' HBB.out).mono ?_
        rintro e w1 ⟨v, rfl, ho, hb1⟩
        refine HKK.out _ _ trivial ⟨2, true, true, m3, m9, _, v, _, ?_, by omega, fun _ => rfl, fun _ => rfl, fun h => absurd h (by omega), fun h => ⟨rfl, rfl, (g9 h).2.2.1, by omega⟩, rfl, rfl, HI.out.call2 hb1 ho⟩
        unfold leftL at hf ⊢; omega
      · obtain rfl : m1 = true := g1 (by omega)
        obtain rfl : m2 = true := g2 (by omega)
        refine ⟨_, rfl, fun K hK => ?_⟩
        have HKK := Lib.hid hK
        clear hK hp
        go_simp
        (try go_wp2_with fail)
        refine (K3.out w' HBB.out).mono ?_
        rintro e w1 ⟨v, rfl, ho, hb1⟩
        refine HKK.out _ _ trivial ⟨3, true, true, true, m9, _, _, v, ?_, by omega, fun _ => rfl, fun _ => rfl, fun _ => rfl, fun _ => ⟨rfl, rfl, rfl, by omega⟩, rfl, rfl, HI.out.call3 hb1 ho⟩
        unfold leftL at hf ⊢; omega
      · refine ⟨_, rfl, fun K hK => ?_⟩
        have HKK := Lib.hid (hK _ _ trivial ⟨k, true, true, true, true, u1, u2, u3, by unfold leftL at hf ⊢; simp at hf ⊢; omega, hk3, fun _ => rfl, fun _ => rfl, fun _ => rfl, fun _ => ⟨rfl, rfl, rfl, hk1⟩, rfl, rfl, HI.out⟩)
        clear hK hp
        go_simp
        exact HKK.out

/-- A list of articles of its own, apart from its articles' parts. -/
def ListZ (w : World) (l : List Art) (e : Ending) (w' : World) : Prop := ∃ v xs, e = .returned v ∧ GR ArtZ 4 42 w w' l v xs
section
variable {w : World} {B a g mb : Nat} {hv : Value} {gs : Grps} {S : Nat → Prop} {L : List Art} {f : ByteArray → Option Value}
theorem DictM.artAtZ (h : DictM w B a g mb hv gs S L f) (hg : GoodD gs L) (s : ByteArray) (W : World) (hb : Below w.heap.size w W) : ∃ cs, artV f s = aggM cs ∧ Calls Tryz.prog 56 #[aggM cs] W (CloneZ W (artOf L s)) := by
  obtain ⟨cs, e1, e2⟩ := (h.below hb).at_ s
  exact ⟨cs, e1, cloned_soft e2 (fun b hb2 => ((h.below hb).cont b hb2).2.1) (artOf_good hg s).1⟩
set_option linter.unusedSimpArgs false in
set_option maxRecDepth 20000 in
set_option maxHeartbeats 4000000 in
theorem articles_z (h : DictM w B a g mb hv gs S L f) (hg : GoodD gs L) (A : Option Addr) (n c : Nat) (hs : List ByteArray) (hr : ReadS w w.heap.size A n hs) (hn : n ≤ 100000) (hsz : ∀ s ∈ hs, s.size ≤ 64) :
    Calls Tryz.prog 61 #[wptr g, .slice A n c] w (ListZ w (hs.map (artOf L))) := by
  obtain ⟨i0, hi, hz0, hz1, hz2⟩ := info_parts (show (Tryz.prog.info? 42).map (fun i => (i.zero, i.size, i.bytes)) = some (some (.agg #[.string ⟨#[]⟩, .slice none 0 0, .slice none 0 0, .slice none 0 0]), 4, 88) by kernel_rfl)
  have hlook := fun W (hb : Below w.heap.size w W) s (hs2 : s.size ≤ 64) => (h.below hb).look1 s (by unfold maxLen; omega)
  have hcl := fun W (hb : Below w.heap.size w W) s => h.artAtZ hg s W hb
  have hcells := fun W (hb : Below w.heap.size w W) => (h.below hb).cells
  have HLK := Lib.hid hlook; have HC := Lib.hid hcl; have HCE := Lib.hid hcells; have HR := Lib.hid hr; have HL := Lib.hid hr.len; have HSZ := Lib.hid hsz
  clear h hg hlook hcl hcells hr hsz
  go_enter Tryz.func61, Tryz.ntmps61
  go_wp2
  go_loopw [5, 7, 10] (fun v _ i wr => ∃ k : Nat, ∃ xs, k ≤ n ∧ i = .int .i64 k ∧ GR ArtZ 4 42 w wr ((hs.take k).map (artOf L)) v xs) (fun _ _ i _ => n - (RowKit.intOf i).toNat)
  case atStart => exact ⟨0, [], by omega, rfl, GR.start (Below.refl _ _)⟩
  case round =>
    obtain ⟨k, xs, hk, rfl, hgr⟩ := hrel
    have HGR := Lib.hid hgr
    have hb := hgr.ch
    clear hgr
    have HB := Lib.hid hb
    clear hb
    by_cases hlt : k < n
    · have hkl : k < hs.length := by rw [HL.out]; exact hlt
      have hkI : (k : Int) < (n : Int) := by omega
      obtain ⟨ad, rfl, had, hc⟩ := HR.out.at_ (k := k) hkl
      have hcw := (HB.out.cell (p := ad.add k) (by rw [block_of_add]; exact had)).trans hc
      have htk : (hs.take (k + 1)).map (artOf L) = (hs.take k).map (artOf L) ++ [artOf L hs[k]] := by rw [List.take_succ_eq_append_getElem hkl, List.map_append]; rfl
      have hlk := HLK.out wr HB.out hs[k] (HSZ.out _ (List.getElem_mem hkl))
      obtain ⟨cs, hav, hcall⟩ := HC.out wr HB.out hs[k]
      rw [hav] at hlk
      obtain ⟨z0, z1, z2⟩ := HCE.out wr HB.out
      have HTK := Lib.hid htk
      have hlen : ((hs.take k).map (artOf L)).length = k := by rw [List.length_map, List.length_take]; omega
      have HLEN := Lib.hid hlen
      generalize hs[k] = s at *
      clear hkl hc hav htk hlen
      go_wp2_with fail
      refine hcall.mono ?_
      rintro e w2 ⟨cs2, rfl, hx2, hb2⟩
      obtain ⟨A1, c1, A2, c2, A3, c3, rfl⟩ := hx2.form
      have hown2 := HGR.out.own2 hb2
      have hrn := reads_newk w2 42 [.string (artOf L s).head, .slice A1 (artOf L s).word.length c1, .slice A2 (artOf L s).texts.length c2, .slice A3 (artOf L s).see.length c3] 4 1 rfl
      rw [HLEN.out] at hown2
      have hsz2 := hb2.size
      have hsz1 := HB.out.size
      have H2 := Lib.hid hx2; have HB2 := Lib.hid hb2; have HO2 := Lib.hid hown2; have HRN := Lib.hid hrn
      clear hx2 hb2 hown2 hrn hcall hlk
      go_wp2_with (at_builtin; refine wpList_append_any _ rfl _ _ 23 rfl w.heap.size 42 i0 (.agg #[.string ⟨#[]⟩, .slice none 0 0, .slice none 0 0, .slice none 0 0]) 4 88 Tryz.underlying23 hi hz0 hz1 hz2 rfl (by decide) _ _ _ rfl (HO2.out.alloc _) _ _ _ _ [.string (artOf L s).head, .slice A1 (artOf L s).word.length c1, .slice A2 (artOf L s).texts.length c2, .slice A3 (artOf L s).see.length c3] rfl HRN.out (by intro u hu; simp only [List.mem_cons, List.not_mem_nil, or_false] at hu; rcases hu with rfl | rfl | rfl | rfl <;> rfl) (by unfold maxLen; omega) (by omega) (by simp; omega) ?_; intro v' w3 hown' hgrow hx'; have HN := Lib.hid (GR.nextZ keepG_art HGR.out HB2.out H2.out (by rw [HLEN.out]; exact hown') hgrow hx'); clear hown' hgrow hx')
      go_roundw
      case rel => exact ⟨k + 1, _, by omega, by go_num, by rw [HTK.out]; exact HN.out⟩
      case measure => simp [RowKit.intOf]; omega
    · obtain rfl : k = n := by omega
      have hfin := HGR.out
      rw [List.take_of_length_le (by rw [HL.out]; exact Nat.le_refl _)] at hfin
      have HFIN := Lib.hid hfin
      clear hfin
      go_wp2
      go_ret
      exact ⟨_, xs, rfl, HFIN.out⟩
theorem list_z (h : DictM w B a g mb hv gs S L f) (hg : GoodD gs L) : Calls Tryz.prog 21 #[wptr g] w (ListZ w L) := by
  have hv1 := valid_any h
  obtain ⟨A, c, rfl, h1, h2, hr⟩ := h.heads
  have ha := articles_z h hg A L.length c (headsL L) hr (by have := hg.len; omega) hg.hsize
  rw [heads_arts hg] at ha
  obtain ⟨z0, z1, z2⟩ := h.cells
  clear h hg hr
  generalize L.length = n at *
  go_enter Tryz.func21, Tryz.ntmps21
  go_wp2_with fail
  refine hv1.mono ?_
  rintro e w1 ⟨rfl, rfl⟩
  go_wp2_with fail
  refine ha.mono ?_
  rintro e w1 ⟨v, xs, rfl, hgr⟩
  go_wp2
  go_ret
  exact ⟨_, xs, rfl, hgr⟩
end
end Go.Proofs.YtgkpoopiamicnaaGreatDoor
