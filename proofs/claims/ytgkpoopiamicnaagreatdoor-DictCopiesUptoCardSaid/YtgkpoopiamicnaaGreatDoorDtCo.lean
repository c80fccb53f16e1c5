/-
  Layer 40: Copy: the walk. Conditions: a dictionary in memory.
-/
import Derived.Test.YtgkpoopiamicnaaGreatDoorZbas
namespace Go.Proofs.YtgkpoopiamicnaaGreatDoor
open Go.RowKit Go.Lib

section
variable {w : World} {B a g mb : Nat} {hv : Value} {gs : Grps} {S : Nat → Prop} {L : List Art} {f : ByteArray → Option Value}
/-- What has been copied. -/
structure CopyI (w : World) (L : List Art) (a g2 m2 : Nat) (v2 : Value) (vs : List ByteArray) (F : ByteArray → Option Value) (S2 : Nat → Prop) (W : World) : Prop where
  blk : Blk W g2 78 #[.pointer (some ⟨a, 0, none⟩), .map (some m2), v2]
  map : MapH W m2 vs.length F
  own : W.ownsRow w.heap.size 9 1 v2 L.length ((headsL L).map Value.string)
  dom : ∀ t, (F t).isSome = memB vs t
  val : ∀ t ∈ vs, ∃ cs, F t = some (aggM cs) ∧ ArtF W S2 (artOf L t) cs
  low : w.heap.size ≤ g2 ∧ w.heap.size ≤ m2
  cont : ∀ b, S2 b → w.heap.size ≤ b ∧ b < W.heap.size ∧ b ≠ g2 ∧ b ≠ m2 ∧ v2.ownBlock ≠ some b
  ch : Below w.heap.size w W
theorem CopyI.below {g2 m2 : Nat} {v2 : Value} {vs : List ByteArray} {F : ByteArray → Option Value} {S2 : Nat → Prop} {W W' : World} (h : CopyI w L a g2 m2 v2 vs F S2 W) (hb : Below W.heap.size W W') : CopyI w L a g2 m2 v2 vs F S2 W' where
  blk := h.blk.below hb h.blk.lt
  map := h.map.below hb
  own := own_below h.own hb
  dom := h.dom
  val t ht := by
    obtain ⟨cs, e, hx⟩ := h.val t ht
    exact ⟨cs, e, hx.keep (fun _ h => h) (keepS_below hb fun b hb2 => (h.cont b hb2).2.1)⟩
  low := h.low
  cont b hb2 := by
    obtain ⟨c1, c2, c3⟩ := h.cont b hb2
    exact ⟨c1, Nat.lt_of_lt_of_le c2 hb.size, c3⟩
  ch := h.ch.trans (hb.mono h.ch.size)
theorem CopyI.grown {g2 m2 r : Nat} {v2 : Value} {vs : List ByteArray} {F : ByteArray → Option Value} {S2 : Nat → Prop} {W W' : World} (h : CopyI w L a g2 m2 v2 vs F S2 W) (hg : W.grownBy W' (some r)) (hr : w.heap.size ≤ r) (h1 : g2 ≠ r) (h2 : m2 ≠ r) (h3 : v2.ownBlock ≠ some r) (h4 : ∀ b, S2 b → b ≠ r) : CopyI w L a g2 m2 v2 vs F S2 W' where
  blk := h.blk.grown hg (fun e => by injection e with e; exact h1 e)
  map := h.map.kept hg (fun e => by injection e with e; exact h2 e)
  own := h.own.kept hg (.inr h3)
  dom := h.dom
  val t ht := by
    obtain ⟨cs, e, hx⟩ := h.val t ht
    exact ⟨cs, e, hx.keep (fun _ h => h) fun q hq => World.cell?_of_block (hg.block _ (h.cont _ hq).2.1 (fun e => by injection e with e; exact h4 _ hq e))⟩
  low := h.low
  cont b hb2 := by
    obtain ⟨c1, c2, c3⟩ := h.cont b hb2
    exact ⟨c1, Nat.lt_of_lt_of_le c2 hg.size, c3⟩
  ch := h.ch.grown hg h.ch.size (fun k hk => by injection hk with hk; omega)
/-- One more. -/
theorem CopyI.next {g2 m2 : Nat} {v2 : Value} {vs : List ByteArray} {F : ByteArray → Option Value} {S2 S9 : Nat → Prop} {W W9 : World} {s : ByteArray} {cs : List Value} (h : CopyI w L a g2 m2 v2 vs F S2 W) (hx : ArtF W S9 (artOf L s) cs) (hS9 : ∀ b, S9 b → w.heap.size ≤ b ∧ b < W.heap.size ∧ b ≠ g2 ∧ b ≠ m2 ∧ v2.ownBlock ≠ some b) (hs : s ∉ vs)
    (hm : MapH W9 m2 (if (F s).isSome then vs.length else vs.length + 1) (fun t => if t = s then some (aggM cs) else F t)) (hg : W.grownBy W9 (some m2)) : CopyI w L a g2 m2 v2 (vs ++ [s]) (fun t => if t = s then some (aggM cs) else F t) (fun b => S2 b ∨ S9 b) W9 where
  blk := h.blk.grown hg (fun e => by injection e with e; exact h.map.ne_blk h.blk e.symm)
  map := by
    have e : (F s).isSome = false := by
      rw [h.dom]
      cases hm2 : memB vs s with
      | false => rfl
      | true => exact absurd (memB_iff.1 hm2) hs
    rw [e, if_neg (by decide)] at hm
    rw [List.length_append]
    exact hm
  own := h.own.kept hg (.inr (h.map.ne_own h.own))
  dom t := by
    by_cases e : t = s
    · subst e; simp [memB_iff]
    · rw [if_neg e, h.dom, Bool.eq_iff_iff, memB_iff, memB_iff]; simp [e]
  val t ht := by
    have hk : ∀ T : Nat → Prop, (∀ b, T b → b < W.heap.size ∧ b ≠ m2) → KeepS T W W9 := fun T hT q hq => World.cell?_of_block (hg.block _ (hT _ hq).1 (fun e => by injection e with e; exact (hT _ hq).2 e))
    by_cases e : t = s
    · subst e
      exact ⟨cs, by simp, hx.keep (fun _ h => .inr h) (hk _ fun b hb => ⟨(hS9 b hb).2.1, (hS9 b hb).2.2.2.1⟩)⟩
    · rw [List.mem_append, List.mem_singleton] at ht
      obtain ⟨cs1, e1, hx1⟩ := h.val t (ht.resolve_right e)
      exact ⟨cs1, by simp only [if_neg e, e1], hx1.keep (fun _ h => .inl h) (hk _ fun b hb => ⟨(h.cont b hb).2.1, (h.cont b hb).2.2.2.1⟩)⟩
  low := h.low
  cont b hb := by
    have hz := hg.size
    rcases hb with hb | hb
    · obtain ⟨c1, c2, c3⟩ := h.cont b hb
      exact ⟨c1, by omega, c3⟩
    · obtain ⟨c1, c2, c3⟩ := hS9 b hb
      exact ⟨c1, by omega, c3⟩
  ch := h.ch.grown hg h.ch.size (fun k hk => by injection hk with hk; have := h.low.2; omega)
def CopyPost (w : World) (gs : Grps) (L : List Art) (e : Ending) (w' : World) : Prop := ∃ g2, e = .returned (wptr g2) ∧ DictAt w' w.heap.size (wptr g2) gs L (fun b => w.heap.size ≤ b ∧ b < w'.heap.size) ∧ Below w.heap.size w w'
theorem CopyI.fin {g2 m2 : Nat} {v2 : Value} {vs : List ByteArray} {F : ByteArray → Option Value} {S2 : Nat → Prop} {W : World} (h : CopyI w L a g2 m2 v2 vs F S2 W) (hd : DictM w B a g mb hv gs S L f) (hg : GoodD gs L) (hp : vs.Perm (headsL L)) : CopyPost w gs L (.returned (wptr g2)) W := by
  have hB := hd.low.1
  have hlen : vs.length = L.length := by rw [hp.length_eq, headsL_len]
  refine ⟨g2, rfl, ⟨a, g2, m2, v2, S2, F, rfl, ⟨h.blk, fun w' hb => hd.alph w' ((h.ch.mono hB).trans (hb.mono hB)), hd.good, hlen ▸ h.map, h.own, fun s => ?_, fun x hx => ?_, ⟨h.ch.size, h.low⟩, h.cont⟩, hg, fun b hb => ?_, fun b hb => ⟨(h.cont b hb).1, (h.cont b hb).2.1⟩, fun b hb => hb⟩, h.ch⟩
  · rw [h.dom]
    unfold thereB
    rw [Bool.eq_iff_iff, memB_iff, memB_iff]
    exact hp.mem_iff
  · obtain ⟨cs, e, hx2⟩ := h.val x.head (hp.mem_iff.2 (List.mem_map.2 ⟨x, hx, rfl⟩))
    rw [artOf_mem hg hx] at hx2
    exact ⟨cs, e, hx2⟩
  · rcases hb with rfl | rfl | hb
    · exact ⟨h.low.1, h.blk.lt⟩
    · exact ⟨h.low.2, h.map.lt⟩
    · exact h.own.lt b hb
set_option linter.unusedSimpArgs false in
set_option maxRecDepth 20000 in
set_option maxHeartbeats 8000000 in
theorem copy_any (h : DictM w B a g mb hv gs S L f) (hg : GoodD gs L) : Calls Tryz.prog 20 #[wptr g] w (CopyPost w gs L) := by
  have hv1 := valid_any h
  have hce := fun W (hb : Below w.heap.size w W) => (h.below hb).cells
  have hcl : ∀ W, Below w.heap.size w W → ∀ s, Calls Tryz.prog 56 #[artV f s] W (ClonePost W (artOf L s)) := fun W hb s => by
    obtain ⟨cs, e, h2⟩ := h.artAt hg s W hb
    rw [e]; exact h2
  have hav := fun s => h.at_ s
  have hent : ∀ s v, f s = some v → artV f s = v := fun s v e => by unfold artV; rw [e]; rfl
  have hdm := fun W (hb : Below w.heap.size w W) => (h.below hb).map
  have hdom := h.dom
  have hdn := fun (vs : List ByteArray) (left : ByteArray → Bool) (cnt : Nat) (h : Visit L vs left cnt) (hl : ∀ s, left s = false) => h.done hg hl
  have hfn := fun g2 m2 v2 vs F S2 W (h2 : CopyI w L a g2 m2 v2 vs F S2 W) hp => h2.fin h hg hp
  obtain ⟨A, c, rfl, hc1, hc2, hrs⟩ := h.heads
  have hlen := hg.len
  have hmlt := h.map.lt
  obtain ⟨z0, z1, z2⟩ := hce w (Below.refl _ _)
  have HCE := Lib.hid hce; have HCL := Lib.hid hcl; have HEN := Lib.hid hent; have HAV := Lib.hid hav; have HDM := Lib.hid hdm; have HDO := Lib.hid hdom; have HDN := Lib.hid hdn; have HFN := Lib.hid hfn; have HRS := Lib.hid hrs; have HMLT := Lib.hid hmlt
  have hsz := hg.hsize
  have HSZ := Lib.hid hsz
  clear h hg hce hcl hav hent hdm hdom hdn hfn hrs hsz hmlt
  have hmm := @run_makeMap Tryz.prog
  go_enter Tryz.func20, Tryz.ntmps20
  go_wp2_with fail
  refine hv1.mono ?_
  rintro e w1 ⟨rfl, rfl⟩
  clear hv1
  have hcw : ∀ W, Below w.heap.size w W → W.cell? ⟨g, 0, none⟩ = some (.pointer (some ⟨a, 0, none⟩)) ∧ W.cell? ⟨g, 2, none⟩ = some (.slice A L.length c) := fun W hW => ⟨(HCE.out W hW).1, (HCE.out W hW).2.2⟩
  have HCW := Lib.hid hcw
  have hbd : Below w.heap.size w w.drew := (Below.refl _ _).drew
  have hbm : Below w.heap.size w (w.drew.alloc (.map #[] 0)) := hbd.alloc (Nat.le_refl _) _
  have hcn : ∀ W, Below w.heap.size w W → Calls Tryz.prog 63 #[.slice A L.length c] W fun e w' => ∃ v, e = .returned v ∧ w'.ownsRow W.heap.size 9 1 v L.length ((headsL L).map Value.string) ∧ Below W.heap.size W w' := fun W hW =>
    cloneTx_any A L.length c _ W w.heap.size (show Reads _ _ _ _ _ _ from Reads.below HRS.out hW |>.more (Nat.le_refl _) |> fun h => by exact (HRS.out.below hW)) (str_one _) hW.size (by omega)
  have HBD := Lib.hid hbd; have HBM := Lib.hid hbm; have HCN := Lib.hid hcn
  clear hcw hbd hbm hcn z1
  go_upto_region 3 with fail
  refine wp_region_held_drew (S := (fun W => W.cell? ⟨g, 0, none⟩ = some (.pointer (some ⟨a, 0, none⟩)) ∧ W.cell? ⟨g, 2, none⟩ = some (.slice A L.length c))) (by kernel_rfl) ?_ (fun hHeld => ?_)
  · (try dsimp only)
    first | exact HCW.out _ HBD.out | exact HCW.out _ HBM.out | exact HCW.out _ HB3.out | exact HCW.out _ HB4.out | exact HCW.out _ HB5.out
  refine wpAnyH_take (i := 0) (v := ?_) rfl (by kernel_rfl) (by kernel_rfl) (by kernel_rfl) (fun _ _ _ h => h) (Or.inl ⟨by rfl, ?_⟩) (by assumption) ?_
  rotate_left
  · intro w hSw
    (try dsimp only at hSw)
    go_simp <;> with_reducible rfl
  try simp only [Act.put, List.getElem_toArray, List.getElem_cons_succ, List.getElem_cons_zero, List.setIfInBounds_toArray, List.set_cons_zero, List.set_cons_succ]
  refine wpAnyH_take (i := 1) (v := ?_) rfl (by kernel_rfl) (by kernel_rfl) (by kernel_rfl) (fun _ _ _ h => h) (Or.inl ⟨by rfl, ?_⟩) (by assumption) ?_
  rotate_left
  · intro w hSw
    (try dsimp only at hSw)
    go_simp <;> with_reducible rfl
  try simp only [Act.put, List.getElem_toArray, List.getElem_cons_succ, List.getElem_cons_zero, List.setIfInBounds_toArray, List.set_cons_zero, List.set_cons_succ]
  refine wpAnyH_take (i := 2) (v := ?_) rfl (by kernel_rfl) (by kernel_rfl) (by kernel_rfl) (fun _ _ _ h => h) (Or.inl ⟨by rfl, ?_⟩) (by assumption) ?_
  rotate_left
  · intro w hSw
    (try dsimp only at hSw)
    go_simp <;> with_reducible rfl
  try simp only [Act.put, List.getElem_toArray, List.getElem_cons_succ, List.getElem_cons_zero, List.setIfInBounds_toArray, List.set_cons_zero, List.set_cons_succ]
  refine wpAnyH_take (i := 3) (v := ?_) rfl (by kernel_rfl) (by kernel_rfl) (by kernel_rfl) (fun _ _ _ h => h) (Or.inl ⟨by rfl, ?_⟩) (by assumption) ?_
  rotate_left
  · intro w hSw
    (try dsimp only at hSw)
    go_simp <;> with_reducible rfl
  try simp only [Act.put, List.getElem_toArray, List.getElem_cons_succ, List.getElem_cons_zero, List.setIfInBounds_toArray, List.set_cons_zero, List.set_cons_succ]
  refine wpAnyH_take (i := 5) (v := ?_) rfl (by kernel_rfl) (by kernel_rfl) (by kernel_rfl) (fun _ _ _ h => h) (Or.inl ⟨by rfl, ?_⟩) (by assumption) ?_
  rotate_left
  · intro w hSw
    (try dsimp only at hSw)
    go_simp <;> with_reducible rfl
  try simp only [Act.put, List.getElem_toArray, List.getElem_cons_succ, List.getElem_cons_zero, List.setIfInBounds_toArray, List.set_cons_zero, List.set_cons_succ]
  refine wpAnyH_take (i := 6) (v := ?_) rfl (by kernel_rfl) (by kernel_rfl) (by kernel_rfl) (fun _ _ _ h => h) (Or.inl ⟨by rfl, ?_⟩) (by assumption) ?_
  rotate_left
  · intro w hSw
    (try dsimp only at hSw)
    go_simp <;> with_reducible rfl
  try simp only [Act.put, List.getElem_toArray, List.getElem_cons_succ, List.getElem_cons_zero, List.setIfInBounds_toArray, List.set_cons_zero, List.set_cons_succ]
  refine wpAnyH_take (i := 7) (v := ?_) rfl (by kernel_rfl) (by kernel_rfl) (by kernel_rfl) (fun _ _ _ h => h) (Or.inl ⟨by rfl, ?_⟩) (by assumption) ?_
  rotate_left
  · intro w hSw
    (try dsimp only at hSw)
    go_simp <;> with_reducible rfl
  try simp only [Act.put, List.getElem_toArray, List.getElem_cons_succ, List.getElem_cons_zero, List.setIfInBounds_toArray, List.set_cons_zero, List.set_cons_succ]
  refine wpAnyH_take (i := 8) (v := ?_) rfl (by kernel_rfl) (by kernel_rfl) (by kernel_rfl) (fun _ _ _ h => h) (Or.inl ⟨by rfl, ?_⟩) (by assumption) ?_
  rotate_left
  · intro w hSw
    (try dsimp only at hSw)
    go_simp <;> with_reducible rfl
  try simp only [Act.put, List.getElem_toArray, List.getElem_cons_succ, List.getElem_cons_zero, List.setIfInBounds_toArray, List.set_cons_zero, List.set_cons_succ]
  refine wpAnyH_ready (rs := [4, 9]) (by kernel_rfl) (by simp) ?_
  refine AllReadyH.cons rfl (fun K hK => ?_) (AllReadyH.cons rfl (fun K hK => ?_) AllReadyH.nil)
  · go_simp
    refine hK.out _ _ ?_ (fun hHeld' => ?_)
    · (try dsimp only)
      first | exact HCW.out _ HBD.out | exact HCW.out _ HBM.out
    clear hK K hHeld
    have hHeld := hHeld'
    clear hHeld'
    refine wpAnyH_ready (rs := [9]) (by kernel_rfl) (by simp) ?_
    refine AllReadyH.cons rfl (fun K hK => ?_) AllReadyH.nil
    go_simp
    (try go_wp2_with fail)
    refine (HCN.out _ HBM.out).mono ?_
    rintro e W3 ⟨v2, rfl, hov, hb3⟩
    have HB3 := Lib.hid (HBM.out.trans (hb3.mono HBM.out.size))
    have HB4 := Lib.hid (fun o => (HBM.out.trans (hb3.mono HBM.out.size)).alloc (HBM.out.trans (hb3.mono HBM.out.size)).size o)
    obtain ⟨A2, c2, rfl, -, -⟩ := ownsRow_form hov
    have HM3 := Lib.hid ((MapH.made w.drew).below hb3); have HO3 := Lib.hid hov
    clear hov hb3
    (try go_simp)
    refine hK.out _ _ ?_ (fun hHeld' => ?_)
    · (try dsimp only)
      first | exact HCW.out _ HBD.out | exact HCW.out _ HBM.out | exact HCW.out _ HB3.out | exact HCW.out _ (HB4.out _) | exact HCW.out _ (HB5.out _ _)
    clear hK K hHeld
    have hHeld := hHeld'
    clear hHeld'
    refine wpAnyH_ready (rs := [10]) (by kernel_rfl) (by simp) ?_
    refine AllReadyH.cons rfl (fun K hK => ?_) AllReadyH.nil
    go_simp
    refine hK.out _ _ ?_ (fun hHeld' => ?_)
    · (try dsimp only)
      first | exact HCW.out _ HBD.out | exact HCW.out _ HBM.out | exact HCW.out _ HB3.out | exact HCW.out _ (HB4.out _) | exact HCW.out _ (HB5.out _ _)
    clear hK K hHeld
    have hHeld := hHeld'
    clear hHeld'
    refine wpAnyH_ready (rs := [11]) (by kernel_rfl) (by simp) ?_
    refine AllReadyH.cons rfl (fun K hK => ?_) AllReadyH.nil
    go_simp
    refine hK.out _ _ ?_ (fun hHeld' => ?_)
    · (try dsimp only)
      first | exact HCW.out _ HBD.out | exact HCW.out _ HBM.out | exact HCW.out _ HB3.out | exact HCW.out _ (HB4.out _) | exact HCW.out _ (HB5.out _ _)
    clear hK K hHeld
    have hHeld := hHeld'
    clear hHeld'
    refine wpAnyH_ready (rs := [12]) (by kernel_rfl) (by simp) ?_
    refine AllReadyH.cons rfl (fun K hK => ?_) AllReadyH.nil
    go_simp
    refine hK.out _ _ ?_ (fun hHeld' => ?_)
    · (try dsimp only)
      first | exact HCW.out _ HBD.out | exact HCW.out _ HBM.out | exact HCW.out _ HB3.out | exact HCW.out _ (HB4.out _) | exact HCW.out _ (HB5.out _ _)
    clear hK K hHeld
    have hHeld := hHeld'
    clear hHeld'
    refine wpAnyH_done (by kernel_rfl) ?_ _
    obtain ⟨m2, hm2⟩ : ∃ m, m = w.heap.size := ⟨_, rfl⟩
    have hI : CopyI w L a W3.heap.size m2 (.slice A2 L.length c2) [] (fun _ => none) (fun _ => False) (W3.alloc (.cells #[.pointer (some ⟨a, 0, none⟩), .map (some w.heap.size), .slice A2 L.length c2] 78)) := by
      rw [hm2]
      have hr : Below W3.heap.size W3 (W3.alloc (.cells #[.pointer (some ⟨a, 0, none⟩), .map (some w.heap.size), .slice A2 L.length c2] 78)) := (Below.refl _ _).alloc (Nat.le_refl _) _
      exact ⟨Blk.new W3 _ _, HM3.out.below hr, own_below (own_mono HO3.out (by simp)) hr, fun _ => rfl, (fun _ h => by cases h), ⟨HB3.out.size, Nat.le_refl _⟩, fun _ h => h.elim, HB4.out _⟩
    obtain ⟨W4, hW4⟩ : ∃ W, W3.alloc (.cells #[.pointer (some ⟨a, 0, none⟩), .map (some w.heap.size), .slice A2 L.length c2] 78) = W := ⟨_, rfl⟩
    obtain ⟨g2, hg2⟩ : ∃ x, W3.heap.size = x := ⟨_, rfl⟩
    rw [hW4, hg2] at hI
    rw [hW4, hg2]
    have HI := Lib.hid hI
    clear hI hW4 hg2 hm2 hHeld
    have hch := HI.out.ch
    have HDM4 := Lib.hid (HDM.out W4 hch)
    have hk1 := (HCE.out W4 hch).2.1
    have hr1 : g2 < W4.heap.size ∧ m2 < W4.heap.size := ⟨HI.out.blk.lt, HI.out.map.lt⟩
    have hr2 : ∀ b, (Value.slice A2 L.length c2).ownBlock = some b → b < W4.heap.size := fun b hb => (HI.out.own.lt b hb).2
    have hr3 : w.heap.size ≤ W4.heap.size := hch.size
    have HR1 := Lib.hid hr1; have HR2 := Lib.hid hr2; have HR3 := Lib.hid hr3
    clear hch hr1 hr2 hr3
    go_wp2_with (refine wpList_rangeH rfl 76 42 (.tmp 24) rfl Tryz.underlying76 mb L.length f rfl HDM4.out ?_; intro W5 hR hg5 hs5; have HR := Lib.hid hR; have HI5 := Lib.hid (HI.out.below ((Below.refl W4.heap.size W4).grown hg5 (Nat.le_refl _) (by simp))); clear hR hg5)
    simp only [Act.put, List.setIfInBounds_toArray, List.set_cons_zero, List.set_cons_succ]
    clear hk1
    generalize W4.heap.size = r at *
    go_loopw [4, 5] (fun _ _ wr => ∃ vs left cnt F S2, RangeH wr mb r L.length f left cnt ∧ Visit L vs left cnt ∧ CopyI w L a g2 m2 (.slice A2 L.length c2) vs F S2 wr ∧ ∀ b, S2 b → b ≠ r) (fun _ _ wr => wr.rangeLeft mb r)
    case atStart => exact ⟨[], _, _, _, _, HR.out, Visit.start L _ HDO.out, HI5.out, fun _ h => h.elim⟩
    case round =>
      obtain ⟨vs, left, cnt, F, S2, hrr, hvis, hci, hsr⟩ := hrel
      have HRR := Lib.hid hrr; have HVIS := Lib.hid hvis; have HCI := Lib.hid hci; have HSR := Lib.hid hsr
      have hleft := hrr.left_eq
      clear hrr hvis hci hsr HR HI5
      go_upto_region 5 with fail
      refine wp_region_lit ?_
      refine wpList_nextH rfl (.tmp 25) rfl mb r L.length f left cnt rfl HRR.out (fun hl => ?_) (fun s v W2 cnt2 hss hls hfs hR2 hc2 hg2 hs2 hen => ?_)
      · have HPM := Lib.hid (HDN.out vs left cnt HVIS.out hl)
        simp only [Act.put, List.setIfInBounds_toArray, List.set_cons_zero, List.set_cons_succ]
        clear hl
        go_wp2
        go_ret
        exact HFN.out g2 m2 _ vs F S2 _ HCI.out HPM.out
      · simp only [Act.put, List.setIfInBounds_toArray, List.set_cons_zero, List.set_cons_succ]
        have hvis2 := HVIS.out.next hls hc2
        have hnv := ((HVIS.out.left_ s).1 hls).2
        have hci2 := HCI.out.grown hg2 HR3.out (by have := HR1.out; omega) (by have := HR1.out; omega) (fun e => by have := HR2.out _ e; omega) HSR.out
        obtain ⟨cs, hav, hcs⟩ := HAV.out s
        obtain ⟨B1, d1, B2, d2, B3, d3, rfl⟩ := hcs.form
        have hev := HEN.out s v hfs
        rw [hev] at hav
        subst hav
        dsimp only [aggM] at hen
        have hbx := Blk.new W2 42 #[.string (artOf L s).head, .slice B1 (artOf L s).word.length d1, .slice B2 (artOf L s).texts.length d2, .slice B3 (artOf L s).see.length d3]
        obtain ⟨W3x, hW3⟩ : ∃ W, W2.alloc (.cells #[.string (artOf L s).head, .slice B1 (artOf L s).word.length d1, .slice B2 (artOf L s).texts.length d2, .slice B3 (artOf L s).see.length d3] 42) = W := ⟨_, rfl⟩
        have hb3x : Below W2.heap.size W2 W3x := hW3 ▸ (Below.refl _ _).alloc (Nat.le_refl _) _
        rw [hW3, hs2] at hbx
        have hci3 := hci2.below hb3x
        have hR3 := hR2.below hb3x
        have hcl := HCL.out W3x.drew (hci3.ch.drew) s
        rw [hev] at hcl
        have hm2x : m2 < wr.heap.size := HCI.out.map.lt
        have hk : ∀ W, ChgS (fun k => k = m2) W3x W → W.cell? ⟨g2, 1, none⟩ = some (.map (some m2)) ∧ W.cell? ⟨wr.heap.size, 0, none⟩ = some (.string (artOf L s).head) ∧ W.cell? ⟨wr.heap.size, 1, none⟩ = some (.slice B1 (artOf L s).word.length d1) ∧ W.cell? ⟨wr.heap.size, 2, none⟩ = some (.slice B2 (artOf L s).texts.length d2) ∧ W.cell? ⟨wr.heap.size, 3, none⟩ = some (.slice B3 (artOf L s).see.length d3) := fun W hc => by
          have y := hbx.chgS hc (by omega)
          exact ⟨(hci3.blk.chgS hc (fun e => hci3.map.ne_blk hci3.blk e.symm)).cell 1, y.cell 0, y.cell 1, y.cell 2, y.cell 3⟩
        have hvl : vs.length + 1 + cnt2 ≤ L.length := by have h := hvis2.few; rw [List.length_append] at h; exact h
        have HK := Lib.hid hk; have HCL3 := Lib.hid hcl; have HCI3 := Lib.hid hci3; have HRR3 := Lib.hid hR3; have HVIS2 := Lib.hid hvis2; have HNV := Lib.hid hnv
        have he0 : ChgS (fun k => k = m2) W3x W3x := ChgS.refl _ _
        have he8 : ChgS (fun k => k = m2) W3x W3x.drew := (ChgS.refl _ _).drewN 1
        obtain ⟨t0, t1, t2, t3, t4⟩ := hk W3x he0
        have hwx : W3x.heap.size = wr.heap.size + 1 := by rw [← hW3, World.size_alloc, hs2]
        have HWX := Lib.hid hwx; have HSS := Lib.hid hss
        clear hvis2 hnv hci2 hcs hev hbx hb3x hci3 hR3 hcl hk hfs hR2 hg2 hls hwx hss
        generalize (artOf L s).head = y1 at *
        generalize (artOf L s).word.length = y2 at *
        generalize (artOf L s).texts.length = y3 at *
        generalize (artOf L s).see.length = y4 at *
        go_upto_region 7 with fail
        clear hW3
        refine wp_region_held_drew (S := (fun W => W.cell? ⟨g2, 1, none⟩ = some (.map (some m2)) ∧ W.cell? ⟨wr.heap.size, 0, none⟩ = some (.string y1) ∧ W.cell? ⟨wr.heap.size, 1, none⟩ = some (.slice B1 y2 d1) ∧ W.cell? ⟨wr.heap.size, 2, none⟩ = some (.slice B2 y3 d2) ∧ W.cell? ⟨wr.heap.size, 3, none⟩ = some (.slice B3 y4 d3))) (by kernel_rfl) ?_ (fun hHeld => ?_)
        · (try dsimp only)
          exact HK.out _ (by first | exact he8 | exact HE8.out | exact HE9.out)
        refine wpAnyH_take (i := 0) (v := ?_) rfl (by kernel_rfl) (by kernel_rfl) (by kernel_rfl) (fun _ _ _ h => h) (Or.inl ⟨by rfl, ?_⟩) (by assumption) ?_
        rotate_left
        · intro w hSw
          (try dsimp only at hSw)
          go_simp <;> with_reducible rfl
        try simp only [Act.put, List.getElem_toArray, List.getElem_cons_succ, List.getElem_cons_zero, List.setIfInBounds_toArray, List.set_cons_zero, List.set_cons_succ]
        refine wpAnyH_take (i := 1) (v := ?_) rfl (by kernel_rfl) (by kernel_rfl) (by kernel_rfl) (fun _ _ _ h => h) (Or.inl ⟨by rfl, ?_⟩) (by assumption) ?_
        rotate_left
        · intro w hSw
          (try dsimp only at hSw)
          go_simp <;> with_reducible rfl
        try simp only [Act.put, List.getElem_toArray, List.getElem_cons_succ, List.getElem_cons_zero, List.setIfInBounds_toArray, List.set_cons_zero, List.set_cons_succ]
        refine wpAnyH_take (i := 2) (v := ?_) rfl (by kernel_rfl) (by kernel_rfl) (by kernel_rfl) (fun _ _ _ h => h) (Or.inl ⟨by rfl, ?_⟩) (by assumption) ?_
        rotate_left
        · intro w hSw
          (try dsimp only at hSw)
          go_simp <;> with_reducible rfl
        try simp only [Act.put, List.getElem_toArray, List.getElem_cons_succ, List.getElem_cons_zero, List.setIfInBounds_toArray, List.set_cons_zero, List.set_cons_succ]
        refine wpAnyH_take (i := 3) (v := ?_) rfl (by kernel_rfl) (by kernel_rfl) (by kernel_rfl) (fun _ _ _ h => h) (Or.inl ⟨by rfl, ?_⟩) (by assumption) ?_
        rotate_left
        · intro w hSw
          (try dsimp only at hSw)
          go_simp <;> with_reducible rfl
        try simp only [Act.put, List.getElem_toArray, List.getElem_cons_succ, List.getElem_cons_zero, List.setIfInBounds_toArray, List.set_cons_zero, List.set_cons_succ]
        refine wpAnyH_take (i := 4) (v := ?_) rfl (by kernel_rfl) (by kernel_rfl) (by kernel_rfl) (fun _ _ _ h => h) (Or.inl ⟨by rfl, ?_⟩) (by assumption) ?_
        rotate_left
        · intro w hSw
          (try dsimp only at hSw)
          go_simp <;> with_reducible rfl
        try simp only [Act.put, List.getElem_toArray, List.getElem_cons_succ, List.getElem_cons_zero, List.setIfInBounds_toArray, List.set_cons_zero, List.set_cons_succ]
        refine wpAnyH_take (i := 5) (v := ?_) rfl (by kernel_rfl) (by kernel_rfl) (by kernel_rfl) (fun _ _ _ h => h) (Or.inl ⟨by rfl, ?_⟩) (by assumption) ?_
        rotate_left
        · intro w hSw
          (try dsimp only at hSw)
          go_simp <;> with_reducible rfl
        try simp only [Act.put, List.getElem_toArray, List.getElem_cons_succ, List.getElem_cons_zero, List.setIfInBounds_toArray, List.set_cons_zero, List.set_cons_succ]
        refine wpAnyH_ready (rs := [6]) (by kernel_rfl) (by simp) ?_
        refine AllReadyH.cons rfl (fun K hK => ?_) AllReadyH.nil
        go_simp
        (try go_wp2_with fail)
        refine HCL3.out.mono ?_
        rintro e W8 ⟨cs8, rfl, hx8, hb8⟩
        have HE8 := Lib.hid (he8.trans (ChgS.of_below hb8)); have HX8 := Lib.hid hx8; have HB8 := Lib.hid hb8
        have hm8 : MapH W8 m2 vs.length F := (HCI3.out.map.drewN 1).below hb8
        clear hx8 hb8
        (try go_simp)
        refine hK.out _ _ ?_ (fun hHeld' => ?_)
        · (try dsimp only)
          exact HK.out _ (by first | exact he8 | exact HE8.out | exact HE9.out)
        clear hK K hHeld
        have hHeld := hHeld'
        clear hHeld'
        refine wpAnyH_ready (rs := [7]) (by kernel_rfl) (by simp) ?_
        refine AllReadyH.cons rfl (fun K hK => ?_) AllReadyH.nil
        refine step_putH rfl 76 42 _ _ _ rfl Tryz.underlying76 m2 vs.length F rfl hm8 (by unfold maxLen; omega) s HSS.out (aggM cs8) rfl rfl ?_
        intro W9 hm9 hg9
        have HE9 := Lib.hid (HE8.out.grown hg9 (fun k hk => by injection hk with hk; exact .inl hk.symm)); have HM9 := Lib.hid hm9; have HG9 := Lib.hid hg9
        clear hm9 hg9
        refine hK.out _ _ ?_ (fun hHeld' => ?_)
        · (try dsimp only)
          exact HK.out _ (by first | exact he8 | exact HE8.out | exact HE9.out)
        clear hK K hHeld
        have hHeld := hHeld'
        clear hHeld'
        refine wpAnyH_done (by kernel_rfl) ?_ _
        try simp only [Act.put, List.getElem_toArray, List.getElem_cons_succ, List.getElem_cons_zero, List.setIfInBounds_toArray, List.set_cons_zero, List.set_cons_succ]
        clear hHeld t0 t1 t2 t3 t4 he0 he8
        have hb8' : Below W3x.heap.size W3x W8 := ((Below.refl _ W3x).drew).trans HB8.out
        have hci8 := HCI3.out.below hb8'
        have hmm2 : mb ≠ m2 := by have h1 := HMLT.out; have h2 := HCI3.out.low.2; omega
        have hrm2 : r ≠ m2 := by have := HR1.out; omega
        have hfin := hci8.next HX8.out (fun b hb => by
          have h1 : W3x.heap.size ≤ b := hb.1
          have h2 := HCI3.out.blk.lt
          have h3 := HCI3.out.map.lt
          exact ⟨Nat.le_trans HCI3.out.ch.size h1, hb.2, by omega, by omega, fun e => by have := (HCI3.out.own.lt b e).2; omega⟩) HNV.out HM9.out HG9.out
        have hr9 := (HRR3.out.below hb8').kept HG9.out (fun e => by injection e with e; exact hmm2 e) (fun e => by injection e with e; exact hrm2 e)
        have hsr9 : ∀ b, (S2 b ∨ NewS W3x.drew W8 b) → b ≠ r := fun b hb => by
          rcases hb with hb | hb
          · exact HSR.out b hb
          · have h1 : W3x.heap.size ≤ b := hb.1
            have h2 := HRR3.out.lt
            omega
        have HF9 := Lib.hid hfin; have HR9 := Lib.hid hr9; have HS9 := Lib.hid hsr9
        clear hb8' hci8 hmm2 hrm2 hfin hr9 hsr9
        go_wp2
        go_roundw
        case rel => exact ⟨vs ++ [s], _, cnt2, _, _, HR9.out, HVIS2.out, HF9.out, HS9.out⟩
        case measure => rw [HR9.out.left_eq, hleft]; exact hc2

  · go_simp
    refine (HCN.out _ HBD.out).mono ?_
    rintro e W3 ⟨v2, rfl, hov, hb3⟩
    have HB3 := Lib.hid (HBD.out.trans (hb3.mono HBD.out.size))
    have HB4 := Lib.hid (fun o => HB3.out.alloc HB3.out.size o)
    have HB5 := Lib.hid (fun o o' => (HB4.out o).alloc (HB4.out o).size o')
    obtain ⟨A2, c2, rfl, -, -⟩ := ownsRow_form hov
    have HO3 := Lib.hid hov
    clear hov hb3
    (try go_simp)
    refine hK.out _ _ ?_ (fun hHeld' => ?_)
    · (try dsimp only)
      exact HCW.out _ HB3.out
    clear hK K hHeld
    have hHeld := hHeld'
    clear hHeld'
    refine wpAnyH_ready (rs := [4]) (by kernel_rfl) (by simp) ?_
    refine AllReadyH.cons rfl (fun K hK => ?_) AllReadyH.nil
    go_simp
    refine hK.out _ _ ?_ (fun hHeld' => ?_)
    · (try dsimp only)
      first | exact HCW.out _ HBD.out | exact HCW.out _ HBM.out | exact HCW.out _ HB3.out | exact HCW.out _ (HB4.out _) | exact HCW.out _ (HB5.out _ _)
    clear hK K hHeld
    have hHeld := hHeld'
    clear hHeld'
    refine wpAnyH_ready (rs := [10]) (by kernel_rfl) (by simp) ?_
    refine AllReadyH.cons rfl (fun K hK => ?_) AllReadyH.nil
    go_simp
    refine hK.out _ _ ?_ (fun hHeld' => ?_)
    · (try dsimp only)
      first | exact HCW.out _ HBD.out | exact HCW.out _ HBM.out | exact HCW.out _ HB3.out | exact HCW.out _ (HB4.out _) | exact HCW.out _ (HB5.out _ _)
    clear hK K hHeld
    have hHeld := hHeld'
    clear hHeld'
    refine wpAnyH_ready (rs := [11]) (by kernel_rfl) (by simp) ?_
    refine AllReadyH.cons rfl (fun K hK => ?_) AllReadyH.nil
    go_simp
    refine hK.out _ _ ?_ (fun hHeld' => ?_)
    · (try dsimp only)
      first | exact HCW.out _ HBD.out | exact HCW.out _ HBM.out | exact HCW.out _ HB3.out | exact HCW.out _ (HB4.out _) | exact HCW.out _ (HB5.out _ _)
    clear hK K hHeld
    have hHeld := hHeld'
    clear hHeld'
    refine wpAnyH_ready (rs := [12]) (by kernel_rfl) (by simp) ?_
    refine AllReadyH.cons rfl (fun K hK => ?_) AllReadyH.nil
    go_simp
    refine hK.out _ _ ?_ (fun hHeld' => ?_)
    · (try dsimp only)
      first | exact HCW.out _ HBD.out | exact HCW.out _ HBM.out | exact HCW.out _ HB3.out | exact HCW.out _ (HB4.out _) | exact HCW.out _ (HB5.out _ _)
    clear hK K hHeld
    have hHeld := hHeld'
    clear hHeld'
    refine wpAnyH_done (by kernel_rfl) ?_ _
    obtain ⟨m2, hm2⟩ : ∃ m, m = W3.heap.size := ⟨_, rfl⟩
    have hI : CopyI w L a (W3.heap.size + 1) m2 (.slice A2 L.length c2) [] (fun _ => none) (fun _ => False) ((W3.alloc (.map #[] 0)).alloc (.cells #[.pointer (some ⟨a, 0, none⟩), .map (some W3.heap.size), .slice A2 L.length c2] 78)) := by
      rw [hm2]
      have hr0 : Below W3.heap.size W3 (W3.alloc (.map #[] 0)) := (Below.refl _ _).alloc (Nat.le_refl _) _
      have hr : Below (W3.alloc (.map #[] 0)).heap.size (W3.alloc (.map #[] 0)) ((W3.alloc (.map #[] 0)).alloc (.cells #[.pointer (some ⟨a, 0, none⟩), .map (some W3.heap.size), .slice A2 L.length c2] 78)) := (Below.refl _ _).alloc (Nat.le_refl _) _
      have hbl := Blk.new (W3.alloc (.map #[] 0)) 78 #[.pointer (some ⟨a, 0, none⟩), .map (some W3.heap.size), .slice A2 L.length c2]
      rw [World.size_alloc] at hbl
      exact ⟨hbl, (MapH.made W3).below hr, own_below (own_below (own_mono HO3.out (by simp)) hr0) hr, fun _ => rfl, (fun _ h => by cases h), ⟨Nat.le_succ_of_le HB3.out.size, HB3.out.size⟩, fun _ h => h.elim, HB5.out _ _⟩
    obtain ⟨W4, hW4⟩ : ∃ W, (W3.alloc (.map #[] 0)).alloc (.cells #[.pointer (some ⟨a, 0, none⟩), .map (some W3.heap.size), .slice A2 L.length c2] 78) = W := ⟨_, rfl⟩
    obtain ⟨g2, hg2⟩ : ∃ x, W3.heap.size + 1 = x := ⟨_, rfl⟩
    rw [hW4, hg2] at hI
    rw [hW4]
    (try rw [World.size_alloc])
    rw [hg2]
    have HI := Lib.hid hI
    clear hI hW4 hg2 hm2 hHeld
    have hch := HI.out.ch
    have HDM4 := Lib.hid (HDM.out W4 hch)
    have hk1 := (HCE.out W4 hch).2.1
    have hr1 : g2 < W4.heap.size ∧ m2 < W4.heap.size := ⟨HI.out.blk.lt, HI.out.map.lt⟩
    have hr2 : ∀ b, (Value.slice A2 L.length c2).ownBlock = some b → b < W4.heap.size := fun b hb => (HI.out.own.lt b hb).2
    have hr3 : w.heap.size ≤ W4.heap.size := hch.size
    have HR1 := Lib.hid hr1; have HR2 := Lib.hid hr2; have HR3 := Lib.hid hr3
    clear hch hr1 hr2 hr3
    go_wp2_with (refine wpList_rangeH rfl 76 42 (.tmp 24) rfl Tryz.underlying76 mb L.length f rfl HDM4.out ?_; intro W5 hR hg5 hs5; have HR := Lib.hid hR; have HI5 := Lib.hid (HI.out.below ((Below.refl W4.heap.size W4).grown hg5 (Nat.le_refl _) (by simp))); clear hR hg5)
    simp only [Act.put, List.setIfInBounds_toArray, List.set_cons_zero, List.set_cons_succ]
    clear hk1
    generalize W4.heap.size = r at *
    go_loopw [4, 5] (fun _ _ wr => ∃ vs left cnt F S2, RangeH wr mb r L.length f left cnt ∧ Visit L vs left cnt ∧ CopyI w L a g2 m2 (.slice A2 L.length c2) vs F S2 wr ∧ ∀ b, S2 b → b ≠ r) (fun _ _ wr => wr.rangeLeft mb r)
    case atStart => exact ⟨[], _, _, _, _, HR.out, Visit.start L _ HDO.out, HI5.out, fun _ h => h.elim⟩
    case round =>
      obtain ⟨vs, left, cnt, F, S2, hrr, hvis, hci, hsr⟩ := hrel
      have HRR := Lib.hid hrr; have HVIS := Lib.hid hvis; have HCI := Lib.hid hci; have HSR := Lib.hid hsr
      have hleft := hrr.left_eq
      clear hrr hvis hci hsr HR HI5
      go_upto_region 5 with fail
      refine wp_region_lit ?_
      refine wpList_nextH rfl (.tmp 25) rfl mb r L.length f left cnt rfl HRR.out (fun hl => ?_) (fun s v W2 cnt2 hss hls hfs hR2 hc2 hg2 hs2 hen => ?_)
      · have HPM := Lib.hid (HDN.out vs left cnt HVIS.out hl)
        simp only [Act.put, List.setIfInBounds_toArray, List.set_cons_zero, List.set_cons_succ]
        clear hl
        go_wp2
        go_ret
        exact HFN.out g2 m2 _ vs F S2 _ HCI.out HPM.out
      · simp only [Act.put, List.setIfInBounds_toArray, List.set_cons_zero, List.set_cons_succ]
        have hvis2 := HVIS.out.next hls hc2
        have hnv := ((HVIS.out.left_ s).1 hls).2
        have hci2 := HCI.out.grown hg2 HR3.out (by have := HR1.out; omega) (by have := HR1.out; omega) (fun e => by have := HR2.out _ e; omega) HSR.out
        obtain ⟨cs, hav, hcs⟩ := HAV.out s
        obtain ⟨B1, d1, B2, d2, B3, d3, rfl⟩ := hcs.form
        have hev := HEN.out s v hfs
        rw [hev] at hav
        subst hav
        dsimp only [aggM] at hen
        have hbx := Blk.new W2 42 #[.string (artOf L s).head, .slice B1 (artOf L s).word.length d1, .slice B2 (artOf L s).texts.length d2, .slice B3 (artOf L s).see.length d3]
        obtain ⟨W3x, hW3⟩ : ∃ W, W2.alloc (.cells #[.string (artOf L s).head, .slice B1 (artOf L s).word.length d1, .slice B2 (artOf L s).texts.length d2, .slice B3 (artOf L s).see.length d3] 42) = W := ⟨_, rfl⟩
        have hb3x : Below W2.heap.size W2 W3x := hW3 ▸ (Below.refl _ _).alloc (Nat.le_refl _) _
        rw [hW3, hs2] at hbx
        have hci3 := hci2.below hb3x
        have hR3 := hR2.below hb3x
        have hcl := HCL.out W3x.drew (hci3.ch.drew) s
        rw [hev] at hcl
        have hm2x : m2 < wr.heap.size := HCI.out.map.lt
        have hk : ∀ W, ChgS (fun k => k = m2) W3x W → W.cell? ⟨g2, 1, none⟩ = some (.map (some m2)) ∧ W.cell? ⟨wr.heap.size, 0, none⟩ = some (.string (artOf L s).head) ∧ W.cell? ⟨wr.heap.size, 1, none⟩ = some (.slice B1 (artOf L s).word.length d1) ∧ W.cell? ⟨wr.heap.size, 2, none⟩ = some (.slice B2 (artOf L s).texts.length d2) ∧ W.cell? ⟨wr.heap.size, 3, none⟩ = some (.slice B3 (artOf L s).see.length d3) := fun W hc => by
          have y := hbx.chgS hc (by omega)
          exact ⟨(hci3.blk.chgS hc (fun e => hci3.map.ne_blk hci3.blk e.symm)).cell 1, y.cell 0, y.cell 1, y.cell 2, y.cell 3⟩
        have hvl : vs.length + 1 + cnt2 ≤ L.length := by have h := hvis2.few; rw [List.length_append] at h; exact h
        have HK := Lib.hid hk; have HCL3 := Lib.hid hcl; have HCI3 := Lib.hid hci3; have HRR3 := Lib.hid hR3; have HVIS2 := Lib.hid hvis2; have HNV := Lib.hid hnv
        have he0 : ChgS (fun k => k = m2) W3x W3x := ChgS.refl _ _
        have he8 : ChgS (fun k => k = m2) W3x W3x.drew := (ChgS.refl _ _).drewN 1
        obtain ⟨t0, t1, t2, t3, t4⟩ := hk W3x he0
        have hwx : W3x.heap.size = wr.heap.size + 1 := by rw [← hW3, World.size_alloc, hs2]
        have HWX := Lib.hid hwx; have HSS := Lib.hid hss
        clear hvis2 hnv hci2 hcs hev hbx hb3x hci3 hR3 hcl hk hfs hR2 hg2 hls hwx hss
        generalize (artOf L s).head = y1 at *
        generalize (artOf L s).word.length = y2 at *
        generalize (artOf L s).texts.length = y3 at *
        generalize (artOf L s).see.length = y4 at *
        go_upto_region 7 with fail
        clear hW3
        refine wp_region_held_drew (S := (fun W => W.cell? ⟨g2, 1, none⟩ = some (.map (some m2)) ∧ W.cell? ⟨wr.heap.size, 0, none⟩ = some (.string y1) ∧ W.cell? ⟨wr.heap.size, 1, none⟩ = some (.slice B1 y2 d1) ∧ W.cell? ⟨wr.heap.size, 2, none⟩ = some (.slice B2 y3 d2) ∧ W.cell? ⟨wr.heap.size, 3, none⟩ = some (.slice B3 y4 d3))) (by kernel_rfl) ?_ (fun hHeld => ?_)
        · (try dsimp only)
          exact HK.out _ (by first | exact he8 | exact HE8.out | exact HE9.out)
        refine wpAnyH_take (i := 0) (v := ?_) rfl (by kernel_rfl) (by kernel_rfl) (by kernel_rfl) (fun _ _ _ h => h) (Or.inl ⟨by rfl, ?_⟩) (by assumption) ?_
        rotate_left
        · intro w hSw
          (try dsimp only at hSw)
          go_simp <;> with_reducible rfl
        try simp only [Act.put, List.getElem_toArray, List.getElem_cons_succ, List.getElem_cons_zero, List.setIfInBounds_toArray, List.set_cons_zero, List.set_cons_succ]
        refine wpAnyH_take (i := 1) (v := ?_) rfl (by kernel_rfl) (by kernel_rfl) (by kernel_rfl) (fun _ _ _ h => h) (Or.inl ⟨by rfl, ?_⟩) (by assumption) ?_
        rotate_left
        · intro w hSw
          (try dsimp only at hSw)
          go_simp <;> with_reducible rfl
        try simp only [Act.put, List.getElem_toArray, List.getElem_cons_succ, List.getElem_cons_zero, List.setIfInBounds_toArray, List.set_cons_zero, List.set_cons_succ]
        refine wpAnyH_take (i := 2) (v := ?_) rfl (by kernel_rfl) (by kernel_rfl) (by kernel_rfl) (fun _ _ _ h => h) (Or.inl ⟨by rfl, ?_⟩) (by assumption) ?_
        rotate_left
        · intro w hSw
          (try dsimp only at hSw)
          go_simp <;> with_reducible rfl
        try simp only [Act.put, List.getElem_toArray, List.getElem_cons_succ, List.getElem_cons_zero, List.setIfInBounds_toArray, List.set_cons_zero, List.set_cons_succ]
        refine wpAnyH_take (i := 3) (v := ?_) rfl (by kernel_rfl) (by kernel_rfl) (by kernel_rfl) (fun _ _ _ h => h) (Or.inl ⟨by rfl, ?_⟩) (by assumption) ?_
        rotate_left
        · intro w hSw
          (try dsimp only at hSw)
          go_simp <;> with_reducible rfl
        try simp only [Act.put, List.getElem_toArray, List.getElem_cons_succ, List.getElem_cons_zero, List.setIfInBounds_toArray, List.set_cons_zero, List.set_cons_succ]
        refine wpAnyH_take (i := 4) (v := ?_) rfl (by kernel_rfl) (by kernel_rfl) (by kernel_rfl) (fun _ _ _ h => h) (Or.inl ⟨by rfl, ?_⟩) (by assumption) ?_
        rotate_left
        · intro w hSw
          (try dsimp only at hSw)
          go_simp <;> with_reducible rfl
        try simp only [Act.put, List.getElem_toArray, List.getElem_cons_succ, List.getElem_cons_zero, List.setIfInBounds_toArray, List.set_cons_zero, List.set_cons_succ]
        refine wpAnyH_take (i := 5) (v := ?_) rfl (by kernel_rfl) (by kernel_rfl) (by kernel_rfl) (fun _ _ _ h => h) (Or.inl ⟨by rfl, ?_⟩) (by assumption) ?_
        rotate_left
        · intro w hSw
          (try dsimp only at hSw)
          go_simp <;> with_reducible rfl
        try simp only [Act.put, List.getElem_toArray, List.getElem_cons_succ, List.getElem_cons_zero, List.setIfInBounds_toArray, List.set_cons_zero, List.set_cons_succ]
        refine wpAnyH_ready (rs := [6]) (by kernel_rfl) (by simp) ?_
        refine AllReadyH.cons rfl (fun K hK => ?_) AllReadyH.nil
        go_simp
        (try go_wp2_with fail)
        refine HCL3.out.mono ?_
        rintro e W8 ⟨cs8, rfl, hx8, hb8⟩
        have HE8 := Lib.hid (he8.trans (ChgS.of_below hb8)); have HX8 := Lib.hid hx8; have HB8 := Lib.hid hb8
        have hm8 : MapH W8 m2 vs.length F := (HCI3.out.map.drewN 1).below hb8
        clear hx8 hb8
        (try go_simp)
        refine hK.out _ _ ?_ (fun hHeld' => ?_)
        · (try dsimp only)
          exact HK.out _ (by first | exact he8 | exact HE8.out | exact HE9.out)
        clear hK K hHeld
        have hHeld := hHeld'
        clear hHeld'
        refine wpAnyH_ready (rs := [7]) (by kernel_rfl) (by simp) ?_
        refine AllReadyH.cons rfl (fun K hK => ?_) AllReadyH.nil
        refine step_putH rfl 76 42 _ _ _ rfl Tryz.underlying76 m2 vs.length F rfl hm8 (by unfold maxLen; omega) s HSS.out (aggM cs8) rfl rfl ?_
        intro W9 hm9 hg9
        have HE9 := Lib.hid (HE8.out.grown hg9 (fun k hk => by injection hk with hk; exact .inl hk.symm)); have HM9 := Lib.hid hm9; have HG9 := Lib.hid hg9
        clear hm9 hg9
        refine hK.out _ _ ?_ (fun hHeld' => ?_)
        · (try dsimp only)
          exact HK.out _ (by first | exact he8 | exact HE8.out | exact HE9.out)
        clear hK K hHeld
        have hHeld := hHeld'
        clear hHeld'
        refine wpAnyH_done (by kernel_rfl) ?_ _
        try simp only [Act.put, List.getElem_toArray, List.getElem_cons_succ, List.getElem_cons_zero, List.setIfInBounds_toArray, List.set_cons_zero, List.set_cons_succ]
        clear hHeld t0 t1 t2 t3 t4 he0 he8
        have hb8' : Below W3x.heap.size W3x W8 := ((Below.refl _ W3x).drew).trans HB8.out
        have hci8 := HCI3.out.below hb8'
        have hmm2 : mb ≠ m2 := by have h1 := HMLT.out; have h2 := HCI3.out.low.2; omega
        have hrm2 : r ≠ m2 := by have := HR1.out; omega
        have hfin := hci8.next HX8.out (fun b hb => by
          have h1 : W3x.heap.size ≤ b := hb.1
          have h2 := HCI3.out.blk.lt
          have h3 := HCI3.out.map.lt
          exact ⟨Nat.le_trans HCI3.out.ch.size h1, hb.2, by omega, by omega, fun e => by have := (HCI3.out.own.lt b e).2; omega⟩) HNV.out HM9.out HG9.out
        have hr9 := (HRR3.out.below hb8').kept HG9.out (fun e => by injection e with e; exact hmm2 e) (fun e => by injection e with e; exact hrm2 e)
        have hsr9 : ∀ b, (S2 b ∨ NewS W3x.drew W8 b) → b ≠ r := fun b hb => by
          rcases hb with hb | hb
          · exact HSR.out b hb
          · have h1 : W3x.heap.size ≤ b := hb.1
            have h2 := HRR3.out.lt
            omega
        have HF9 := Lib.hid hfin; have HR9 := Lib.hid hr9; have HS9 := Lib.hid hsr9
        clear hb8' hci8 hmm2 hrm2 hfin hr9 hsr9
        go_wp2
        go_roundw
        case rel => exact ⟨vs ++ [s], _, cnt2, _, _, HR9.out, HVIS2.out, HF9.out, HS9.out⟩
        case measure => rw [HR9.out.left_eq, hleft]; exact hc2

end
end Go.Proofs.YtgkpoopiamicnaaGreatDoor
