/-
  Layer 40: the reference's copied. Conditions: an article that is read. (Printed by rh.py.)
-/
import Derived.Test.YtgkpoopiamicnaaGreatDoorDtRf
namespace Go.Proofs.YtgkpoopiamicnaaGreatDoor
open Go.RowKit Go.Lib

/-- The states of copied: the article's own box (block b), what was put into it, the result's box (block b + 1). -/
structure CpR (w : World) (b : Nat) (hd : ByteArray) (u1 u2 u3 : Value) (W : World) : Prop where
  ch : Below w.heap.size w W
  box : Blk W b 42 #[.string hd, u1, u2, u3]
  res : Blk W (b + 1) 42 #[.string ⟨#[]⟩, .slice none 0 0, .slice none 0 0, .slice none 0 0]
theorem CpR.step {w W W1 W2 : World} {b : Nat} {hd : ByteArray} {u1 u2 u3 : Value} {row : Option Nat} (h : CpR w b hd u1 u2 u3 W) (hwb : w.heap.size = b) (hb : Below W.heap.size W W1) (hg : W1.grownBy W2 row) (hr : ∀ k, row = some k → W.heap.size ≤ k) : Below w.heap.size w W2 ∧ Blk W2 b 42 #[.string hd, u1, u2, u3] ∧ Blk W2 (b + 1) 42 #[.string ⟨#[]⟩, .slice none 0 0, .slice none 0 0, .slice none 0 0] := by
  have h1 := h.box.lt
  have h2 := h.res.lt
  have h3 := hb.size
  refine ⟨(h.ch.trans (hb.mono h.ch.size)).grown hg (by have := h.ch.size; omega) (fun k hk => by have := hr k hk; have := h.ch.size; omega), (h.box.below hb h1).grown hg (fun e => by have := hr b e.symm; omega), (h.res.below hb h2).grown hg (fun e => by have := hr (b + 1) e.symm; omega)⟩
theorem own_step {W W1 W2 : World} {base b size n r k : Nat} {t : TypeId} {v u : Value} {xs : List Value} (ho : W.ownsRow base t size v n xs) (hbase : b < base) (hb : Below W.heap.size W W1) (hg : W1.grownBy W2 (some r)) (hr : W.heap.size ≤ r) : (W2.setCell ⟨b, k, none⟩ u).ownsRow base t size v n xs := by
  have h1 := World.ownsRow.kept (own_below ho hb) hg (.inr fun e => by have := (ho.lt r e).2; omega)
  exact own_chgS (S := fun c => c = b) h1 ((ChgS.refl (fun c => c = b) W2).setCell (p := ⟨b, k, none⟩) (.inl rfl) u) (fun c hc e => by have := (h1.lt c hc).1; omega)
set_option linter.unusedSimpArgs false in
set_option maxRecDepth 20000 in
set_option maxHeartbeats 4000000 in
theorem rcopied_any {w : World} {S : Nat → Prop} {x : Art} {cs : List Value} (h : ArtF w S x cs) (hS : ∀ b, S b → b < w.heap.size) (hx : ArtShort x) :
    Calls Tryz.prog 60 #[aggM cs] w (ClonePost w x) := by
  obtain ⟨i0, hi, hz0, hz1, hz2⟩ := info_parts (show (Tryz.prog.info? 9).map (fun i => (i.zero, i.size, i.bytes)) = some (some (.string ByteArray.empty), 1, 16) by kernel_rfl)
  obtain ⟨j0, hj, hy0, hy1, hy2⟩ := info_parts (show (Tryz.prog.info? 53).map (fun i => (i.zero, i.size, i.bytes)) = some (some (.agg #[.int .u32 0, .int .u32 0]), 2, 8) by kernel_rfl)
  obtain ⟨A1, c1, A2, c2, A3, c3, rfl, r1, r2, r3, -, -, -⟩ := h.reads hS
  have s1 := hx.word; have s2 := hx.texts; have s3 := hx.see
  have hr1 := fun W (hb : Below w.heap.size w W) => (show Reads W w.heap.size 2 A1 x.word.length (x.word.flatMap sndC) from r1.below hb)
  have hr2 := fun W (hb : Below w.heap.size w W) => (show Reads W w.heap.size 1 A2 x.texts.length (x.texts.map Value.string) from Reads.below r2 hb)
  have hr3 := fun W (hb : Below w.heap.size w W) => (show Reads W w.heap.size 1 A3 x.see.length (x.see.map Value.string) from Reads.below r3 hb)
  have HR1 := Lib.hid hr1; have HR2 := Lib.hid hr2; have HR3 := Lib.hid hr3
  clear h hS hx r1 r2 r3 hr1 hr2 hr3
  obtain ⟨hd, l1, l2, l3⟩ := x
  dsimp only [aggM] at *
  obtain ⟨n1, hn1⟩ : ∃ n, l1.length = n := ⟨_, rfl⟩
  obtain ⟨n2, hn2⟩ : ∃ n, l2.length = n := ⟨_, rfl⟩
  obtain ⟨n3, hn3⟩ : ∃ n, l3.length = n := ⟨_, rfl⟩
  have HN1 := Lib.hid hn1; have HN2 := Lib.hid hn2; have HN3 := Lib.hid hn3
  rw [hn1] at HR1 s1
  rw [hn2] at HR2 s2
  rw [hn3] at HR3 s3
  rw [hn1, hn2, hn3]
  clear hn1 hn2 hn3
  have hb0 := (Below.refl w.heap.size w).alloc (Nat.le_refl _) (.cells #[.string hd, .slice A1 n1 c1, .slice A2 n2 c2, .slice A3 n3 c3] 42)
  have hb1 := hb0.alloc hb0.size (.cells #[.string ⟨#[]⟩, .slice none 0 0, .slice none 0 0, .slice none 0 0] 42)
  have hbx := (Blk.new w 42 #[.string hd, .slice A1 n1 c1, .slice A2 n2 c2, .slice A3 n3 c3]).alloc (.cells #[.string ⟨#[]⟩, .slice none 0 0, .slice none 0 0, .slice none 0 0] 42)
  have hrs := Blk.new (w.alloc (.cells #[.string hd, .slice A1 n1 c1, .slice A2 n2 c2, .slice A3 n3 c3] 42)) 42 #[.string ⟨#[]⟩, .slice none 0 0, .slice none 0 0, .slice none 0 0]
  rw [World.size_alloc] at hrs
  obtain ⟨W0, hW0⟩ : ∃ W, (w.alloc (.cells #[.string hd, .slice A1 n1 c1, .slice A2 n2 c2, .slice A3 n3 c3] 42)).alloc (.cells #[.string ⟨#[]⟩, .slice none 0 0, .slice none 0 0, .slice none 0 0] 42) = W := ⟨_, rfl⟩
  rw [hW0] at hb1 hbx hrs
  obtain ⟨b, hbw⟩ : ∃ b, w.heap.size = b := ⟨_, rfl⟩
  have HBW := Lib.hid hbw
  rw [hbw] at hbx hrs
  have h0 : CpR w b hd (.slice A1 n1 c1) (.slice A2 n2 c2) (.slice A3 n3 c3) W0 := ⟨hb1, hbx, hrs⟩
  have H0 := Lib.hid h0
  clear hb0 hb1 hbx hrs h0
  go_enter Tryz.func60, Tryz.ntmps60
  go_upto_region 1 with fail
  clear hW0 hbw
  have hs1 : Below W0.heap.size W0 (W0.alloc (.cells #[] 53)) := (Below.refl _ _).alloc (Nat.le_refl _) _
  have HS1 := Lib.hid hs1
  have hq1 := (H0.out.box.below hs1 H0.out.box.lt).cell 1
  simp only [List.getElem?_toArray, List.getElem?_cons_zero, List.getElem?_cons_succ] at hq1
  have HO1 := Lib.hid (own_empty40 W0 53 2)
  have hwl1 : w.heap.size ≤ W0.heap.size := H0.out.ch.size
  clear hs1
  go_upto_region 2 with (at_builtin; go_loud (refine wpList_append_any _ rfl _ _ 40 rfl W0.heap.size 53 j0 (.agg #[.int .u32 0, .int .u32 0]) 2 8 Tryz.underlying40 hj hy0 hy1 hy2 rfl (by decide) _ _ _ rfl HO1.out w.heap.size A1 n1 c1 (l1.flatMap sndC) rfl (HR1.out _ (H0.out.ch.trans (HS1.out.mono H0.out.ch.size))) (snd_one l1) (by unfold maxLen; omega) (by omega) (by simp) ?_; intro v' w1' hown' hgrow hx'; obtain ⟨B1, d1, rfl, -, -⟩ := ownsRow_form hown'; rw [Nat.zero_add, List.nil_append] at hown'; have hst := CpR.step H0.out HBW.out HS1.out hgrow (fun q hq => by injection hq with hq; subst hq; exact Nat.le_refl _); have HST1 := Lib.hid hst; have HG1 := Lib.hid hgrow; have k1 := hst.2.1.cell 1; have f1 := hst.2.1.frozen 1; have HW1 := Lib.hid hown'; clear hst hown' hgrow hx'; (try rw [Nat.zero_add])))
  have hc1 : CpR w b hd (.slice B1 n1 d1) (.slice A2 n2 c2) (.slice A3 n3 c3) (w1'.setCell ⟨b, 1, none⟩ (.slice B1 n1 d1)) := by
    have hbx := HST1.out.2.1.set_ 1 (.slice B1 n1 d1)
    simp only [List.setIfInBounds_toArray, List.set_cons_zero, List.set_cons_succ] at hbx
    exact ⟨HST1.out.1.trans (((ChgS.refl (fun c => c = b) w1').setCell (p := ⟨b, 1, none⟩) (.inl rfl) _).below (B := w.heap.size) (fun c hc => by have := HBW.out; omega) HST1.out.1.size), hbx, HST1.out.2.2.far (p := ⟨b, 1, none⟩) (by show b + 1 ≠ b; omega) _⟩
  have ho1 : (w1'.setCell ⟨b, 1, none⟩ (.slice B1 n1 d1)).ownsRow W0.heap.size 53 2 (.slice B1 n1 d1) n1 (l1.flatMap sndC) := own_chgS (S := fun c => c = b) (own_mono HW1.out (by omega)) ((ChgS.refl (fun c => c = b) w1').setCell (p := ⟨b, 1, none⟩) (.inl rfl) _) (fun c hc e => by have h1 := (HW1.out.lt c hc).1; have h2 := H0.out.box.lt; omega)
  obtain ⟨W1, hW1⟩ : ∃ W, w1'.setCell ⟨b, 1, none⟩ (.slice B1 n1 d1) = W := ⟨_, rfl⟩
  rw [hW1] at hc1 ho1 ⊢
  have H1 := Lib.hid hc1; have HO1_ := Lib.hid ho1
  have hle1 : W0.heap.size ≤ W1.heap.size := by
    rw [← hW1]
    have h1 := HS1.out.size
    have h2 := HG1.out.size
    have h3 : (w1'.setCell ⟨b, 1, none⟩ (.slice B1 n1 d1)).heap.size = w1'.heap.size := by simp [World.setCell]
    omega
  have HLE2 := Lib.hid hle1
  clear hle1 hc1 ho1 hW1 k1 f1 hq1 hwl1
  have hs2 : Below W1.heap.size W1 (W1.alloc (.cells #[] 9)) := (Below.refl _ _).alloc (Nat.le_refl _) _
  have HS2 := Lib.hid hs2
  have hq2 := (H1.out.box.below hs2 H1.out.box.lt).cell 2
  simp only [List.getElem?_toArray, List.getElem?_cons_zero, List.getElem?_cons_succ] at hq2
  have HO2 := Lib.hid (own_empty40 W1 9 1)
  have hwl2 : w.heap.size ≤ W1.heap.size := H1.out.ch.size
  clear hs2
  go_upto_region 3 with (at_builtin; go_loud (refine wpList_append_any _ rfl _ _ 22 rfl W1.heap.size 9 i0 (.string ByteArray.empty) 1 16 Tryz.underlying22 hi hz0 hz1 hz2 rfl (by decide) _ _ _ rfl HO2.out w.heap.size A2 n2 c2 (l2.map Value.string) rfl (HR2.out _ (H1.out.ch.trans (HS2.out.mono H1.out.ch.size))) (str_one l2) (by unfold maxLen; omega) (by omega) (by simp) ?_; intro v' w2' hown' hgrow hx'; obtain ⟨B2, d2, rfl, -, -⟩ := ownsRow_form hown'; rw [Nat.zero_add, List.nil_append] at hown'; have hst := CpR.step H1.out HBW.out HS2.out hgrow (fun q hq => by injection hq with hq; subst hq; exact Nat.le_refl _); have HST2 := Lib.hid hst; have HG2 := Lib.hid hgrow; have k2 := hst.2.1.cell 2; have f2 := hst.2.1.frozen 2; have HW2 := Lib.hid hown'; clear hst hown' hgrow hx'; (try rw [Nat.zero_add])))
  have hc2 : CpR w b hd (.slice B1 n1 d1) (.slice B2 n2 d2) (.slice A3 n3 c3) (w2'.setCell ⟨b, 2, none⟩ (.slice B2 n2 d2)) := by
    have hbx := HST2.out.2.1.set_ 2 (.slice B2 n2 d2)
    simp only [List.setIfInBounds_toArray, List.set_cons_zero, List.set_cons_succ] at hbx
    exact ⟨HST2.out.1.trans (((ChgS.refl (fun c => c = b) w2').setCell (p := ⟨b, 2, none⟩) (.inl rfl) _).below (B := w.heap.size) (fun c hc => by have := HBW.out; omega) HST2.out.1.size), hbx, HST2.out.2.2.far (p := ⟨b, 2, none⟩) (by show b + 1 ≠ b; omega) _⟩
  have ho1 := own_step (b := b) (k := 2) (u := .slice B2 n2 d2) HO1_.out (by have h1 := H0.out.res.lt; omega) HS2.out HG2.out (Nat.le_refl _)
  have ho2 : (w2'.setCell ⟨b, 2, none⟩ (.slice B2 n2 d2)).ownsRow W0.heap.size 9 1 (.slice B2 n2 d2) n2 (l2.map Value.string) := own_chgS (S := fun c => c = b) (own_mono HW2.out (by exact HLE2.out)) ((ChgS.refl (fun c => c = b) w2').setCell (p := ⟨b, 2, none⟩) (.inl rfl) _) (fun c hc e => by have h1 := (HW2.out.lt c hc).1; have h2 := H1.out.box.lt; omega)
  obtain ⟨W2, hW2⟩ : ∃ W, w2'.setCell ⟨b, 2, none⟩ (.slice B2 n2 d2) = W := ⟨_, rfl⟩
  rw [hW2] at hc2 ho1 ho2 ⊢
  have H2 := Lib.hid hc2; have HO1_ := Lib.hid ho1; have HO2_ := Lib.hid ho2
  have hle2 : W0.heap.size ≤ W2.heap.size := by
    rw [← hW2]
    have h1 := HS2.out.size
    have h2 := HG2.out.size
    have h3 : (w2'.setCell ⟨b, 2, none⟩ (.slice B2 n2 d2)).heap.size = w2'.heap.size := by simp [World.setCell]
    have h4 := HLE2.out
    omega
  have HLE3 := Lib.hid hle2
  clear hle2 hc2 ho1 ho2 hW2 k2 f2 hq2 hwl2
  have hs3 : Below W2.heap.size W2 (W2.alloc (.cells #[] 9)) := (Below.refl _ _).alloc (Nat.le_refl _) _
  have HS3 := Lib.hid hs3
  have hq3 := (H2.out.box.below hs3 H2.out.box.lt).cell 3
  simp only [List.getElem?_toArray, List.getElem?_cons_zero, List.getElem?_cons_succ] at hq3
  have HO3 := Lib.hid (own_empty40 W2 9 1)
  have hwl3 : w.heap.size ≤ W2.heap.size := H2.out.ch.size
  clear hs3
  go_upto_region 4 with (at_builtin; go_loud (refine wpList_append_any _ rfl _ _ 22 rfl W2.heap.size 9 i0 (.string ByteArray.empty) 1 16 Tryz.underlying22 hi hz0 hz1 hz2 rfl (by decide) _ _ _ rfl HO3.out w.heap.size A3 n3 c3 (l3.map Value.string) rfl (HR3.out _ (H2.out.ch.trans (HS3.out.mono H2.out.ch.size))) (str_one l3) (by unfold maxLen; omega) (by omega) (by simp) ?_; intro v' w3' hown' hgrow hx'; obtain ⟨B3, d3, rfl, -, -⟩ := ownsRow_form hown'; rw [Nat.zero_add, List.nil_append] at hown'; have hst := CpR.step H2.out HBW.out HS3.out hgrow (fun q hq => by injection hq with hq; subst hq; exact Nat.le_refl _); have HST3 := Lib.hid hst; have HG3 := Lib.hid hgrow; have k3 := hst.2.1.cell 3; have f3 := hst.2.1.frozen 3; have HW3 := Lib.hid hown'; clear hst hown' hgrow hx'; (try rw [Nat.zero_add])))
  have hc3 : CpR w b hd (.slice B1 n1 d1) (.slice B2 n2 d2) (.slice B3 n3 d3) (w3'.setCell ⟨b, 3, none⟩ (.slice B3 n3 d3)) := by
    have hbx := HST3.out.2.1.set_ 3 (.slice B3 n3 d3)
    simp only [List.setIfInBounds_toArray, List.set_cons_zero, List.set_cons_succ] at hbx
    exact ⟨HST3.out.1.trans (((ChgS.refl (fun c => c = b) w3').setCell (p := ⟨b, 3, none⟩) (.inl rfl) _).below (B := w.heap.size) (fun c hc => by have := HBW.out; omega) HST3.out.1.size), hbx, HST3.out.2.2.far (p := ⟨b, 3, none⟩) (by show b + 1 ≠ b; omega) _⟩
  have ho1 := own_step (b := b) (k := 3) (u := .slice B3 n3 d3) HO1_.out (by have h1 := H0.out.res.lt; omega) HS3.out HG3.out (Nat.le_refl _)
  have ho2 := own_step (b := b) (k := 3) (u := .slice B3 n3 d3) HO2_.out (by have h1 := H0.out.res.lt; omega) HS3.out HG3.out (Nat.le_refl _)
  have ho3 : (w3'.setCell ⟨b, 3, none⟩ (.slice B3 n3 d3)).ownsRow W0.heap.size 9 1 (.slice B3 n3 d3) n3 (l3.map Value.string) := own_chgS (S := fun c => c = b) (own_mono HW3.out (by exact HLE3.out)) ((ChgS.refl (fun c => c = b) w3').setCell (p := ⟨b, 3, none⟩) (.inl rfl) _) (fun c hc e => by have h1 := (HW3.out.lt c hc).1; have h2 := H2.out.box.lt; omega)
  obtain ⟨W3, hW3⟩ : ∃ W, w3'.setCell ⟨b, 3, none⟩ (.slice B3 n3 d3) = W := ⟨_, rfl⟩
  rw [hW3] at hc3 ho1 ho2 ho3 ⊢
  have H3 := Lib.hid hc3; have HO1_ := Lib.hid ho1; have HO2_ := Lib.hid ho2; have HO3_ := Lib.hid ho3
  have hle3 : W0.heap.size ≤ W3.heap.size := by
    rw [← hW3]
    have h1 := HS3.out.size
    have h2 := HG3.out.size
    have h3 : (w3'.setCell ⟨b, 3, none⟩ (.slice B3 n3 d3)).heap.size = w3'.heap.size := by simp [World.setCell]
    have h4 := HLE3.out
    omega
  have HLE4 := Lib.hid hle3
  clear hle3 hc3 ho1 ho2 ho3 hW3 k3 f3 hq3 hwl3
  have k0 := H3.out.box.cell 0; have k1 := H3.out.box.cell 1; have k2 := H3.out.box.cell 2; have k3 := H3.out.box.cell 3
  have y0 := H3.out.res.cell 0; have y1 := H3.out.res.cell 1; have y2 := H3.out.res.cell 2; have y3 := H3.out.res.cell 3
  have e0 := H3.out.res.frozen 0; have e1 := H3.out.res.frozen 1; have e2 := H3.out.res.frozen 2; have e3 := H3.out.res.frozen 3
  have hfb := (((H3.out.res.set_ 0 (.string hd)).set_ 1 (.slice B1 n1 d1)).set_ 2 (.slice B2 n2 d2)).set_ 3 (.slice B3 n3 d3)
  simp only [List.setIfInBounds_toArray, List.set_cons_zero, List.set_cons_succ] at hfb
  have q0 := hfb.cell 0; have q1 := hfb.cell 1; have q2 := hfb.cell 2; have q3 := hfb.cell 3
  simp only [List.getElem?_toArray, List.getElem?_cons_zero, List.getElem?_cons_succ] at k0 k1 k2 k3 y0 y1 y2 y3 q0 q1 q2 q3
  have hch := ((((ChgS.refl (fun k => k = b + 1) W3).setCell (p := ⟨b + 1, 0, none⟩) (.inl rfl) (.string hd)).setCell (p := ⟨b + 1, 1, none⟩) (.inl rfl) (.slice B1 n1 d1)).setCell (p := ⟨b + 1, 2, none⟩) (.inl rfl) (.slice B2 n2 d2)).setCell (p := ⟨b + 1, 3, none⟩) (.inl rfl) (.slice B3 n3 d3)
  have hb12 : b + 1 < W0.heap.size := H0.out.res.lt
  have p1 := own_chgS HO1_.out hch (fun c hc e => by have h1 := (HO1_.out.lt c hc).1; omega)
  have p2 := own_chgS HO2_.out hch (fun c hc e => by have h1 := (HO2_.out.lt c hc).1; omega)
  have p3 := own_chgS HO3_.out hch (fun c hc e => by have h1 := (HO3_.out.lt c hc).1; omega)
  have hbel := H3.out.ch.trans (hch.below (B := w.heap.size) (fun k hk => by have := HBW.out; omega) H3.out.ch.size)
  have P1 := Lib.hid p1; have P2 := Lib.hid p2; have P3 := Lib.hid p3; have BEL := Lib.hid hbel
  have Q0 := Lib.hid q0; have Q1 := Lib.hid q1; have Q2 := Lib.hid q2; have Q3 := Lib.hid q3
  have HB12 := Lib.hid hb12
  clear hfb hch p1 p2 p3 hbel q0 q1 q2 q3 hb12
  go_wp2
  have hlt : ∀ c, W0.heap.size ≤ c → w.heap.size ≤ c := fun c hc => by have h1 := HBW.out; have h2 := HB12.out; omega
  refine bodyPost_ret (v := aggM [.string hd, .slice B1 n1 d1, .slice B2 n2 d2, .slice B3 n3 d3]) (by simp [results, Tryz.results60, go_sem, Q0.out, Q1.out, Q2.out, Q3.out]) rfl ⟨_, rfl, ⟨_, _, _, rfl, ?_, ?_, ?_⟩, BEL.out⟩
  · exact wdF_own (base := W0.heap.size) (by rw [HN1.out]; exact P1.out) (fun k hk => ⟨hlt _ (P1.out.lt k hk).1, (P1.out.lt k hk).2⟩)
  · exact txF_own (base := W0.heap.size) (by rw [HN2.out]; exact P2.out) (fun k hk => ⟨hlt _ (P2.out.lt k hk).1, (P2.out.lt k hk).2⟩)
  · exact txF_own (base := W0.heap.size) (by rw [HN3.out]; exact P3.out) (fun k hk => ⟨hlt _ (P3.out.lt k hk).1, (P3.out.lt k hk).2⟩)
end Go.Proofs.YtgkpoopiamicnaaGreatDoor
