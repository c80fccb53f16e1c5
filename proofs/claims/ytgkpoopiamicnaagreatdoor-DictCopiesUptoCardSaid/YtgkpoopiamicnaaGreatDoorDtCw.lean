/-
  Layer 40: DictCopies: the walk. Conditions: letters and articles that are read.
-/
import Derived.Test.YtgkpoopiamicnaaGreatDoorDtCs
namespace Go.Proofs.YtgkpoopiamicnaaGreatDoor
open Go.RowKit Go.Lib

/-- A list of one's own, read. -/
theorem GR.arts {w w0 : World} {l : List Art} {v : Value} {xs : List Value} (h : GR ArtZ 4 42 w w0 l v xs) : ArtsF w0 (NewS w w0) l v :=
  slF_own h.own (fun b hb => World.ownsRow.lt h.own b hb) (RowsF.imp (F := ArtZ) (F' := ArtF) h.rows fun _ _ hy => ArtF.keep hy (fun _ hc => ⟨hc.1.1, hc.1.2.1⟩) (fun _ _ => rfl))
/-- The first sound of a valid word, read. -/
theorem first_snd {W : World} {S : Nat → Prop} {ws : List Snd} {A : Option Addr} {n c : Nat} (h : WdF W S ws (.slice A n c)) (hv : wordE ws = 0) : ¬ (0 : Int) < (n : Int) ∨ ((0 : Int) < (n : Int) ∧ ∃ az p q, A = some az ∧ W.cell? az = some (.int .u32 (p : Nat)) ∧ W.cell? ⟨az.block, az.off + 1, none⟩ = some (.int .u32 (q : Nat)) ∧ ((((p : Nat) : Int) == 1) = false ∨ ((((p : Nat) : Int) == 1) = true ∧ (((q : Nat) : Int) == 1) = false))) := by
  obtain ⟨A', c', e, -, hr⟩ := h
  injection e with e1 e2 e3
  subst e1 e2
  cases ws with
  | nil => left; simp
  | cons s ws =>
    right
    obtain ⟨ad, rfl, hb, hc⟩ := hr.2 (by simp)
    have h0 := hc 0 _ rfl
    have h1 := hc 1 _ rfl
    rw [Addr.add_zero'] at h0
    have hs := validS_one hv s List.mem_cons_self
    have hn : (0 : Int) < (((s :: ws).length : Nat) : Int) := by simp
    refine ⟨hn, ad, s.1, s.2, rfl, h0, by rw [show (1 : Nat) = 0 + (0 + 1) from rfl, add_next, Addr.add_zero'] at h1; exact h1, ?_⟩
    by_cases e : s.1 = 1
    · right
      exact ⟨by rw [e]; rfl, beq_false_of_ne (fun h => hs ⟨e, by omega⟩)⟩
    · left
      exact beq_false_of_ne (by omega)
theorem first_txt {W : World} {S : Nat → Prop} {l : List ByteArray} {A : Option Addr} {n c : Nat} (h : TxF W S l (.slice A n c)) (hv : ∀ t ∈ l, t.size ≠ 0) : ¬ (0 : Int) < (n : Int) ∨ ((0 : Int) < (n : Int) ∧ ∃ az t, A = some az ∧ W.cell? az = some (.string t) ∧ (t.toList == []) = false) := by
  obtain ⟨A', c', e, -, hr⟩ := h
  injection e with e1 e2 e3
  subst e1 e2
  cases l with
  | nil => left; simp
  | cons s l =>
    right
    obtain ⟨ad, rfl, hb, hc⟩ := hr.2 (by simp)
    have h0 := hc 0 _ rfl
    rw [Addr.add_zero'] at h0
    have hs := hv s List.mem_cons_self
    have hn : (0 : Int) < (((s :: l).length : Nat) : Int) := by simp
    refine ⟨hn, ad, s, rfl, h0, ?_⟩
    rw [Lib.toList_data]
    cases hl : s.data.toList with
    | nil => exact absurd (by have := bl_len s; unfold bl at this; rw [hl] at this; exact this.symm) hs
    | cons b l => rfl
theorem see_head {gs : Grps} {x : Art} (h : GoodA gs x) : ∀ t ∈ x.see, t.size ≠ 0 := fun t ht => (headB_iff.1 (List.all_eq_true.1 h.see.2.1 t ht)).1
set_option linter.unusedSimpArgs false in
set_option maxRecDepth 20000 in
set_option maxHeartbeats 8000000 in
theorem dictCopies_law (w : World) (A1 : Option Addr) (n1 c1 : Nat) (ss : List ByteArray) (hr : ReadS w w.heap.size A1 n1 ss) (hn : n1 ≤ 1048576) (hss : ∀ s ∈ ss, s.size ≤ 1048576)
    (v2 : Value) (l : List Art) (hl : ArtsF w (fun b => b < w.heap.size) l v2) (hok : ∀ x ∈ l, ArtOk x) (hll : l.length ≤ 1048576) (x : Art) (xs : List Value) (hx : ArtF w (fun b => b < w.heap.size) x xs) (hxo : ArtOk x) :
    Calls Tryz.prog 4 #[.slice A1 n1 c1, v2, aggM xs] w (BoolPost w true) := by
  obtain ⟨A2, c2, rfl, hc2, hc3⟩ := hl.form
  obtain ⟨X1, y1, X2, y2, X3, y3, rfl⟩ := hx.form
  dsimp only [aggM]
  obtain ⟨wA, hwA⟩ : ∃ W, w.alloc (.cells #[.string x.head, .slice X1 x.word.length y1, .slice X2 x.texts.length y2, .slice X3 x.see.length y3] 42) = W := ⟨_, rfl⟩
  have hbA : Below w.heap.size w wA := hwA ▸ (Below.refl _ _).alloc (Nat.le_refl _) _
  have hbx : Blk wA w.heap.size 42 #[.string x.head, .slice X1 x.word.length y1, .slice X2 x.texts.length y2, .slice X3 x.see.length y3] := hwA ▸ Blk.new w _ _
  have hm1 := made_at wA A1 n1 c1 1048576 ss (show ReadS _ _ _ _ _ from (Reads.below hr hbA).more hbA.size) (by omega) (by omega) (by omega) hss A2 l.length c2 l (fun b => b < w.heap.size) (hl.keep (fun b hb => hb) (keepS_below hbA fun b hb => hb)) (fun b hb => Nat.lt_of_lt_of_le hb hbA.size) hok (by omega)
  have hsA : wA.heap.size = w.heap.size + 1 := by rw [← hwA, World.size_alloc]
  have HBX := Lib.hid hbx; have HX := Lib.hid hx; have HXO := Lib.hid hxo; have HBA := Lib.hid hbA; have HSA := Lib.hid hsA
  clear hl hok hr hss hc2 hc3 hbx hx hxo hbA hsA
  generalize l.length = n2 at *
  go_enter Tryz.func4, Tryz.ntmps4
  go_upto_region 1 with fail

  clear hwA
  go_wp2_with fail
  refine hm1.mono ?_
  rintro e w1 ⟨hbad, hgood, hb1⟩
  have HB1 := Lib.hid (HBA.out.trans (hb1.mono HBA.out.size)); have HBA1 := Lib.hid hb1
  have hwk := works_any w1
  by_cases h40 : n1 ≤ 40
  case neg =>
    have h40I : (40 : Int) < (n1 : Int) := by omega
    have hex : ∃ v, e = .returned v := by
      by_cases herr : newErr ss = 0
      · obtain ⟨g, B, D, e1, -⟩ := hgood herr; exact ⟨_, e1⟩
      · exact ⟨_, hbad herr⟩
    obtain ⟨v, rfl⟩ := hex
    clear hm1 hbad hgood hb1
    go_wp2_with fail
    refine hwk.mono ?_
    rintro e w2 ⟨rfl, hb2⟩
    have HB2 := Lib.hid (HB1.out.trans (hb2.mono HB1.out.size))
    clear hb2 hwk
    go_wp2
    go_ret
    exact ⟨rfl, HB2.out⟩
  case pos =>
  have h40I : ¬ (40 : Int) < (n1 : Int) := by omega
  by_cases h30 : n2 ≤ 30
  case neg =>
    have h30I : (30 : Int) < (n2 : Int) := by omega
    have hex : ∃ v, e = .returned v := by
      by_cases herr : newErr ss = 0
      · obtain ⟨g, B, D, e1, -⟩ := hgood herr; exact ⟨_, e1⟩
      · exact ⟨_, hbad herr⟩
    obtain ⟨v, rfl⟩ := hex
    clear hm1 hbad hgood hb1
    go_wp2_with fail
    refine hwk.mono ?_
    rintro e w2 ⟨rfl, hb2⟩
    have HB2 := Lib.hid (HB1.out.trans (hb2.mono HB1.out.size))
    clear hb2 hwk
    go_wp2
    go_ret
    exact ⟨rfl, HB2.out⟩
  case pos =>
  have h30I : ¬ (30 : Int) < (n2 : Int) := by omega
  by_cases herr : newErr ss = 0
  case neg =>
    obtain rfl := hbad herr
    clear hm1 hbad hgood hb1
    go_wp2_with fail
    refine hwk.mono ?_
    rintro e w2 ⟨rfl, hb2⟩
    have HB2 := Lib.hid (HB1.out.trans (hb2.mono HB1.out.size))
    clear hb2 hwk
    go_wp2
    go_ret
    exact ⟨rfl, HB2.out⟩
  case pos =>
  obtain ⟨g, B, D, rfl, hB, hd⟩ := hgood herr
  clear hm1 hbad hgood hb1 hwk
  generalize groupsB ss = gs at *
  generalize putAll gs l = L at *
  have hgd := hd.dict.good
  have hlen := hgd.len
  have hcp := copy_at hd
  have hBl := hd.low
  have HD1 := Lib.hid hd; have HG := Lib.hid hgd; have HBL := Lib.hid hBl; have HBw := Lib.hid hB
  clear hd hgd hBl hB
  go_wp2_with fail
  refine hcp.mono ?_
  rintro e w2 ⟨g2, rfl, hd2, hb2⟩
  have hz := list_atz (HD1.out.below hb2)
  have HD2 := Lib.hid hd2; have HB2 := Lib.hid hb2
  clear hcp hd2 hb2
  go_wp2_with fail
  refine hz.mono ?_
  rintro e w3 ⟨vm, xm, rfl, hgr⟩
  obtain ⟨AM, cM, rfl, hcM1, hcM2⟩ := ownsRow_form hgr.own
  have hb23 := hgr.ch
  have hd3 := HD2.out.below hb23
  have hbA3 : Below wA.heap.size wA w3 := HBA1.out.trans ((HB2.out.trans (hb23.mono HB2.out.size)).mono HBA1.out.size)
  have hx3 := HBX.out.below hbA3 (by have := HSA.out; omega)
  have k0 := hx3.cell 0; have k1 := hx3.cell 1; have k2 := hx3.cell 2; have k3 := hx3.cell 3
  simp only [List.getElem?_toArray, List.getElem?_cons_zero, List.getElem?_cons_succ] at k0 k1 k2 k3
  have hxf3 : ArtF w3 (fun b => b < w.heap.size) x _ := HX.out.keep (fun b hb => hb) (keepS_below (HBA.out.trans (hbA3.mono HBA.out.size)) fun b hb => hb)
  have hp := put_at hd3 x _ _ hxf3 (fun b hb => ⟨by have h1 := HBA.out.size; have h2 := hbA3.size; omega, fun h => by have h1 := HBA.out.size; have h2 := HBA1.out.size; have h3 := h.1; omega⟩) HXO.out
  dsimp only [aggM] at hp
  have hs1 : wA.heap.size ≤ w1.heap.size := HBA1.out.size
  have hs2 : w1.heap.size ≤ w2.heap.size := HB2.out.size
  have hs3 : w2.heap.size ≤ w3.heap.size := hb23.size
  have HGR := Lib.hid hgr; have HB23 := Lib.hid hb23; have HX3 := Lib.hid hx3; have HBA3 := Lib.hid hbA3; have HXF3 := Lib.hid hxf3
  have HS1 := Lib.hid hs1; have HS2 := Lib.hid hs2; have HS3 := Lib.hid hs3
  clear hz hgr hb23 hd3 hbA3 hx3 hxf3 hs1 hs2 hs3
  obtain ⟨m, hm⟩ : ∃ m, L.length = m := ⟨_, rfl⟩
  have HM := Lib.hid hm
  rw [hm] at HGR hcM1 hlen ⊢
  clear hm
  go_wp2_with fail
  refine hp.mono ?_
  rintro e w4 ⟨rfl, D4, hd4, hD4, hc4⟩
  have hx4 := HX3.out.chgS hc4 (fun h => by have h1 := h.1; have h2 := HS1.out; have h3 := HSA.out; omega)
  have z0 := hx4.cell 0
  simp only [List.getElem?_toArray, List.getElem?_cons_zero, List.getElem?_cons_succ] at z0
  have hrm : Calls Tryz.prog 22 #[wptr g2, .string x.head] w4 (fun e w' => (∃ k, e = .returned (.int .i64 k)) ∧ ChgS D4 w4 w') := (remove_at hd4 x.head HXO.out.head).mono fun e w' ⟨h1, _, h2⟩ => ⟨⟨_, h1⟩, h2⟩
  have HD4 := Lib.hid hd4; have HDD4 := Lib.hid hD4; have HC4 := Lib.hid hc4
  clear hp k0 k1 k2 k3 hd4 hD4 hc4 hx4
  go_wp2_with fail
  refine hrm.mono ?_
  rintro e w5 ⟨⟨rk, rfl⟩, hc5⟩
  have hc35 : ChgS (fun b => w1.heap.size ≤ b ∧ b < w2.heap.size) w3 w5 := HC4.out.new hc5 (fun i hi h => (HDD4.out i h).resolve_right (by omega))
  have hdc : ∀ W, ChgS (fun b => w1.heap.size ≤ b ∧ b < w2.heap.size) w3 W → DictAt W B (wptr g) gs L D := fun W hc => ((HD1.out.below HB2.out).below HB23.out).chg hc (fun b hb => Nat.le_trans HBL.out hb.1) (fun b hb h => by have h1 := (HD1.out.lt b hb).2; have h2 := h.1; omega)
  have hmc : ∀ W, ChgS (fun b => w1.heap.size ≤ b ∧ b < w2.heap.size) w3 W → KeepH (NewS w2 w3) w3 W := fun W hc b hb => hc.block b hb.2 (fun h => by have h1 := hb.1; have h2 := h.2; omega)
  have hxc : ∀ W, ChgS (fun b => w1.heap.size ≤ b ∧ b < w2.heap.size) w3 W → W.cell? ⟨w.heap.size, 0, none⟩ = some (.string x.head) ∧ W.cell? ⟨w.heap.size, 1, none⟩ = some (.slice X1 x.word.length y1) ∧ W.cell? ⟨w.heap.size, 2, none⟩ = some (.slice X2 x.texts.length y2) ∧ W.cell? ⟨w.heap.size, 3, none⟩ = some (.slice X3 x.see.length y3) := fun W hc => by
    have y := HX3.out.chgS hc (fun h => by have h1 := h.1; have h2 := HS1.out; have h3 := HSA.out; omega)
    exact ⟨y.cell 0, y.cell 1, y.cell 2, y.cell 3⟩
  have hxf : ∀ W, ChgS (fun b => w1.heap.size ≤ b ∧ b < w2.heap.size) w3 W → ArtF W (fun b => b < w.heap.size) x [.string x.head, .slice X1 x.word.length y1, .slice X2 x.texts.length y2, .slice X3 x.see.length y3] := fun W hc => HXF3.out.keep (fun b hb => hb) (keepS_chg hc (fun b hb => by have h1 := HS1.out; have h2 := HSA.out; have h3 := HS2.out; have h4 := HS3.out; omega) (fun b hb h => by have h1 := h.1; have h2 := HS1.out; have h3 := HSA.out; omega))
  have hbw : ∀ W, ChgS (fun b => w1.heap.size ≤ b ∧ b < w2.heap.size) w3 W → Below w.heap.size w W := fun W hc => (HB1.out.trans ((HB2.out.trans (HB23.out.mono HB2.out.size)).mono HB1.out.size)).trans (hc.below (B := w.heap.size) (fun b hb => Nat.le_trans HB1.out.size hb.1) (by have h1 := HB1.out.size; have h2 := HS2.out; have h3 := HS3.out; omega))
  have hli := list_in (hdc w5 hc35).dict
  have HC35 := Lib.hid hc35; have HDC := Lib.hid hdc; have HMC := Lib.hid hmc; have HXC := Lib.hid hxc; have HXF := Lib.hid hxf; have HBWW := Lib.hid hbw
  clear hrm hc5 z0 hc35 hdc hmc hxc hxf hbw HC4 HDD4 HD4 HX3 HXF3
  go_wp2_with fail
  refine hli.mono ?_
  rintro e w6 ⟨vl, rfl, hvl, hb6⟩
  have hc36 := HC35.out.new (T := fun _ => False) (.of_below hb6) (fun _ _ h => h.elim)
  have hvm : ArtsF w6 (fun b => b < w6.heap.size) L (.slice AM m cM) := HGR.out.arts.keep (fun b hb => Nat.lt_of_lt_of_le hb.2 hc36.size) (HMC.out w6 hc36).cells
  have hae := articles_eq w6 L vl _ _ _ hvl hvm (fun b hb => hb.2) (fun b hb => hb)
  obtain ⟨AL, cL, rfl, -, -⟩ := hvl.form
  have HC36 := Lib.hid hc36
  rw [HM.out] at hae ⊢
  clear hli hvl hb6 hc36 hvm
  go_wp2_with fail
  refine hae.mono ?_
  rintro e w7 ⟨rfl, hb7⟩
  have hc37 := HC36.out.new (T := fun _ => False) (.of_below hb7) (fun _ _ h => h.elim)
  have hcd : ChgS (fun b => w1.heap.size ≤ b ∧ b < w2.heap.size) w3 w7.drew := hc37.drewN 1
  have hcp2 := copy_at (HDC.out w7.drew hcd)
  obtain ⟨k0, k1, k2, k3⟩ := HXC.out w7 hc37
  have HC37 := Lib.hid hc37; have HCD := Lib.hid hcd; have HCP2 := Lib.hid hcp2
  clear hae hb7 hc37 hcd hcp2
  obtain ⟨ee, hee⟩ : ∃ k, artE gs L x = k := ⟨_, rfl⟩
  have HEE := Lib.hid hee
  rw [hee]
  clear hee
  go_upto_region 12 with fail
  refine wp_region_held_drew (S := (fun W => W.cell? ⟨w.heap.size, 0, none⟩ = some (.string x.head) ∧ W.cell? ⟨w.heap.size, 1, none⟩ = some (.slice X1 x.word.length y1) ∧ W.cell? ⟨w.heap.size, 2, none⟩ = some (.slice X2 x.texts.length y2) ∧ W.cell? ⟨w.heap.size, 3, none⟩ = some (.slice X3 x.see.length y3))) (by kernel_rfl) ?_ (fun hHeld => ?_)
  · (try dsimp only)
    exact HXC.out _ (by first | exact HCD.out | exact HC8.out | exact HC9.out)
  refine wpAnyH_take (i := 0) (v := ?_) rfl (by kernel_rfl) (by kernel_rfl) (by kernel_rfl) (fun _ _ _ h => h) (Or.inl ⟨by rfl, ?_⟩) (by assumption) ?_
  rotate_left
  · intro w hSw
    (try dsimp only at hSw)
    go_simp <;> with_reducible rfl
  try simp only [Act.put, List.getElem_toArray, List.getElem_cons_succ, List.getElem_cons_zero, List.setIfInBounds_toArray, List.set_cons_zero, List.set_cons_succ]
  refine wpAnyH_take (i := 2) (v := ?_) rfl (by kernel_rfl) (by kernel_rfl) (by kernel_rfl) (fun _ _ _ h => h) (Or.inl ⟨by rfl, ?_⟩) (by assumption) ?_
  rotate_left
  · intro w hSw
    (try dsimp only at hSw)
    go_simp <;> with_reducible rfl
  try simp only [Act.put, List.getElem_toArray, List.getElem_cons_succ, List.getElem_cons_zero, List.setIfInBounds_toArray, List.set_cons_zero, List.set_cons_succ]
  refine wpAnyH_ready (rs := [1]) (by kernel_rfl) (by simp) ?_
  refine AllReadyH.cons rfl (fun K hK => ?_) AllReadyH.nil
  go_simp
  (try go_wp2_with fail)
  refine HCP2.out.mono ?_
  rintro e w8 ⟨g3, rfl, hd8, hb8⟩
  have HC8 := Lib.hid (HCD.out.new (T := fun _ => False) (.of_below hb8) (fun _ _ h => h.elim))
  have HD8 := Lib.hid hd8; have HB8 := Lib.hid hb8
  clear hd8 hb8
  (try go_simp)
  refine hK.out _ _ ?_ (fun hHeld' => ?_)
  · (try dsimp only)
    exact HXC.out _ (by first | exact HCD.out | exact HC8.out | exact HC9.out)
  clear hK K hHeld
  have hHeld := hHeld'
  clear hHeld'
  refine wpAnyH_ready (rs := [3]) (by kernel_rfl) (by simp) ?_
  refine AllReadyH.cons rfl (fun K hK => ?_) AllReadyH.nil
  go_simp
  (try go_wp2_with fail)
  refine (put_at HD8.out x _ _ (HXF.out w8 HC8.out) (fun b hb => ⟨Nat.lt_of_lt_of_le hb (HBWW.out w8 HC8.out).size, fun h => by have h1 := h.1; have h2 := HCD.out.size; have h3 := HS1.out; have h4 := HS2.out; have h5 := HS3.out; have h6 := HSA.out; omega⟩) HXO.out).mono ?_
  rintro e w9 ⟨rfl, D9, -, -, hc9⟩
  have HC9 := Lib.hid (HC8.out.new hc9 (fun i hi h => by have h1 := h.1; have h2 := HCD.out.size; omega))
  clear hc9
  (try go_simp)
  refine hK.out _ _ ?_ (fun hHeld' => ?_)
  · (try dsimp only)
    exact HXC.out _ (by first | exact HCD.out | exact HC8.out | exact HC9.out)
  clear hK K hHeld
  have hHeld := hHeld'
  clear hHeld'
  refine wpAnyH_take (i := 4) (v := ?_) rfl (by kernel_rfl) (by kernel_rfl) (by kernel_rfl) (fun _ _ _ h => h) (Or.inl ⟨by rfl, ?_⟩) (by assumption) ?_
  rotate_left
  · intro w hSw
    (try dsimp only at hSw)
    go_simp <;> with_reducible rfl
  try simp only [Act.put, List.getElem_toArray, List.getElem_cons_succ, List.getElem_cons_zero, List.setIfInBounds_toArray, List.set_cons_zero, List.set_cons_succ]
  refine wpAnyH_done (by kernel_rfl) ?_ _
  rw [HEE.out]
  clear hHeld k0 k1 k2 k3
  obtain ⟨TT, hTT⟩ : ∃ T : Nat → Prop, T = fun b => w2.heap.size ≤ b ∧ b < w3.heap.size ∧ ∀ ad, AM = some ad → b ≠ ad.block := ⟨_, rfl⟩
  have hTl : ∀ b, TT b → b < w9.heap.size := fun b hb => by rw [hTT] at hb; exact Nat.lt_of_lt_of_le hb.2.1 HC9.out.size
  have hTd : ∀ W, LikeT TT w9 W → DictAt W B (wptr g) gs L D := fun W hW => (HDC.out w9 HC9.out).chg hW.ch (fun b hb => by rw [hTT] at hb; have h1 := HBL.out; have h2 := HS2.out; omega) (fun b hb h => by rw [hTT] at h; have h1 := (HD1.out.lt b hb).2; have h2 := HS2.out; omega)
  have hTw : ∀ W, LikeT TT w9 W → Below w.heap.size w W := fun W hW => (HBWW.out w9 HC9.out).trans (hW.ch.below (fun b hb => by rw [hTT] at hb; have h1 := HB1.out.size; have h2 := HS2.out; omega) (HBWW.out w9 HC9.out).size)
  have HTT := Lib.hid hTT; have HTL := Lib.hid hTl; have HTD := Lib.hid hTd; have HTW := Lib.hid hTw
  clear hTT hTl hTd hTw
  go_wp2
  go_loopw [12, 13, 14, 15, 16] (fun i _ _ _ _ wr => ∃ k : Nat, k ≤ m ∧ i = .int .i64 k ∧ LikeT TT w9 wr) (fun i _ _ _ _ _ => m - (RowKit.intOf i).toNat)
  case atStart => exact ⟨0, by omega, rfl, LikeT.refl⟩
  case round =>
    obtain ⟨i, hi, rfl, hlk⟩ := hrel
    have HLK := Lib.hid hlk
    clear hlk
    by_cases hlt : i < m
    · have hiI : (i : Int) < (m : Int) := by omega
      have hil : i < L.length := by rw [HM.out]; exact hlt
      obtain ⟨ad, Y1, o1, Y2, o2, Y3, o3, rfl, hab1, hab2, hz, hrun⟩ := m_at HGR.out hil
      have hz9 : ArtZ w9 TT L[i] [.string L[i].head, .slice Y1 L[i].word.length o1, .slice Y2 L[i].texts.length o2, .slice Y3 L[i].see.length o3] := keepG_art w3 w9 _ _ _ _ (fun b hb => by rw [HTT.out]; exact ⟨hb.1, hb.2.1, fun ad' e => by injection e with e; rw [← e]; exact hb.2.2⟩) (fun b hb => HMC.out w9 HC9.out b ⟨hb.1, hb.2.1⟩) hz
      have hnt : ¬ TT ad.block := fun h => by rw [HTT.out] at h; exact h.2.2 ad rfl rfl
      have hq : ∀ W, LikeT TT w9 W → ArtCells W (ad.add (i * 4)) L[i] Y1 o1 Y2 o2 Y3 o3 := fun W hW => hrun W fun q hq2 => by
        unfold World.cell?
        rw [hq2, hW.ch.block _ (Nat.lt_of_lt_of_le hab2 HC9.out.size) hnt, HMC.out w9 HC9.out _ ⟨hab1, hab2⟩]
      obtain ⟨v1, v2, v3, e, hwd, -, htx⟩ := hz9
      simp only [List.cons.injEq, and_true, true_and] at e
      obtain ⟨e1, -, e3⟩ := e
      subst e1 e3
      have hhd := there_mem hil
      have hga := HG.out.arts _ (List.getElem_mem hil)
      have hsz := hga.size
      have hge := fun W hW => get_in (HTD.out W hW).dict L[i].head (by omega)
      rw [artOf_mem HG.out (List.getElem_mem hil), hhd] at hge
      unfold ArtCells at hq
      have HQ := Lib.hid hq; have HWD := Lib.hid hwd; have HTX := Lib.hid htx; have HGE := Lib.hid hge; have HWE := Lib.hid hga.word; have HSE := Lib.hid (see_head hga)
      have hwl : L[i].word.length ≤ 9223372036854775807 := by
        obtain ⟨_, _, e, hc, -⟩ := hwd
        unfold maxLen at hc; omega
      have hsl : L[i].see.length ≤ 9223372036854775807 := by
        obtain ⟨_, _, e, hc, -⟩ := htx
        unfold maxLen at hc; omega
      clear hz hrun hnt hq hwd htx hge hga hsz hhd hab1 hab2
      generalize L[i] = y at *
      obtain ⟨nw, hnw⟩ : ∃ n, y.word.length = n := ⟨_, rfl⟩
      obtain ⟨ns, hns⟩ : ∃ n, y.see.length = n := ⟨_, rfl⟩
      have HNW := Lib.hid hnw; have HNS := Lib.hid hns
      rw [hnw] at HQ HWD hwl
      rw [hns] at HQ HTX hsl
      clear hnw hns
      obtain ⟨W0, hW0⟩ : ∃ W, W = wr := ⟨_, rfl⟩
      subst hW0
      go_wp2
      go_loopw [13] (fun k wr => ∃ j : Nat, j ≤ nw ∧ k = .int .i64 j ∧ LikeT TT w9 wr) (fun k _ => nw - (RowKit.intOf k).toNat)
      case atStart => exact ⟨0, by omega, rfl, HLK.out⟩
      case round =>
        obtain ⟨j, hj, rfl, hlj⟩ := hrel
        have HLJ := Lib.hid hlj
        obtain ⟨q0, q1, q2, q3⟩ := HQ.out wr hlj
        clear hlj
        by_cases hjl : j < nw
        · have hjI : (j : Int) < (nw : Int) := by omega
          obtain ⟨az, rfl, ⟨hb1, hb2⟩, hc1, hc2⟩ := wd_cell HWD.out (k := j) (by rw [HNW.out]; exact hjl)
          obtain ⟨u0, e0⟩ := HLJ.out.there (az.add (j * 2)) (by rw [block_of_add]; exact hb1) hc1
          obtain ⟨u1, e1⟩ := HLJ.out.there ⟨(az.add (j * 2)).block, (az.add (j * 2)).off + 1, none⟩ (by show TT (az.add (j * 2)).block; rw [block_of_add]; exact hb1) hc2
          have hsf := HLJ.out.soft az.block hb1 hb2
          have f0 : wr.frozen? (az.add (j * 2)) = false := hsf _ (by rw [block_of_add])
          have f1 : wr.frozen? ⟨(az.add (j * 2)).block, (az.add (j * 2)).off + 1, none⟩ = false := hsf _ (by show (az.add (j * 2)).block = _; rw [block_of_add])
          have HLS := Lib.hid (fun u u' => (HLJ.out.set_ (p := az.add (j * 2)) (by rw [block_of_add]; exact hb1) u).set_ (p := ⟨(az.add (j * 2)).block, (az.add (j * 2)).off + 1, none⟩) (by show TT (az.add (j * 2)).block; rw [block_of_add]; exact hb1) u')
          have e1s : (wr.setCell (az.add (j * 2)) (.int .u32 1)).cell? ⟨(az.add (j * 2)).block, (az.add (j * 2)).off + 1, none⟩ = some u1 := (World.cell?_setCell_other _ _ _ _ (fun e => by have h := congrArg Addr.off e; simp at h)).trans e1
          have f1s : (wr.setCell (az.add (j * 2)) (.int .u32 1)).frozen? ⟨(az.add (j * 2)).block, (az.add (j * 2)).off + 1, none⟩ = false := by rw [World.frozen?_setCell]; exact f1
          clear hb1 hb2 hc1 hc2 hsf
          go_wp2
          go_roundw
          case rel => exact ⟨j + 1, hjl, by go_num, HLS.out _ _⟩
          case measure => simp [RowKit.intOf]; omega
        · obtain rfl : nw = j := by omega
          obtain ⟨W1, hW1⟩ : ∃ W, W = wr := ⟨_, rfl⟩
          subst hW1
          clear q2
          go_wp2
          clear q0 q1 q3
          go_loopw [14] (fun k wr => ∃ j : Nat, j ≤ ns ∧ k = .int .i64 j ∧ LikeT TT w9 wr) (fun k _ => ns - (RowKit.intOf k).toNat)
          case atStart => exact ⟨0, by omega, rfl, HLJ.out⟩
          case round =>
            obtain ⟨j, hj, rfl, hls⟩ := hrel
            have HLS := Lib.hid hls
            obtain ⟨q0, q1, q2, q3⟩ := HQ.out wr hls
            clear hls
            by_cases hjs : j < ns
            · have hjsI : (j : Int) < (ns : Int) := by omega
              obtain ⟨az, rfl, ⟨hb1, hb2⟩, hc1⟩ := tx_cell HTX.out (k := j) (by rw [HNS.out]; exact hjs)
              obtain ⟨u0, e0⟩ := HLS.out.there (az.add j) (by rw [block_of_add]; exact hb1) ⟨_, hc1⟩
              have f0 : wr.frozen? (az.add j) = false := HLS.out.soft az.block hb1 hb2 _ (by rw [block_of_add])
              have HLT := Lib.hid (fun u => HLS.out.set_ (p := az.add j) (by rw [block_of_add]; exact hb1) u)
              clear hb1 hb2 hc1
              go_wp2
              go_roundw
              case rel => exact ⟨j + 1, hjs, by go_num, HLT.out _⟩
              case measure => simp [RowKit.intOf]; omega
            · obtain rfl : ns = j := by omega
              have hge := HGE.out wr HLS.out
              clear q1 q2
              go_wp2_with fail
              refine hge.mono ?_
              rintro e wg ⟨cs, rfl, hxg, hbg⟩
              obtain ⟨u1, u2, u3, rfl, hw1, hw2, hw3⟩ := hxg
              obtain ⟨Z1, z1, rfl, -, -⟩ := id hw1
              obtain ⟨Z2, z2, rfl, -, -⟩ := id hw2
              obtain ⟨Z3, z3, rfl, -, -⟩ := id hw3
              dsimp only [aggM]
              have hbx := Blk.new wg 42 #[.string y.head, .slice Z1 y.word.length z1, .slice Z2 y.texts.length z2, .slice Z3 y.see.length z3]
              obtain ⟨wa, hwa⟩ : ∃ W, wg.alloc (.cells #[.string y.head, .slice Z1 y.word.length z1, .slice Z2 y.texts.length z2, .slice Z3 y.see.length z3] 42) = W := ⟨_, rfl⟩
              have hba : Below wg.heap.size wg wa := hwa ▸ (Below.refl _ _).alloc (Nat.le_refl _) _
              rw [hwa] at hbx
              have hfw := first_snd (W := wa) (S := fun b => b < wa.heap.size) (hw1.keep (fun b hb => Nat.lt_of_lt_of_le hb.2 hba.size) (keepS_below hba fun b hb => hb.2)) HWE.out
              have hft := first_txt (W := wa) (S := fun b => b < wa.heap.size) (hw3.keep (fun b hb => Nat.lt_of_lt_of_le hb.2 hba.size) (keepS_below hba fun b hb => hb.2)) HSE.out
              have HLA := Lib.hid ((HLS.out.below HTL.out hbg).below HTL.out hba)
              have x1 := hbx.cell 1; have x3 := hbx.cell 3
              simp only [List.getElem?_toArray, List.getElem?_cons_zero, List.getElem?_cons_succ] at x1 x3
              clear hge hbx hba hbg hw1 hw2 hw3 q0 q3
              generalize y.word.length = a1 at *
              generalize y.texts.length = a2 at *
              generalize y.see.length = a3 at *
              rcases hfw with hfw | ⟨hfw, az, p, q, rfl, g1, g2, g3 | ⟨g3, g4⟩⟩ <;> rcases hft with hft | ⟨hft, bz, tt, rfl, g5, g6⟩ <;>
              · go_wp2
                go_roundw
                case rel => exact ⟨i + 1, by omega, by go_num, HLA.out⟩
                case measure => simp [RowKit.intOf]; omega
    · obtain rfl : m = i := by omega
      have hwk := works_any wr
      go_wp2_with fail
      refine hwk.mono ?_
      rintro e wz ⟨rfl, hbz⟩
      have HBZ := Lib.hid ((HTW.out wr HLK.out).trans (hbz.mono (HTW.out wr HLK.out).size))
      clear hbz hwk
      go_wp2
      go_ret
      exact ⟨rfl, HBZ.out⟩
end Go.Proofs.YtgkpoopiamicnaaGreatDoor
