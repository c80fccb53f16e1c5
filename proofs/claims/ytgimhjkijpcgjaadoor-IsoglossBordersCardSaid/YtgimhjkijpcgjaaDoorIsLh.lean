/-
  IsoglossBorders: the walk, out of what New hands back. Conditions: numbers that are read. (Printed by law37h.py.)
-/
import Derived.Test.YtgimhjkijpcgjaaDoorIsFy
import Derived.Test.YtgimhjkijpcgjaaDoorIsLg
import Derived.Test.YtgimhjkijpcgjaaDoorGaw
import Derived.Deep.CutBlock
import Derived.Deep.DeepCutAuto
namespace Go.Proofs.YtgimhjkijpcgjaaDoor
open Go.RowKit Go.Lib

theorem labO_new {om : Option Pts} (h : NewO om) : labO om = lbI (lenO om) (openE (roadsO om) fun _ => true) := by
  cases om with
  | none => rfl
  | some M =>
    obtain ⟨names, roads, hE, rfl⟩ := h M rfl
    exact lab_all hE
/-- The labels of the round before. -/
def lastL (n : Nat) (R : List Rd) (gs : List (List Int)) (s : Int) : List Int := if s = -1 then [] else lbI n (borE R gs (s - 1))
theorem ReadII.one {W : World} {B k : Nat} {A : Option Addr} {gs : List (List Int)} (h : ReadII W B A k gs) (hk : 0 < gs.length) : ReadII W B A 1 [gs[0]] := by
  refine ⟨rfl, fun j hj => ?_⟩
  obtain rfl : j = 0 := by simpa using hj
  exact h.2 0 hk
set_option linter.unusedSimpArgs false in
set_option maxRecDepth 100000 in
set_option maxHeartbeats 16000000 in
theorem borders_law (hnew : NewAny) (hwk : Works37) (x8 : UInt8) (Ab : Option Addr) (mb cb : Nat) (bs : List UInt8) (A : Option Addr) (m c : Nat) (us : List UInt32) (w : World) (hmb : mb ≤ maxLen) (hb : ReadB w w.heap.size Ab mb bs) (hm : m ≤ maxLen) (h : ReadU w w.heap.size A m us) :
    Calls Tryd.prog 10 #[.int .u8 x8.toNat, .slice Ab mb cb, .slice A m c] w fun e w' => e = .returned (.bool true) ∧ Below w.heap.size w w' := by
  obtain ⟨i1, ki, kz0, kz1, kz2⟩ := info_parts (show (Tryd.prog.info? 26).map (fun i => (i.zero, i.size, i.bytes)) = some (some (.slice none 0 0), 1, 24) by kernel_rfl)
  have hf := field_any hnew x8 Ab mb cb bs w hmb hb
  have hn12 : 3 + x8.toNat % 10 ≤ 12 := by omega
  have hn3 : 3 ≤ 3 + x8.toNat % 10 := by omega
  generalize 3 + x8.toNat % 10 = n at *
  generalize (x8.toNat : Int) = xi at *
  unfold maxLen at hm
  have HF := Lib.hid hf; have HWK := Lib.hid hwk; have HU0 := Lib.hid h; have HUL := Lib.hid h.len
  clear h hf hnew hwk hb hmb
  go_enter Tryd.func10, Tryd.ntmps10
  go_wp2_with fail
  refine HF.out.mono ?_
  intro e w1 h1
  obtain ⟨g, AR, cR, R, om, rfl, hM, hG, hlen, hrd, hR40, hRR, hb1⟩ := h1.om
  have HM := Lib.hid hM; have HG := Lib.hid hG; have HLEN := Lib.hid hlen; have HRD := Lib.hid hrd; have HB1 := Lib.hid hb1
  have HU : Hid (ReadU w1 w1.heap.size A m us) := Lib.hid ((Reads.below HU0.out hb1).more hb1.size)
  clear h1 hM hG hlen hrd hRR hb1 HF HU0
  go_upto_block 0 with fail
  go_cut [9] (fun v wx => ∃ (k : Nat) (gs : List (List Int)) (A13 : Option Addr) (c13 : Nat), k ≤ 6 ∧ v = .slice A13 k c13 ∧ gs.length = k ∧ GoodL n gs ∧ ReadII wx wx.heap.size A13 k gs ∧ PlainA A13 ∧ k ≤ c13 ∧ c13 ≤ maxLen ∧ Below w1.heap.size w1 wx)
  case first =>
    go_wp2_with fail
    obtain ⟨w0, rfl⟩ : ∃ w0 : World, w0 = w1 := ⟨_, rfl⟩
    go_loopw [9, 10] (fun v i wr => ∃ (k : Nat) (gs : List (List Int)) (zs : List SlI), k ≤ 6 ∧ k ≤ m ∧ i = .int .i64 k ∧ gs.length = k ∧ GoodL n gs ∧ zs.length = k ∧ wr.ownsRow w0.heap.size 26 1 v k (zs.map encSl) ∧ CpI wr w0.heap.size gs zs ∧ Below w0.heap.size w0 wr) (fun _ i _ => 6 - (intOf i).toNat)
    case atStart => exact ⟨0, [], [], by omega, by omega, rfl, rfl, (fun _ h => by cases h), rfl, World.ownsRow_nil _ _ _ _, (fun j hj => absurd hj (by simp)), Below.refl _ _⟩
    case round =>
      obtain ⟨k, gs, zs, hk6, hkm, rfl, hgl, hgd, hzl, hown, hcp, hb⟩ := hrel
      obtain ⟨A13, c13, rfl, hkc, hcm⟩ := ownsRow_form hown
      have HB := Lib.hid hb; have HO := Lib.hid hown; have HCP := Lib.hid hcp; have HZL := Lib.hid hzl; have HGL := Lib.hid hgl; have HGD := Lib.hid hgd
      have hszw := hb.size
      clear hb hown hcp hzl hgl hgd
      by_cases hlt : k < m ∧ k < 6
      · obtain ⟨hlt, hlt6⟩ := hlt
        have hkI : (k : Int) < (m : Int) := by omega
        have hk6I : (k : Int) < 6 := by omega
        have hkx : k < us.length := by rw [HUL.out]; exact hlt
        obtain ⟨ad, rfl, had, hcu⟩ := HU.out.at_ hkx
        have hcw := hcu
        replace hcu := (HB.out.cell (p := ad.add k) (by rw [block_of_add]; exact had)).trans hcu
        have HVA := Lib.hid (valued_any n us[k] wr.drew (by omega))
        have HLS := Lib.hid (lenS wr.drew (HM.out.below (HB.out.drew)) HLEN.out)
        generalize us[k] = u at *
        clear hkx
        go_wp2
        have hcd : wr.drew.cell? (ad.add k) = some (.int .u32 (u.toNat : Int)) := hcu
        refine wp_region_held_drew (S := (fun w' => w'.cell? (ad.add k) = some (.int .u32 (u.toNat : Int)))) (by kernel_rfl) ?_ (fun hHeld => ?_)
        · (try dsimp only)
          (first | exact hcu | exact hcd | exact hc2 | exact hc3 | exact hc4)
        refine wpAnyH_take (i := 0) (v := ?_) rfl (by kernel_rfl) (by kernel_rfl) (by kernel_rfl) (fun _ _ _ h => h) (Or.inl ⟨by rfl, ?_⟩) (by assumption) ?_
        rotate_left
        · intro w hSw
          (try dsimp only at hSw)
          go_simp <;> with_reducible rfl
        try simp only [Act.put, List.getElem_toArray, List.getElem_cons_succ, List.getElem_cons_zero, List.setIfInBounds_toArray, List.set_cons_zero, List.set_cons_succ]
        refine wpAnyH_take (i := 1) (v := ?_) rfl (by kernel_rfl) (by kernel_rfl) (by kernel_rfl) (fun _ _ _ h => h) (Or.inl ⟨by rfl, ?_⟩) (by assumption) ?_
        rotate_left
        · intro w hSw
          (try dsimp only at hSw)
          go_simp <;> with_reducible rfl
        try simp only [Act.put, List.getElem_toArray, List.getElem_cons_succ, List.getElem_cons_zero, List.setIfInBounds_toArray, List.set_cons_zero, List.set_cons_succ]
        refine wpAnyH_take (i := 3) (v := ?_) rfl (by kernel_rfl) (by kernel_rfl) (by kernel_rfl) (fun _ _ _ h => h) (Or.inl ⟨by rfl, ?_⟩) (by assumption) ?_
        rotate_left
        · intro w hSw
          (try dsimp only at hSw)
          go_simp <;> with_reducible rfl
        try simp only [Act.put, List.getElem_toArray, List.getElem_cons_succ, List.getElem_cons_zero, List.setIfInBounds_toArray, List.set_cons_zero, List.set_cons_succ]
        refine wpAnyH_take (i := 4) (v := ?_) rfl (by kernel_rfl) (by kernel_rfl) (by kernel_rfl) (fun _ _ _ h => h) (Or.inl ⟨by rfl, ?_⟩) (by assumption) ?_
        rotate_left
        · intro w hSw
          (try dsimp only at hSw)
          go_simp <;> with_reducible rfl
        try simp only [Act.put, List.getElem_toArray, List.getElem_cons_succ, List.getElem_cons_zero, List.setIfInBounds_toArray, List.set_cons_zero, List.set_cons_succ]
        refine wpAnyH_take (i := 5) (v := ?_) rfl (by kernel_rfl) (by kernel_rfl) (by kernel_rfl) (fun _ _ _ h => h) (Or.inl ⟨by rfl, ?_⟩) (by assumption) ?_
        rotate_left
        · intro w hSw
          (try dsimp only at hSw)
          go_simp <;> with_reducible rfl
        try simp only [Act.put, List.getElem_toArray, List.getElem_cons_succ, List.getElem_cons_zero, List.setIfInBounds_toArray, List.set_cons_zero, List.set_cons_succ]
        refine wpAnyH_take (i := 6) (v := ?_) rfl (by kernel_rfl) (by kernel_rfl) (by kernel_rfl) (fun _ _ _ h => h) (Or.inl ⟨by rfl, ?_⟩) (by assumption) ?_
        rotate_left
        · intro w hSw
          (try dsimp only at hSw)
          go_simp <;> with_reducible rfl
        try simp only [Act.put, List.getElem_toArray, List.getElem_cons_succ, List.getElem_cons_zero, List.setIfInBounds_toArray, List.set_cons_zero, List.set_cons_succ]
        refine wpAnyH_ready (rs := [2]) (by kernel_rfl) (by simp) ?_
        refine AllReadyH.cons rfl (fun K hK => ?_) AllReadyH.nil
        go_simp
        (try go_wp2_with fail)
        refine HLS.out.mono ?_
        rintro e w' ⟨rfl, rfl⟩
        (try go_simp)
        refine hK.out _ _ ?_ (fun hHeld' => ?_)
        · (try dsimp only)
          (first | exact hcu | exact hcd | exact hc2 | exact hc3 | exact hc4)
        clear hK K hHeld
        have hHeld := hHeld'
        clear hHeld'
        refine wpAnyH_ready (rs := [7]) (by kernel_rfl) (by simp) ?_
        refine AllReadyH.cons rfl (fun K hK => ?_) AllReadyH.nil
        go_simp
        (try go_wp2_with fail)
        refine HVA.out.mono ?_
        rintro e w2 ⟨v9, x, rfl, hxl, hx3, ho9, hb9⟩
        obtain ⟨A2, c2, rfl, h2a, h2b⟩ := ownsRow_form ho9
        have HO1 := Lib.hid ho9; have HB2 : Hid (Below wr.heap.size wr w2) := Lib.hid (((Below.refl _ wr).drew).trans hb9); have hsz2 : wr.heap.size ≤ w2.heap.size := hb9.size; have HXL := Lib.hid hxl; have HX3 := Lib.hid hx3
        have HO2 := Lib.hid (own_below (own_below HO.out HB2.out) ((Below.refl _ w2).alloc (Nat.le_refl _) (.cells #[.slice A2 n c2] 26))); have HRN := Lib.hid (reads_new w2 26 [.slice A2 n c2])
        have hc2 : w2.cell? (ad.add k) = some (.int .u32 (u.toNat : Int)) := (HB2.out.cell (p := ad.add k) (by rw [block_of_add]; omega)).trans hcu
        have hc3 : (w2.alloc (.cells #[.slice A2 n c2] 26)).cell? (ad.add k) = some (.int .u32 (u.toNat : Int)) := (((Below.refl w2.heap.size w2).alloc (Nat.le_refl _) _).cell (p := ad.add k) (by rw [block_of_add]; omega)).trans hc2
        clear hxl hx3 ho9 hb9
        (try go_simp)
        refine hK.out _ _ ?_ (fun hHeld' => ?_)
        · (try dsimp only)
          (first | exact hcu | exact hcd | exact hc2 | exact hc3 | exact hc4)
        clear hK K hHeld
        have hHeld := hHeld'
        clear hHeld'
        refine wpAnyH_ready (rs := [8]) (by kernel_rfl) (by simp) ?_
        refine AllReadyH.cons rfl (fun K hK => ?_) AllReadyH.nil
        go_simp
        refine hK.out _ _ ?_ (fun hHeld' => ?_)
        · (try dsimp only)
          (first | exact hcu | exact hcd | exact hc2 | exact hc3 | exact hc4)
        clear hK K hHeld
        have hHeld := hHeld'
        clear hHeld'
        refine wpAnyH_ready (rs := [9]) (by kernel_rfl) (by simp) ?_
        refine AllReadyH.cons rfl (fun K hK => ?_) AllReadyH.nil
        refine step_append_any _ (by rfl) (.tmp 38) (.tmp 46) 43 (by rfl) w0.heap.size 26 i1 (.slice none 0 0) 1 24 Tryd.underlying43 ki kz0 kz1 kz2 (by rfl) (by decide) (.slice A13 k c13) k (zs.map encSl) (by simp [Act.eval, Act.put]) HO2.out _ (some ⟨w2.heap.size, 0, none⟩) 1 1 [.slice A2 n c2] (by simp [Act.eval, Act.put]) HRN.out (by simp [Value.oneCell']) (by unfold maxLen; omega) (by omega) (by simp; omega) ?_
        intro v2 w4 hown2 hgrow2 hx2
        have hb4 : Below w0.heap.size w0 w4 := ((HB.out.trans (HB2.out.mono hszw)).alloc (Nat.le_trans hszw hsz2) _).grown hgrow2 (by simp; omega) (fun g hg => (HO2.out.lt g hg).1)
        have hc4 : w4.cell? (ad.add k) = some (.int .u32 (u.toNat : Int)) := (hb4.cell (p := ad.add k) (by rw [block_of_add]; exact had)).trans hcw
        clear hx2
        refine hK.out _ _ ?_ (fun hHeld' => ?_)
        · (try dsimp only)
          (first | exact hcu | exact hcd | exact hc2 | exact hc3 | exact hc4)
        clear hK K hHeld
        have hHeld := hHeld'
        clear hHeld'
        refine wpAnyH_take (i := 10) (v := ?_) rfl (by kernel_rfl) (by kernel_rfl) (by kernel_rfl) (fun _ _ _ h => h) (Or.inl ⟨by rfl, ?_⟩) (by assumption) ?_
        rotate_left
        · intro w hSw
          (try dsimp only at hSw)
          go_simp <;> with_reducible rfl
        try simp only [Act.put, List.getElem_toArray, List.getElem_cons_succ, List.getElem_cons_zero, List.setIfInBounds_toArray, List.set_cons_zero, List.set_cons_succ]
        refine wpAnyH_done (by kernel_rfl) ?_ _
        go_wp2
        have ha3 : Below w2.heap.size w2 (w2.alloc (.cells #[.slice A2 n c2] 26)) := (Below.refl _ w2).alloc (Nat.le_refl _) _
        have hcp4 := ((HCP.out.below HB2.out).below ha3).kept HO2.out hgrow2
        have hin : w4.ownsRow w0.heap.size 3 1 (encSl (A2, n, c2)) x.length (x.map (Value.int .i64)) := by
          rw [HXL.out]
          have h1 := own_below (own_mono HO1.out hszw) ha3
          exact h1.kept hgrow2 (own_own_ne h1 HO2.out (by decide))
        have HCP5 : Hid (CpI w4 w0.heap.size (gs ++ [x]) (zs ++ [(A2, n, c2)])) := Lib.hid (CpI.snoc2 hcp4 HGL.out HZL.out hin)
        have HGD5 : Hid (GoodL n (gs ++ [x])) := Lib.hid (fun vs hv => by
          rcases List.mem_append.1 hv with hv | hv
          · exact HGD.out vs hv
          · obtain rfl := List.mem_singleton.1 hv
            exact ⟨HXL.out, HX3.out⟩)
        clear hgrow2 hcp4 hin ha3 HVA HLS
        go_roundw
        case rel => exact ⟨k + 1, gs ++ [x], zs ++ [(A2, n, c2)], by omega, by omega, by go_num, by rw [List.length_append, HGL.out]; rfl, HGD5.out, by rw [List.length_append, HZL.out]; rfl, by rw [List.map_append]; exact hown2, HCP5.out, hb4⟩
        case measure => simp [intOf]; omega
      · obtain ⟨hll, hpl⟩ := HCP.out.reads HZL.out HGL.out HO.out
        have HLL2 := Lib.hid hll; have HPL2 := Lib.hid hpl
        have hend : (m : Int) ≤ (k : Int) ∨ ((k : Int) < (m : Int) ∧ ¬ (k : Int) < 6) := by omega
        clear hll hpl HCP HZL HO
        rcases hend with hend | ⟨hend, hend2⟩
        all_goals
          go_wp2
          go_meet
          exact ⟨k, gs, A13, c13, hk6, rfl, HGL.out, HGD.out, HLL2.out, HPL2.out, hkc, hcm, HB.out⟩
  case rest =>
      obtain ⟨k, gs, A13, c13, hk6, rfl, hgl, hgd, hll, hpl, hkc, hcm, hbw⟩ := hcut
      have HGL := Lib.hid hgl; have HGD := Lib.hid hgd; have HPL := Lib.hid hpl
      have E := Lib.hid (EnvD.mk (HM.out.below hbw) hll (HB1.out.trans (hbw.mono HB1.out.size)) : EnvD w wc (some ⟨g, 0, none⟩) om A13 k gs)
      have HOK : Hid (∀ x ∈ R, Okr n x) := Lib.hid (by have := HG.out.okr; rw [HLEN.out, HRD.out] at this; exact this)
      have hchk : chkN (lenO om) gs = 0 := by rw [HLEN.out]; exact HGD.out.chk (by omega) (by rw [HGL.out]; exact hk6)
      have HCHK := Lib.hid hchk
      have HBV : Hid (∀ s, borV om gs s = lbI n (borE R gs s)) := Lib.hid (fun s => by unfold borV; rw [if_pos HCHK.out, HLEN.out, HRD.out])
      have HLBL := Lib.hid (fun es => lbI_len n es)
      have HLAB := Lib.hid (fun s => lbI_lab (n := n) (openE_in HOK.out fun x => decide ((bundN gs x : Int) < s)))
      have HLOW := Lib.hid (fun s (hs : s ≤ 0) => bor_low R gs hs)
      have HKEEP := Lib.hid (fun (p q : Int) (hpq : p ≤ q) (a : Nat) (ha : a < n) => bor_keep (gs := gs) HOK.out hpq ha)
      have HLT := Lib.hid (fun (s : Int) (a : Nat) (ha : a < n) => (lbF_lab (openE_in HOK.out fun x => decide ((bundN gs x : Int) < s))).le a ha)
      have HLS := Lib.hid (fun (W : World) (hW : MapO W (some ⟨g, 0, none⟩) om) => lenP_any (some ⟨g, 0, none⟩) om W hW)
      rw [HLEN.out] at HLS
      clear hgl hgd hll hpl hbw HU HUL HM HB1 hchk
      obtain ⟨wl, rfl⟩ : ∃ wl : World, wl = wc := ⟨_, rfl⟩
      go_wp2
      go_loopw [11, 12] (fun v i wr => ∃ (s : Int) (A11 : Option Addr) (n11 c11 : Nat), -1 ≤ s ∧ s ≤ k + 2 ∧ i = .int .i64 s ∧ v = .slice A11 n11 c11 ∧ n11 = (if s = -1 then 0 else n) ∧ n11 ≤ c11 ∧ c11 ≤ maxLen ∧ ReadI wr wr.heap.size A11 n11 (lastL n R gs s) ∧ Below wl.heap.size wl wr) (fun _ i _ => ((k : Int) + 2 - intOf i).toNat)
      case atStart => exact ⟨-1, none, 0, 0, by omega, by omega, rfl, rfl, rfl, by omega, by unfold maxLen; omega, Reads.none_, Below.refl _ _⟩
      case round =>
        obtain ⟨s, A11, n11, c11, hs1, hs2, rfl, rfl, hn11, hnc11, hcm11, hrd11, hb⟩ := hrel
        have HB := Lib.hid hb; have E1 := Lib.hid (E.out.later hb); have HR11 := Lib.hid hrd11; have HN11 := Lib.hid hn11
        clear hb hrd11 hn11
        by_cases hlt : s ≤ (k : Int) + 1
        · have q0 := bordersP_any (some ⟨g, 0, none⟩) om A13 k c13 gs s wr E1.out.map HG.out E1.out.ll HPL.out (by unfold maxLen; omega)
          unfold GivesE at q0
          rw [HCHK.out, HBV.out, HLBL.out] at q0
          go_wp2_with fail
          refine q0.mono ?_
          rintro e w2 ⟨v, rfl, ho, hb2⟩
          obtain ⟨A3, c3, rfl, hnc3, hcm3⟩ := ownsRow_form ho
          have HB2 := Lib.hid (HB.out.trans (hb2.mono HB.out.size)); have E2 := Lib.hid (E1.out.later hb2); have HR3 := Lib.hid (Reads.of_own ho); have HR11' := Lib.hid (ReadI.later HR11.out hb2)
          clear ho hb2 q0 E1 HR11
          have hlc := HLS.out w2 E2.out.map
          have q1 := labelled_any A3 n c3 (lbI n (borE R gs s)) w2 HR3.out (HLAB.out s) (Nat.le_trans hnc3 hcm3)
          go_wp2_with fail
          refine hlc.mono ?_
          rintro e w' ⟨rfl, rfl⟩
          go_wp2_with fail
          refine q1.mono ?_
          rintro e w3 ⟨rfl, hb3⟩
          have HB3 := Lib.hid (HB2.out.trans (hb3.mono HB2.out.size)); have E3 := Lib.hid (E2.out.later hb3); have HR3' := Lib.hid (ReadI.later HR3.out hb3); have HR11'' := Lib.hid (ReadI.later HR11'.out hb3)
          clear hb3 q1 hlc E2 HR3 HR11'
          by_cases hs0 : s ≤ 0
          · have hcls : clsN (lbI n (borE R gs s)) n = n := by rw [HLOW.out s hs0]; exact cls_none n
            have q2 := classes_any A3 n c3 (lbI n (borE R gs s)) w3 HR3'.out (by omega)
            rw [hcls] at q2
            have HCLS := Lib.hid hcls
            clear hcls
            go_wp2_with fail
            refine q2.mono ?_
            rintro e w4 ⟨rfl, hb4⟩
            have HB4 := Lib.hid (HB3.out.trans (hb4.mono HB3.out.size)); have E4 := Lib.hid (E3.out.later hb4); have HR4 := Lib.hid (ReadI.later HR3'.out hb4); have HR14 := Lib.hid (ReadI.later HR11''.out hb4)
            clear hb4 q2 E3 HR3' HR11''
            have hlc4 := HLS.out w4 E4.out.map
            go_wp2_with fail
            refine hlc4.mono ?_
            rintro e w' ⟨rfl, rfl⟩
            clear hlc4
            obtain ⟨wz, rfl⟩ : ∃ wz : World, wz = w4 := ⟨_, rfl⟩
            go_wp2
            go_loopw [15] (fun i wr => ∃ a : Nat, a ≤ n11 ∧ i = .int .i64 a ∧ Below wz.heap.size wz wr) (fun i _ => n11 - (intOf i).toNat)
            case atStart => exact ⟨0, by omega, rfl, Below.refl _ _⟩
            case round =>
              obtain ⟨a, ha, rfl, hb⟩ := hrel
              have HBI := Lib.hid hb
              clear hb
              by_cases hlta : a < n11
              · have hs : s ≠ -1 ∧ n11 = n := by
                  have := HN11.out
                  by_cases e : s = -1
                  · rw [if_pos e] at this; omega
                  · rw [if_neg e] at this; exact ⟨e, this⟩
                obtain ⟨hsn, hnn⟩ := hs
                have han : a < n := by omega
                have hlast : lastL n R gs s = lbI n (borE R gs (s - 1)) := by unfold lastL; rw [if_neg hsn]
                have hkp := HKEEP.out (s - 1) s (by omega) a han
                have hql : lbF (borE R gs (s - 1)) n a ≤ a := HLT.out (s - 1) a han
                have hr14 := HR14.out
                rw [hlast] at hr14
                have e1 := lbI_get (es := borE R gs (s - 1)) han
                have e2 := lbI_get (es := borE R gs s) han
                have e3 := lbI_get (es := borE R gs s) (a := lbF (borE R gs (s - 1)) n a) (Nat.lt_of_le_of_lt hql han)
                rw [hkp] at e3
                have hal : a < (lbI n (borE R gs (s - 1))).length := by rw [HLBL.out]; exact han
                have hal2 : a < (lbI n (borE R gs s)).length := by rw [HLBL.out]; exact han
                obtain ⟨q, hq⟩ : ∃ q, lbF (borE R gs (s - 1)) n a = q := ⟨_, rfl⟩
                obtain ⟨z, hz⟩ : ∃ z, lbF (borE R gs s) n a = z := ⟨_, rfl⟩
                rw [hq] at e1 e3 hql
                rw [hz] at e2 e3
                have hqn : q < n := Nat.lt_of_le_of_lt hql han
                have hal3 : q < (lbI n (borE R gs s)).length := by rw [HLBL.out]; exact hqn
                rw [List.getElem?_eq_getElem hal] at e1
                rw [List.getElem?_eq_getElem hal2] at e2
                rw [List.getElem?_eq_getElem hal3] at e3
                injection e1 with e1
                injection e2 with e2
                injection e3 with e3
                obtain ⟨al, rfl, hal', la⟩ := ReadI.at_ (k := a) hr14 hal
                obtain ⟨bl, rfl, hbl', lb, lc⟩ := readI_two HR4.out hal2 hal3
                rw [e1] at la
                rw [e2] at lb
                rw [e3] at lc
                replace la := (HBI.out.cell (p := al.add a) (by rw [block_of_add]; exact hal')).trans la
                replace lb := (HBI.out.cell (p := bl.add a) (by rw [block_of_add]; exact hbl')).trans lb
                replace lc := (HBI.out.cell (p := bl.add q) (by rw [block_of_add]; exact hbl')).trans lc
                have haI : (a : Int) < (n11 : Int) := by omega
                have haI2 : (a : Int) < (n : Int) := by omega
                have hqI : (q : Int) < (n : Int) := by omega
                have hzB : ((z : Int) != (z : Int)) = false := by simp
                clear e1 e2 e3 hq hz hkp hql hr14 hlast hal hal2 hal3
                go_wp2
                go_region
                go_wp2
                go_roundw
                case rel => exact ⟨a + 1, by omega, by go_num, HBI.out.drew⟩
                case measure => simp [intOf]; omega
              · obtain rfl : n11 = a := by omega
                have hlast1 : lastL n R gs (s + 1) = lbI n (borE R gs s) := by
                  unfold lastL
                  rw [if_neg (by omega), Int.add_sub_cancel]
                have HL1 := Lib.hid hlast1
                clear hlast1
                go_wp2
                go_roundw
                case rel => exact ⟨s + 1, A3, n, c3, by omega, by omega, by go_num, rfl, by rw [if_neg (by omega)], hnc3, hcm3, by rw [HL1.out]; exact ReadI.later HR4.out HBI.out, HB4.out.trans (HBI.out.mono HB4.out.size)⟩
                case measure => simp [intOf]; omega
          · have HB4 := Lib.hid HB3.out; have E4 := Lib.hid E3.out; have HR4 := Lib.hid HR3'.out; have HR14 := Lib.hid HR11''.out
            clear E3 HR3' HR11'' HB3
            have hs0I : ¬ s ≤ 0 := hs0
            obtain ⟨w4, rfl⟩ : ∃ w4 : World, w4 = w3 := ⟨_, rfl⟩
            obtain ⟨wz, rfl⟩ : ∃ wz : World, wz = w4 := ⟨_, rfl⟩
            go_wp2
            go_loopw [15] (fun i wr => ∃ a : Nat, a ≤ n11 ∧ i = .int .i64 a ∧ Below wz.heap.size wz wr) (fun i _ => n11 - (intOf i).toNat)
            case atStart => exact ⟨0, by omega, rfl, Below.refl _ _⟩
            case round =>
              obtain ⟨a, ha, rfl, hb⟩ := hrel
              have HBI := Lib.hid hb
              clear hb
              by_cases hlta : a < n11
              · have hs : s ≠ -1 ∧ n11 = n := by
                  have := HN11.out
                  by_cases e : s = -1
                  · rw [if_pos e] at this; omega
                  · rw [if_neg e] at this; exact ⟨e, this⟩
                obtain ⟨hsn, hnn⟩ := hs
                have han : a < n := by omega
                have hlast : lastL n R gs s = lbI n (borE R gs (s - 1)) := by unfold lastL; rw [if_neg hsn]
                have hkp := HKEEP.out (s - 1) s (by omega) a han
                have hql : lbF (borE R gs (s - 1)) n a ≤ a := HLT.out (s - 1) a han
                have hr14 := HR14.out
                rw [hlast] at hr14
                have e1 := lbI_get (es := borE R gs (s - 1)) han
                have e2 := lbI_get (es := borE R gs s) han
                have e3 := lbI_get (es := borE R gs s) (a := lbF (borE R gs (s - 1)) n a) (Nat.lt_of_le_of_lt hql han)
                rw [hkp] at e3
                have hal : a < (lbI n (borE R gs (s - 1))).length := by rw [HLBL.out]; exact han
                have hal2 : a < (lbI n (borE R gs s)).length := by rw [HLBL.out]; exact han
                obtain ⟨q, hq⟩ : ∃ q, lbF (borE R gs (s - 1)) n a = q := ⟨_, rfl⟩
                obtain ⟨z, hz⟩ : ∃ z, lbF (borE R gs s) n a = z := ⟨_, rfl⟩
                rw [hq] at e1 e3 hql
                rw [hz] at e2 e3
                have hqn : q < n := Nat.lt_of_le_of_lt hql han
                have hal3 : q < (lbI n (borE R gs s)).length := by rw [HLBL.out]; exact hqn
                rw [List.getElem?_eq_getElem hal] at e1
                rw [List.getElem?_eq_getElem hal2] at e2
                rw [List.getElem?_eq_getElem hal3] at e3
                injection e1 with e1
                injection e2 with e2
                injection e3 with e3
                obtain ⟨al, rfl, hal', la⟩ := ReadI.at_ (k := a) hr14 hal
                obtain ⟨bl, rfl, hbl', lb, lc⟩ := readI_two HR4.out hal2 hal3
                rw [e1] at la
                rw [e2] at lb
                rw [e3] at lc
                replace la := (HBI.out.cell (p := al.add a) (by rw [block_of_add]; exact hal')).trans la
                replace lb := (HBI.out.cell (p := bl.add a) (by rw [block_of_add]; exact hbl')).trans lb
                replace lc := (HBI.out.cell (p := bl.add q) (by rw [block_of_add]; exact hbl')).trans lc
                have haI : (a : Int) < (n11 : Int) := by omega
                have haI2 : (a : Int) < (n : Int) := by omega
                have hqI : (q : Int) < (n : Int) := by omega
                have hzB : ((z : Int) != (z : Int)) = false := by simp
                clear e1 e2 e3 hq hz hkp hql hr14 hlast hal hal2 hal3
                go_wp2
                go_region
                go_wp2
                go_roundw
                case rel => exact ⟨a + 1, by omega, by go_num, HBI.out.drew⟩
                case measure => simp [intOf]; omega
              · obtain rfl : n11 = a := by omega
                have hlast1 : lastL n R gs (s + 1) = lbI n (borE R gs s) := by
                  unfold lastL
                  rw [if_neg (by omega), Int.add_sub_cancel]
                have HL1 := Lib.hid hlast1
                clear hlast1
                go_wp2
                go_roundw
                case rel => exact ⟨s + 1, A3, n, c3, by omega, by omega, by go_num, rfl, by rw [if_neg (by omega)], hnc3, hcm3, by rw [HL1.out]; exact ReadI.later HR4.out HBI.out, HB4.out.trans (HBI.out.mono HB4.out.size)⟩
                case measure => simp [intOf]; omega
        · obtain rfl : s = (k : Int) + 2 := by omega
          have hall : lastL n R gs ((k : Int) + 2) = lbI n (openE R fun _ => true) := by
            unfold lastL
            rw [if_neg (by omega), bor_high R gs (by rw [HGL.out]; omega)]
          have hn11 : n11 = n := by rw [HN11.out, if_neg (by omega)]
          subst hn11
          have hrl := HR11.out
          rw [hall] at hrl
          have HRL := Lib.hid hrl
          have q0 := labelsP_any (some ⟨g, 0, none⟩) om wr E1.out.map HG.out.good
          unfold GivesI at q0
          rw [labO_new HG.out, HLEN.out, HRD.out, HLBL.out] at q0
          clear hrl hall HR11 HN11
          go_wp2_with fail
          refine q0.mono ?_
          rintro e w2 ⟨v, rfl, ho, hb2⟩
          obtain ⟨A3, c3, rfl, hnc3, hcm3⟩ := ownsRow_form ho
          have E2 := Lib.hid (E1.out.later hb2); have HR3 := Lib.hid (Reads.of_own ho)
          have q1 := equalI_any A11 A3 n11 c11 n11 c3 (lbI n11 (openE R fun _ => true)) (lbI n11 (openE R fun _ => true)) w2 (ReadI.later HRL.out hb2) HR3.out (Nat.le_trans hnc11 hcm11)
          rw [show decide (lbI n11 (openE R fun _ => true) = lbI n11 (openE R fun _ => true)) = true from decide_eq_true rfl] at q1
          clear q0 ho hb2 E1
          go_wp2_with fail
          refine q1.mono ?_
          rintro e w3 ⟨rfl, hb3⟩
          have E3 := Lib.hid (E2.out.later hb3)
          clear q1 hb3 E2 HR3 HRL
          rcases Nat.eq_zero_or_pos k with hk0 | hk0
          · have hk0I : ¬ (0 : Int) < (k : Int) := by omega
            go_wp2_with fail
            refine (HWK.out _).mono ?_
            rintro e vw ⟨rfl, hb5⟩
            have HBE := Lib.hid (E3.out.below.trans (hb5.mono E3.out.below.size))
            clear hb5
            go_wp2
            go_ret
            exact ⟨rfl, HBE.out⟩
          · have hk0I : (0 : Int) < (k : Int) := by omega
            have hg0 : 0 < gs.length := by rw [HGL.out]; exact hk0
            have hv := HGD.out _ (List.getElem_mem hg0)
            obtain ⟨ad, A5, c5, rfl, hc5, hlt5, hr5, hn5, hm5⟩ := E3.out.ll.2 0 hg0
            have hll1 := E3.out.ll.one hg0
            generalize gs[0] = g0 at *
            have hc1 : chkN (lenO om) [g0] = 0 := by rw [HLEN.out]; exact chkN_ok (by omega) (by show 1 ≤ 256; decide) (fun vs hv' => by rw [List.mem_singleton.1 hv']; exact hv.1)
            have hbv : borV om [g0] 1 = lbI n11 (regE R g0) := by unfold borV; rw [if_pos hc1, HLEN.out, HRD.out, bor_one]
            have hrv : regV om g0 = lbI n11 (regE R g0) := by unfold regV; rw [if_pos hc1, HLEN.out, HRD.out]
            rw [hv.1] at hc5 hr5 hn5
            have hc50 : w3.cell? ad = some (.slice A5 n11 c5) := hc5
            have q2 := bordersP_any (some ⟨g, 0, none⟩) om (some ad) 1 c13 [g0] 1 w3 E3.out.map HG.out hll1 HPL.out (by unfold maxLen; omega)
            unfold GivesE at q2
            rw [hc1, hbv, HLBL.out] at q2
            have HC1 := Lib.hid hc1; have HRV := Lib.hid hrv; have HR5 := Lib.hid hr5; have HC5 := Lib.hid hc5; have HLT5 := Lib.hid hlt5
            have hkcI : (1 : Int) ≤ (k : Int) := by omega
            clear hc1 hbv hrv hr5 hll1 hc5 hlt5
            go_wp2_with fail
            refine q2.mono ?_
            rintro e w4 ⟨v16, rfl, ho16, hb4⟩
            obtain ⟨A16, c16, rfl, hnc16, hcm16⟩ := ownsRow_form ho16
            have E4 := Lib.hid (E3.out.later hb4); have HR16 := Lib.hid (Reads.of_own ho16)
            have d50 : w4.cell? ad = some (.slice A5 n11 c5) := (hb4.cell (p := ad) HLT5.out).trans hc50
            have q3 := regionsP_any (some ⟨g, 0, none⟩) om A5 n11 c5 g0 w4 E4.out.map HG.out (ReadI.later HR5.out hb4) hn5 hm5
            unfold GivesE at q3
            rw [HC1.out, HRV.out, HLBL.out] at q3
            clear q2 ho16 hb4 E3 hc50
            go_wp2_with fail
            refine q3.mono ?_
            rintro e w5 ⟨v18, rfl, ho18, hb5⟩
            obtain ⟨A18, c18, rfl, hnc18, hcm18⟩ := ownsRow_form ho18
            have E5 := Lib.hid (E4.out.later hb5)
            have q4 := equalI_any A16 A18 n11 c16 n11 c18 (lbI n11 (regE R g0)) (lbI n11 (regE R g0)) w5 (ReadI.later HR16.out hb5) (Reads.of_own ho18) (Nat.le_trans hnc16 hcm16)
            rw [show decide (lbI n11 (regE R g0) = lbI n11 (regE R g0)) = true from decide_eq_true rfl] at q4
            clear q3 ho18 hb5 E4 d50
            go_wp2_with fail
            refine q4.mono ?_
            rintro e w6 ⟨rfl, hb6⟩
            have E6 := Lib.hid (E5.out.later hb6)
            clear q4 hb6 E5
            go_wp2_with fail
            refine (HWK.out _).mono ?_
            rintro e vw ⟨rfl, hb7⟩
            have HBE := Lib.hid (E6.out.below.trans (hb7.mono E6.out.below.size))
            clear hb7
            go_wp2
            go_ret
            exact ⟨rfl, HBE.out⟩
end Go.Proofs.YtgimhjkijpcgjaaDoor

