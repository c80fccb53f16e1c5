/-
  layer 37: lists of values; what IsoglossDiffers reads. Conditions: numbers that are read. (Printed by law37g.py.)
-/
import Derived.Test.YtgimhjkijpcgjaaDoorGba
import Derived.Test.YtgimhjkijpcgjaaDoorIsCp
import Derived.Deep.CutBlock
import Derived.Deep.DeepCutAuto
namespace Go.Proofs.YtgimhjkijpcgjaaDoor
open Go.RowKit Go.Lib

theorem lenS {p : Option Addr} {om : Option Pts} {n : Nat} (w : World) (h : MapO w p om) (hn : lenO om = n) : Calls Tryd.prog 35 #[.pointer p] w fun e w' => e = .returned (.int .i64 n) ∧ w' = w :=
  (lenP_any p om w h).mono fun _ _ ⟨h1, h2⟩ => ⟨by rw [h1, hn], h2.symm⟩
/-- Four-byte numbers, read. -/
def ReadU (w : World) (B : Nat) (A : Option Addr) (n : Nat) (us : List UInt32) : Prop := Reads w B 1 A n (us.map fun u => Value.int .u32 u.toNat)
theorem ReadU.len {w : World} {B n : Nat} {A : Option Addr} {us : List UInt32} (h : ReadU w B A n us) : us.length = n := by
  have := h.1; simpa using this
theorem ReadU.at_ {w : World} {B n k : Nat} {A : Option Addr} {us : List UInt32} (h : ReadU w B A n us) (hk : k < us.length) : ∃ ad, A = some ad ∧ ad.block < B ∧ w.cell? (ad.add k) = some (.int .u32 us[k].toNat) := by
  obtain ⟨ad, u, h1, h2, h3, h4⟩ := Reads.at_ (k := k) h (by have := h.len; omega)
  rw [List.getElem?_map, List.getElem?_eq_getElem hk] at h3
  injection h3 with h3
  exact ⟨ad, h1, h2, by rw [h4, ← h3]⟩
/-- Lists of values of a map of n points. -/
def GoodL (n : Nat) (gs : List (List Int)) : Prop := ∀ vs ∈ gs, vs.length = n ∧ Vals3 vs
theorem GoodL.chk {n : Nat} {gs : List (List Int)} (h : GoodL n gs) (hn : n ≠ 0) (hg : gs.length ≤ 6) : chkN n gs = 0 := chkN_ok hn (by omega) fun vs hv => (h vs hv).1
theorem CpI.snoc2 {wr : World} {base : Nat} {l : List (List Int)} {x : List Int} {zs : List SlI} {k : Nat} (h : CpI wr base l zs) (hk : l.length = k) (hz : zs.length = k) {s : SlI} (hs : wr.ownsRow base 3 1 (encSl s) x.length (x.map (Value.int .i64))) : CpI wr base (l ++ [x]) (zs ++ [s]) := fun j hj => by
  rw [List.length_append] at hj
  simp at hj
  rcases Nat.lt_or_ge j zs.length with h1 | h1
  · obtain ⟨h2, h3⟩ := h j h1
    exact ⟨by rw [List.length_append]; omega, by rw [List.getElem_append_left h1, List.getElem_append_left h2]; exact h3⟩
  · obtain rfl : j = k := by omega
    refine ⟨by rw [List.length_append, hk]; simp, ?_⟩
    rw [List.getElem_append_right h1, List.getElem_append_right (by omega)]
    simpa [hz, hk] using hs
theorem boolean_any (b : Bool) (w : World) : Calls Tryd.prog 37 #[.bool b] w fun e w' => e = .returned (.int .i64 (if b = true then 1 else 0)) ∧ w = w' := by
  cases b
  · go_enter Tryd.func37, Tryd.ntmps37
    go_wp2
    go_ret
    exact ⟨rfl, rfl⟩
  · go_enter Tryd.func37, Tryd.ntmps37
    go_wp2
    go_ret
    exact ⟨rfl, rfl⟩
theorem dif_good {n : Nat} {gs : List (List Int)} (h : GoodL n gs) (h1 : 1 ≤ gs.length) (h6 : gs.length ≤ 6) {a b : Nat} (ha : a < n) (hb : b < n) : difE gs (a : Int) (b : Int) = 0 ∧ difA gs (a : Int) (b : Int) = fracA (difN gs (a : Int) (b : Int)) gs.length := by
  have hl0 : len0 gs = n := by
    rw [← len0_get (by omega : 0 < gs.length)]
    exact (h _ (List.getElem_mem _)).1
  have hE : difE gs (a : Int) (b : Int) = 0 := by
    unfold difE
    rw [if_neg (by omega), if_neg, if_neg]
    · unfold rngB
      rw [hl0]
      simp
      omega
    · intro hc
      obtain ⟨vs, hv, hc⟩ := List.any_eq_true.1 hc
      rw [(h vs hv).1, hl0] at hc
      simp at hc
  exact ⟨hE, by unfold difA; rw [if_pos hE]⟩
theorem dif_nil (a b : Int) : difE [] a b = 3 := by
  unfold difE
  rw [if_neg (by decide), if_neg (by decide), if_pos]
  show rngB 0 a b = true
  unfold rngB
  by_cases h : a < 0
  · rw [decide_eq_true h]; rfl
  · rw [decide_eq_false h, decide_eq_true (show ((0 : Nat) : Int) ≤ a by omega)]; rfl
theorem alkE_nil {om : Option Pts} {a n : Nat} (hl : lenO om = n) (hn : 3 ≤ n) (ha : a < n) : alkE (lenO om) [] (a : Int) = 0 := by
  rw [hl]
  have h0 : chkN n [] = 0 := by unfold chkN; rw [if_neg (by omega), if_neg (by decide), if_neg (by simp)]
  unfold alkE
  rw [if_pos h0, if_neg (by omega), if_neg (by omega)]
theorem alk_nil {om : Option Pts} {a n : Nat} (hl : lenO om = n) (hn : 3 ≤ n) (ha : a < n) : alkV (lenO om) [] (a : Int) = ((if a = 0 then 1 else 0 : Nat) : Int) := by
  unfold alkV
  rw [if_pos (alkE_nil hl hn ha), hl, best_empty a n (by omega)]
  rfl
theorem alk_good {om : Option Pts} {n a : Nat} {gs : List (List Int)} (h : GoodL n gs) (h6 : gs.length ≤ 6) (hl : lenO om = n) (hn : 3 ≤ n) (ha : a < n) :
    ∃ best : Nat, best < n ∧ best ≠ a ∧ alkE (lenO om) gs (a : Int) = 0 ∧ alkV (lenO om) gs (a : Int) = (best : Int) ∧ (∀ b : Nat, b < n → b ≠ a → difN gs (a : Int) (best : Int) ≤ difN gs (a : Int) (b : Int)) ∧ (∀ b : Nat, b < best → b ≠ a → difN gs (a : Int) (best : Int) < difN gs (a : Int) (b : Int)) := by
  obtain ⟨c, hc⟩ := bestB_some (l := gs) (a := a) (show 2 ≤ n by omega)
  obtain ⟨h2, h3⟩ := bestB_least hc
  obtain ⟨h4, h5⟩ := bestB_lt hc
  have h0 : chkN n gs = 0 := h.chk (by omega) h6
  have hE : alkE (lenO om) gs (a : Int) = 0 := by
    rw [hl]; unfold alkE
    rw [if_pos h0, if_neg (by omega), if_neg (by omega)]
  refine ⟨c, h4, fun e => h5 (by rw [e]), hE, ?_, fun b hb hba => h2 b hb (by omega), fun b hb hba => h3 b hb (by omega)⟩
  unfold alkV
  rw [if_pos hE, hl, hc]; rfl
/-- What IsoglossDiffers reads. -/
structure EnvD (w W : World) (p : Option Addr) (om : Option Pts) (A13 : Option Addr) (k : Nat) (gs : List (List Int)) : Prop where
  map : MapO W p om
  ll : ReadII W W.heap.size A13 k gs
  below : Below w.heap.size w W
theorem EnvD.later {w W W' : World} {p : Option Addr} {om : Option Pts} {A13 : Option Addr} {k : Nat} {gs : List (List Int)} (h : EnvD w W p om A13 k gs) (hb : Below W.heap.size W W') : EnvD w W' p om A13 k gs := ⟨h.map.below hb, h.ll.later hb, h.below.trans (hb.mono h.below.size)⟩
set_option linter.unusedSimpArgs false in
set_option maxRecDepth 100000 in
set_option maxHeartbeats 16000000 in
theorem differs_law (hnew : NewAny) (hwk : Works37) (x8 : UInt8) (A : Option Addr) (m c : Nat) (us : List UInt32) (xa xb xc : UInt8) (w : World) (hm : m ≤ maxLen) (h : ReadU w w.heap.size A m us) :
    Calls Tryd.prog 8 #[.int .u8 x8.toNat, .slice A m c, .int .u8 xa.toNat, .int .u8 xb.toNat, .int .u8 xc.toNat] w fun e w' => e = .returned (.bool true) ∧ Below w.heap.size w w' := by
  obtain ⟨i1, ki, kz0, kz1, kz2⟩ := info_parts (show (Tryd.prog.info? 26).map (fun i => (i.zero, i.size, i.bytes)) = some (some (.slice none 0 0), 1, 24) by kernel_rfl)
  have hf := field_any hnew x8 none 0 0 [] w (by unfold maxLen; omega) Reads.none_
  have hn12 : 3 + x8.toNat % 10 ≤ 12 := by omega
  have hn3 : 3 ≤ 3 + x8.toNat % 10 := by omega
  have hxa : xa.toNat < 256 := xa.toNat_lt
  have hxb : xb.toNat < 256 := xb.toNat_lt
  have hxc : xc.toNat < 256 := xc.toNat_lt
  generalize 3 + x8.toNat % 10 = n at *
  generalize (x8.toNat : Int) = xi at *
  generalize xa.toNat = ya at *
  generalize xb.toNat = yb at *
  generalize xc.toNat = yc at *
  unfold maxLen at hm
  have HF := Lib.hid hf; have HWK := Lib.hid hwk; have HU0 := Lib.hid h; have HUL := Lib.hid h.len
  clear h hf hnew hwk
  go_enter Tryd.func8, Tryd.ntmps8
  go_wp2_with fail
  refine HF.out.mono ?_
  intro e w1 h1
  obtain ⟨g, AR, cR, R, om, rfl, hM, hG, hlen, hrd, hR40, hRR, hb1⟩ := h1.om
  have HM := Lib.hid hM; have HG := Lib.hid hG; have HLEN := Lib.hid hlen; have HB1 := Lib.hid hb1
  have HU : Hid (ReadU w1 w1.heap.size A m us) := Lib.hid ((Reads.below HU0.out hb1).more hb1.size)
  clear h1 hM hG hlen hrd hRR hb1 HF HU0
  go_upto_block 0 with fail
  go_cut [13] (fun v wx => ∃ (k : Nat) (gs : List (List Int)) (A13 : Option Addr) (c13 : Nat), k ≤ 6 ∧ v = .slice A13 k c13 ∧ gs.length = k ∧ GoodL n gs ∧ ReadII wx wx.heap.size A13 k gs ∧ PlainA A13 ∧ k ≤ c13 ∧ c13 ≤ maxLen ∧ Below w1.heap.size w1 wx)
  case first =>
    go_wp2_with fail
    obtain ⟨w0, rfl⟩ : ∃ w0 : World, w0 = w1 := ⟨_, rfl⟩
    go_loopw [13, 14] (fun v i wr => ∃ (k : Nat) (gs : List (List Int)) (zs : List SlI), k ≤ 6 ∧ k ≤ m ∧ i = .int .i64 k ∧ gs.length = k ∧ GoodL n gs ∧ zs.length = k ∧ wr.ownsRow w0.heap.size 26 1 v k (zs.map encSl) ∧ CpI wr w0.heap.size gs zs ∧ Below w0.heap.size w0 wr) (fun _ i _ => 6 - (intOf i).toNat)
    case atStart => exact ⟨0, [], [], by omega, by omega, rfl, rfl, (fun _ h => by cases h), rfl, World.ownsRow_nil _ _ _ _, (fun j hj => absurd hj (by simp)), Below.refl _ _⟩
    case round =>
      obtain ⟨k, gs, zs, hk6, hkm, rfl, hgl, hgd, hzl, hown, hcp, hb⟩ := hrel
      obtain ⟨A13, c13, rfl, hkc, hcm⟩ := ownsRow_form hown
      have HB := Lib.hid hb; have HO := Lib.hid hown; have HCP := Lib.hid hcp; have HZL := Lib.hid hzl; have HGL := Lib.hid hgl; have HGD := Lib.hid hgd
      have hszw := hb.size
      clear hb hown hcp hzl hgl hgd
      by_cases hlt : k < m ∧ k < 6
      · obtain ⟨hlt, hlt6⟩ := hlt
        have hkI : (k : Int) < (m : Int) := by omega
        have hk6I : (k : Int) < 6 := by omega
        have hkx : k < us.length := by rw [HUL.out]; exact hlt
        obtain ⟨ad, rfl, had, hcu⟩ := HU.out.at_ hkx
        have hcw := hcu
        replace hcu := (HB.out.cell (p := ad.add k) (by rw [block_of_add]; exact had)).trans hcu
        have HVA := Lib.hid (valued_any n us[k] wr.drew (by omega))
        have HLS := Lib.hid (lenS wr.drew (HM.out.below (HB.out.drew)) HLEN.out)
        generalize us[k] = u at *
        clear hkx
        go_wp2
        have hcd : wr.drew.cell? (ad.add k) = some (.int .u32 (u.toNat : Int)) := hcu
        refine wp_region_held_drew (S := (fun w' => w'.cell? (ad.add k) = some (.int .u32 (u.toNat : Int)))) (by kernel_rfl) ?_ (fun hHeld => ?_)
        · (try dsimp only)
          (first | exact hcu | exact hcd | exact hc2 | exact hc3 | exact hc4)
        refine wpAnyH_take (i := 0) (v := ?_) rfl (by kernel_rfl) (by kernel_rfl) (by kernel_rfl) (fun _ _ _ h => h) (Or.inl ⟨by rfl, ?_⟩) (by assumption) ?_
        rotate_left
        · intro w hSw
          (try dsimp only at hSw)
          go_simp <;> with_reducible rfl
        try simp only [Act.put, List.getElem_toArray, List.getElem_cons_succ, List.getElem_cons_zero, List.setIfInBounds_toArray, List.set_cons_zero, List.set_cons_succ]
        refine wpAnyH_take (i := 1) (v := ?_) rfl (by kernel_rfl) (by kernel_rfl) (by kernel_rfl) (fun _ _ _ h => h) (Or.inl ⟨by rfl, ?_⟩) (by assumption) ?_
        rotate_left
        · intro w hSw
          (try dsimp only at hSw)
          go_simp <;> with_reducible rfl
        try simp only [Act.put, List.getElem_toArray, List.getElem_cons_succ, List.getElem_cons_zero, List.setIfInBounds_toArray, List.set_cons_zero, List.set_cons_succ]
        refine wpAnyH_take (i := 3) (v := ?_) rfl (by kernel_rfl) (by kernel_rfl) (by kernel_rfl) (fun _ _ _ h => h) (Or.inl ⟨by rfl, ?_⟩) (by assumption) ?_
        rotate_left
        · intro w hSw
          (try dsimp only at hSw)
          go_simp <;> with_reducible rfl
        try simp only [Act.put, List.getElem_toArray, List.getElem_cons_succ, List.getElem_cons_zero, List.setIfInBounds_toArray, List.set_cons_zero, List.set_cons_succ]
        refine wpAnyH_take (i := 4) (v := ?_) rfl (by kernel_rfl) (by kernel_rfl) (by kernel_rfl) (fun _ _ _ h => h) (Or.inl ⟨by rfl, ?_⟩) (by assumption) ?_
        rotate_left
        · intro w hSw
          (try dsimp only at hSw)
          go_simp <;> with_reducible rfl
        try simp only [Act.put, List.getElem_toArray, List.getElem_cons_succ, List.getElem_cons_zero, List.setIfInBounds_toArray, List.set_cons_zero, List.set_cons_succ]
        refine wpAnyH_take (i := 5) (v := ?_) rfl (by kernel_rfl) (by kernel_rfl) (by kernel_rfl) (fun _ _ _ h => h) (Or.inl ⟨by rfl, ?_⟩) (by assumption) ?_
        rotate_left
        · intro w hSw
          (try dsimp only at hSw)
          go_simp <;> with_reducible rfl
        try simp only [Act.put, List.getElem_toArray, List.getElem_cons_succ, List.getElem_cons_zero, List.setIfInBounds_toArray, List.set_cons_zero, List.set_cons_succ]
        refine wpAnyH_take (i := 6) (v := ?_) rfl (by kernel_rfl) (by kernel_rfl) (by kernel_rfl) (fun _ _ _ h => h) (Or.inl ⟨by rfl, ?_⟩) (by assumption) ?_
        rotate_left
        · intro w hSw
          (try dsimp only at hSw)
          go_simp <;> with_reducible rfl
        try simp only [Act.put, List.getElem_toArray, List.getElem_cons_succ, List.getElem_cons_zero, List.setIfInBounds_toArray, List.set_cons_zero, List.set_cons_succ]
        refine wpAnyH_ready (rs := [2]) (by kernel_rfl) (by simp) ?_
        refine AllReadyH.cons rfl (fun K hK => ?_) AllReadyH.nil
        go_simp
        (try go_wp2_with fail)
        refine HLS.out.mono ?_
        rintro e w' ⟨rfl, rfl⟩
        (try go_simp)
        refine hK.out _ _ ?_ (fun hHeld' => ?_)
        · (try dsimp only)
          (first | exact hcu | exact hcd | exact hc2 | exact hc3 | exact hc4)
        clear hK K hHeld
        have hHeld := hHeld'
        clear hHeld'
        refine wpAnyH_ready (rs := [7]) (by kernel_rfl) (by simp) ?_
        refine AllReadyH.cons rfl (fun K hK => ?_) AllReadyH.nil
        go_simp
        (try go_wp2_with fail)
        refine HVA.out.mono ?_
        rintro e w2 ⟨v9, x, rfl, hxl, hx3, ho9, hb9⟩
        obtain ⟨A2, c2, rfl, h2a, h2b⟩ := ownsRow_form ho9
        have HO1 := Lib.hid ho9; have HB2 : Hid (Below wr.heap.size wr w2) := Lib.hid (((Below.refl _ wr).drew).trans hb9); have hsz2 : wr.heap.size ≤ w2.heap.size := hb9.size; have HXL := Lib.hid hxl; have HX3 := Lib.hid hx3
        have HO2 := Lib.hid (own_below (own_below HO.out HB2.out) ((Below.refl _ w2).alloc (Nat.le_refl _) (.cells #[.slice A2 n c2] 26))); have HRN := Lib.hid (reads_new w2 26 [.slice A2 n c2])
        have hc2 : w2.cell? (ad.add k) = some (.int .u32 (u.toNat : Int)) := (HB2.out.cell (p := ad.add k) (by rw [block_of_add]; omega)).trans hcu
        have hc3 : (w2.alloc (.cells #[.slice A2 n c2] 26)).cell? (ad.add k) = some (.int .u32 (u.toNat : Int)) := (((Below.refl w2.heap.size w2).alloc (Nat.le_refl _) _).cell (p := ad.add k) (by rw [block_of_add]; omega)).trans hc2
        clear hxl hx3 ho9 hb9
        (try go_simp)
        refine hK.out _ _ ?_ (fun hHeld' => ?_)
        · (try dsimp only)
          (first | exact hcu | exact hcd | exact hc2 | exact hc3 | exact hc4)
        clear hK K hHeld
        have hHeld := hHeld'
        clear hHeld'
        refine wpAnyH_ready (rs := [8]) (by kernel_rfl) (by simp) ?_
        refine AllReadyH.cons rfl (fun K hK => ?_) AllReadyH.nil
        go_simp
        refine hK.out _ _ ?_ (fun hHeld' => ?_)
        · (try dsimp only)
          (first | exact hcu | exact hcd | exact hc2 | exact hc3 | exact hc4)
        clear hK K hHeld
        have hHeld := hHeld'
        clear hHeld'
        refine wpAnyH_ready (rs := [9]) (by kernel_rfl) (by simp) ?_
        refine AllReadyH.cons rfl (fun K hK => ?_) AllReadyH.nil
        refine step_append_any _ (by rfl) (.tmp 52) (.tmp 60) 43 (by rfl) w0.heap.size 26 i1 (.slice none 0 0) 1 24 Tryd.underlying43 ki kz0 kz1 kz2 (by rfl) (by decide) (.slice A13 k c13) k (zs.map encSl) (by simp [Act.eval, Act.put]) HO2.out _ (some ⟨w2.heap.size, 0, none⟩) 1 1 [.slice A2 n c2] (by simp [Act.eval, Act.put]) HRN.out (by simp [Value.oneCell']) (by unfold maxLen; omega) (by omega) (by simp; omega) ?_
        intro v2 w4 hown2 hgrow2 hx2
        have hb4 : Below w0.heap.size w0 w4 := ((HB.out.trans (HB2.out.mono hszw)).alloc (Nat.le_trans hszw hsz2) _).grown hgrow2 (by simp; omega) (fun g hg => (HO2.out.lt g hg).1)
        have hc4 : w4.cell? (ad.add k) = some (.int .u32 (u.toNat : Int)) := (hb4.cell (p := ad.add k) (by rw [block_of_add]; exact had)).trans hcw
        clear hx2
        refine hK.out _ _ ?_ (fun hHeld' => ?_)
        · (try dsimp only)
          (first | exact hcu | exact hcd | exact hc2 | exact hc3 | exact hc4)
        clear hK K hHeld
        have hHeld := hHeld'
        clear hHeld'
        refine wpAnyH_take (i := 10) (v := ?_) rfl (by kernel_rfl) (by kernel_rfl) (by kernel_rfl) (fun _ _ _ h => h) (Or.inl ⟨by rfl, ?_⟩) (by assumption) ?_
        rotate_left
        · intro w hSw
          (try dsimp only at hSw)
          go_simp <;> with_reducible rfl
        try simp only [Act.put, List.getElem_toArray, List.getElem_cons_succ, List.getElem_cons_zero, List.setIfInBounds_toArray, List.set_cons_zero, List.set_cons_succ]
        refine wpAnyH_done (by kernel_rfl) ?_ _
        go_wp2
        have ha3 : Below w2.heap.size w2 (w2.alloc (.cells #[.slice A2 n c2] 26)) := (Below.refl _ w2).alloc (Nat.le_refl _) _
        have hcp4 := ((HCP.out.below HB2.out).below ha3).kept HO2.out hgrow2
        have hin : w4.ownsRow w0.heap.size 3 1 (encSl (A2, n, c2)) x.length (x.map (Value.int .i64)) := by
          rw [HXL.out]
          have h1 := own_below (own_mono HO1.out hszw) ha3
          exact h1.kept hgrow2 (own_own_ne h1 HO2.out (by decide))
        have HCP5 : Hid (CpI w4 w0.heap.size (gs ++ [x]) (zs ++ [(A2, n, c2)])) := Lib.hid (CpI.snoc2 hcp4 HGL.out HZL.out hin)
        have HGD5 : Hid (GoodL n (gs ++ [x])) := Lib.hid (fun vs hv => by
          rcases List.mem_append.1 hv with hv | hv
          · exact HGD.out vs hv
          · obtain rfl := List.mem_singleton.1 hv
            exact ⟨HXL.out, HX3.out⟩)
        clear hgrow2 hcp4 hin ha3 HVA HLS
        go_roundw
        case rel => exact ⟨k + 1, gs ++ [x], zs ++ [(A2, n, c2)], by omega, by omega, by go_num, by rw [List.length_append, HGL.out]; rfl, HGD5.out, by rw [List.length_append, HZL.out]; rfl, by rw [List.map_append]; exact hown2, HCP5.out, hb4⟩
        case measure => simp [intOf]; omega
      · obtain ⟨hll, hpl⟩ := HCP.out.reads HZL.out HGL.out HO.out
        have HLL2 := Lib.hid hll; have HPL2 := Lib.hid hpl
        have hend : (m : Int) ≤ (k : Int) ∨ ((k : Int) < (m : Int) ∧ ¬ (k : Int) < 6) := by omega
        clear hll hpl HCP HZL HO
        rcases hend with hend | ⟨hend, hend2⟩
        all_goals
          go_wp2
          go_meet
          exact ⟨k, gs, A13, c13, hk6, rfl, HGL.out, HGD.out, HLL2.out, HPL2.out, hkc, hcm, HB.out⟩
  case rest =>
      obtain ⟨k, gs, A13, c13, hk6, rfl, hgl, hgd, hll, hpl, hkc, hcm, hbw⟩ := hcut
      have HGL := Lib.hid hgl; have HGD := Lib.hid hgd; have HPL := Lib.hid hpl
      have E := Lib.hid (EnvD.mk (HM.out.below hbw) hll (HB1.out.trans (hbw.mono HB1.out.size)) : EnvD w wc (some ⟨g, 0, none⟩) om A13 k gs)
      clear hgl hgd hll hpl hbw HU HUL HM HB1
      obtain ⟨a, ha⟩ : ∃ a, ya % n = a := ⟨_, rfl⟩
      obtain ⟨b, hb⟩ : ∃ b, yb % n = b := ⟨_, rfl⟩
      obtain ⟨d, hd⟩ : ∃ d, yc % n = d := ⟨_, rfl⟩
      have han : a < n := by rw [← ha]; exact Nat.mod_lt _ (by omega)
      have hbn : b < n := by rw [← hb]; exact Nat.mod_lt _ (by omega)
      have hdn : d < n := by rw [← hd]; exact Nat.mod_lt _ (by omega)
      have hn0 : ¬ n = 0 := by omega
      have hwa : IntKind.i64.wrap (ya : Int) = (ya : Int) := IntWalk.i64_in _ (by omega)
      have hwb : IntKind.i64.wrap (yb : Int) = (yb : Int) := IntWalk.i64_in _ (by omega)
      have hwc : IntKind.i64.wrap (yc : Int) = (yc : Int) := IntWalk.i64_in _ (by omega)
      have hta : ((ya : Int)).tmod (n : Int) = (a : Int) := by rw [← ha, Int.natCast_emod]; exact Int.tmod_eq_emod_of_nonneg (by omega)
      have htb : ((yb : Int)).tmod (n : Int) = (b : Int) := by rw [← hb, Int.natCast_emod]; exact Int.tmod_eq_emod_of_nonneg (by omega)
      have htc : ((yc : Int)).tmod (n : Int) = (d : Int) := by rw [← hd, Int.natCast_emod]; exact Int.tmod_eq_emod_of_nonneg (by omega)
      clear ha hb hd
      have HLS := Lib.hid (fun (W : World) (hW : MapO W (some ⟨g, 0, none⟩) om) => lenS W hW HLEN.out)
      have hk1 : Hid (k = 0 ∨ 1 ≤ k) := Lib.hid (by omega)
      rcases hk1.out with hk0 | hk1'
      · obtain rfl : gs = [] := List.eq_nil_of_length_eq_zero (by rw [HGL.out]; exact hk0)
        subst hk0
        go_wp2_with fail
        go_quiet ((go_at_call 35; exact Calls.quiet_of_same (HLS.out _ (E.out.map.below (below_drewN _ _ _)))))
        have E1 := Lib.hid (E.out.later (below_drewN _ wc nq))
        generalize wc.drewN nq = wq at E1 ⊢
        clear hwa hwb hwc hta htb htc E
        have q0 := differFP_any A13 0 c13 [] (a : Int) (b : Int) _ E1.out.ll
        unfold FracE at q0
        rw [show difA [] (a : Int) (b : Int) = .agg #[.int .i64 0, .int .i64 0] from (by unfold difA; rw [dif_nil]; rfl), dif_nil] at q0
        go_wp2_with fail
        refine q0.mono ?_
        rintro e v0 ⟨rfl, hb⟩
        have hal := hb.trans (((Below.refl v0.heap.size v0).alloc (Nat.le_refl _) (.cells #[.int .i64 0, .int .i64 0] 37)).mono hb.size)
        have F0 := Lib.hid (Blk.new v0 37 #[.int .i64 0, .int .i64 0])
        have E' := Lib.hid (E1.out.later hal)
        clear hal hb q0 E1 
        have E1 := E'; clear E'
        clear F0
        have q0 := differFP_any A13 0 c13 [] (b : Int) (a : Int) _ E1.out.ll
        unfold FracE at q0
        rw [show difA [] (b : Int) (a : Int) = .agg #[.int .i64 0, .int .i64 0] from (by unfold difA; rw [dif_nil]; rfl), dif_nil] at q0
        go_wp2_with fail
        refine q0.mono ?_
        rintro e v1 ⟨rfl, hb⟩
        have hal := hb.trans (((Below.refl v1.heap.size v1).alloc (Nat.le_refl _) (.cells #[.int .i64 0, .int .i64 0] 37)).mono hb.size)
        have F1 := Lib.hid (Blk.new v1 37 #[.int .i64 0, .int .i64 0])
        have E' := Lib.hid (E1.out.later hal)
        clear hal hb q0 E1 
        have E1 := E'; clear E'
        clear F1
        have q0 := differFP_any A13 0 c13 [] (a : Int) (a : Int) _ E1.out.ll
        unfold FracE at q0
        rw [show difA [] (a : Int) (a : Int) = .agg #[.int .i64 0, .int .i64 0] from (by unfold difA; rw [dif_nil]; rfl), dif_nil] at q0
        go_wp2_with fail
        refine q0.mono ?_
        rintro e v2 ⟨rfl, hb⟩
        have hal := hb.trans (((Below.refl v2.heap.size v2).alloc (Nat.le_refl _) (.cells #[.int .i64 0, .int .i64 0] 37)).mono hb.size)
        have F2 := Lib.hid (Blk.new v2 37 #[.int .i64 0, .int .i64 0])
        have E' := Lib.hid (E1.out.later hal)
        clear hal hb q0 E1 
        have E1 := E'; clear E'
        clear F2
        have q0 := differFP_any A13 0 c13 [] (a : Int) (d : Int) _ E1.out.ll
        unfold FracE at q0
        rw [show difA [] (a : Int) (d : Int) = .agg #[.int .i64 0, .int .i64 0] from (by unfold difA; rw [dif_nil]; rfl), dif_nil] at q0
        go_wp2_with fail
        refine q0.mono ?_
        rintro e v3 ⟨rfl, hb⟩
        have hal := hb.trans (((Below.refl v3.heap.size v3).alloc (Nat.le_refl _) (.cells #[.int .i64 0, .int .i64 0] 37)).mono hb.size)
        have F3 := Lib.hid (Blk.new v3 37 #[.int .i64 0, .int .i64 0])
        have E' := Lib.hid (E1.out.later hal)
        clear hal hb q0 E1 
        have E1 := E'; clear E'
        clear F3
        have q0 := differFP_any A13 0 c13 [] (d : Int) (b : Int) _ E1.out.ll
        unfold FracE at q0
        rw [show difA [] (d : Int) (b : Int) = .agg #[.int .i64 0, .int .i64 0] from (by unfold difA; rw [dif_nil]; rfl), dif_nil] at q0
        go_wp2_with fail
        refine q0.mono ?_
        rintro e v4 ⟨rfl, hb⟩
        have hal := hb.trans (((Below.refl v4.heap.size v4).alloc (Nat.le_refl _) (.cells #[.int .i64 0, .int .i64 0] 37)).mono hb.size)
        have F4 := Lib.hid (Blk.new v4 37 #[.int .i64 0, .int .i64 0])
        have E' := Lib.hid (E1.out.later hal)
        clear hal hb q0 E1 
        have E1 := E'; clear E'
        clear F4
        have q0 := alikeP_any (some ⟨g, 0, none⟩) om A13 0 c13 [] (a : Int) _ E1.out.map HG.out E1.out.ll HPL.out (by unfold maxLen; omega)
        unfold IntE at q0
        rw [alk_nil HLEN.out hn3 han, alkE_nil HLEN.out hn3 han] at q0
        go_wp2_with fail
        refine q0.mono ?_
        rintro e v9 ⟨rfl, hb⟩
        have E' := Lib.hid (E1.out.later hb)
        clear q0 hb E1
        have E1 := E'; clear E'
        have hbl := fun (t : Bool) (W : World) => boolean_any t W
        by_cases ha0 : a = 0
        · skip
          subst ha0
          go_wp2_with fail
          refine (hbl true _).mono ?_
          rintro e w' ⟨rfl, rfl⟩
          go_wp2_with fail
          refine (HWK.out _).mono ?_
          rintro e v5 ⟨rfl, hb5⟩
          have HBE := Lib.hid (E1.out.below.trans (hb5.mono E1.out.below.size))
          clear hb5
          go_wp2
          go_ret
          exact ⟨rfl, HBE.out⟩
        · skip
          have ha0I : ((a : Int) == 0) = false := beq_false_of_ne (by omega)
          go_wp2_with fail
          refine (hbl false _).mono ?_
          rintro e w' ⟨rfl, rfl⟩
          go_wp2_with fail
          refine (HWK.out _).mono ?_
          rintro e v5 ⟨rfl, hb5⟩
          have HBE := Lib.hid (E1.out.below.trans (hb5.mono E1.out.below.size))
          clear hb5
          go_wp2
          go_ret
          exact ⟨rfl, HBE.out⟩
      · skip
        go_wp2_with fail
        go_quiet ((go_at_call 35; exact Calls.quiet_of_same (HLS.out _ (E.out.map.below (below_drewN _ _ _)))))
        have E1 := Lib.hid (E.out.later (below_drewN _ wc nq))
        generalize wc.drewN nq = wq at E1 ⊢
        clear hwa hwb hwc hta htb htc E
        have hg1 : 1 ≤ gs.length := by rw [HGL.out]; exact hk1'
        have hg6 : gs.length ≤ 6 := by rw [HGL.out]; exact hk6
        have HDG := Lib.hid (fun (p q : Nat) hp hq => dif_good HGD.out hg1 hg6 (a := p) (b := q) hp hq)
        have HGCH := Lib.hid (HGD.out.chk (by omega) hg6)
        rw [HGL.out] at HDG
        obtain ⟨d1, hd1⟩ : ∃ q, difN gs (a : Int) (b : Int) = q := ⟨_, rfl⟩
        obtain ⟨d2, hd2⟩ : ∃ q, difN gs (b : Int) (a : Int) = q := ⟨_, rfl⟩
        obtain ⟨d3, hd3⟩ : ∃ q, difN gs (a : Int) (a : Int) = q := ⟨_, rfl⟩
        obtain ⟨d4, hd4⟩ : ∃ q, difN gs (a : Int) (d : Int) = q := ⟨_, rfl⟩
        obtain ⟨d5, hd5⟩ : ∃ q, difN gs (d : Int) (b : Int) = q := ⟨_, rfl⟩
        have hs12 : d1 = d2 := by rw [← hd1, ← hd2]; exact dif_symm _ _ _
        have hs3 : d3 = 0 := by rw [← hd3]; exact dif_self _ _
        have htri : d1 ≤ d4 + d5 := by rw [← hd1, ← hd4, ← hd5]; exact dif_tri _ _ _ _
        have hle1 : d1 ≤ k := by rw [← hd1, ← HGL.out]; exact dif_le _ _ _
        have hle4 : d4 ≤ k := by rw [← hd4, ← HGL.out]; exact dif_le _ _ _
        have hle5 : d5 ≤ k := by rw [← hd5, ← HGL.out]; exact dif_le _ _ _
        subst hs12 hs3
        have HA1 := Lib.hid (show difA gs (a : Int) (b : Int) = fracA d1 k from by rw [← hd1]; exact (HDG.out a b han hbn).2)
        have HE1 := Lib.hid (HDG.out a b han hbn).1
        have HA2 := Lib.hid (show difA gs (b : Int) (a : Int) = fracA d1 k from by rw [← hd2]; exact (HDG.out b a hbn han).2)
        have HE2 := Lib.hid (HDG.out b a hbn han).1
        have HA3 := Lib.hid (show difA gs (a : Int) (a : Int) = fracA 0 k from by rw [← hd3]; exact (HDG.out a a han han).2)
        have HE3 := Lib.hid (HDG.out a a han han).1
        have HA4 := Lib.hid (show difA gs (a : Int) (d : Int) = fracA d4 k from by rw [← hd4]; exact (HDG.out a d han hdn).2)
        have HE4 := Lib.hid (HDG.out a d han hdn).1
        have HA5 := Lib.hid (show difA gs (d : Int) (b : Int) = fracA d5 k from by rw [← hd5]; exact (HDG.out d b hdn hbn).2)
        have HE5 := Lib.hid (HDG.out d b hdn hbn).1
        clear hd1 hd2 hd3 hd4 hd5
        obtain ⟨f1, f1a, f1b, f1c⟩ := low60 hk1' hk6 hle1
        obtain ⟨N1, hN1⟩ : ∃ q, lowN d1 k = q := ⟨_, rfl⟩
        obtain ⟨D1, hD1⟩ : ∃ q, lowD d1 k = q := ⟨_, rfl⟩
        obtain ⟨f4, f4a, f4b, f4c⟩ := low60 hk1' hk6 hle4
        obtain ⟨N4, hN4⟩ : ∃ q, lowN d4 k = q := ⟨_, rfl⟩
        obtain ⟨D4, hD4⟩ : ∃ q, lowD d4 k = q := ⟨_, rfl⟩
        obtain ⟨f5, f5a, f5b, f5c⟩ := low60 hk1' hk6 hle5
        obtain ⟨N5, hN5⟩ : ∃ q, lowN d5 k = q := ⟨_, rfl⟩
        obtain ⟨D5, hD5⟩ : ∃ q, lowD d5 k = q := ⟨_, rfl⟩
        have hz0 : lowN 0 k = 0 := by unfold lowN; exact Nat.zero_div _
        have hz1 : lowD 0 k = 1 := by unfold lowD; rw [Nat.gcd_zero_left]; exact Nat.div_self (by omega)
        unfold fracA at HA1 HA2 HA3 HA4 HA5
        rw [hz0, hz1] at HA3
        rw [hN1, hD1] at HA1
        rw [hN1] at f1 f1c
        rw [hD1] at f1 f1a f1b f1c
        rw [hN4, hD4] at HA4
        rw [hN4] at f4 f4c
        rw [hD4] at f4 f4a f4b f4c
        rw [hN5, hD5] at HA5
        rw [hN5] at f5 f5c
        rw [hD5] at f5 f5a f5b f5c
        rw [hN1, hD1] at HA2
        have ht60 := tri60 hk1' hk6 htri
        rw [← f1, ← f4, ← f5] at ht60
        have HT60 := Lib.hid ht60
        clear hz0 hz1 hN1 hN4 hN5 hD1 hD4 hD5 f1 f4 f5 ht60
        have q0 := differFP_any A13 k c13 gs (a : Int) (b : Int) _ E1.out.ll
        unfold FracE at q0
        rw [HA1.out, HE1.out] at q0
        go_wp2_with fail
        refine q0.mono ?_
        rintro e v0 ⟨rfl, hb⟩
        have hal := hb.trans (((Below.refl v0.heap.size v0).alloc (Nat.le_refl _) (.cells #[.int .i64 (N1 : Int), .int .i64 (D1 : Int)] 37)).mono hb.size)
        have F0 := Lib.hid (Blk.new v0 37 #[.int .i64 (N1 : Int), .int .i64 (D1 : Int)])
        have E' := Lib.hid (E1.out.later hal)
        clear hal hb q0 E1 
        have E1 := E'; clear E'
        have q0 := differFP_any A13 k c13 gs (b : Int) (a : Int) _ E1.out.ll
        unfold FracE at q0
        rw [HA2.out, HE2.out] at q0
        go_wp2_with fail
        refine q0.mono ?_
        rintro e v1 ⟨rfl, hb⟩
        have hal := hb.trans (((Below.refl v1.heap.size v1).alloc (Nat.le_refl _) (.cells #[.int .i64 (N1 : Int), .int .i64 (D1 : Int)] 37)).mono hb.size)
        have F1 := Lib.hid (Blk.new v1 37 #[.int .i64 (N1 : Int), .int .i64 (D1 : Int)])
        have E' := Lib.hid (E1.out.later hal)
        have F0' := Lib.hid (F0.out.below hal F0.out.lt)
        clear hal hb q0 E1 F0
        have E1 := E'; clear E'
        have F0 := F0'; clear F0'
        have HA3' : Hid (difA gs (a : Int) (a : Int) = .agg #[.int .i64 0, .int .i64 1]) := Lib.hid (by rw [HA3.out]; rfl)
        have q0 := differFP_any A13 k c13 gs (a : Int) (a : Int) _ E1.out.ll
        unfold FracE at q0
        rw [HA3'.out, HE3.out] at q0
        go_wp2_with fail
        refine q0.mono ?_
        rintro e v2 ⟨rfl, hb⟩
        have hal := hb.trans (((Below.refl v2.heap.size v2).alloc (Nat.le_refl _) (.cells #[.int .i64 0, .int .i64 1] 37)).mono hb.size)
        have F2 := Lib.hid (Blk.new v2 37 #[.int .i64 0, .int .i64 1])
        have E' := Lib.hid (E1.out.later hal)
        have F0' := Lib.hid (F0.out.below hal F0.out.lt)
        have F1' := Lib.hid (F1.out.below hal F1.out.lt)
        clear hal hb q0 E1 F0 F1
        have E1 := E'; clear E'
        have F0 := F0'; clear F0'
        have F1 := F1'; clear F1'
        have q0 := differFP_any A13 k c13 gs (a : Int) (d : Int) _ E1.out.ll
        unfold FracE at q0
        rw [HA4.out, HE4.out] at q0
        go_wp2_with fail
        refine q0.mono ?_
        rintro e v3 ⟨rfl, hb⟩
        have hal := hb.trans (((Below.refl v3.heap.size v3).alloc (Nat.le_refl _) (.cells #[.int .i64 (N4 : Int), .int .i64 (D4 : Int)] 37)).mono hb.size)
        have F3 := Lib.hid (Blk.new v3 37 #[.int .i64 (N4 : Int), .int .i64 (D4 : Int)])
        have E' := Lib.hid (E1.out.later hal)
        have F0' := Lib.hid (F0.out.below hal F0.out.lt)
        have F1' := Lib.hid (F1.out.below hal F1.out.lt)
        have F2' := Lib.hid (F2.out.below hal F2.out.lt)
        clear hal hb q0 E1 F0 F1 F2
        have E1 := E'; clear E'
        have F0 := F0'; clear F0'
        have F1 := F1'; clear F1'
        have F2 := F2'; clear F2'
        have q0 := differFP_any A13 k c13 gs (d : Int) (b : Int) _ E1.out.ll
        unfold FracE at q0
        rw [HA5.out, HE5.out] at q0
        go_wp2_with fail
        refine q0.mono ?_
        rintro e v4 ⟨rfl, hb⟩
        have hal := hb.trans (((Below.refl v4.heap.size v4).alloc (Nat.le_refl _) (.cells #[.int .i64 (N5 : Int), .int .i64 (D5 : Int)] 37)).mono hb.size)
        have F4 := Lib.hid (Blk.new v4 37 #[.int .i64 (N5 : Int), .int .i64 (D5 : Int)])
        have E' := Lib.hid (E1.out.later hal)
        have F0' := Lib.hid (F0.out.below hal F0.out.lt)
        have F1' := Lib.hid (F1.out.below hal F1.out.lt)
        have F2' := Lib.hid (F2.out.below hal F2.out.lt)
        have F3' := Lib.hid (F3.out.below hal F3.out.lt)
        clear hal hb q0 E1 F0 F1 F2 F3
        have E1 := E'; clear E'
        have F0 := F0'; clear F0'
        have F1 := F1'; clear F1'
        have F2 := F2'; clear F2'
        have F3 := F3'; clear F3'
        obtain ⟨best, hbn', hba, hAE, hAV, hl1, hl2⟩ := alk_good HGD.out hg6 HLEN.out hn3 han
        have HAE := Lib.hid hAE; have HAV := Lib.hid hAV; have HL1 := Lib.hid hl1; have HL2 := Lib.hid hl2
        clear hAE hAV hl1 hl2
        have q0 := alikeP_any (some ⟨g, 0, none⟩) om A13 k c13 gs (a : Int) _ E1.out.map HG.out E1.out.ll HPL.out (by unfold maxLen; omega)
        unfold IntE at q0
        rw [HAE.out, HAV.out] at q0
        go_wp2_with fail
        refine q0.mono ?_
        rintro e vz ⟨rfl, hb⟩
        have E' := Lib.hid (E1.out.later hb)
        have F0' := Lib.hid (F0.out.below hb F0.out.lt)
        have F1' := Lib.hid (F1.out.below hb F1.out.lt)
        have F2' := Lib.hid (F2.out.below hb F2.out.lt)
        have F3' := Lib.hid (F3.out.below hb F3.out.lt)
        have F4' := Lib.hid (F4.out.below hb F4.out.lt)
        clear q0 hb E1 F0 F1 F2 F3 F4
        have E1 := E'; clear E'
        have F0 := F0'; clear F0'
        have F1 := F1'; clear F1'
        have F2 := F2'; clear F2'
        have F3 := F3'; clear F3'
        have F4 := F4'; clear F4'
        have x0 := F0.out.cell 0; have y0 := F0.out.cell 1
        have x1 := F1.out.cell 0; have y1 := F1.out.cell 1
        have x2 := F2.out.cell 0; have y2 := F2.out.cell 1
        have x3 := F3.out.cell 0; have y3 := F3.out.cell 1
        have x4 := F4.out.cell 0; have y4 := F4.out.cell 1
        simp only [List.getElem?_toArray, List.getElem?_cons_zero, List.getElem?_cons_succ] at x0 y0 x1 y1 x2 y2 x3 y3 x4 y4
        have hkI : ¬ (k : Int) = 0 := by omega
        go_upto_region 20 with fail
        have HKS : Hid (∀ W, Below vz.heap.size vz W → W.cell? ⟨v0.heap.size, 0, none⟩ = some (.int .i64 (N1 : Int)) ∧ W.cell? ⟨v0.heap.size, 1, none⟩ = some (.int .i64 (D1 : Int)) ∧ W.cell? ⟨v3.heap.size, 0, none⟩ = some (.int .i64 (N4 : Int)) ∧ W.cell? ⟨v3.heap.size, 1, none⟩ = some (.int .i64 (D4 : Int)) ∧ W.cell? ⟨v4.heap.size, 0, none⟩ = some (.int .i64 (N5 : Int)) ∧ W.cell? ⟨v4.heap.size, 1, none⟩ = some (.int .i64 (D5 : Int))) := Lib.hid (fun W hW => ⟨(hW.cell (p := ⟨v0.heap.size, 0, none⟩) F0.out.lt).trans x0, (hW.cell (p := ⟨v0.heap.size, 1, none⟩) F0.out.lt).trans y0, (hW.cell (p := ⟨v3.heap.size, 0, none⟩) F3.out.lt).trans x3, (hW.cell (p := ⟨v3.heap.size, 1, none⟩) F3.out.lt).trans y3, (hW.cell (p := ⟨v4.heap.size, 0, none⟩) F4.out.lt).trans x4, (hW.cell (p := ⟨v4.heap.size, 1, none⟩) F4.out.lt).trans y4⟩)
        clear x0 y0 x1 y1 x2 y2 x3 y3 x4 y4
        have HSH := Lib.hid (fun (x y : Nat) (W : World) (p1 : 1 ≤ y) (p2 : y ≤ k) (p3 : x ≤ y) => share_any (x : Int) (y : Int) k W (by omega) (by omega) (by omega) (by omega))
        obtain ⟨u1, hu1⟩ : ∃ q, N1 * 60 / D1 = q := ⟨_, rfl⟩
        have hul1 : u1 ≤ 360 := by rw [← hu1]; exact Nat.le_trans (Nat.div_le_self _ _) (by omega)
        have hD1 : ¬ D1 = 0 := by omega
        have hw1 : IntKind.i64.wrap ((N1 : Int) * 60) = (N1 : Int) * 60 := IntWalk.i64_in _ (by omega)
        have hq1 : ((N1 : Int) * 60).tdiv (D1 : Int) = (u1 : Int) := by rw [Int.tdiv_eq_ediv_of_nonneg (by omega), ← hu1]; rw [Int.natCast_ediv, Int.natCast_mul]; rfl
        have hwq1 : IntKind.i64.wrap (u1 : Int) = (u1 : Int) := IntWalk.i64_in _ (by omega)
        obtain ⟨u4, hu4⟩ : ∃ q, N4 * 60 / D4 = q := ⟨_, rfl⟩
        have hul4 : u4 ≤ 360 := by rw [← hu4]; exact Nat.le_trans (Nat.div_le_self _ _) (by omega)
        have hD4 : ¬ D4 = 0 := by omega
        have hw4 : IntKind.i64.wrap ((N4 : Int) * 60) = (N4 : Int) * 60 := IntWalk.i64_in _ (by omega)
        have hq4 : ((N4 : Int) * 60).tdiv (D4 : Int) = (u4 : Int) := by rw [Int.tdiv_eq_ediv_of_nonneg (by omega), ← hu4]; rw [Int.natCast_ediv, Int.natCast_mul]; rfl
        have hwq4 : IntKind.i64.wrap (u4 : Int) = (u4 : Int) := IntWalk.i64_in _ (by omega)
        obtain ⟨u5, hu5⟩ : ∃ q, N5 * 60 / D5 = q := ⟨_, rfl⟩
        have hul5 : u5 ≤ 360 := by rw [← hu5]; exact Nat.le_trans (Nat.div_le_self _ _) (by omega)
        have hD5 : ¬ D5 = 0 := by omega
        have hw5 : IntKind.i64.wrap ((N5 : Int) * 60) = (N5 : Int) * 60 := IntWalk.i64_in _ (by omega)
        have hq5 : ((N5 : Int) * 60).tdiv (D5 : Int) = (u5 : Int) := by rw [Int.tdiv_eq_ediv_of_nonneg (by omega), ← hu5]; rw [Int.natCast_ediv, Int.natCast_mul]; rfl
        have hwq5 : IntKind.i64.wrap (u5 : Int) = (u5 : Int) := IntWalk.i64_in _ (by omega)
        have hw45 : IntKind.i64.wrap ((u4 : Int) + (u5 : Int)) = (u4 : Int) + (u5 : Int) := IntWalk.i64_in _ (by omega)
        have hcmp : decide ((u4 : Int) + (u5 : Int) < (u1 : Int)) = false := by have := HT60.out; rw [hu1, hu4, hu5] at this; exact decide_eq_false (by omega)
        clear hu1 hu4 hu5
        have hd0 : Below vz.heap.size vz vz.drew := (Below.refl _ _).drew
        refine wp_region_held_drew (S := (fun W => W.cell? ⟨v0.heap.size, 0, none⟩ = some (.int .i64 (N1 : Int)) ∧ W.cell? ⟨v0.heap.size, 1, none⟩ = some (.int .i64 (D1 : Int)) ∧ W.cell? ⟨v3.heap.size, 0, none⟩ = some (.int .i64 (N4 : Int)) ∧ W.cell? ⟨v3.heap.size, 1, none⟩ = some (.int .i64 (D4 : Int)) ∧ W.cell? ⟨v4.heap.size, 0, none⟩ = some (.int .i64 (N5 : Int)) ∧ W.cell? ⟨v4.heap.size, 1, none⟩ = some (.int .i64 (D5 : Int)))) (by kernel_rfl) ?_ (fun hHeld => ?_)
        · (try dsimp only)
          (first | exact HKS.out _ hd0 | exact HKS.out _ hd1 | exact HKS.out _ hd2 | exact HKS.out _ hd3)
        refine wpAnyH_take (i := 0) (v := ?_) rfl (by kernel_rfl) (by kernel_rfl) (by kernel_rfl) (fun _ _ _ h => h) (Or.inl ⟨by rfl, ?_⟩) (by assumption) ?_
        rotate_left
        · intro w hSw
          (try dsimp only at hSw)
          go_simp <;> with_reducible rfl
        try simp only [Act.put, List.getElem_toArray, List.getElem_cons_succ, List.getElem_cons_zero, List.setIfInBounds_toArray, List.set_cons_zero, List.set_cons_succ]
        refine wpAnyH_take (i := 1) (v := ?_) rfl (by kernel_rfl) (by kernel_rfl) (by kernel_rfl) (fun _ _ _ h => h) (Or.inl ⟨by rfl, ?_⟩) (by assumption) ?_
        rotate_left
        · intro w hSw
          (try dsimp only at hSw)
          go_simp <;> with_reducible rfl
        try simp only [Act.put, List.getElem_toArray, List.getElem_cons_succ, List.getElem_cons_zero, List.setIfInBounds_toArray, List.set_cons_zero, List.set_cons_succ]
        refine wpAnyH_take (i := 2) (v := ?_) rfl (by kernel_rfl) (by kernel_rfl) (by kernel_rfl) (fun _ _ _ h => h) (Or.inl ⟨by rfl, ?_⟩) (by assumption) ?_
        rotate_left
        · intro w hSw
          (try dsimp only at hSw)
          go_simp <;> with_reducible rfl
        try simp only [Act.put, List.getElem_toArray, List.getElem_cons_succ, List.getElem_cons_zero, List.setIfInBounds_toArray, List.set_cons_zero, List.set_cons_succ]
        refine wpAnyH_ready (rs := [3]) (by kernel_rfl) (by simp) ?_
        refine AllReadyH.cons rfl (fun K hK => ?_) AllReadyH.nil
        go_simp
        (try go_wp2_with fail)
        refine (HSH.out N1 D1 _ f1a f1b f1c).mono ?_
        rintro e z1 ⟨rfl, hz⟩
        have hd1 : Below vz.heap.size vz z1 := hd0.trans (hz.mono hd0.size)
        clear hz
        (try go_simp)
        refine hK.out _ _ ?_ (fun hHeld' => ?_)
        · (try dsimp only)
          (first | exact HKS.out _ hd0 | exact HKS.out _ hd1 | exact HKS.out _ hd2 | exact HKS.out _ hd3)
        clear hK K hHeld
        have hHeld := hHeld'
        clear hHeld'
        refine wpAnyH_take (i := 4) (v := ?_) rfl (by kernel_rfl) (by kernel_rfl) (by kernel_rfl) (fun _ _ _ h => h) (Or.inl ⟨by rfl, ?_⟩) (by assumption) ?_
        rotate_left
        · intro w hSw
          (try dsimp only at hSw)
          go_simp <;> with_reducible rfl
        try simp only [Act.put, List.getElem_toArray, List.getElem_cons_succ, List.getElem_cons_zero, List.setIfInBounds_toArray, List.set_cons_zero, List.set_cons_succ]
        refine wpAnyH_take (i := 5) (v := ?_) rfl (by kernel_rfl) (by kernel_rfl) (by kernel_rfl) (fun _ _ _ h => h) (Or.inl ⟨by rfl, ?_⟩) (by assumption) ?_
        rotate_left
        · intro w hSw
          (try dsimp only at hSw)
          go_simp <;> with_reducible rfl
        try simp only [Act.put, List.getElem_toArray, List.getElem_cons_succ, List.getElem_cons_zero, List.setIfInBounds_toArray, List.set_cons_zero, List.set_cons_succ]
        refine wpAnyH_take (i := 6) (v := ?_) rfl (by kernel_rfl) (by kernel_rfl) (by kernel_rfl) (fun _ _ _ h => h) (Or.inl ⟨by rfl, ?_⟩) (by assumption) ?_
        rotate_left
        · intro w hSw
          (try dsimp only at hSw)
          go_simp <;> with_reducible rfl
        try simp only [Act.put, List.getElem_toArray, List.getElem_cons_succ, List.getElem_cons_zero, List.setIfInBounds_toArray, List.set_cons_zero, List.set_cons_succ]
        refine wpAnyH_take (i := 7) (v := ?_) rfl (by kernel_rfl) (by kernel_rfl) (by kernel_rfl) (fun _ _ _ h => h) (Or.inl ⟨by rfl, ?_⟩) (by assumption) ?_
        rotate_left
        · intro w hSw
          (try dsimp only at hSw)
          go_simp <;> with_reducible rfl
        try simp only [Act.put, List.getElem_toArray, List.getElem_cons_succ, List.getElem_cons_zero, List.setIfInBounds_toArray, List.set_cons_zero, List.set_cons_succ]
        refine wpAnyH_take (i := 8) (v := ?_) rfl (by kernel_rfl) (by kernel_rfl) (by kernel_rfl) (fun _ _ _ h => h) (Or.inl ⟨by rfl, ?_⟩) (by assumption) ?_
        rotate_left
        · intro w hSw
          (try dsimp only at hSw)
          go_simp <;> with_reducible rfl
        try simp only [Act.put, List.getElem_toArray, List.getElem_cons_succ, List.getElem_cons_zero, List.setIfInBounds_toArray, List.set_cons_zero, List.set_cons_succ]
        refine wpAnyH_ready (rs := [9]) (by kernel_rfl) (by simp) ?_
        refine AllReadyH.cons rfl (fun K hK => ?_) AllReadyH.nil
        go_simp
        (try go_wp2_with fail)
        refine (HSH.out N4 D4 _ f4a f4b f4c).mono ?_
        rintro e z2 ⟨rfl, hz⟩
        have hd2 : Below vz.heap.size vz z2 := hd1.trans (hz.mono hd1.size)
        clear hz
        (try go_simp)
        refine hK.out _ _ ?_ (fun hHeld' => ?_)
        · (try dsimp only)
          (first | exact HKS.out _ hd0 | exact HKS.out _ hd1 | exact HKS.out _ hd2 | exact HKS.out _ hd3)
        clear hK K hHeld
        have hHeld := hHeld'
        clear hHeld'
        refine wpAnyH_take (i := 10) (v := ?_) rfl (by kernel_rfl) (by kernel_rfl) (by kernel_rfl) (fun _ _ _ h => h) (Or.inl ⟨by rfl, ?_⟩) (by assumption) ?_
        rotate_left
        · intro w hSw
          (try dsimp only at hSw)
          go_simp <;> with_reducible rfl
        try simp only [Act.put, List.getElem_toArray, List.getElem_cons_succ, List.getElem_cons_zero, List.setIfInBounds_toArray, List.set_cons_zero, List.set_cons_succ]
        refine wpAnyH_take (i := 11) (v := ?_) rfl (by kernel_rfl) (by kernel_rfl) (by kernel_rfl) (fun _ _ _ h => h) (Or.inl ⟨by rfl, ?_⟩) (by assumption) ?_
        rotate_left
        · intro w hSw
          (try dsimp only at hSw)
          go_simp <;> with_reducible rfl
        try simp only [Act.put, List.getElem_toArray, List.getElem_cons_succ, List.getElem_cons_zero, List.setIfInBounds_toArray, List.set_cons_zero, List.set_cons_succ]
        refine wpAnyH_take (i := 12) (v := ?_) rfl (by kernel_rfl) (by kernel_rfl) (by kernel_rfl) (fun _ _ _ h => h) (Or.inl ⟨by rfl, ?_⟩) (by assumption) ?_
        rotate_left
        · intro w hSw
          (try dsimp only at hSw)
          go_simp <;> with_reducible rfl
        try simp only [Act.put, List.getElem_toArray, List.getElem_cons_succ, List.getElem_cons_zero, List.setIfInBounds_toArray, List.set_cons_zero, List.set_cons_succ]
        refine wpAnyH_take (i := 13) (v := ?_) rfl (by kernel_rfl) (by kernel_rfl) (by kernel_rfl) (fun _ _ _ h => h) (Or.inl ⟨by rfl, ?_⟩) (by assumption) ?_
        rotate_left
        · intro w hSw
          (try dsimp only at hSw)
          go_simp <;> with_reducible rfl
        try simp only [Act.put, List.getElem_toArray, List.getElem_cons_succ, List.getElem_cons_zero, List.setIfInBounds_toArray, List.set_cons_zero, List.set_cons_succ]
        refine wpAnyH_take (i := 14) (v := ?_) rfl (by kernel_rfl) (by kernel_rfl) (by kernel_rfl) (fun _ _ _ h => h) (Or.inl ⟨by rfl, ?_⟩) (by assumption) ?_
        rotate_left
        · intro w hSw
          (try dsimp only at hSw)
          go_simp <;> with_reducible rfl
        try simp only [Act.put, List.getElem_toArray, List.getElem_cons_succ, List.getElem_cons_zero, List.setIfInBounds_toArray, List.set_cons_zero, List.set_cons_succ]
        refine wpAnyH_take (i := 15) (v := ?_) rfl (by kernel_rfl) (by kernel_rfl) (by kernel_rfl) (fun _ _ _ h => h) (Or.inl ⟨by rfl, ?_⟩) (by assumption) ?_
        rotate_left
        · intro w hSw
          (try dsimp only at hSw)
          go_simp <;> with_reducible rfl
        try simp only [Act.put, List.getElem_toArray, List.getElem_cons_succ, List.getElem_cons_zero, List.setIfInBounds_toArray, List.set_cons_zero, List.set_cons_succ]
        refine wpAnyH_ready (rs := [16]) (by kernel_rfl) (by simp) ?_
        refine AllReadyH.cons rfl (fun K hK => ?_) AllReadyH.nil
        go_simp
        (try go_wp2_with fail)
        refine (HSH.out N5 D5 _ f5a f5b f5c).mono ?_
        rintro e z3 ⟨rfl, hz⟩
        have hd3 : Below vz.heap.size vz z3 := hd2.trans (hz.mono hd2.size)
        clear hz
        (try go_simp)
        refine hK.out _ _ ?_ (fun hHeld' => ?_)
        · (try dsimp only)
          (first | exact HKS.out _ hd0 | exact HKS.out _ hd1 | exact HKS.out _ hd2 | exact HKS.out _ hd3)
        clear hK K hHeld
        have hHeld := hHeld'
        clear hHeld'
        refine wpAnyH_take (i := 17) (v := ?_) rfl (by kernel_rfl) (by kernel_rfl) (by kernel_rfl) (fun _ _ _ h => h) (Or.inl ⟨by rfl, ?_⟩) (by assumption) ?_
        rotate_left
        · intro w hSw
          (try dsimp only at hSw)
          go_simp <;> with_reducible rfl
        try simp only [Act.put, List.getElem_toArray, List.getElem_cons_succ, List.getElem_cons_zero, List.setIfInBounds_toArray, List.set_cons_zero, List.set_cons_succ]
        refine wpAnyH_take (i := 18) (v := ?_) rfl (by kernel_rfl) (by kernel_rfl) (by kernel_rfl) (fun _ _ _ h => h) (Or.inl ⟨by rfl, ?_⟩) (by assumption) ?_
        rotate_left
        · intro w hSw
          (try dsimp only at hSw)
          go_simp <;> with_reducible rfl
        try simp only [Act.put, List.getElem_toArray, List.getElem_cons_succ, List.getElem_cons_zero, List.setIfInBounds_toArray, List.set_cons_zero, List.set_cons_succ]
        refine wpAnyH_take (i := 19) (v := ?_) rfl (by kernel_rfl) (by kernel_rfl) (by kernel_rfl) (fun _ _ _ h => h) (Or.inl ⟨by rfl, ?_⟩) (by assumption) ?_
        rotate_left
        · intro w hSw
          (try dsimp only at hSw)
          go_simp <;> with_reducible rfl
        try simp only [Act.put, List.getElem_toArray, List.getElem_cons_succ, List.getElem_cons_zero, List.setIfInBounds_toArray, List.set_cons_zero, List.set_cons_succ]
        refine wpAnyH_take (i := 20) (v := ?_) rfl (by kernel_rfl) (by kernel_rfl) (by kernel_rfl) (fun _ _ _ h => h) (Or.inl ⟨by rfl, ?_⟩) (by assumption) ?_
        rotate_left
        · intro w hSw
          (try dsimp only at hSw)
          go_simp <;> with_reducible rfl
        try simp only [Act.put, List.getElem_toArray, List.getElem_cons_succ, List.getElem_cons_zero, List.setIfInBounds_toArray, List.set_cons_zero, List.set_cons_succ]
        refine wpAnyH_take (i := 21) (v := ?_) rfl (by kernel_rfl) (by kernel_rfl) (by kernel_rfl) (fun _ _ _ h => h) (Or.inl ⟨by rfl, ?_⟩) (by assumption) ?_
        rotate_left
        · intro w hSw
          (try dsimp only at hSw)
          go_simp <;> with_reducible rfl
        try simp only [Act.put, List.getElem_toArray, List.getElem_cons_succ, List.getElem_cons_zero, List.setIfInBounds_toArray, List.set_cons_zero, List.set_cons_succ]
        refine wpAnyH_take (i := 22) (v := ?_) rfl (by kernel_rfl) (by kernel_rfl) (by kernel_rfl) (fun _ _ _ h => h) (Or.inl ⟨by rfl, ?_⟩) (by assumption) ?_
        rotate_left
        · intro w hSw
          (try dsimp only at hSw)
          go_simp <;> with_reducible rfl
        try simp only [Act.put, List.getElem_toArray, List.getElem_cons_succ, List.getElem_cons_zero, List.setIfInBounds_toArray, List.set_cons_zero, List.set_cons_succ]
        refine wpAnyH_take (i := 23) (v := ?_) rfl (by kernel_rfl) (by kernel_rfl) (by kernel_rfl) (fun _ _ _ h => h) (Or.inl ⟨by rfl, ?_⟩) (by assumption) ?_
        rotate_left
        · intro w hSw
          (try dsimp only at hSw)
          go_simp <;> with_reducible rfl
        try simp only [Act.put, List.getElem_toArray, List.getElem_cons_succ, List.getElem_cons_zero, List.setIfInBounds_toArray, List.set_cons_zero, List.set_cons_succ]
        refine wpAnyH_take (i := 24) (v := ?_) rfl (by kernel_rfl) (by kernel_rfl) (by kernel_rfl) (fun _ _ _ h => h) (Or.inl ⟨by rfl, ?_⟩) (by assumption) ?_
        rotate_left
        · intro w hSw
          (try dsimp only at hSw)
          go_simp <;> with_reducible rfl
        try simp only [Act.put, List.getElem_toArray, List.getElem_cons_succ, List.getElem_cons_zero, List.setIfInBounds_toArray, List.set_cons_zero, List.set_cons_succ]
        refine wpAnyH_take (i := 25) (v := ?_) rfl (by kernel_rfl) (by kernel_rfl) (by kernel_rfl) (fun _ _ _ h => h) (Or.inl ⟨by rfl, ?_⟩) (by assumption) ?_
        rotate_left
        · intro w hSw
          (try dsimp only at hSw)
          go_simp <;> with_reducible rfl
        try simp only [Act.put, List.getElem_toArray, List.getElem_cons_succ, List.getElem_cons_zero, List.setIfInBounds_toArray, List.set_cons_zero, List.set_cons_succ]
        refine wpAnyH_take (i := 26) (v := ?_) rfl (by kernel_rfl) (by kernel_rfl) (by kernel_rfl) (fun _ _ _ h => h) (Or.inl ⟨by rfl, ?_⟩) (by assumption) ?_
        rotate_left
        · intro w hSw
          (try dsimp only at hSw)
          go_simp <;> with_reducible rfl
        try simp only [Act.put, List.getElem_toArray, List.getElem_cons_succ, List.getElem_cons_zero, List.setIfInBounds_toArray, List.set_cons_zero, List.set_cons_succ]
        refine wpAnyH_take (i := 27) (v := ?_) rfl (by kernel_rfl) (by kernel_rfl) (by kernel_rfl) (fun _ _ _ h => h) (Or.inl ⟨by rfl, ?_⟩) (by assumption) ?_
        rotate_left
        · intro w hSw
          (try dsimp only at hSw)
          go_simp <;> with_reducible rfl
        try simp only [Act.put, List.getElem_toArray, List.getElem_cons_succ, List.getElem_cons_zero, List.setIfInBounds_toArray, List.set_cons_zero, List.set_cons_succ]
        refine wpAnyH_take (i := 28) (v := ?_) rfl (by kernel_rfl) (by kernel_rfl) (by kernel_rfl) (fun _ _ _ h => h) (Or.inl ⟨by rfl, ?_⟩) (by assumption) ?_
        rotate_left
        · intro w hSw
          (try dsimp only at hSw)
          go_simp <;> with_reducible rfl
        try simp only [Act.put, List.getElem_toArray, List.getElem_cons_succ, List.getElem_cons_zero, List.setIfInBounds_toArray, List.set_cons_zero, List.set_cons_succ]
        refine wpAnyH_take (i := 29) (v := ?_) rfl (by kernel_rfl) (by kernel_rfl) (by kernel_rfl) (fun _ _ _ h => h) (Or.inl ⟨by rfl, ?_⟩) (by assumption) ?_
        rotate_left
        · intro w hSw
          (try dsimp only at hSw)
          go_simp <;> with_reducible rfl
        try simp only [Act.put, List.getElem_toArray, List.getElem_cons_succ, List.getElem_cons_zero, List.setIfInBounds_toArray, List.set_cons_zero, List.set_cons_succ]
        refine wpAnyH_take (i := 30) (v := ?_) rfl (by kernel_rfl) (by kernel_rfl) (by kernel_rfl) (fun _ _ _ h => h) (Or.inl ⟨by rfl, ?_⟩) (by assumption) ?_
        rotate_left
        · intro w hSw
          (try dsimp only at hSw)
          go_simp <;> with_reducible rfl
        try simp only [Act.put, List.getElem_toArray, List.getElem_cons_succ, List.getElem_cons_zero, List.setIfInBounds_toArray, List.set_cons_zero, List.set_cons_succ]
        refine wpAnyH_take (i := 31) (v := ?_) rfl (by kernel_rfl) (by kernel_rfl) (by kernel_rfl) (fun _ _ _ h => h) (Or.inl ⟨by rfl, ?_⟩) (by assumption) ?_
        rotate_left
        · intro w hSw
          (try dsimp only at hSw)
          go_simp <;> with_reducible rfl
        try simp only [Act.put, List.getElem_toArray, List.getElem_cons_succ, List.getElem_cons_zero, List.setIfInBounds_toArray, List.set_cons_zero, List.set_cons_succ]
        refine wpAnyH_take (i := 32) (v := ?_) rfl (by kernel_rfl) (by kernel_rfl) (by kernel_rfl) (fun _ _ _ h => h) (Or.inl ⟨by rfl, ?_⟩) (by assumption) ?_
        rotate_left
        · intro w hSw
          (try dsimp only at hSw)
          go_simp <;> with_reducible rfl
        try simp only [Act.put, List.getElem_toArray, List.getElem_cons_succ, List.getElem_cons_zero, List.setIfInBounds_toArray, List.set_cons_zero, List.set_cons_succ]
        refine wpAnyH_take (i := 33) (v := ?_) rfl (by kernel_rfl) (by kernel_rfl) (by kernel_rfl) (fun _ _ _ h => h) (Or.inl ⟨by rfl, ?_⟩) (by assumption) ?_
        rotate_left
        · intro w hSw
          (try dsimp only at hSw)
          go_simp <;> with_reducible rfl
        try simp only [Act.put, List.getElem_toArray, List.getElem_cons_succ, List.getElem_cons_zero, List.setIfInBounds_toArray, List.set_cons_zero, List.set_cons_succ]
        refine wpAnyH_take (i := 34) (v := ?_) rfl (by kernel_rfl) (by kernel_rfl) (by kernel_rfl) (fun _ _ _ h => h) (Or.inl ⟨by rfl, ?_⟩) (by assumption) ?_
        rotate_left
        · intro w hSw
          (try dsimp only at hSw)
          go_simp <;> with_reducible rfl
        try simp only [Act.put, List.getElem_toArray, List.getElem_cons_succ, List.getElem_cons_zero, List.setIfInBounds_toArray, List.set_cons_zero, List.set_cons_succ]
        refine wpAnyH_take (i := 35) (v := ?_) rfl (by kernel_rfl) (by kernel_rfl) (by kernel_rfl) (fun _ _ _ h => h) (Or.inl ⟨by rfl, ?_⟩) (by assumption) ?_
        rotate_left
        · intro w hSw
          (try dsimp only at hSw)
          go_simp <;> with_reducible rfl
        try simp only [Act.put, List.getElem_toArray, List.getElem_cons_succ, List.getElem_cons_zero, List.setIfInBounds_toArray, List.set_cons_zero, List.set_cons_succ]
        refine wpAnyH_take (i := 36) (v := ?_) rfl (by kernel_rfl) (by kernel_rfl) (by kernel_rfl) (fun _ _ _ h => h) (Or.inl ⟨by rfl, ?_⟩) (by assumption) ?_
        rotate_left
        · intro w hSw
          (try dsimp only at hSw)
          go_simp <;> with_reducible rfl
        try simp only [Act.put, List.getElem_toArray, List.getElem_cons_succ, List.getElem_cons_zero, List.setIfInBounds_toArray, List.set_cons_zero, List.set_cons_succ]
        refine wpAnyH_take (i := 37) (v := ?_) rfl (by kernel_rfl) (by kernel_rfl) (by kernel_rfl) (fun _ _ _ h => h) (Or.inl ⟨by rfl, ?_⟩) (by assumption) ?_
        rotate_left
        · intro w hSw
          (try dsimp only at hSw)
          go_simp <;> with_reducible rfl
        try simp only [Act.put, List.getElem_toArray, List.getElem_cons_succ, List.getElem_cons_zero, List.setIfInBounds_toArray, List.set_cons_zero, List.set_cons_succ]
        refine wpAnyH_take (i := 38) (v := ?_) rfl (by kernel_rfl) (by kernel_rfl) (by kernel_rfl) (fun _ _ _ h => h) (Or.inl ⟨by rfl, ?_⟩) (by assumption) ?_
        rotate_left
        · intro w hSw
          (try dsimp only at hSw)
          go_simp <;> with_reducible rfl
        try simp only [Act.put, List.getElem_toArray, List.getElem_cons_succ, List.getElem_cons_zero, List.setIfInBounds_toArray, List.set_cons_zero, List.set_cons_succ]
        refine wpAnyH_take (i := 39) (v := ?_) rfl (by kernel_rfl) (by kernel_rfl) (by kernel_rfl) (fun _ _ _ h => h) (Or.inl ⟨by rfl, ?_⟩) (by assumption) ?_
        rotate_left
        · intro w hSw
          (try dsimp only at hSw)
          go_simp <;> with_reducible rfl
        try simp only [Act.put, List.getElem_toArray, List.getElem_cons_succ, List.getElem_cons_zero, List.setIfInBounds_toArray, List.set_cons_zero, List.set_cons_succ]
        refine wpAnyH_take (i := 40) (v := ?_) rfl (by kernel_rfl) (by kernel_rfl) (by kernel_rfl) (fun _ _ _ h => h) (Or.inl ⟨by rfl, ?_⟩) (by assumption) ?_
        rotate_left
        · intro w hSw
          (try dsimp only at hSw)
          go_simp <;> with_reducible rfl
        try simp only [Act.put, List.getElem_toArray, List.getElem_cons_succ, List.getElem_cons_zero, List.setIfInBounds_toArray, List.set_cons_zero, List.set_cons_succ]
        refine wpAnyH_done (by kernel_rfl) ?_ _
        clear hHeld hcmp hw45 hw1 hq1 hwq1 hw4 hq4 hwq4 hw5 hq5 hwq5
        have E2 := Lib.hid (E1.out.later hd3)
        clear E1 F0 F1 F2 F3 F4 HKS hd0 hd1 hd2 hd3
        obtain ⟨d6, hd6⟩ : ∃ q, difN gs (a : Int) (best : Int) = q := ⟨_, rfl⟩
        have hle6 : d6 ≤ k := by rw [← hd6, ← HGL.out]; exact dif_le _ _ _
        have HA6 := Lib.hid (show difA gs (a : Int) (best : Int) = fracA d6 k from by rw [← hd6]; exact (HDG.out a best han hbn').2)
        have HE6 := Lib.hid (HDG.out a best han hbn').1
        obtain ⟨f6, f6a, f6b, f6c⟩ := low60 hk1' hk6 hle6
        have HCMP6 := Lib.hid (fun q (hq : q ≤ k) => lowCmp hk1' hk6 hle6 hq)
        have HCMP7 := Lib.hid (fun q (hq : q ≤ k) => lowCmp hk1' hk6 hq hle6)
        rw [hd6] at HL1 HL2
        obtain ⟨N6, hN6⟩ : ∃ q, lowN d6 k = q := ⟨_, rfl⟩
        obtain ⟨D6, hD6⟩ : ∃ q, lowD d6 k = q := ⟨_, rfl⟩
        unfold fracA at HA6
        rw [hN6, hD6] at HA6 HCMP6 HCMP7
        rw [hN6] at f6c
        rw [hD6] at f6a f6b f6c
        clear f6 hN6 hD6 hd6
        have hlc := HLS.out z3 E2.out.map
        have hba1 : ((best : Int) == (a : Int)) = false := beq_false_of_ne (by omega)
        have hbn1 : ¬ (n : Int) ≤ (best : Int) := by omega
        have hb00 : ¬ (best : Int) < 0 := by omega
        go_wp2_with fail
        refine hlc.mono ?_
        rintro e w' ⟨rfl, rfl⟩
        clear hlc
        have q0 := differFP_any A13 k c13 gs (a : Int) (best : Int) _ E2.out.ll
        unfold FracE at q0
        rw [HA6.out, HE6.out] at q0
        go_wp2_with fail
        refine q0.mono ?_
        rintro e v6 ⟨rfl, hb⟩
        have hal := hb.trans (((Below.refl v6.heap.size v6).alloc (Nat.le_refl _) (.cells #[.int .i64 (N6 : Int), .int .i64 (D6 : Int)] 37)).mono hb.size)
        have F6 := Lib.hid (Blk.new v6 37 #[.int .i64 (N6 : Int), .int .i64 (D6 : Int)])
        have E3 := Lib.hid (E2.out.later hal)
        clear hal hb q0 E2
        have x6 := F6.out.cell 0; have y6 := F6.out.cell 1
        simp only [List.getElem?_toArray, List.getElem?_cons_zero, List.getElem?_cons_succ] at x6 y6
        have hsh := HSH.out N6 D6 (v6.alloc (.cells #[.int .i64 (N6 : Int), .int .i64 (D6 : Int)] 37)) f6a f6b f6c
        go_wp2_with fail
        refine hsh.mono ?_
        rintro e v7 ⟨rfl, hb⟩
        have E4 := Lib.hid (E3.out.later hb)
        have F7 := Lib.hid (F6.out.below hb F6.out.lt)
        clear hb hsh E3 F6 x6 y6
        obtain ⟨wl, rfl⟩ : ∃ wl : World, wl = v7 := ⟨_, rfl⟩
        go_wp2
        go_loopw [32] (fun i wr => ∃ j : Nat, j ≤ n ∧ i = .int .i64 j ∧ Below wl.heap.size wl wr) (fun i _ => n - (intOf i).toNat)
        case atStart => exact ⟨0, by omega, rfl, Below.refl _ _⟩
        case round =>
          obtain ⟨j, hj, rfl, hb⟩ := hrel
          have HB := Lib.hid hb
          have E5 := Lib.hid (E4.out.later hb)
          have F8 := Lib.hid (F7.out.below hb F7.out.lt)
          clear hb
          have hlc := HLS.out wr E5.out.map
          by_cases hltj : j < n
          · have hjI : (j : Int) < (n : Int) := by omega
            obtain ⟨d7, hd7⟩ : ∃ q, difN gs (a : Int) (j : Int) = q := ⟨_, rfl⟩
            have hle7 : d7 ≤ k := by rw [← hd7, ← HGL.out]; exact dif_le _ _ _
            have HA7 := Lib.hid (show difA gs (a : Int) (j : Int) = fracA d7 k from by rw [← hd7]; exact (HDG.out a j han hltj).2)
            have HE7 := Lib.hid (HDG.out a j han hltj).1
            obtain ⟨f7, f7a, f7b, f7c⟩ := low60 hk1' hk6 hle7
            have hm1 : j ≠ a → d6 ≤ d7 := fun h => by rw [← hd7]; exact HL1.out j hltj h
            have hm2 : j ≠ a → j < best → d6 < d7 := fun h h' => by rw [← hd7]; exact HL2.out j h' h
            have hc1 := (HCMP7.out d7 hle7).1
            have hc2 := (HCMP6.out d7 hle7).2
            obtain ⟨N7, hN7⟩ : ∃ q, lowN d7 k = q := ⟨_, rfl⟩
            obtain ⟨D7, hD7⟩ : ∃ q, lowD d7 k = q := ⟨_, rfl⟩
            unfold fracA at HA7
            rw [hN7, hD7] at HA7 hc1 hc2
            rw [hN7] at f7c
            rw [hD7] at f7a f7b f7c
            clear f7 hN7 hD7 hd7
            obtain ⟨P7, hP7⟩ : ∃ q, N7 * D6 = q := ⟨_, rfl⟩
            obtain ⟨P6, hP6⟩ : ∃ q, N6 * D7 = q := ⟨_, rfl⟩
            have hP7I : (N7 : Int) * (D6 : Int) = (P7 : Int) := by rw [← hP7, Int.natCast_mul]
            have hP6I : (N6 : Int) * (D7 : Int) = (P6 : Int) := by rw [← hP6, Int.natCast_mul]
            have hb7 : P7 ≤ 36 := by rw [← hP7]; exact Nat.le_trans (Nat.mul_le_mul (show N7 ≤ 6 by omega) (show D6 ≤ 6 by omega)) (by decide)
            have hb6 : P6 ≤ 36 := by rw [← hP6]; exact Nat.le_trans (Nat.mul_le_mul (show N6 ≤ 6 by omega) (show D7 ≤ 6 by omega)) (by decide)
            rw [hP7, hP6] at hc1
            clear hP7 hP6
            have HC1 := Lib.hid hc1; have HC2 := Lib.hid hc2; have HM1 := Lib.hid hm1; have HM2 := Lib.hid hm2; have HP7 := Lib.hid hP7I; have HP6 := Lib.hid hP6I
            clear hc1 hc2 hm1 hm2 hP7I hP6I
            go_wp2_with fail
            refine hlc.mono ?_
            rintro e w' ⟨rfl, rfl⟩
            clear hlc
            have q0 := differFP_any A13 k c13 gs (a : Int) (j : Int) _ E5.out.ll
            unfold FracE at q0
            rw [HA7.out, HE7.out] at q0
            go_wp2_with fail
            refine q0.mono ?_
            rintro e v8 ⟨rfl, hb⟩
            have hal := hb.trans (((Below.refl v8.heap.size v8).alloc (Nat.le_refl _) (.cells #[.int .i64 (N7 : Int), .int .i64 (D7 : Int)] 37)).mono hb.size)
            have G7 := Lib.hid (Blk.new v8 37 #[.int .i64 (N7 : Int), .int .i64 (D7 : Int)])
            have HB8 := Lib.hid (HB.out.trans (hal.mono HB.out.size))
            have F9 := Lib.hid (F8.out.below hal F8.out.lt)
            clear hal hb q0
            have x7 := G7.out.cell 0; have y7 := G7.out.cell 1
            simp only [List.getElem?_toArray, List.getElem?_cons_zero, List.getElem?_cons_succ] at x7 y7
            have hsh := HSH.out N7 D7 (v8.alloc (.cells #[.int .i64 (N7 : Int), .int .i64 (D7 : Int)] 37)) f7a f7b f7c
            go_wp2_with fail
            refine hsh.mono ?_
            rintro e v9 ⟨rfl, hb⟩
            have HB9 := Lib.hid (HB8.out.trans (hb.mono HB8.out.size))
            have z7 := (G7.out.below hb G7.out.lt).cell 0; have z7' := (G7.out.below hb G7.out.lt).cell 1; have z6 := (F9.out.below hb F9.out.lt).cell 0; have z6' := (F9.out.below hb F9.out.lt).cell 1
            simp only [List.getElem?_toArray, List.getElem?_cons_zero, List.getElem?_cons_succ] at z7 z7' z6 z6'
            clear hb hsh x7 y7
            by_cases hja : j = a
            · have hjaB : ((j : Int) != (a : Int)) = false := by rw [hja]; simp
              clear hja
              clear HDG HA1 HA2 HA3 HA4 HA5 HE1 HE2 HE3 HE4 HE5 HA7 HE7 HA6 HE6 HSH HLS HT60 HL1 HL2 HC1 HC2 HM1 HM2 HCMP6 HCMP7 E4 E5 F7 F8 F9 G7
              go_wp2
              go_roundw
              case rel => exact ⟨j + 1, by omega, by go_num, HB9.out⟩
              case measure => simp [intOf]; omega
            · have hjaB : ((j : Int) != (a : Int)) = true := by simp; omega
              have hp := HC1.out (HM1.out hja)
              have hpI : ¬ (P7 : Int) < (P6 : Int) := by omega
              have hP7I := HP7.out; have hP6I := HP6.out
              by_cases hjb : j < best
              · have hjbI : (j : Int) < (best : Int) := by omega
                have hne := Lib.hid (HM2.out hja hjb)
                by_cases hNN : N7 = N6
                · have hDD : D7 ≠ D6 := fun e => by have := HC2.out hNN.symm e.symm; have := hne.out; omega
                  have hNB : ((N7 : Int) == (N6 : Int)) = true := by rw [hNN]; simp
                  have hDB : ((D7 : Int) == (D6 : Int)) = false := beq_false_of_ne (by omega)
                  clear hNN hDD
                  clear HDG HA1 HA2 HA3 HA4 HA5 HE1 HE2 HE3 HE4 HE5 HA7 HE7 HA6 HE6 HSH HLS HT60 HL1 HL2 HC1 HC2 HM1 HM2 HCMP6 HCMP7 E4 E5 F7 F8 F9 G7
                  go_wp2
                  go_roundw
                  case rel => exact ⟨j + 1, by omega, by go_num, HB9.out⟩
                  case measure => simp [intOf]; omega
                · have hNB : ((N7 : Int) == (N6 : Int)) = false := beq_false_of_ne (by omega)
                  clear HDG HA1 HA2 HA3 HA4 HA5 HE1 HE2 HE3 HE4 HE5 HA7 HE7 HA6 HE6 HSH HLS HT60 HL1 HL2 HC1 HC2 HM1 HM2 HCMP6 HCMP7 E4 E5 F7 F8 F9 G7
                  go_wp2
                  go_roundw
                  case rel => exact ⟨j + 1, by omega, by go_num, HB9.out⟩
                  case measure => simp [intOf]; omega
              · have hjbI : ¬ (j : Int) < (best : Int) := by omega
                clear HDG HA1 HA2 HA3 HA4 HA5 HE1 HE2 HE3 HE4 HE5 HA7 HE7 HA6 HE6 HSH HLS HT60 HL1 HL2 HC1 HC2 HM1 HM2 HCMP6 HCMP7 E4 E5 F7 F8 F9 G7
                go_wp2
                go_roundw
                case rel => exact ⟨j + 1, by omega, by go_num, HB9.out⟩
                case measure => simp [intOf]; omega
          · obtain rfl : n = j := by omega
            go_wp2_with fail
            refine hlc.mono ?_
            rintro e w' ⟨rfl, rfl⟩
            go_wp2_with fail
            refine (HWK.out _).mono ?_
            rintro e vw ⟨rfl, hb5⟩
            have HBE := Lib.hid (E5.out.below.trans (hb5.mono E5.out.below.size))
            clear hb5
            go_wp2
            go_ret
            exact ⟨rfl, HBE.out⟩
end Go.Proofs.YtgimhjkijpcgjaaDoor

