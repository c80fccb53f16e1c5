/-
  layer 37: Islands of the program. Conditions: a map of New, or nil; values of 64 bits that are read.
-/
import Derived.Test.YtgimhjkijpcgjaaDoorGan
namespace Go.Proofs.YtgimhjkijpcgjaaDoor
open Go.RowKit Go.Lib Go.Maps Go.WideMaps

/-- What is seen around a region: the values at the other ends of the first roads that are cut. -/
def seen1 (reg vs : List Int) (k : Int) (x : Rd) : List Int := (if valAt reg x.1 = k then [valAt vs x.2.1] else []) ++ (if valAt reg x.2.1 = k then [valAt vs x.1] else [])
def seeK (R : List Rd) (reg vs : List Int) (j : Nat) (k : Int) : List Int := ((R.take j).filter fun x => cutB vs x).flatMap (seen1 reg vs k)
def isleN (R : List Rd) (reg vs : List Int) (N : Nat) : List Nat := (List.range N).filter fun (k : Nat) => decide ((keysOf (seeK R reg vs R.length (k : Int))).length = 1)
def islV (om : Option Pts) (vs : List Int) : List Int := if chkN (lenO om) [vs] = 0 then intsL (isleN (roadsO om) (lbI (lenO om) (regE (roadsO om) vs)) vs (lenO om)) else []
theorem seeK_skip (R : List Rd) (reg vs : List Int) {j : Nat} (hj : j < R.length) (hc : cutB vs R[j] = false) (k : Int) : seeK R reg vs (j + 1) k = seeK R reg vs j k := by
  unfold seeK
  rw [List.take_succ_eq_append_getElem hj, List.filter_append, List.filter_cons_of_neg (p := fun x => cutB vs x) (by simp [hc])]
  simp
theorem seeK_step (R : List Rd) (reg vs : List Int) {j : Nat} (hj : j < R.length) (hc : cutB vs R[j] = true) (k : Int) : seeK R reg vs (j + 1) k = seeK R reg vs j k ++ seen1 reg vs k R[j] := by
  unfold seeK
  rw [List.take_succ_eq_append_getElem hj, List.filter_append, List.filter_cons_of_pos (p := fun x => cutB vs x) hc, List.flatMap_append]
  simp
theorem keys_step (R : List Rd) (reg vs : List Int) {j : Nat} (hj : j < R.length) (hc : cutB vs R[j] = true) {ka kb : Nat} (h1 : valAt reg R[j].1 = (ka : Int)) (h2 : valAt reg R[j].2.1 = (kb : Int)) :
    (fun k : Nat => keysOf (seeK R reg vs (j + 1) (k : Int))) =
      setU (setU (fun k : Nat => keysOf (seeK R reg vs j (k : Int))) ka (addK (keysOf (seeK R reg vs j (ka : Int))) (valAt vs R[j].2.1))) kb (addK (setU (fun k : Nat => keysOf (seeK R reg vs j (k : Int))) ka (addK (keysOf (seeK R reg vs j (ka : Int))) (valAt vs R[j].2.1)) kb) (valAt vs R[j].1)) := by
  funext k
  rw [seeK_step R reg vs hj hc]
  unfold seen1
  rw [h1, h2]
  by_cases e2 : k = kb
  · subst e2
    rw [setU_same]
    by_cases e1 : k = ka
    · subst e1
      rw [setU_same, if_pos rfl, if_pos rfl, ← List.append_assoc, keysOf_snoc, keysOf_snoc]
    · rw [setU_other e1, if_neg (by omega), if_pos rfl, List.nil_append, keysOf_snoc]
  · rw [setU_other e2]
    by_cases e1 : k = ka
    · subst e1
      rw [setU_same, if_pos rfl, if_neg (by omega), List.append_nil, keysOf_snoc]
    · rw [setU_other e1, if_neg (by omega), if_neg (by omega), List.append_nil, List.append_nil]
theorem madeCells_map (n : Nat) : madeCells #[.map none] n = usA n (fun _ => .map none) := by
  apply Array.ext
  · simp [madeCells, usA]
  · intro i h1 h2
    simp [madeCells, usA, Nat.mod_one]
theorem AroM.start (w : World) (N : Nat) : AroM w.heap.size ((w.alloc (.cells (madeCells #[.map none] N) 93)).alloc (.cells #[.slice (some ⟨w.heap.size, 0, none⟩) N N] 92)) (w.heap.size + 1) w.heap.size N 0 (fun _ => .map none) (fun _ => []) := by
  have k1 : Blk (w.alloc (.cells (madeCells #[.map none] N) 93)) w.heap.size 93 (usA N fun _ => .map none) := by rw [madeCells_map]; exact Blk.new w _ _
  have k2 := Blk.new (w.alloc (.cells (madeCells #[.map none] N) 93)) 92 #[.slice (some ⟨w.heap.size, 0, none⟩) N N]
  rw [World.size_alloc] at k2
  exact ⟨k2, k1.alloc _, fun _ _ => .inl ⟨rfl, rfl⟩, fun _ _ _ _ _ => .inl rfl, Nat.le_refl _⟩
theorem AroM.congr {base : Nat} {W : World} {g8 qA N cnt : Nat} {us : Nat → Value} {ks ks' : Nat → List Int} (h : AroM base W g8 qA N cnt us ks) (e : ks = ks') : AroM base W g8 qA N cnt us ks' := e ▸ h
theorem AroM.cnt_le {base : Nat} {W : World} {g8 qA N cnt cnt' : Nat} {us : Nat → Value} {ks : Nat → List Int} (h : AroM base W g8 qA N cnt us ks) (hc : cnt ≤ cnt') : AroM base W g8 qA N cnt' us ks :=
  ⟨h.b8, h.row, fun k hk => (h.mp k hk).imp id fun ⟨b, n, h1, h2, h3, h4⟩ => ⟨b, n, h1, h2, by omega, h4⟩, h.apart, h.hq⟩
theorem lbI_get {n : Nat} {es : List (Nat × Nat)} {a : Nat} (h : a < n) : (lbI n es)[a]? = some ((lbF es n a : Nat) : Int) := by unfold lbI; rw [List.getElem?_map, List.getElem?_range h]; rfl
theorem lbI_val {n : Nat} {es : List (Nat × Nat)} {a : Nat} (h : a < n) : valAt (lbI n es) (a : Int) = ((lbF es n a : Nat) : Int) := by
  unfold valAt; rw [Int.toNat_natCast, List.getD_eq_getElem?_getD, lbI_get h]; rfl
/-- The memory of Islands while it sees. -/
structure IslM (w wr : World) (base g6 g3 g8 qA N cnt : Nat) (us : Nat → Value) (ks : Nat → List Int) (AG A : Option Addr) (cG c : Nat) (reg vs : List Int) (bR : Nat) (vR : Value) (R : List Rd) : Prop where
  ar : AroM base wr g8 qA N cnt us ks
  b6 : Blk wr g6 26 #[.slice AG N cG]
  b3 : Blk wr g3 26 #[.slice A N c]
  rg : ReadI wr base AG N reg
  rv : ReadI wr base A N vs
  rd : wr.ownsRow bR 71 3 vR R.length (R.flatMap roadV)
  bel : Below w.heap.size w wr
section
variable {w wr w' : World} {base g6 g3 g8 qA N cnt : Nat} {us : Nat → Value} {ks : Nat → List Int} {AG A : Option Addr} {cG c : Nat} {reg vs : List Int} {bR : Nat} {vR : Value} {R : List Rd}
theorem IslM.later (h : IslM w wr base g6 g3 g8 qA N cnt us ks AG A cG c reg vs bR vR R) (hb : Below wr.heap.size wr w') (hs : base ≤ wr.heap.size) : IslM w w' base g6 g3 g8 qA N cnt us ks AG A cG c reg vs bR vR R :=
  ⟨h.ar.later hb, h.b6.below hb h.b6.lt, h.b3.below hb h.b3.lt, reads_low h.rg (hb.mono hs), reads_low h.rv (hb.mono hs), own_below h.rd hb, h.bel.trans (hb.mono h.bel.size)⟩
theorem IslM.see (h : IslM w wr base g6 g3 g8 qA N cnt us ks AG A cG c reg vs bR vR R) {cnt' : Nat} {us' : Nat → Value} {ks' : Nat → List Int} (ha : AroM base w' g8 qA N cnt' us' ks') (hk : KeepB wr w') (hb : Below base wr w') (hw : w.heap.size ≤ base) : IslM w w' base g6 g3 g8 qA N cnt' us' ks' AG A cG c reg vs bR vR R :=
  ⟨ha, hk _ _ _ (by decide) h.b6, hk _ _ _ (by decide) h.b3, reads_low h.rg hb, reads_low h.rv hb, hk.own (by decide) h.rd, h.bel.trans (hb.mono hw)⟩
theorem AroM.len_at (h : AroM base wr g8 qA N cnt us ks) {k : Nat} (hk : k < N) (ty : TypeId) : (Builtin.len_ #[93] ty #[us k]).run Tryd.prog wr = .ok (.int .i64 ((ks k).length : Nat)) wr := by
  rcases h.mp k hk with ⟨h1, h2⟩ | ⟨b, n, h1, _, _, h2⟩
  · rw [h1, h2]; exact Maps.len_nil Tryd.underlying93 ty
  · rw [h1]; exact h2.len_ ty
end
theorem isle_step (R : List Rd) (reg vs : List Int) (k : Nat) : isleN R reg vs (k + 1) = isleN R reg vs k ++ if decide ((keysOf (seeK R reg vs R.length (k : Int))).length = 1) = true then [k] else [] := filter_range_succ _ k
theorem isle_len (R : List Rd) (reg vs : List Int) (k : Nat) : (isleN R reg vs k).length ≤ k := filter_range_len _ k
set_option linter.unusedSimpArgs false in
set_option maxRecDepth 40000 in
set_option maxHeartbeats 8000000 in
theorem islandsP_any (p : Option Addr) (om : Option Pts) (A : Option Addr) (n c : Nat) (vs : List Int) (w : World) (h : MapO w p om) (hG : NewO om) (hv : ReadI w w.heap.size A n vs) (hn : n ≤ c) (hc : c ≤ maxLen) (hvok : ∀ v ∈ vs, okI v) :
    Calls Tryd.prog 17 #[.pointer p, .slice A n c] w (GivesE w (islV om vs) (chkN (lenO om) [vs])) := by
  have hb0 := (Below.refl _ w).alloc (Nat.le_refl _) (.cells #[.slice A n c] 26)
  have hb3 := Blk.new w 26 #[.slice A n c]
  have hrg := regionsP_any p om A n c vs _ (h.below hb0) hG (hv.later hb0) hn hc
  have hrd := fun W (hW : Below w.heap.size w W) => roadsP_any p om W (h.below hW) (Nat.le_trans hG.roads (by decide))
  have hok := hG.okr
  have h512 := hG.roads
  have hfew := hG.few
  have hlv := hv.len
  have hz : chkN (lenO om) [vs] = 0 → lenO om = n ∧ 0 < lenO om := fun e => ⟨by rw [← hlv]; exact ((chkN_zero e).2.2 vs (by simp)).symm, by have := (chkN_zero e).1; omega⟩
  obtain ⟨i0, hi, hz0, hz1, hz2⟩ := info_parts (show (Tryd.prog.info? 3).map (fun i => (i.zero, i.size, i.bytes)) = some (some (.int .i64 0), 1, 8) by kernel_rfl)
  have c0 := hb3.cell 0
  simp only [List.getElem?_toArray, List.getElem?_cons_zero] at c0
  have HRD := Lib.hid hrd; have HOK := Lib.hid hok; have HV := Lib.hid hv; have HB0 := Lib.hid hb0; have HZ := Lib.hid hz; have HB3 := Lib.hid hb3; have HVO := Lib.hid hvok
  clear h hG hrd hok hv hb0 hz hb3 hvok
  unfold GivesE islV
  unfold GivesE regV at hrg
  generalize lenO om = N at *
  generalize roadsO om = R at *
  obtain ⟨E, hE⟩ : ∃ E, chkN N [vs] = E := ⟨_, rfl⟩
  rw [hE] at hrg ⊢
  by_cases h0 : E = 0
  · rw [h0] at hE hrg ⊢
    rw [if_pos rfl] at hrg ⊢
    obtain ⟨rfl, hN⟩ := HZ.out hE
    clear HZ hE h0
    have HES := Lib.hid (openE_in HOK.out fun x => !cutB vs x)
    have HLB : Hid (∀ a, a < N → (lbI N (regE R vs))[a]? = some ((lbF (regE R vs) N a : Nat) : Int) ∧ lbF (regE R vs) N a < N ∧ valAt (lbI N (regE R vs)) (a : Int) = ((lbF (regE R vs) N a : Nat) : Int)) :=
      Lib.hid (fun a ha => ⟨lbI_get ha, Nat.lt_of_le_of_lt ((lbF_lab HES.out).le a ha) ha, lbI_val ha⟩)
    have hrl : (lbI N (regE R vs)).length = N := by simp [lbI]
    rw [hrl] at hrg
    clear HES
    generalize lbF (regE R vs) N = lf at *
    generalize lbI N (regE R vs) = reg at *
    have hmk := fun W => run_make_row' (P := Tryd.prog) 92 93 (.map none) 8 Tryd.underlying92 (by kernel_rfl) rfl .i64 .i64 N (by omega) (by omega) W
    have ei := enters_of (P := Tryd.prog) Tryd.func53 (by kernel_rfl) rfl
    go_enter Tryd.func17, Tryd.ntmps17
    go_wp2_with fail
    refine hrg.mono ?_
    rintro e w1 ⟨vR, rfl, hoR, hb1⟩
    obtain ⟨AG, cG, rfl, _, _⟩ := ownsRow_form hoR
    have hB1 := HB0.out.trans (hb1.mono HB0.out.size)
    have hk3 := HB3.out.below hb1 HB3.out.lt
    have hb6 := Blk.new w1 26 #[.slice AG N cG]
    have hbl6 : Below w1.heap.size w1 (w1.alloc (.cells #[.slice AG N cG] 26)) := (Below.refl _ w1).alloc (Nat.le_refl _) _
    have hkk3 := hk3.alloc (.cells #[.slice AG N cG] 26)
    have hrg6 := ReadI.later (Reads.of_own hoR) hbl6
    obtain ⟨wB, hwB⟩ : ∃ wB, w1.alloc (.cells #[.slice AG N cG] 26) = wB := ⟨_, rfl⟩
    have hBB := hB1.alloc hB1.size (.cells #[.slice AG N cG] 26)
    rw [hwB] at hb6 hkk3 hrg6 hBB
    have HWB := Lib.hid hwB
    have hst := AroM.start wB N
    have hb2 : Below wB.heap.size wB ((wB.alloc (.cells (madeCells #[.map none] N) 93)).alloc (.cells #[.slice (some ⟨wB.heap.size, 0, none⟩) N N] 92)) := ((Below.refl _ wB).alloc (Nat.le_refl _) _).alloc (by simp) _
    have hr := HRD.out _ (hBB.trans (hb2.mono hBB.size))
    have k6 := hb6.cell 0
    simp only [List.getElem?_toArray, List.getElem?_cons_zero] at k6
    have HB6 := Lib.hid hb6; have HK3 := Lib.hid hkk3; have HRG := Lib.hid hrg6; have HBB := Lib.hid hBB; have HST := Lib.hid hst; have HB2 := Lib.hid hb2
    have L6 := Lib.hid hb6.lt; have L3 := Lib.hid hkk3.lt
    clear hb6 hkk3 hrg6 hBB hst hb2 hk3 hbl6 hB1 hb1 hoR hrg HB3 HB0 HRD
    go_wp2_with fail
    refine hr.mono ?_
    rintro e w2 ⟨vr, rfl, hor, hb3⟩
    obtain ⟨Ar, cr, rfl, _, _⟩ := ownsRow_form hor
    have him : IslM w w2 wB.heap.size w1.heap.size w.heap.size (wB.heap.size + 1) wB.heap.size N 0 (fun _ => .map none) (fun _ => []) AG A cG c reg vs (wB.heap.size + 1 + 1) (.slice Ar R.length cr) R :=
      ⟨HST.out.later hb3, (HB6.out.below HB2.out HB6.out.lt).below hb3 (Nat.lt_of_lt_of_le HB6.out.lt HB2.out.size), (HK3.out.below HB2.out HK3.out.lt).below hb3 (Nat.lt_of_lt_of_le HK3.out.lt HB2.out.size), reads_low (reads_low HRG.out HB2.out) (hb3.mono HB2.out.size), reads_low (ReadI.later HV.out HBB.out |> fun h => reads_low h HB2.out) (hb3.mono HB2.out.size), by simpa using hor, HBB.out.trans ((HB2.out.trans (hb3.mono HB2.out.size)).mono HBB.out.size)⟩
    have HIM := Lib.hid him
    have HBS : Hid (w.heap.size ≤ wB.heap.size) := Lib.hid HBB.out.size
    have HL2 : Hid (wB.heap.size + 2 ≤ w2.heap.size) := Lib.hid (by have := hb3.size; simpa using this)
    clear him hb3 hor hr HST HB2 HB6 HK3 HRG HWB
    obtain ⟨base, hbase⟩ : ∃ base, wB.heap.size = base := ⟨_, rfl⟩
    obtain ⟨g6, hg6⟩ : ∃ g6, w1.heap.size = g6 := ⟨_, rfl⟩
    have hst : Hid (∃ us : Nat → Value, IslM w w2 base g6 w.heap.size (base + 1) base N (2 * 0) us (fun k : Nat => keysOf (seeK R reg vs 0 (k : Int))) AG A cG c reg vs (base + 1 + 1) (.slice Ar R.length cr) R) := Lib.hid ⟨_, by
      subst hbase hg6; exact HIM.out⟩
    rw [hbase] at HBS L6 L3 HL2
    rw [hg6] at L6
    clear HIM
    go_wp2
    clear hbase hg6 hwB k6 HBB c0
    go_loopw [31] (fun i wr => ∃ (j : Nat) (us : Nat → Value), j ≤ R.length ∧ i = .int .i64 j ∧ base + 2 ≤ wr.heap.size ∧ IslM w wr base g6 w.heap.size (base + 1) base N (2 * j) us (fun k : Nat => keysOf (seeK R reg vs j (k : Int))) AG A cG c reg vs (base + 1 + 1) (.slice Ar R.length cr) R) (fun i _ => R.length - (intOf i).toNat)
    case atStart =>
      obtain ⟨us, hus⟩ := hst.out
      exact ⟨0, us, by omega, rfl, HL2.out, hus⟩
    case round =>
      obtain ⟨j, us, hj, rfl, hsz, hM⟩ := hrel
      have HM := Lib.hid hM
      clear hM hst HL2
      by_cases hlt : j < R.length
      · obtain ⟨bd, rfl, hbd, hc0, hc1, hc2⟩ := roadI_cells (Reads.of_own HM.out.rd) hlt
        have hxm := HOK.out _ (List.getElem_mem hlt)
        have hskip := fun h => seeK_skip R reg vs hlt h
        have hkeys := fun h (ka kb : Nat) h1 h2 => keys_step R reg vs hlt h (ka := ka) (kb := kb) h1 h2
        obtain ⟨x, hx⟩ : ∃ x, R[j] = x := ⟨_, rfl⟩
        rw [hx] at hc0 hc1 hc2 hxm hskip hkeys
        clear hx
        obtain ⟨xa, xb, xl⟩ := x
        have hxr := InR.of_ok hxm
        obtain ⟨a0, a1, b0, b1, hab, _, _⟩ := hxm
        simp only at hc0 hc1 hc2 a0 a1 b0 b1
        obtain ⟨a, rfl⟩ : ∃ k : Nat, xa = k := ⟨xa.toNat, by omega⟩
        obtain ⟨b, rfl⟩ : ∃ k : Nat, xb = k := ⟨xb.toNat, by omega⟩
        have hav : a < vs.length := by rw [hlv]; omega
        have hbv : b < vs.length := by rw [hlv]; omega
        have hla := HLB.out a (by omega)
        have hlb := HLB.out b (by omega)
        have hal : Below wr.heap.size wr (wr.alloc (.cells #[.int .i64 (a : Int), .int .i64 (b : Int), .int .i64 xl] 71)) := (Below.refl _ wr).alloc (Nat.le_refl _) _
        have hxb := Blk.new wr 71 #[.int .i64 (a : Int), .int .i64 (b : Int), .int .i64 xl]
        have hM1 := HM.out.later hal (by omega)
        have hcut := cut_any ((a : Int), (b : Int), xl) A N c vs _ (Reads.more hM1.rv (by rw [World.size_alloc]; omega)) hxr
        have c0 := hxb.cell 0; have c1 := hxb.cell 1; have c2 := hxb.cell 2
        have k3 := hM1.b3.cell 0
        simp only [List.getElem?_toArray, List.getElem?_cons_zero, List.getElem?_cons_succ] at c0 c1 c2 k3
        have hltI : (j : Int) < (R.length : Int) := by omega
        have HKEYS := Lib.hid (fun h => hkeys h (lf a) (lf b) hla.2.2 hlb.2.2)
        have HSKIP := Lib.hid hskip; have HXB := Lib.hid hxb; have HM1 := Lib.hid hM1; have HLA := Lib.hid hla; have HLB' := Lib.hid hlb
        have HVA : Hid (vs[a]? = some vs[a] ∧ okI vs[a] ∧ valAt vs (a : Int) = vs[a]) := Lib.hid ⟨List.getElem?_eq_getElem hav, HVO.out _ (List.getElem_mem hav), valAt_get hav⟩
        have HVB : Hid (vs[b]? = some vs[b] ∧ okI vs[b] ∧ valAt vs (b : Int) = vs[b]) := Lib.hid ⟨List.getElem?_eq_getElem hbv, HVO.out _ (List.getElem_mem hbv), valAt_get hbv⟩
        clear hkeys hskip hxb hM1 hla hlb hxr hal
        obtain ⟨cu, hcu⟩ : ∃ cu, cutB vs ((a : Int), (b : Int), xl) = cu := ⟨_, rfl⟩
        rw [hcu] at hcut
        have HCU := Lib.hid hcu
        clear hcu
        have hsz1 : base + 2 ≤ (wr.alloc (.cells #[.int .i64 (a : Int), .int .i64 (b : Int), .int .i64 xl] 71)).heap.size := by rw [World.size_alloc]; omega
        have HSZ1 := Lib.hid hsz1
        clear hsz1
        cases cu
        · go_wp2_with fail
          refine hcut.mono ?_
          rintro e w3 ⟨rfl, hb3⟩
          have HM3 := Lib.hid (HM1.out.later hb3 (by have := HSZ1.out; omega))
          have HSZ3 := Lib.hid (Nat.le_trans HSZ1.out hb3.size)
          clear hb3
          go_wp2
          go_roundw
          case rel => exact ⟨j + 1, us, by omega, by go_num, HSZ3.out, by
            have h := HM3.out
            have e : (fun k : Nat => keysOf (seeK R reg vs (j + 1) (k : Int))) = fun k : Nat => keysOf (seeK R reg vs j (k : Int)) := by funext k; rw [HSKIP.out HCU.out]
            rw [e]
            exact ⟨h.ar.cnt_le (by omega), h.b6, h.b3, h.rg, h.rv, h.rd, h.bel⟩⟩
          case measure => simp [intOf]; omega
        · go_wp2_with fail
          refine hcut.mono ?_
          rintro e w3 ⟨rfl, hb3⟩
          have HM3 := Lib.hid (HM1.out.later hb3 (by have := HSZ1.out; omega))
          have HSZ3 := Lib.hid (Nat.le_trans HSZ1.out hb3.size)
          have HX3 := Lib.hid (HXB.out.below hb3 HXB.out.lt)
          clear hb3 c0 c1 c2 hcut
          have hs1 := see_any base w.heap.size g6 (base + 1) base N (2 * j) us (fun k : Nat => keysOf (seeK R reg vs j (k : Int))) w3 AG A cG N c reg vs HM3.out.ar HM3.out.b6 HM3.out.b3 L6.out L3.out HM3.out.rg HM3.out.rv a b (lf a) vs[b] HLA.out.1 HLA.out.2.1 HVB.out.1 HVB.out.2.1 (by omega) (by have := HSZ3.out; omega)
          have c0 := HX3.out.cell 0; have c1 := HX3.out.cell 1; have c2 := HX3.out.cell 2
          simp only [List.getElem?_toArray, List.getElem?_cons_zero, List.getElem?_cons_succ] at c0 c1 c2
          go_wp2_with fail
          refine hs1.mono ?_
          rintro e w4 ⟨rfl, ⟨us4, ha4⟩, hk4, hb4⟩
          have HM4 := Lib.hid (HM3.out.see ha4 hk4 hb4 HBS.out)
          have HSZ4 : Hid (base + 2 ≤ w4.heap.size) := Lib.hid (Nat.le_trans HSZ3.out hb4.size)
          have HX4 := Lib.hid (hk4 _ _ _ (by decide) HX3.out)
          clear ha4 hk4 hb4 hs1 c0 c1 c2
          have hs2 := see_any base w.heap.size g6 (base + 1) base N (2 * j + 1) us4 _ w4 AG A cG N c reg vs HM4.out.ar HM4.out.b6 HM4.out.b3 L6.out L3.out HM4.out.rg HM4.out.rv b a (lf b) vs[a] HLB'.out.1 HLB'.out.2.1 HVA.out.1 HVA.out.2.1 (by omega) (by have := HSZ4.out; omega)
          have c0 := HX4.out.cell 0; have c1 := HX4.out.cell 1; have c2 := HX4.out.cell 2
          simp only [List.getElem?_toArray, List.getElem?_cons_zero, List.getElem?_cons_succ] at c0 c1 c2
          go_wp2_with fail
          refine hs2.mono ?_
          rintro e w5 ⟨rfl, ⟨us5, ha5⟩, hk5, hb5⟩
          have HM5 := Lib.hid (HM4.out.see ha5 hk5 hb5 HBS.out)
          have HSZ5 : Hid (base + 2 ≤ w5.heap.size) := Lib.hid (Nat.le_trans HSZ4.out hb5.size)
          clear ha5 hk5 hb5 hs2 c0 c1 c2
          go_wp2
          go_roundw
          case rel => exact ⟨j + 1, us5, by omega, by go_num, HSZ5.out, by
            have h := HM5.out
            have e := HKEYS.out HCU.out
            have e1 := HVA.out.2.2
            have e2 := HVB.out.2.2
            rw [e1, e2] at e
            rw [e]
            exact h⟩
          case measure => simp [intOf]; omega
      · obtain rfl : R.length = j := by omega
        have c8 := HM.out.ar.b8.cell 0
        simp only [List.getElem?_toArray, List.getElem?_cons_zero] at c8
        clear HV HVO HLB HOK
        go_wp2
        clear c8
        obtain ⟨wo, rfl⟩ : ∃ wo : World, wo = wr := ⟨_, rfl⟩
        go_loopw [12, 53] (fun v i wr => ∃ j : Nat, j ≤ N ∧ i = .int .i64 j ∧ wr.ownsRow wo.heap.size 3 1 v (isleN R reg vs j).length ((intsL (isleN R reg vs j)).map (Value.int .i64)) ∧ Below wo.heap.size wo wr) (fun _ i _ => N - (intOf i).toNat)
        case atStart => exact ⟨0, by omega, rfl, World.ownsRow_nil _ _ _ _, Below.refl _ _⟩
        case round =>
          obtain ⟨j, hj2, rfl, hown, hb⟩ := hrel
          have hst := isle_step R reg vs j
          have hlj := isle_len R reg vs j
          obtain ⟨L, hL⟩ : ∃ L, isleN R reg vs j = L := ⟨_, rfl⟩
          rw [hL] at hown hlj hst
          have HB := Lib.hid hb; have HO := Lib.hid hown; have HL := Lib.hid hL
          clear hb hown hL
          by_cases hltj : j < N
          · have HA := Lib.hid (HM.out.ar.later HB.out)
            have hcq := HA.out.cell hltj
            have hlen := fun ty => HA.out.len_at hltj ty
            have hltI : (j : Int) < (N : Int) := by omega
            obtain ⟨q, hq⟩ : ∃ q, (keysOf (seeK R reg vs R.length (j : Int))).length = q := ⟨_, rfl⟩
            rw [hq] at hst
            replace hlen := fun ty => (hlen ty).trans (by rw [hq])

            generalize us j = u at hcq hlen
            have hsz5 := HB.out.size
            clear hq
            by_cases hq1 : q = 1
            · subst hq1
              have hrn := reads_new wr 3 [.int .i64 (j : Int)]
              have HRN := Lib.hid hrn; have HST := Lib.hid hst
              clear hrn hst
              go_wp2_with (at_builtin; (refine wpList_append_any _ rfl _ _ 26 rfl wo.heap.size 3 i0 (.int .i64 0) 1 8 Tryd.underlying26 hi hz0 hz1 hz2 rfl (by decide) _ _ _ rfl (HO.out.alloc _) _ _ _ _ [.int .i64 (j : Int)] rfl HRN.out (by simp [Value.oneCell']) (by unfold maxLen; omega) (by omega) (by simp; omega) ?_); intro v' w6 hown' hgrow hx; clear hx)
              have hb6 : Below wo.heap.size wo w6 := (HB.out.alloc HB.out.size _).grown hgrow (by have := HB.out.size; simp; omega) (fun g hg => (HO.out.lt g hg).1)
              clear hgrow
              go_roundw
              case rel => exact ⟨j + 1, by omega, by go_num, by rw [HST.out, if_pos (by simp), List.length_append]; simpa using hown', hb6⟩
              case measure => simp [intOf]; omega
            · have hq1I : ¬ (q : Int) = 1 := by omega
              have HST : Hid (isleN R reg vs (j + 1) = L) := Lib.hid (by rw [hst, if_neg (by simp [hq1]), List.append_nil])
              clear hst hq1
              go_wp2
              go_roundw
              case rel => exact ⟨j + 1, by omega, by go_num, by rw [HST.out]; exact HO.out, HB.out⟩
              case measure => simp [intOf]; omega
          · obtain rfl : j = N := by omega
            clear hst
            go_wp2
            go_ret2
            exact ⟨_, rfl, by rw [HL.out, intsL, List.length_map]; exact own_mono HO.out HM.out.bel.size, HM.out.bel.trans (HB.out.mono HM.out.bel.size)⟩
  · rw [if_neg h0] at hrg ⊢
    have h0B : (E != 0) = true := by simp [h0]
    clear HRD HOK HZ hE
    go_enter Tryd.func17, Tryd.ntmps17
    go_wp2_with fail
    refine hrg.mono ?_
    rintro e w1 ⟨v, rfl, ho, hb1⟩
    obtain ⟨AG, cG, rfl, _, _⟩ := ownsRow_form ho
    have HB1 := Lib.hid (HB0.out.trans (hb1.mono HB0.out.size))
    clear ho hb1 hrg
    go_wp2
    go_ret2
    exact ⟨_, rfl, World.ownsRow_nil _ _ _ _, HB1.out.alloc HB1.out.size _⟩
end Go.Proofs.YtgimhjkijpcgjaaDoor
