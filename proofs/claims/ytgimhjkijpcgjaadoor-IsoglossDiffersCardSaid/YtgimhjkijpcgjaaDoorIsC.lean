/-
  layer 37: Cuts and Bundles of the program. Conditions: a map of New, or nil; lists that are read.
-/
import Derived.Test.YtgimhjkijpcgjaaDoorGak
namespace Go.Proofs.YtgimhjkijpcgjaaDoor
open Go.RowKit Go.Lib

theorem add_nextI (a : Addr) (n j : Nat) : a.add (n + (j + 1)) = ⟨(a.add n).block, (a.add n).off + (j + 1), none⟩ := by
  unfold Addr.add
  by_cases h : n = 0
  · subst h; simp
  · simp [h, Nat.add_assoc]
theorem roadI_cells {w : World} {B m i : Nat} {A : Option Addr} {roads : List Rd} (h : Reads w B 3 A m (roads.flatMap roadV)) (hi : i < roads.length) : ∃ bd, A = some bd ∧ bd.block < B ∧ w.cell? (bd.add (i * 3)) = some (.int .i64 roads[i].1) ∧
    w.cell? ⟨(bd.add (i * 3)).block, (bd.add (i * 3)).off + 1, none⟩ = some (.int .i64 roads[i].2.1) ∧ w.cell? ⟨(bd.add (i * 3)).block, (bd.add (i * 3)).off + 2, none⟩ = some (.int .i64 roads[i].2.2) := by
  have hl := h.1
  rw [flatMap_len roadV 3 (fun _ => rfl)] at hl
  obtain ⟨bd, rfl, hb, hcell⟩ := h.2 (by omega)
  have hg0 := flatMap_get roadV 3 (fun _ => rfl) roads (i * 3) (by omega)
  have hg1 := flatMap_get roadV 3 (fun _ => rfl) roads (i * 3 + 1) (by omega)
  have hg2 := flatMap_get roadV 3 (fun _ => rfl) roads (i * 3 + 2) (by omega)
  rw [show i * 3 / 3 = i by omega, show i * 3 % 3 = 0 by omega, getElem!_pos roads i hi] at hg0
  rw [show (i * 3 + 1) / 3 = i by omega, show (i * 3 + 1) % 3 = 1 by omega, getElem!_pos roads i hi] at hg1
  rw [show (i * 3 + 2) / 3 = i by omega, show (i * 3 + 2) % 3 = 2 by omega, getElem!_pos roads i hi] at hg2
  simp only [roadV, List.getElem!_cons_zero, List.getElem!_cons_succ] at hg0 hg1 hg2
  have hc1 := hcell _ _ hg1
  have hc2 := hcell _ _ hg2
  rw [add_nextI bd (i * 3) 0] at hc1
  rw [add_nextI bd (i * 3) 1] at hc2
  exact ⟨bd, rfl, hb, hcell _ _ hg0, hc1, hc2⟩
theorem NewO.okr {om : Option Pts} (h : NewO om) : ∀ x ∈ roadsO om, Okr (lenO om) x := by
  cases om with
  | none => intro x hx; cases hx
  | some M =>
    obtain ⟨names, roads, h1, rfl⟩ := h M rfl
    exact (newE_zero h1).2.2.2.1
/-- A list and an error, handed back. -/
def GivesE (w : World) (xs : List Int) (E : Int) (e : Ending) (w' : World) : Prop := ∃ v, e = .returned (.tuple #[v, .int .i64 E]) ∧ w'.ownsRow w.heap.size 3 1 v xs.length (xs.map (Value.int .i64)) ∧ Below w.heap.size w w'
theorem readII_one (w : World) (A : Option Addr) (n c : Nat) (vs : List Int) (h : ReadI w w.heap.size A n vs) (hn : n ≤ c) (hc : c ≤ maxLen) : ReadII (w.alloc (.cells #[.slice A n c] 26)) (w.heap.size + 1) (some ⟨w.heap.size, 0, none⟩) 1 [vs] := by
  have hl := h.len
  refine ⟨rfl, fun k hk => ?_⟩
  obtain rfl : k = 0 := by simpa using hk
  refine ⟨_, A, c, rfl, ?_, ?_, ?_, ?_, hc⟩
  · rw [add_at, (Blk.new w 26 #[.slice A n c]).cell 0]
    simp [hl]
  · rw [add_at]; exact Nat.lt_succ_self _
  · simp only [List.getElem_cons_zero]; rw [hl]; exact (Reads.alloc h (Nat.le_refl _) _).more (Nat.le_succ _)
  · simp only [List.getElem_cons_zero]; omega
def cutsV (om : Option Pts) (vs : List Int) : List Int := if chkN (lenO om) [vs] = 0 then intsL (cutsL (roadsO om) vs) else []
def bunV (om : Option Pts) (l : List (List Int)) : List Int := if chkN (lenO om) l = 0 then bunL (roadsO om) l else []
theorem cutsL_take (roads : List Rd) (vs : List Int) (j : Nat) : ((List.range j).filter fun k => cutB vs (rdAt roads k)).length ≤ j := filter_range_len _ j
set_option maxRecDepth 20000 in
set_option maxHeartbeats 2000000 in
theorem cutsP_any (p : Option Addr) (om : Option Pts) (A : Option Addr) (n c : Nat) (vs : List Int) (w : World) (h : MapO w p om) (hG : NewO om) (hv : ReadI w w.heap.size A n vs) (hn : n ≤ c) (hc : c ≤ maxLen) :
    Calls Tryd.prog 13 #[.pointer p, .slice A n c] w (GivesE w (cutsV om vs) (chkN (lenO om) [vs])) := by
  have hb0 := (Below.refl _ w).alloc (Nat.le_refl _) (.cells #[.slice A n c] 26)
  have hck := check_any p om (some ⟨w.heap.size, 0, none⟩) 1 1 [vs] _ (h.below hb0) (by rw [World.size_alloc]; exact readII_one w A n c vs hv hn hc) (plainA_at _) (by unfold maxLen; decide)
  have hrd := fun W (hW : Below w.heap.size w W) => roadsP_any p om W (h.below hW) (Nat.le_trans hG.roads (by decide))
  have hok := hG.okr
  have h512 := hG.roads
  have hlv := hv.len
  have hz : chkN (lenO om) [vs] = 0 → lenO om = n := fun e => by rw [← hlv]; exact ((chkN_zero e).2.2 vs (by simp)).symm
  obtain ⟨i0, hi, hz0, hz1, hz2⟩ := info_parts (show (Tryd.prog.info? 3).map (fun i => (i.zero, i.size, i.bytes)) = some (some (.int .i64 0), 1, 8) by kernel_rfl)
  have HRD := Lib.hid hrd; have HOK := Lib.hid hok; have HV := Lib.hid hv; have HB0 := Lib.hid hb0; have HZ := Lib.hid hz
  clear h hG hrd hok hv hb0 hz
  unfold GivesE cutsV
  generalize lenO om = N at *
  generalize roadsO om = R at *
  obtain ⟨E, hE⟩ : ∃ E, chkN N [vs] = E := ⟨_, rfl⟩
  rw [hE] at hck ⊢
  by_cases h0 : E = 0
  · rw [h0] at hE hck ⊢
    rw [if_pos rfl]
    obtain rfl := HZ.out hE
    clear HZ hE h0
    go_enter Tryd.func13, Tryd.ntmps13
    go_wp2_with fail
    refine hck.mono ?_
    rintro e w1 ⟨rfl, hb1⟩
    have hB1 := HB0.out.trans (hb1.mono HB0.out.size)
    have hr := HRD.out w1 hB1
    have HB1 := Lib.hid hB1
    clear hb1 hB1 hck
    go_wp2_with fail
    refine hr.mono ?_
    rintro e w2 ⟨vR, rfl, hoR, hb2⟩
    obtain ⟨AR, cR, rfl, _, _⟩ := ownsRow_form hoR
    have hB2 := HB1.out.trans (hb2.mono HB1.out.size)
    have HR := Lib.hid (Reads.of_own hoR); have HB2 := Lib.hid hB2
    clear hoR hb2 hr hB2
    go_wp2
    go_loopw [7, 20] (fun v i wr => ∃ j : Nat, j ≤ R.length ∧ i = .int .i64 j ∧ wr.ownsRow w2.heap.size 3 1 v ((List.range j).filter fun i => cutB vs (rdAt R i)).length ((intsL ((List.range j).filter fun i => cutB vs (rdAt R i))).map (Value.int .i64)) ∧ Below w2.heap.size w2 wr) (fun _ i _ => R.length - (intOf i).toNat)
    case atStart => exact ⟨0, by omega, rfl, World.ownsRow_nil _ _ _ _, Below.refl _ _⟩
    case round =>
      obtain ⟨j, hj, rfl, hown, hb⟩ := hrel
      have hst := filter_range_succ (fun i => cutB vs (rdAt R i)) j
      have hlj := cutsL_take R vs j
      obtain ⟨L, hL⟩ : ∃ L, ((List.range j).filter fun i => cutB vs (rdAt R i)) = L := ⟨_, rfl⟩
      rw [hL] at hown hlj hst
      have HB := Lib.hid hb; have HO := Lib.hid hown; have HL := Lib.hid hL
      clear hb hown hL
      by_cases hlt : j < R.length
      · obtain ⟨bd, rfl, hbd, hc0, hc1, hc2⟩ := roadI_cells HR.out hlt
        have hx := HOK.out _ (List.getElem_mem hlt)
        rw [rdAt_get hlt] at hst
        have k0 := (HB.out.cell (p := bd.add (j * 3)) (by rw [block_of_add]; exact hbd)).trans hc0
        have k1 := (HB.out.cell (p := ⟨(bd.add (j * 3)).block, (bd.add (j * 3)).off + 1, none⟩) (by show (bd.add (j * 3)).block < _; rw [block_of_add]; exact hbd)).trans hc1
        have k2 := (HB.out.cell (p := ⟨(bd.add (j * 3)).block, (bd.add (j * 3)).off + 2, none⟩) (by show (bd.add (j * 3)).block < _; rw [block_of_add]; exact hbd)).trans hc2
        generalize R[j] = x at *
        have hal : Below wr.heap.size wr (wr.alloc (.cells #[.int .i64 x.1, .int .i64 x.2.1, .int .i64 x.2.2] 71)) := (Below.refl _ wr).alloc (Nat.le_refl _) _
        have hxb := Blk.new wr 71 #[.int .i64 x.1, .int .i64 x.2.1, .int .i64 x.2.2]
        have hwall := HB2.out.trans ((HB.out.trans (hal.mono HB.out.size)).mono HB2.out.size)
        have hcut := cut_any x A _ c vs _ (ReadI.later HV.out hwall) (.of_ok hx)
        have c0 := hxb.cell 0; have c1 := hxb.cell 1; have c2 := hxb.cell 2
        simp only [List.getElem?_toArray, List.getElem?_cons_zero, List.getElem?_cons_succ] at c0 c1 c2
        have hltI : (j : Int) < (R.length : Int) := by omega
        have HAL := Lib.hid (HB.out.trans (hal.mono HB.out.size)); have HOA := Lib.hid (own_below HO.out hal); have HST := Lib.hid hst
        have hsz := HB.out.size
        clear hc0 hc1 hc2 hxb hwall hal hst hx
        generalize cutB vs x = b at *
        cases b
        · go_wp2_with fail
          refine hcut.mono ?_
          rintro e w3 ⟨rfl, hb3⟩
          have hB3 := HAL.out.trans (hb3.mono (by rw [World.size_alloc]; omega))
          have hO3 := own_below HOA.out hb3
          have HO3 := Lib.hid hO3; have HB3 := Lib.hid hB3
          clear hb3 hO3 hB3
          go_wp2
          go_roundw
          case rel => exact ⟨j + 1, by omega, by go_num, by rw [HST.out, if_neg (by simp), List.append_nil]; exact HO3.out, HB3.out⟩
          case measure => simp [intOf]; omega
        · go_wp2_with fail
          refine hcut.mono ?_
          rintro e w3 ⟨rfl, hb3⟩
          have hB3 := HAL.out.trans (hb3.mono (by rw [World.size_alloc]; omega))
          have hO3 := own_below HOA.out hb3
          have hrn := reads_new w3 3 [.int .i64 (j : Int)]
          have HO3 := Lib.hid hO3; have HB3 := Lib.hid hB3; have HRN := Lib.hid hrn
          clear hb3 hO3 hB3 hrn
          go_wp2_with (at_builtin; refine wpList_append_any _ rfl _ _ 26 rfl w2.heap.size 3 i0 (.int .i64 0) 1 8 Tryd.underlying26 hi hz0 hz1 hz2 rfl (by decide) _ _ _ rfl (HO3.out.alloc _) _ _ _ _ [.int .i64 (j : Int)] rfl HRN.out (by simp [Value.oneCell']) (by unfold maxLen; omega) (by omega) (by have := HB3.out.size; simp; omega) ?_; intro v' w4 hown' hgrow hx; clear hx)
          have hb4 : Below w2.heap.size w2 w4 := (HB3.out.alloc HB3.out.size _).grown hgrow (by have := HB3.out.size; simp; omega) (fun g hg => (HO3.out.lt g hg).1)
          clear hgrow
          go_roundw
          case rel => exact ⟨j + 1, by omega, by go_num, by rw [HST.out, if_pos (by simp), List.length_append]; simpa using hown', hb4⟩
          case measure => simp [intOf]; omega
      · obtain rfl : j = R.length := by omega
        go_wp2
        go_ret2
        exact ⟨_, rfl, by rw [show cutsL R vs = L from HL.out, intsL, List.length_map]; exact own_mono HO.out HB2.out.size, HB2.out.trans (HB.out.mono HB2.out.size)⟩
  · rw [if_neg h0]
    have h0B : (E != 0) = true := by simp [h0]
    clear HRD HOK HZ hE
    go_enter Tryd.func13, Tryd.ntmps13
    go_wp2_with fail
    refine hck.mono ?_
    rintro e w1 ⟨rfl, hb1⟩
    go_wp2
    go_ret2
    exact ⟨_, rfl, World.ownsRow_nil _ _ _ _, HB0.out.trans (hb1.mono HB0.out.size)⟩
theorem bunL_step (R : List Rd) (l : List (List Int)) {j : Nat} (hj : j < R.length) : bunL (R.take (j + 1)) l = bunL (R.take j) l ++ [(bundN l R[j] : Int)] := by
  unfold bunL
  rw [List.take_succ_eq_append_getElem hj, List.map_append]; rfl
theorem bunL_len (R : List Rd) (l : List (List Int)) : (bunL R l).length = R.length := List.length_map _
set_option maxRecDepth 20000 in
set_option maxHeartbeats 2000000 in
theorem bundlesP_any (p : Option Addr) (om : Option Pts) (A : Option Addr) (m c : Nat) (l : List (List Int)) (w : World) (h : MapO w p om) (hG : NewO om) (hl : ReadII w w.heap.size A m l) (hA : PlainA A) (hm : m ≤ maxLen) :
    Calls Tryd.prog 24 #[.pointer p, .slice A m c] w (GivesE w (bunV om l) (chkN (lenO om) l)) := by
  have hck := check_any p om A m c l w h hl hA hm
  have hrd := fun W (hW : Below w.heap.size w W) => roadsP_any p om W (h.below hW) (Nat.le_trans hG.roads (by decide))
  have hok := hG.okr
  have h512 := hG.roads
  have hll := hl.1
  obtain ⟨i0, hi, hz0, hz1, hz2⟩ := info_parts (show (Tryd.prog.info? 3).map (fun i => (i.zero, i.size, i.bytes)) = some (some (.int .i64 0), 1, 8) by kernel_rfl)
  have HRD := Lib.hid hrd; have HOK := Lib.hid hok; have HL := Lib.hid hl
  clear h hG hrd hok hl
  unfold GivesE bunV
  generalize lenO om = N at *
  generalize roadsO om = R at *
  obtain ⟨E, hE⟩ : ∃ E, chkN N l = E := ⟨_, rfl⟩
  rw [hE] at hck ⊢
  by_cases h0 : E = 0
  · rw [h0] at hE hck ⊢
    rw [if_pos rfl]
    obtain ⟨_, hm2, hin⟩ := chkN_zero hE
    have hm3 : m ≤ 1000000 := by omega
    have HIN := Lib.hid (show ∀ x ∈ R, ∀ vs ∈ l, InR vs.length x from fun x hx vs hv => by rw [hin vs hv]; exact .of_ok (HOK.out x hx))
    clear hE h0 hm2 hin HOK hll
    go_enter Tryd.func24, Tryd.ntmps24
    go_wp2_with fail
    refine hck.mono ?_
    rintro e w1 ⟨rfl, hb1⟩
    have hr := HRD.out w1 hb1
    have HB1 := Lib.hid hb1
    clear hb1 hck
    go_wp2_with fail
    refine hr.mono ?_
    rintro e w2 ⟨vR, rfl, hoR, hb2⟩
    obtain ⟨AR, cR, rfl, _, _⟩ := ownsRow_form hoR
    have hB2 := HB1.out.trans (hb2.mono HB1.out.size)
    have HR := Lib.hid (Reads.of_own hoR); have HB2 := Lib.hid hB2
    clear hoR hb2 hr hB2
    go_wp2
    go_loopw [7, 19] (fun v i wr => ∃ j : Nat, j ≤ R.length ∧ i = .int .i64 j ∧ wr.ownsRow w2.heap.size 3 1 v j ((bunL (R.take j) l).map (Value.int .i64)) ∧ Below w2.heap.size w2 wr) (fun _ i _ => R.length - (intOf i).toNat)
    case atStart => exact ⟨0, by omega, rfl, World.ownsRow_nil _ _ _ _, Below.refl _ _⟩
    case round =>
      obtain ⟨j, hj, rfl, hown, hb⟩ := hrel
      have HB := Lib.hid hb; have HO := Lib.hid hown
      clear hb hown
      by_cases hlt : j < R.length
      · have hst := bunL_step R l hlt
        obtain ⟨bd, rfl, hbd, hc0, hc1, hc2⟩ := roadI_cells HR.out hlt
        have hx := HIN.out _ (List.getElem_mem hlt)
        have k0 := (HB.out.cell (p := bd.add (j * 3)) (by rw [block_of_add]; exact hbd)).trans hc0
        have k1 := (HB.out.cell (p := ⟨(bd.add (j * 3)).block, (bd.add (j * 3)).off + 1, none⟩) (by show (bd.add (j * 3)).block < _; rw [block_of_add]; exact hbd)).trans hc1
        have k2 := (HB.out.cell (p := ⟨(bd.add (j * 3)).block, (bd.add (j * 3)).off + 2, none⟩) (by show (bd.add (j * 3)).block < _; rw [block_of_add]; exact hbd)).trans hc2
        generalize R[j] = x at *
        have hal : Below wr.heap.size wr (wr.alloc (.cells #[.int .i64 x.1, .int .i64 x.2.1, .int .i64 x.2.2] 71)) := (Below.refl _ wr).alloc (Nat.le_refl _) _
        have hxb := Blk.new wr 71 #[.int .i64 x.1, .int .i64 x.2.1, .int .i64 x.2.2]
        have hwall := HB2.out.trans ((HB.out.trans (hal.mono HB.out.size)).mono HB2.out.size)
        have hbun := bundle_any x A m c l _ (HL.out.later hwall) hx hm3
        have c0 := hxb.cell 0; have c1 := hxb.cell 1; have c2 := hxb.cell 2
        simp only [List.getElem?_toArray, List.getElem?_cons_zero, List.getElem?_cons_succ] at c0 c1 c2
        have hltI : (j : Int) < (R.length : Int) := by omega
        have HAL := Lib.hid (HB.out.trans (hal.mono HB.out.size)); have HOA := Lib.hid (own_below HO.out hal); have HST := Lib.hid hst
        have hsz := HB.out.size
        clear hc0 hc1 hc2 hxb hwall hal hst hx
        generalize bundN l x = b at *
        go_wp2_with fail
        refine hbun.mono ?_
        rintro e w3 ⟨rfl, hb3⟩
        have hB3 := HAL.out.trans (hb3.mono (by rw [World.size_alloc]; omega))
        have hO3 := own_below HOA.out hb3
        have hrn := reads_new w3 3 [.int .i64 (b : Int)]
        have HO3 := Lib.hid hO3; have HB3 := Lib.hid hB3; have HRN := Lib.hid hrn
        clear hb3 hO3 hB3 hrn
        go_wp2_with (at_builtin; refine wpList_append_any _ rfl _ _ 26 rfl w2.heap.size 3 i0 (.int .i64 0) 1 8 Tryd.underlying26 hi hz0 hz1 hz2 rfl (by decide) _ _ _ rfl (HO3.out.alloc _) _ _ _ _ [.int .i64 (b : Int)] rfl HRN.out (by simp [Value.oneCell']) (by unfold maxLen; omega) (by omega) (by have := HB3.out.size; simp; omega) ?_; intro v' w4 hown' hgrow hx; clear hx)
        have hb4 : Below w2.heap.size w2 w4 := (HB3.out.alloc HB3.out.size _).grown hgrow (by have := HB3.out.size; simp; omega) (fun g hg => (HO3.out.lt g hg).1)
        clear hgrow
        go_roundw
        case rel => exact ⟨j + 1, by omega, by go_num, by rw [HST.out, List.map_append]; simpa using hown', hb4⟩
        case measure => simp [intOf]; omega
      · obtain rfl : j = R.length := by omega
        go_wp2
        go_ret2
        exact ⟨_, rfl, by rw [bunL_len, ← List.take_length (l := R)]; exact own_mono (by simpa using HO.out) HB2.out.size, HB2.out.trans (HB.out.mono HB2.out.size)⟩
  · rw [if_neg h0]
    have h0B : (E != 0) = true := by simp [h0]
    clear HRD HOK hE
    go_enter Tryd.func24, Tryd.ntmps24
    go_wp2_with fail
    refine hck.mono ?_
    rintro e w1 ⟨rfl, hb1⟩
    go_wp2
    go_ret2
    exact ⟨_, rfl, World.ownsRow_nil _ _ _ _, hb1⟩
end Go.Proofs.YtgimhjkijpcgjaaDoor
