/-
  layer 37: Cuts and Bundles of the reference. Conditions: a map of New, or nil; lists that are read.
-/
import Derived.Test.YtgimhjkijpcgjaaDoorIsC
import Derived.Test.YtgimhjkijpcgjaaDoorGao
namespace Go.Proofs.YtgimhjkijpcgjaaDoor
open Go.RowKit Go.Lib

set_option maxRecDepth 20000 in
set_option maxHeartbeats 2000000 in
theorem refCuts_any (p : Option Addr) (om : Option Pts) (A : Option Addr) (n c : Nat) (vs : List Int) (w : World) (h : RefO w p om) (hG : NewO om) (hv : ReadI w w.heap.size A n vs) (hn : n ≤ c) (hc : c ≤ maxLen) :
    Calls Tryd.prog 14 #[.pointer p, .slice A n c] w (GivesE w (cutsV om vs) (chkN (lenO om) [vs])) := by
  have hb0 := (Below.refl _ w).alloc (Nat.le_refl _) (.cells #[.slice A n c] 26)
  have hck := fits_any p om (some ⟨w.heap.size, 0, none⟩) 1 1 [vs] _ (h.below hb0) (by rw [World.size_alloc]; exact readII_one w A n c vs hv hn hc) (by unfold maxLen; decide)
  have hrd := fun W (hW : Below w.heap.size w W) => refRoads_any p om W (h.below hW) hG.roads
  have hok := hG.okr
  have h512 := hG.roads
  have hlv := hv.len
  have hz : chkN (lenO om) [vs] = 0 → lenO om = n := fun e => by rw [← hlv]; exact ((chkN_zero e).2.2 vs (by simp)).symm
  obtain ⟨i0, hi, hz0, hz1, hz2⟩ := info_parts (show (Tryd.prog.info? 3).map (fun i => (i.zero, i.size, i.bytes)) = some (some (.int .i64 0), 1, 8) by kernel_rfl)
  have HRD := Lib.hid hrd; have HOK := Lib.hid hok; have HV := Lib.hid hv; have HB0 := Lib.hid hb0; have HZ := Lib.hid hz
  clear h hG hrd hok hv hb0 hz
  unfold GivesE cutsV
  generalize lenO om = N at *
  generalize roadsO om = R at *
  obtain ⟨E, hE⟩ : ∃ E, chkN N [vs] = E := ⟨_, rfl⟩
  rw [hE] at hck ⊢
  by_cases h0 : E = 0
  · rw [h0] at hE hck ⊢
    rw [if_pos rfl]
    obtain rfl := HZ.out hE
    clear HZ hE h0
    go_enter Tryd.func14, Tryd.ntmps14
    go_wp2_with fail
    refine hck.mono ?_
    rintro e w1 ⟨rfl, hb1⟩
    have hB1 := HB0.out.trans (hb1.mono HB0.out.size)
    have hr := HRD.out w1 hB1
    have HB1 := Lib.hid hB1
    clear hb1 hB1 hck
    go_wp2_with fail
    refine hr.mono ?_
    rintro e w2 ⟨vR, rfl, hoR, hb2⟩
    obtain ⟨AR, cR, rfl, _, _⟩ := ownsRow_form hoR
    have hB2 := HB1.out.trans (hb2.mono HB1.out.size)
    have HR := Lib.hid (Reads.of_own hoR); have HB2 := Lib.hid hB2
    clear hoR hb2 hr hB2
    go_wp2
    go_loopw [7, 9] (fun v i wr => ∃ j : Nat, j ≤ R.length ∧ i = .int .i64 j ∧ wr.ownsRow w2.heap.size 3 1 v ((List.range j).filter fun i => cutB vs (rdAt R i)).length ((intsL ((List.range j).filter fun i => cutB vs (rdAt R i))).map (Value.int .i64)) ∧ Below w2.heap.size w2 wr) (fun _ i _ => R.length - (intOf i).toNat)
    case atStart => exact ⟨0, by omega, rfl, World.ownsRow_nil _ _ _ _, Below.refl _ _⟩
    case round =>
      obtain ⟨j, hj, rfl, hown, hb⟩ := hrel
      have hst := filter_range_succ (fun i => cutB vs (rdAt R i)) j
      have hlj := cutsL_take R vs j
      obtain ⟨L, hL⟩ : ∃ L, ((List.range j).filter fun i => cutB vs (rdAt R i)) = L := ⟨_, rfl⟩
      rw [hL] at hown hlj hst
      have HB := Lib.hid hb; have HO := Lib.hid hown; have HL := Lib.hid hL
      clear hb hown hL
      by_cases hlt : j < R.length
      · obtain ⟨bd, rfl, hbd, hc0, hc1, hc2⟩ := roadI_cells HR.out hlt
        have hx := HOK.out _ (List.getElem_mem hlt)
        rw [rdAt_get hlt] at hst
        have k0 := (HB.out.cell (p := bd.add (j * 3)) (by rw [block_of_add]; exact hbd)).trans hc0
        have k1 := (HB.out.cell (p := ⟨(bd.add (j * 3)).block, (bd.add (j * 3)).off + 1, none⟩) (by show (bd.add (j * 3)).block < _; rw [block_of_add]; exact hbd)).trans hc1
        have k2 := (HB.out.cell (p := ⟨(bd.add (j * 3)).block, (bd.add (j * 3)).off + 2, none⟩) (by show (bd.add (j * 3)).block < _; rw [block_of_add]; exact hbd)).trans hc2
        generalize R[j] = x at *
        have hwall := HB2.out.trans (HB.out.mono HB2.out.size)
        have hcut := refCut_any x A _ c vs _ (ReadI.later HV.out hwall) (.of_ok hx)
        have hltI : (j : Int) < (R.length : Int) := by omega
        have HST := Lib.hid hst
        have hsz := HB.out.size
        clear hc0 hc1 hc2 hwall hst hx
        generalize cutB vs x = b at *
        cases b
        · go_wp2_with fail
          refine hcut.mono ?_
          rintro e w3 ⟨rfl, hb3⟩
          have hB3 := HB.out.trans (hb3.mono HB.out.size)
          have hO3 := own_below HO.out hb3
          have HO3 := Lib.hid hO3; have HB3 := Lib.hid hB3
          clear hb3 hO3 hB3
          go_wp2
          go_roundw
          case rel => exact ⟨j + 1, by omega, by go_num, by rw [HST.out, if_neg (by simp), List.append_nil]; exact HO3.out, HB3.out⟩
          case measure => simp [intOf]; omega
        · go_wp2_with fail
          refine hcut.mono ?_
          rintro e w3 ⟨rfl, hb3⟩
          have hB3 := HB.out.trans (hb3.mono HB.out.size)
          have hO3 := own_below HO.out hb3
          have hrn := reads_new w3 3 [.int .i64 (j : Int)]
          have HO3 := Lib.hid hO3; have HB3 := Lib.hid hB3; have HRN := Lib.hid hrn
          clear hb3 hO3 hB3 hrn
          go_wp2_with (at_builtin; refine wpList_append_any _ rfl _ _ 26 rfl w2.heap.size 3 i0 (.int .i64 0) 1 8 Tryd.underlying26 hi hz0 hz1 hz2 rfl (by decide) _ _ _ rfl (HO3.out.alloc _) _ _ _ _ [.int .i64 (j : Int)] rfl HRN.out (by simp [Value.oneCell']) (by unfold maxLen; omega) (by omega) (by have := HB3.out.size; simp; omega) ?_; intro v' w4 hown' hgrow hx; clear hx)
          have hb4 : Below w2.heap.size w2 w4 := (HB3.out.alloc HB3.out.size _).grown hgrow (by have := HB3.out.size; simp; omega) (fun g hg => (HO3.out.lt g hg).1)
          clear hgrow
          go_roundw
          case rel => exact ⟨j + 1, by omega, by go_num, by rw [HST.out, if_pos (by simp), List.length_append]; simpa using hown', hb4⟩
          case measure => simp [intOf]; omega
      · obtain rfl : j = R.length := by omega
        go_wp2
        go_ret2
        exact ⟨_, rfl, by rw [show cutsL R vs = L from HL.out, intsL, List.length_map]; exact own_mono HO.out HB2.out.size, HB2.out.trans (HB.out.mono HB2.out.size)⟩
  · rw [if_neg h0]
    have h0B : (E != 0) = true := by simp [h0]
    clear HRD HOK HZ hE
    go_enter Tryd.func14, Tryd.ntmps14
    go_wp2_with fail
    refine hck.mono ?_
    rintro e w1 ⟨rfl, hb1⟩
    go_wp2
    go_ret2
    exact ⟨_, rfl, World.ownsRow_nil _ _ _ _, HB0.out.trans (hb1.mono HB0.out.size)⟩
set_option maxRecDepth 20000 in
set_option maxHeartbeats 2000000 in
theorem refBundles_any (p : Option Addr) (om : Option Pts) (A : Option Addr) (m c : Nat) (l : List (List Int)) (w : World) (h : RefO w p om) (hG : NewO om) (hl : ReadII w w.heap.size A m l) (hm : m ≤ maxLen) :
    Calls Tryd.prog 25 #[.pointer p, .slice A m c] w (GivesE w (bunV om l) (chkN (lenO om) l)) := by
  have hck := fits_any p om A m c l w h hl hm
  have hrd := fun W (hW : Below w.heap.size w W) => refRoads_any p om W (h.below hW) hG.roads
  have hok := hG.okr
  have h512 := hG.roads
  have hll := hl.1
  obtain ⟨i0, hi, hz0, hz1, hz2⟩ := info_parts (show (Tryd.prog.info? 3).map (fun i => (i.zero, i.size, i.bytes)) = some (some (.int .i64 0), 1, 8) by kernel_rfl)
  have HRD := Lib.hid hrd; have HOK := Lib.hid hok; have HL := Lib.hid hl
  clear h hG hrd hok hl
  unfold GivesE bunV
  generalize lenO om = N at *
  generalize roadsO om = R at *
  obtain ⟨E, hE⟩ : ∃ E, chkN N l = E := ⟨_, rfl⟩
  rw [hE] at hck ⊢
  by_cases h0 : E = 0
  · rw [h0] at hE hck ⊢
    rw [if_pos rfl]
    obtain ⟨_, hm2, hin⟩ := chkN_zero hE
    have hm3 : m ≤ 1000000 := by omega
    have HIN := Lib.hid (show ∀ x ∈ R, ∀ vs ∈ l, InR vs.length x from fun x hx vs hv => by rw [hin vs hv]; exact .of_ok (HOK.out x hx))
    clear hE h0 hm2 hin HOK hll
    go_enter Tryd.func25, Tryd.ntmps25
    go_wp2_with fail
    refine hck.mono ?_
    rintro e w1 ⟨rfl, hb1⟩
    have hr := HRD.out w1 hb1
    have HB1 := Lib.hid hb1
    clear hb1 hck
    go_wp2_with fail
    refine hr.mono ?_
    rintro e w2 ⟨vR, rfl, hoR, hb2⟩
    obtain ⟨AR, cR, rfl, _, _⟩ := ownsRow_form hoR
    have hB2 := HB1.out.trans (hb2.mono HB1.out.size)
    have HR := Lib.hid (Reads.of_own hoR); have HB2 := Lib.hid hB2
    clear hoR hb2 hr hB2
    go_wp2
    go_loopw [7, 9] (fun v i wr => ∃ j : Nat, j ≤ R.length ∧ i = .int .i64 j ∧ wr.ownsRow w2.heap.size 3 1 v j ((bunL (R.take j) l).map (Value.int .i64)) ∧ Below w2.heap.size w2 wr) (fun _ i _ => R.length - (intOf i).toNat)
    case atStart => exact ⟨0, by omega, rfl, World.ownsRow_nil _ _ _ _, Below.refl _ _⟩
    case round =>
      obtain ⟨j, hj, rfl, hown, hb⟩ := hrel
      have HB := Lib.hid hb; have HO := Lib.hid hown
      clear hb hown
      by_cases hlt : j < R.length
      · have hst := bunL_step R l hlt
        obtain ⟨bd, rfl, hbd, hc0, hc1, hc2⟩ := roadI_cells HR.out hlt
        have hx := HIN.out _ (List.getElem_mem hlt)
        have k0 := (HB.out.cell (p := bd.add (j * 3)) (by rw [block_of_add]; exact hbd)).trans hc0
        have k1 := (HB.out.cell (p := ⟨(bd.add (j * 3)).block, (bd.add (j * 3)).off + 1, none⟩) (by show (bd.add (j * 3)).block < _; rw [block_of_add]; exact hbd)).trans hc1
        have k2 := (HB.out.cell (p := ⟨(bd.add (j * 3)).block, (bd.add (j * 3)).off + 2, none⟩) (by show (bd.add (j * 3)).block < _; rw [block_of_add]; exact hbd)).trans hc2
        generalize R[j] = x at *
        have hltI : (j : Int) < (R.length : Int) := by omega
        have HST := Lib.hid hst; have HXX := Lib.hid hx
        have hsz := HB.out.size
        have K0 := Lib.hid k0; have K1 := Lib.hid k1; have K2 := Lib.hid k2; have HBD := Lib.hid hbd
        clear hc0 hc1 hc2 hst hx k0 k1 k2
        have HLT := Lib.hid hlt
        generalize hwo : wr = wo at *
        clear hwo
        go_wp2
        go_loopw [10, 11] (fun v i wz => ∃ k : Nat, k ≤ m ∧ i = .int .i64 k ∧ v = .int .i64 (bundN (l.take k) x : Nat) ∧ Below wo.heap.size wo wz) (fun _ i _ => m - (intOf i).toNat)
        case atStart => exact ⟨0, by omega, rfl, rfl, Below.refl _ _⟩
        case round =>
          obtain ⟨k, hk, rfl, rfl, hb⟩ := hrel
          have HBz := Lib.hid hb
          clear hb
          by_cases hlk : k < m
          · have hkl : k < l.length := by rw [HL.out.1]; exact hlk
            have hsk := bundN_step l x hkl
            have hwall := HB2.out.trans ((HB.out.trans (HBz.out.mono HB.out.size)).mono HB2.out.size)
            obtain ⟨ad, A', c', rfl, hcell, hlt2, hR, hc1, hc2⟩ := HL.out.2 k hkl
            have hcw := (hwall.cell hlt2).trans hcell
            have hcut := refCut_any x A' l[k].length c' l[k] _ (ReadI.later hR (hwall.drew)) (HXX.out _ (List.getElem_mem hkl))
            have q0 := (HBz.out.cell (p := bd.add (j * 3)) (by rw [block_of_add]; exact Nat.lt_of_lt_of_le HBD.out HB.out.size)).trans K0.out
            have q1 := (HBz.out.cell (p := ⟨(bd.add (j * 3)).block, (bd.add (j * 3)).off + 1, none⟩) (by show (bd.add (j * 3)).block < _; rw [block_of_add]; exact Nat.lt_of_lt_of_le HBD.out HB.out.size)).trans K1.out
            have q2 := (HBz.out.cell (p := ⟨(bd.add (j * 3)).block, (bd.add (j * 3)).off + 2, none⟩) (by show (bd.add (j * 3)).block < _; rw [block_of_add]; exact Nat.lt_of_lt_of_le HBD.out HB.out.size)).trans K2.out
            have hle : bundN (l.take k) x ≤ 1000000 := by
              have := bundN_le (l.take k) x
              rw [List.length_take] at this
              omega
            have hlkI : (k : Int) < (m : Int) := by omega
            have HSK := Lib.hid hsk
            generalize bundN (l.take k) x = N at *
            generalize cutB l[k] x = b at *
            generalize l[k] = vs at *
            clear hsk hR hcell hwall hc1 hc2
            cases b
            · go_wp2
              go_region_with (first | (refine hcut.mono ?_; rintro e w9 ⟨rfl, hb9⟩; have HB9 := Lib.hid hb9; clear hb9))
              all_goals
                go_wp2
                go_roundw
                case rel => exact ⟨k + 1, by omega, by go_num, by rw [HSK.out]; rfl, HBz.out.drew.trans (HB9.out.mono HBz.out.size)⟩
                case measure => simp [intOf]; omega
            · go_wp2
              go_region_with (first | (refine hcut.mono ?_; rintro e w9 ⟨rfl, hb9⟩; have HB9 := Lib.hid hb9; clear hb9))
              all_goals
                go_wp2
                go_roundw
                case rel => exact ⟨k + 1, by omega, by go_num, by rw [HSK.out]; go_num, HBz.out.drew.trans (HB9.out.mono HBz.out.size)⟩
                case measure => simp [intOf]; omega
          · obtain rfl : m = k := by omega
            rw [List.take_of_length_le (by rw [HL.out.1]; exact Nat.le_refl _)]
            generalize bundN l x = b at *
            have hB3 := HB.out.trans (HBz.out.mono HB.out.size)
            have hO3 := own_below HO.out HBz.out
            have hrn := reads_new wr 3 [.int .i64 (b : Int)]
            have HO3 := Lib.hid hO3; have HB3 := Lib.hid hB3; have HRN := Lib.hid hrn
            have hj2 := HLT.out
            clear hO3 hB3 hrn
            go_wp2_with (at_builtin; refine wpList_append_any _ rfl _ _ 26 rfl w2.heap.size 3 i0 (.int .i64 0) 1 8 Tryd.underlying26 hi hz0 hz1 hz2 rfl (by decide) _ _ _ rfl (HO3.out.alloc _) _ _ _ _ [.int .i64 (b : Int)] rfl HRN.out (by simp [Value.oneCell']) (by unfold maxLen; omega) (by omega) (by have := HB3.out.size; simp; omega) ?_; intro v' w4 hown' hgrow hx; clear hx)
            have hb4 : Below w2.heap.size w2 w4 := (HB3.out.alloc HB3.out.size _).grown hgrow (by have := HB3.out.size; simp; omega) (fun g hg => (HO3.out.lt g hg).1)
            clear hgrow
            go_roundw
            case rel => exact ⟨j + 1, by omega, by go_num, by rw [HST.out, List.map_append]; simpa using hown', hb4⟩
            case measure => simp [intOf]; omega
      · obtain rfl : j = R.length := by omega
        go_wp2
        go_ret2
        exact ⟨_, rfl, by rw [bunL_len, ← List.take_length (l := R)]; exact own_mono (by simpa using HO.out) HB2.out.size, HB2.out.trans (HB.out.mono HB2.out.size)⟩
  · rw [if_neg h0]
    have h0B : (E != 0) = true := by simp [h0]
    clear HRD HOK hE
    go_enter Tryd.func25, Tryd.ntmps25
    go_wp2_with fail
    refine hck.mono ?_
    rintro e w1 ⟨rfl, hb1⟩
    go_wp2
    go_ret2
    exact ⟨_, rfl, World.ownsRow_nil _ _ _ _, hb1⟩
end Go.Proofs.YtgimhjkijpcgjaaDoor
namespace Go.Proofs.YtgimhjkijpcgjaaDoor
open Go.RowKit Go.Lib

def stepB (l : List (List Int)) (a : Int) (o : Option Nat) (b : Nat) : Option Nat := if (b : Int) = a then o else match o with
  | none => some b
  | some c => if difN l a b < difN l a c then some b else some c
def bestB (l : List (List Int)) (a : Int) (k : Nat) : Option Nat := (List.range k).foldl (stepB l a) none
theorem bestB_succ (l : List (List Int)) (a : Int) (k : Nat) : bestB l a (k + 1) = stepB l a (bestB l a k) k := by unfold bestB; rw [List.range_succ, List.foldl_append]; rfl
theorem stepB_none {l : List (List Int)} {a : Int} {o : Option Nat} {b : Nat} (h : stepB l a o b = none) : o = none ∧ (b : Int) = a := by
  unfold stepB at h
  by_cases hb : (b : Int) = a
  · rw [if_pos hb] at h; exact ⟨h, hb⟩
  · rw [if_neg hb] at h
    cases o with
    | none => cases h
    | some c => dsimp only at h; split at h <;> cases h
theorem bestB_none {l : List (List Int)} {a : Int} : ∀ {k : Nat}, bestB l a k = none → ∀ b, b < k → (b : Int) = a
  | 0, _, b, hb => absurd hb (by omega)
  | k + 1, h, b, hb => by
    rw [bestB_succ] at h
    obtain ⟨h1, h2⟩ := stepB_none h
    rcases Nat.lt_or_ge b k with hl | hl
    · exact bestB_none h1 b hl
    · obtain rfl : b = k := by omega
      exact h2
theorem bestB_lt {l : List (List Int)} {a : Int} : ∀ {k c : Nat}, bestB l a k = some c → c < k ∧ (c : Int) ≠ a
  | 0, c, h => by cases h
  | k + 1, c, h => by
    rw [bestB_succ] at h
    have ih := fun c h => bestB_lt (l := l) (a := a) (k := k) (c := c) h
    unfold stepB at h
    by_cases hb : (k : Int) = a
    · rw [if_pos hb] at h; have := ih c h; exact ⟨by omega, this.2⟩
    · rw [if_neg hb] at h
      cases ho : bestB l a k with
      | none => rw [ho] at h; injection h with h; subst h; exact ⟨by omega, hb⟩
      | some d =>
        rw [ho] at h
        dsimp only at h
        split at h
        · injection h with h; subst h; exact ⟨by omega, hb⟩
        · injection h with h; subst h; have := ih d ho; exact ⟨by omega, this.2⟩
def lstN (m : Nat) (l : List (List Int)) (a : Int) : Option Nat → Nat
  | none => m + 1
  | some c => difN l a c
theorem step_less {m : Nat} {l : List (List Int)} {a : Int} {o : Option Nat} {b : Nat} (hb : ¬ (b : Int) = a) (h : difN l a b < lstN m l a o) : stepB l a o b = some b := by
  unfold stepB
  rw [if_neg hb]
  cases o with
  | none => rfl
  | some c => exact if_pos h
theorem step_more {m : Nat} {l : List (List Int)} {a : Int} {o : Option Nat} {b : Nat} (hb : ¬ (b : Int) = a) (hm : l.length = m) (h : ¬ difN l a b < lstN m l a o) : stepB l a o b = o := by
  unfold stepB
  rw [if_neg hb]
  cases o with
  | none => exact absurd (show difN l a b < m + 1 from by have := bundN_le l (a, (b : Int), 0); unfold difN; omega) h
  | some c => exact if_neg h
theorem step_same {l : List (List Int)} {a : Int} {o : Option Nat} {b : Nat} (hb : (b : Int) = a) : stepB l a o b = o := by unfold stepB; rw [if_pos hb]
def alkE (n : Nat) (l : List (List Int)) (a : Int) : Int := if chkN n l = 0 then (if a < 0 ∨ (n : Int) ≤ a then 3 else if n = 1 then 5 else 0) else chkN n l
def alkV (n : Nat) (l : List (List Int)) (a : Int) : Int := if alkE n l a = 0 then (((bestB l a n).getD 0 : Nat) : Int) else 0
theorem alkV_ne {n : Nat} {l : List (List Int)} {a : Int} {E : Int} (h : alkE n l a = E) (h0 : E ≠ 0) : alkV n l a = 0 := by unfold alkV; rw [h, if_neg h0]
def IntE (w : World) (x E : Int) (e : Ending) (w' : World) : Prop := e = .returned (.tuple #[.int .i64 x, .int .i64 E]) ∧ Below w.heap.size w w'
set_option maxRecDepth 20000 in
set_option maxHeartbeats 4000000 in
theorem alikeP_any (p : Option Addr) (om : Option Pts) (A : Option Addr) (m c : Nat) (l : List (List Int)) (a : Int) (w : World) (h : MapO w p om) (hG : NewO om) (hl : ReadII w w.heap.size A m l) (hA : PlainA A) (hm : m ≤ maxLen) :
    Calls Tryd.prog 28 #[.pointer p, .slice A m c, .int .i64 a] w (IntE w (alkV (lenO om) l a) (alkE (lenO om) l a)) := by
  have hck := check_any p om A m c l w h hl hA hm
  have hlen := fun W (hW : Below w.heap.size w W) => lenP_any p om W (h.below hW)
  have hll := hl.1
  have hfew := hG.few
  have HLEN := Lib.hid hlen; have HL := Lib.hid hl
  clear h hG hlen hl
  unfold IntE
  generalize lenO om = N at *
  have HV : Hid (alkV N l a = if alkE N l a = 0 then (((bestB l a N).getD 0 : Nat) : Int) else 0) := Lib.hid rfl
  have HE : Hid (alkE N l a = if chkN N l = 0 then (if a < 0 ∨ (N : Int) ≤ a then 3 else if N = 1 then 5 else 0) else chkN N l) := Lib.hid rfl
  obtain ⟨vE, hvE⟩ : ∃ vE, alkE N l a = vE := ⟨_, rfl⟩
  obtain ⟨vV, hvV⟩ : ∃ vV, alkV N l a = vV := ⟨_, rfl⟩
  rw [hvE] at HE HV ⊢
  rw [hvV] at HV ⊢
  obtain ⟨E, hE⟩ : ∃ E, chkN N l = E := ⟨_, rfl⟩
  rw [hE] at hck HE
  clear hvE hvV
  by_cases h0 : E = 0
  · rw [h0] at hE hck HE
    obtain ⟨hN0, hm2, hin⟩ := chkN_zero hE
    have h00 : ((0 : Int) != 0) = false := by simp
    have HIN := Lib.hid hin
    clear hE h0 hin
    by_cases ha0 : a < 0
    · have e1 := HE.out
      rw [if_pos rfl, if_pos (.inl ha0)] at e1
      have e2 := HV.out
      rw [e1, if_neg (by decide)] at e2
      subst e1 e2
      have g0 : decide (a < 0) = true := decide_eq_true ha0
      clear HE HV HL HIN
      go_enter Tryd.func28, Tryd.ntmps28
      go_wp2_with fail
      refine hck.mono ?_
      rintro e w1 ⟨rfl, hb1⟩
      go_wp2
      go_ret2
      exact ⟨rfl, hb1⟩
    · have g0 : decide (a < 0) = false := decide_eq_false ha0
      by_cases haN : (N : Int) ≤ a
      · have e1 := HE.out
        rw [if_pos rfl, if_pos (.inr haN)] at e1
        have e2 := HV.out
        rw [e1, if_neg (by decide)] at e2
        subst e1 e2
        have g1 : decide ((N : Int) ≤ a) = true := decide_eq_true haN
        clear HE HV HL HIN
        go_enter Tryd.func28, Tryd.ntmps28
        go_wp2_with fail
        refine hck.mono ?_
        rintro e w1 ⟨rfl, hb1⟩
        have hl1 := HLEN.out w1 hb1
        go_wp2_with fail
        refine hl1.mono ?_
        rintro e w2 ⟨rfl, rfl⟩
        go_wp2
        go_ret2
        exact ⟨rfl, hb1⟩
      · have g1 : decide ((N : Int) ≤ a) = false := decide_eq_false haN
        by_cases h1 : N = 1
        · have e1 := HE.out
          rw [if_pos rfl, if_neg (by omega), if_pos h1] at e1
          have e2 := HV.out
          rw [e1, if_neg (by decide)] at e2
          subst e1 e2
          have h1I : (N : Int) = 1 := by omega
          clear HE HV HL HIN
          subst h1
          go_enter Tryd.func28, Tryd.ntmps28
          go_wp2_with fail
          refine hck.mono ?_
          rintro e w1 ⟨rfl, hb1⟩
          have hl1 := HLEN.out w1 hb1
          go_wp2_with fail
          refine hl1.mono ?_
          rintro e w2 ⟨rfl, rfl⟩
          go_wp2_with fail
          refine hl1.mono ?_
          rintro e w2 ⟨rfl, rfl⟩
          go_wp2
          go_ret2
          exact ⟨rfl, hb1⟩
        · have e1 := HE.out
          rw [if_pos rfl, if_neg (by omega), if_neg h1] at e1
          have e2 := HV.out
          rw [e1, if_pos rfl] at e2
          subst e1 e2
          have h1B : ((N : Int) == 1) = false := beq_false_of_ne (by omega)
          have h1I : ¬ (N : Int) = 1 := by omega
          have ha1 : a < (N : Int) := by omega
          have HR : Hid (∀ b : Nat, b < N → ∀ vs ∈ l, InR vs.length (a, (b : Int), 0)) := Lib.hid (fun b hb vs hv => by rw [HIN.out vs hv]; exact ⟨by show 0 ≤ a; omega, ha1, by show (0 : Int) ≤ (b : Int); omega, by show (b : Int) < (N : Int); omega⟩)
          clear HE HV HIN
          go_enter Tryd.func28, Tryd.ntmps28
          go_wp2_with fail
          refine hck.mono ?_
          rintro e w1 ⟨rfl, hb1⟩
          have hl1 := HLEN.out w1 hb1
          have HB1 := Lib.hid hb1
          clear hb1 hck
          go_wp2_with fail
          refine hl1.mono ?_
          rintro e w2 ⟨rfl, rfl⟩
          go_wp2_with fail
          refine hl1.mono ?_
          rintro e w2 ⟨rfl, rfl⟩
          go_wp2_with fail
          refine hl1.mono ?_
          rintro e w2 ⟨rfl, rfl⟩
          clear hl1 HLEN
          go_wp2
          go_loopw [9, 10, 37] (fun b q i wr => ∃ j : Nat, j ≤ N ∧ i = .int .i64 j ∧ b = .int .i64 (((bestB l a j).getD 0 : Nat) : Int) ∧ q = .int .i64 ((lstN m l a (bestB l a j) : Nat) : Int) ∧ Below w.heap.size w wr) (fun _ _ i _ => N - (intOf i).toNat)
          case atStart => exact ⟨0, by omega, rfl, rfl, by go_num, HB1.out⟩
          case round =>
            obtain ⟨j, hj, rfl, rfl, rfl, hb⟩ := hrel
            have HB := Lib.hid hb
            clear hb
            by_cases hlt : j < N
            · have hltI : (j : Int) < (N : Int) := by omega
              have hdf := differP_any A m c l a (j : Int) wr (HL.out.later HB.out) (HR.out j hlt) (by omega)
              have hst := bestB_succ l a j
              have hs1 := fun hb h => step_less (m := m) (l := l) (a := a) (o := bestB l a j) (b := j) hb h
              have hs2 := fun hb h => step_more (m := m) (l := l) (a := a) (o := bestB l a j) (b := j) hb hll h
              have hs3 := fun hb => step_same (l := l) (a := a) (o := bestB l a j) (b := j) hb
              generalize bestB l a j = o at *
              obtain ⟨d, hd⟩ : ∃ d, difN l a (j : Int) = d := ⟨_, rfl⟩
              obtain ⟨q, hq⟩ : ∃ q, lstN m l a o = q := ⟨_, rfl⟩
              rw [hd] at hdf hs1 hs2
              rw [hq] at hs1 hs2 ⊢
              have HST := Lib.hid hst; have HD := Lib.hid hd; have HQ := Lib.hid hq
              clear hst hd hq
              by_cases hja : (j : Int) = a
              · have HS := Lib.hid (hs3 hja)
                have g3 : ((j : Int) != a) = false := by rw [hja]; simp
                clear hs1 hs2 hs3 hja
                go_wp2_with fail
                refine hdf.mono ?_
                rintro e w3 ⟨rfl, hb3⟩
                go_wp2
                go_roundw
                case rel => exact ⟨j + 1, by omega, by go_num, by rw [HST.out, HS.out], by rw [HST.out, HS.out, HQ.out], HB.out.trans (hb3.mono HB.out.size)⟩
                case measure => simp [intOf]; omega
              · have g3 : ((j : Int) != a) = true := by simp [hja]
                by_cases hdq : d < q
                · have HS := Lib.hid (hs1 hja hdq)
                  have hdI : (d : Int) < (q : Int) := by omega
                  clear hs1 hs2 hs3 hja
                  go_wp2_with fail
                  refine hdf.mono ?_
                  rintro e w3 ⟨rfl, hb3⟩
                  go_wp2
                  go_roundw
                  case rel => exact ⟨j + 1, by omega, by go_num, by rw [HST.out, HS.out]; rfl, by rw [HST.out, HS.out]; show Value.int .i64 _ = Value.int .i64 ((difN l a (j : Int) : Nat) : Int); rw [HD.out], HB.out.trans (hb3.mono HB.out.size)⟩
                  case measure => simp [intOf]; omega
                · have HS := Lib.hid (hs2 hja hdq)
                  have hdI : ¬ (d : Int) < (q : Int) := by omega
                  clear hs1 hs2 hs3 hja
                  go_wp2_with fail
                  refine hdf.mono ?_
                  rintro e w3 ⟨rfl, hb3⟩
                  go_wp2
                  go_roundw
                  case rel => exact ⟨j + 1, by omega, by go_num, by rw [HST.out, HS.out], by rw [HST.out, HS.out, HQ.out], HB.out.trans (hb3.mono HB.out.size)⟩
                  case measure => simp [intOf]; omega
            · obtain rfl : N = j := by omega
              go_wp2
              go_ret2
              exact ⟨rfl, HB.out⟩
  · have e1 := HE.out
    rw [if_neg h0] at e1
    have e2 := HV.out
    rw [e1, if_neg h0] at e2
    subst e2
    have e3 : vE = E := e1
    subst e3
    have h0B : (vE != 0) = true := by simp [h0]
    clear HE HV HL hE
    go_enter Tryd.func28, Tryd.ntmps28
    go_wp2_with fail
    refine hck.mono ?_
    rintro e w1 ⟨rfl, hb1⟩
    go_wp2
    go_ret2
    exact ⟨rfl, hb1⟩
end Go.Proofs.YtgimhjkijpcgjaaDoor
