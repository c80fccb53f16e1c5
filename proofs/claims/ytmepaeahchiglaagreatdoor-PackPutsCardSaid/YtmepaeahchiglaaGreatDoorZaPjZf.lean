/-
  layer 25: the reference's Check of histories. Conditions: what can be read.
-/
import Derived.Test.YtmepaeahchiglaaGreatDoorZaPjZe
namespace Go.Proofs.YtmepaeahchiglaaGreatDoor
open Go.RowKit Go.Lib

def nmsOk (laws : List Lw) (k : Nat) : Prop := ((laws.take k).map fun l => bs l.name).Nodup
def freshL (laws : List Lw) (m : Nat) (s : ByteArray) : Bool := (laws.take m).all fun x => !decide (bs s = bs x.name)
theorem freshL_next {t : List Lw} {m : Nat} {s : ByteArray} (hm : m < t.length) (h : freshL t m s = true) : freshL t (m + 1) s = !decide (bs s = bs t[m].name) := by
  unfold freshL at *
  rw [List.take_succ_eq_append_getElem hm, List.all_append, h]; simp
theorem nmsOk_next {laws : List Lw} {k : Nat} (hk : k < laws.length) (h : nmsOk laws k) (hf : freshL laws k laws[k].name = true) : nmsOk laws (k + 1) := by
  unfold nmsOk at *
  rw [List.take_succ_eq_append_getElem hk, List.map_append, List.nodup_append]
  refine ⟨h, by simp, fun a ha b hb => ?_⟩
  obtain ⟨x, hx, rfl⟩ := List.mem_map.1 ha
  simp only [List.map_cons, List.map_nil, List.mem_singleton] at hb
  subst hb
  have := List.all_eq_true.1 hf x hx
  intro e
  rw [decide_eq_true e.symm] at this
  cases this
theorem nmsOk_no {laws : List Lw} {i k : Nat} (hk : k < laws.length) (hi : i < k) (h : bs laws[k].name = bs (laws[i]'(Nat.lt_trans hi hk)).name) : ¬ (laws.map fun l => bs l.name).Nodup := by
  intro hn
  have := List.pairwise_iff_getElem.1 hn i k (by rw [List.length_map]; exact Nat.lt_trans hi hk) (by rw [List.length_map]; exact hk) hi
  rw [List.getElem_map, List.getElem_map] at this
  exact this h.symm
theorem bel_draws {B : Nat} {a w : World} (h : Below B a w) (n : Nat) : Below B a (w.drewN n) := ⟨h.os, h.tape, h.output, h.size, h.block⟩
theorem rng_bad {m : Nat} {l : List Int} {k : Nat} (hk : k < l.length) (h : decide (0 ≤ l[k] ∧ l[k] < (m : Int)) = false) : rngOk m l = false := by
  unfold rngOk
  rw [List.all_eq_false]
  exact ⟨_, List.getElem_mem hk, by rw [h]; decide⟩
theorem in_bad {m : Nat} {on : List (List Int)} {k : Nat} (hk : k < on.length) (h : rngOk m on[k] = false) : inRange m on = false := by
  unfold inRange
  rw [List.all_eq_false]
  exact ⟨_, List.getElem_mem hk, by rw [show (on[k].all fun x => decide (0 ≤ x ∧ x < (m : Int))) = false from h]; decide⟩
/-- The error, step by step. -/
theorem histE_laws {t : List Nd} {laws : List Lw} {on : List (List Int)} (ht : treeE t = 0) (h64 : ¬ 64 < laws.length) (h : laws.all lawOk = false) : histE t laws on = 17 := by
  unfold histE
  rw [if_pos ht, if_neg h64, if_neg (by rw [h]; decide)]
theorem histE_names {t : List Nd} {laws : List Lw} {on : List (List Int)} (ht : treeE t = 0) (h64 : ¬ 64 < laws.length) (h : laws.all lawOk = true) (hn : ¬ (laws.map fun l => bs l.name).Nodup) : histE t laws on = 6 := by
  unfold histE
  rw [if_pos ht, if_neg h64, if_pos h, if_neg hn]
theorem histE_rest {t : List Nd} {laws : List Lw} {on : List (List Int)} (ht : treeE t = 0) (h64 : ¬ 64 < laws.length) (h : laws.all lawOk = true) (hn : (laws.map fun l => bs l.name).Nodup) : histE t laws on = if on.length = t.length then (if lensOk t on on.length then (if inRange laws.length on then 0 else 3) else 2) else 2 := by
  unfold histE
  rw [if_pos ht, if_neg h64, if_pos h, if_pos hn]
set_option linter.unusedSimpArgs false in
set_option maxRecDepth 20000 in
set_option maxHeartbeats 8000000 in
theorem rhist_any (v4 v5 v6 : Value) (B : Nat) (t : List Nd) (laws : List Lw) (on : List (List Int)) (w : World) (h4 : SlC NdC 2 w B t v4) (h5 : SlC LawC 18 w B laws v5) (h6 : SlC OnC 1 w B on v6) (hB : B ≤ w.heap.size) (hs : ∀ x ∈ t, x.2.size ≤ maxLen) (hln : ∀ l ∈ laws, l.name.size ≤ maxLen) (hon : ∀ l ∈ on, l.length ≤ 1000000000) :
    Calls Tryz.prog 154 #[.agg #[v4, v5, v6]] w fun e w' => e = .returned (.int .i64 (histE t laws on)) ∧ Below w.heap.size w w' := by
  obtain ⟨A4, m4, c4, rfl, e4⟩ := h4.form
  obtain ⟨A5, m5, c5, rfl, e5⟩ := h5.form
  obtain ⟨A6, m6, c6, rfl, e6⟩ := h6.form
  have hm4 := h4.len.2
  have hm5 := h5.len.2
  have hm6 := h6.len.2
  unfold maxLen at hm4 hm5 hm6
  obtain ⟨r, hre⟩ : ∃ r, histE t laws on = r := ⟨_, rfl⟩
  rw [hre]
  have hb0 := (Below.refl w.heap.size w).alloc (Nat.le_refl _) (.cells #[.slice A4 m4 c4, .slice A5 m5 c5, .slice A6 m6 c6] 29)
  have hk0 := Blk.new w 29 #[.slice A4 m4 c4, .slice A5 m5 c5, .slice A6 m6 c6]
  have hkp := fun (W : World) (hW : Below w.heap.size w W) => fun (p : Addr) (hp : p.block < B) => hW.cell (p := p) (Nat.lt_of_lt_of_le hp hB)
  obtain ⟨W0, hW0⟩ : ∃ W, w.alloc (.cells #[.slice A4 m4 c4, .slice A5 m5 c5, .slice A6 m6 c6] 29) = W := ⟨_, rfl⟩
  rw [hW0] at hb0 hk0
  have htc := rtree_any (.slice A4 m4 c4) B t W0 (SlC.plain (hkp W0 hb0) h4 (fun _ _ h => h)) (by have := hb0.size; omega) hs
  have hline := fun (ht : treeE t = 0) (hlen : on.length = t.length) (W : World) (hW : Below w.heap.size w W) (v : Nat) (hv : v < t.length) => line_any A4 A5 A6 m4 m5 m6 c4 c5 c6 B t on (treeE_nodes ht).2.2 (treeE_nodes ht).1 hlen hon v W (SlC.plain (hkp W hW) h4 (fun _ _ h => h)) (SlC.plain (hkp W hW) h6 (fun _ _ h => OnC.keep (hkp W hW) h)) (by have := hW.size; omega) hv
  have HRE := Lib.hid hre; have H5 := Lib.hid h5; have H6 := Lib.hid h6; have HLN := Lib.hid hln; have HON := Lib.hid hon; have HKP := Lib.hid hkp; have E4 := Lib.hid e4; have E5 := Lib.hid e5; have E6 := Lib.hid e6; have HTC := Lib.hid htc; have HB0 := Lib.hid hb0; have HK0 := Lib.hid hk0; have HW := Lib.hid hW0; have HLINE := Lib.hid hline
  have g0 := hk0.cell 0
  simp only [List.getElem?_toArray, List.getElem?_cons_zero] at g0
  clear hre h4 h5 h6 hs hln hon hkp e4 e5 e6 htc hb0 hk0 hW0 hline
  go_enter Tryz.func154, Tryz.ntmps154
  go_wp2_with (rw [HW.out])
  refine HTC.out.mono ?_
  rintro e w1 ⟨rfl, hb1⟩
  have hsz0 := HK0.out.lt
  have HB1 := Lib.hid (HB0.out.trans (hb1.mono HB0.out.size)); have HK1 := Lib.hid (HK0.out.below hb1 hsz0)
  have hs1 := hb1.size
  clear hb1 g0 HTC HW
  have g0 := HK1.out.cell 0
  have g1 := HK1.out.cell 1
  have g2 := HK1.out.cell 2
  simp only [List.getElem?_toArray, List.getElem?_cons_zero, List.getElem?_cons_succ] at g0 g1 g2
  by_cases ht : treeE t = 0
  case neg =>
    have htI : (treeE t != (0 : Int)) = true := by rw [bne_iff_ne]; exact ht
    obtain rfl : r = 16 := by
      rw [← HRE.out]
      unfold histE
      rw [if_neg ht]
    clear ht
    go_wp2
    go_ret
    exact ⟨rfl, HB1.out⟩
  have htI : (treeE t != (0 : Int)) = false := by rw [ht]; rfl
  have HT := Lib.hid ht
  clear ht
  by_cases h64 : 64 < m5
  · have h64I : (64 : Int) < (m5 : Int) := by omega
    obtain rfl : r = 12 := by
      rw [← HRE.out]
      unfold histE
      rw [if_pos HT.out, if_pos (by rw [← E5.out]; exact h64)]
    clear h64
    go_wp2
    go_ret
    exact ⟨rfl, HB1.out⟩
  have h64I : ¬ (64 : Int) < (m5 : Int) := by omega
  have H64 : Hid (¬ 64 < laws.length) := Lib.hid (by rw [← E5.out]; exact h64)
  clear h64
  go_wp2
  go_loopw [3] (fun i wr => ∃ k : Nat, k ≤ m5 ∧ i = .int .i64 k ∧ (laws.take k).all lawOk = true ∧ Blk wr w.heap.size 29 #[.slice A4 m4 c4, .slice A5 m5 c5, .slice A6 m6 c6] ∧ Below w.heap.size w wr) (fun i _ => m5 - (RowKit.intOf i).toNat)
  case atStart => exact ⟨0, by omega, rfl, by simp, HK1.out, HB1.out⟩
  case round =>
    obtain ⟨k, hk, rfl, hall, hbk, hbw⟩ := hrel
    have HALL := Lib.hid hall; have HBK := Lib.hid hbk; have HBW := Lib.hid hbw
    obtain ⟨V, hV⟩ : ∃ W, W = wr := ⟨_, rfl⟩
    subst hV
    clear hall hbk hbw g0 g1 g2
    have g0 := HBK.out.cell 0
    have g1 := HBK.out.cell 1
    have g2 := HBK.out.cell 2
    simp only [List.getElem?_toArray, List.getElem?_cons_zero, List.getElem?_cons_succ] at g0 g1 g2
    by_cases hlt : k < m5
    · have hkl : k < laws.length := by have := E5.out; omega
      have hkI : (k : Int) < (m5 : Int) := by omega
      have hk0 : (0 : Int) ≤ (k : Int) := by omega
      obtain ⟨ad, cs, hA, had, hP, hcc⟩ := slC_cells (w := V) (by intro x cs h; exact law_len h) (SlC.plain (HKP.out V HBW.out) H5.out (fun _ _ h => h.keep (HKP.out V HBW.out))) hkl
      subst hA
      have hall1 := all_next hkl HALL.out
      have hnmk := HLN.out _ (List.getElem_mem hkl)
      have h18 := law_len hP
      have hcell : ∀ j u, cs[j]? = some u → V.cell? ((ad.add (k * 18)).add j) = some u := fun j u hu => by rw [add_add]; exact hcc j u hu
      have hck := refLawCheck_any V B laws[k] cs hP (by have := HBW.out.size; omega) hnmk
      generalize laws[k] = x at *
      obtain ⟨q, hq⟩ : ∃ q, lawE x = q := ⟨_, rfl⟩
      have hq0 : lawOk x = true ↔ q = 0 := by
        rw [← hq]
        unfold lawE
        split <;> simp_all
      rw [hq] at hck
      have HA1 := Lib.hid hall1; have H18 := Lib.hid h18; have HCELL := Lib.hid hcell; have HCK := Lib.hid hck; have HQ0 := Lib.hid hq0
      clear hall1 h18 hcell hck hcc hnmk hP hq hq0
      go_wp2_with (refine law_load_at rfl _ rfl _ rfl cs H18.out HCELL.out ?_; simp only [Act.put, List.setIfInBounds_toArray, List.set_cons_zero, List.set_cons_succ])
      refine HCK.out.mono ?_
      rintro e w2 ⟨rfl, hb2⟩
      have HB2 := Lib.hid (HBW.out.trans (hb2.mono HBW.out.size)); have HK2 := Lib.hid (HBK.out.below hb2 HBK.out.lt)
      clear hb2 g0 g1 g2
      by_cases hz : q = 0
      · have hzI : (q != (0 : Int)) = false := by rw [hz]; rfl
        have hn := HA1.out.1
        rw [HQ0.out.2 hz] at hn
        have HN := Lib.hid hn
        clear hz hn
        go_wp2
        go_roundw
        case rel => exact ⟨k + 1, by omega, by go_num, HN.out, HK2.out, HB2.out⟩
        case measure => simp [RowKit.intOf]; omega
      · have hzI : (q != (0 : Int)) = true := by rw [bne_iff_ne]; exact hz
        obtain rfl : r = 17 := HRE.out.symm.trans (histE_laws HT.out H64.out (HA1.out.2 (by
          cases h : lawOk x with
          | false => rfl
          | true => exact absurd (HQ0.out.1 h) hz)))
        clear hz
        go_wp2
        go_ret
        exact ⟨rfl, HB2.out⟩
    · obtain rfl : m5 = k := by omega
      have hall := HALL.out
      rw [List.take_of_length_le (by have := E5.out; omega)] at hall
      have HALL2 := Lib.hid hall
      clear hall HALL hlt
      go_wp2
      go_loopw [4] (fun i wr => ∃ k : Nat, k ≤ m5 ∧ i = .int .i64 k ∧ nmsOk laws k ∧ Blk wr w.heap.size 29 #[.slice A4 m4 c4, .slice A5 m5 c5, .slice A6 m6 c6] ∧ Below w.heap.size w wr) (fun i _ => m5 - (RowKit.intOf i).toNat)
      case atStart => exact ⟨0, by omega, rfl, by unfold nmsOk; simp, HBK.out, HBW.out⟩
      case round =>
        obtain ⟨k4, hk4, rfl, hinv, hbk, hbw⟩ := hrel
        have HNM4 := Lib.hid hinv; have HBK4 := Lib.hid hbk; have HBW4 := Lib.hid hbw
        obtain ⟨V4, hV⟩ : ∃ W, W = wr := ⟨_, rfl⟩
        subst hV
        clear hinv hbk hbw g0 g1 g2
        have g0 := HBK4.out.cell 0
        have g1 := HBK4.out.cell 1
        have g2 := HBK4.out.cell 2
        simp only [List.getElem?_toArray, List.getElem?_cons_zero, List.getElem?_cons_succ] at g0 g1 g2
        by_cases hlt4 : k4 < m5
        · have hkI4 : (k4 : Int) < (m5 : Int) := by omega
          have hk04 : (0 : Int) ≤ (k4 : Int) := by omega
          have hkl4 : k4 < laws.length := by have := E5.out; omega
          obtain ⟨ad4, cs4, hA, had4, hP4, hcc4⟩ := slC_cells (by intro x cs h; exact law_len h) H5.out hkl4
          subst hA
          have hadb4 : ∀ m, (ad4.add m).block < B := fun m => by rw [add_block_]; exact had4
          have e4' := hcc4 0 _ (law_name hP4)
          rw [Nat.add_zero] at e4'
          have f4 := (HKP.out V4 HBW4.out _ (hadb4 _)).trans e4'
          obtain ⟨nm, hnm⟩ : ∃ s, laws[k4].name = s := ⟨_, rfl⟩
          rw [hnm] at e4' f4
          have HX4 := Lib.hid hnm; have HE4 := Lib.hid e4'
          clear hnm e4' hcc4 hP4
          go_wp2
          go_loopw [5] (fun i wr => ∃ k : Nat, k ≤ k4 ∧ i = .int .i64 k ∧ freshL laws k nm = true ∧ Blk wr w.heap.size 29 #[.slice A4 m4 c4, .slice (some ad4) m5 c5, .slice A6 m6 c6] ∧ Below w.heap.size w wr) (fun i _ => k4 - (RowKit.intOf i).toNat)
          case atStart => exact ⟨0, by omega, rfl, rfl, HBK4.out, HBW4.out⟩
          case round =>
            obtain ⟨k5, hk5, rfl, hinv, hbk, hbw⟩ := hrel
            have HFR5 := Lib.hid hinv; have HBK5 := Lib.hid hbk; have HBW5 := Lib.hid hbw
            obtain ⟨V5, hV⟩ : ∃ W, W = wr := ⟨_, rfl⟩
            subst hV
            clear hinv hbk hbw g0 g1 g2 f4
            have g0 := HBK5.out.cell 0
            have g1 := HBK5.out.cell 1
            have g2 := HBK5.out.cell 2
            simp only [List.getElem?_toArray, List.getElem?_cons_zero, List.getElem?_cons_succ] at g0 g1 g2
            by_cases hlt5 : k5 < k4
            · have hkI5 : (k5 : Int) < (k4 : Int) := by omega
              have hk05 : (0 : Int) ≤ (k5 : Int) := by omega
              first
            | (exfalso; omega)
            | (have hkm : k5 < laws.length := by omega
               have hmn : (k5 : Int) < (m5 : Int) := by omega
               obtain ⟨ad5, cs5, hA, had5, hP5, hcc5⟩ := slC_cells (by intro x cs h; exact law_len h) H5.out hkm
               obtain rfl := Option.some.inj hA
               have d0 := hcc5 0 _ (law_name hP5)
               rw [Nat.add_zero] at d0
               have f4 := (HKP.out V5 HBW5.out _ (hadb4 _)).trans HE4.out
               have f5 := (HKP.out V5 HBW5.out _ (hadb4 _)).trans d0
               have hnx := freshL_next hkm HFR5.out
               have hdp := fun (h : bs laws[k4].name = bs laws[k5].name) => nmsOk_no hkl4 (by omega) h
               rw [HX4.out] at hdp
               generalize laws[k5].name = ny at *
               have hbeq : (nm.toList == ny.toList) = decide (bs nm = bs ny) := beq_bs nm ny
               by_cases hsm : bs nm = bs ny
               · obtain rfl : r = 6 := HRE.out.symm.trans (histE_names HT.out H64.out HALL2.out (hdp hsm))
                 rw [decide_eq_true hsm] at hbeq
                 clear hnx hdp hsm hcc5 d0 hP5
                 go_wp2
                 go_region
                 go_wp2
                 go_ret
                 exact ⟨rfl, HBW5.out.drew⟩
               · rw [decide_eq_false hsm] at hbeq hnx
                 have HNX := Lib.hid hnx
                 clear hnx hdp hsm hcc5 d0 hP5
                 go_wp2
                 go_region
                 go_wp2
                 go_roundw
                 case rel => exact ⟨k5 + 1, by omega, by go_num, HNX.out, HBK5.out.drew, HBW5.out.drew⟩
                 case measure => simp [RowKit.intOf]; omega)
            · obtain rfl : k4 = k5 := by omega
              have HNM2 := Lib.hid (nmsOk_next hkl4 HNM4.out (by rw [HX4.out]; exact HFR5.out))
              go_wp2
              go_roundw
              case rel => exact ⟨k4 + 1, by omega, by go_num, HNM2.out, HBK5.out, HBW5.out⟩
              case measure => simp [RowKit.intOf]; omega
        · obtain rfl : m5 = k4 := by omega
          have hnd : (laws.map fun l => bs l.name).Nodup := by
            have h := HNM4.out
            unfold nmsOk at h
            rwa [List.take_of_length_le (by rw [E5.out]; exact Nat.le_refl _)] at h
          have hrest := HRE.out.symm.trans (histE_rest HT.out H64.out HALL2.out hnd)
          have HBK5 := HBK4; have HBW5 := HBW4
          by_cases hlen : m6 = m4
          case neg =>
            have hlI : ((m6 : Int) != (m4 : Int)) = true := by rw [bne_iff_ne]; omega
            obtain rfl : r = 2 := by rw [hrest, if_neg (fun h => hlen (by rw [E4.out, E6.out]; exact h))]
            clear hrest hlen hnd
            go_wp2
            go_ret
            exact ⟨rfl, HBW4.out⟩
          have hlI : ((m6 : Int) != (m4 : Int)) = false := by rw [hlen]; simp
          have HLEN : Hid (on.length = t.length) := Lib.hid (by rw [← E4.out, ← E6.out]; exact hlen)
          rw [if_pos HLEN.out] at hrest
          have HREST : Hid ((if lensOk t on on.length = true then if inRange laws.length on = true then (0 : Int) else 3 else 2) = r) := Lib.hid hrest.symm
          have HRES2 : Hid (lensOk t on on.length = false → r = 2) := Lib.hid (fun h => by rw [hrest, if_neg (by rw [h]; decide)])
          clear hrest hnd hlen
          go_wp2
          go_loopw [6] (fun i wr => ∃ k : Nat, k ≤ m6 ∧ i = .int .i64 k ∧ lensOk t on k = true ∧ Blk wr w.heap.size 29 #[.slice A4 m4 c4, .slice A5 m5 c5, .slice A6 m6 c6] ∧ Below w.heap.size w wr) (fun i _ => m6 - (RowKit.intOf i).toNat)
          case atStart => exact ⟨0, by omega, rfl, rfl, HBK5.out, HBW5.out⟩
          case round =>
            obtain ⟨k6, hk6, rfl, hinv, hbk, hbw⟩ := hrel
            have HLO6 := Lib.hid hinv; have HBK6 := Lib.hid hbk; have HBW6 := Lib.hid hbw
            obtain ⟨V6, hV⟩ : ∃ W, W = wr := ⟨_, rfl⟩
            subst hV
            clear hinv hbk hbw g0 g1 g2
            have g0 := HBK6.out.cell 0
            have g1 := HBK6.out.cell 1
            have g2 := HBK6.out.cell 2
            simp only [List.getElem?_toArray, List.getElem?_cons_zero, List.getElem?_cons_succ] at g0 g1 g2
            by_cases hlt6 : k6 < m6
            · have hkI6 : (k6 : Int) < (m6 : Int) := by omega
              have hk06 : (0 : Int) ≤ (k6 : Int) := by omega
              have hkt : k6 < t.length := by have := HLEN.out; have := E6.out; omega
              have hc := HLINE.out HT.out HLEN.out V6 HBW6.out k6 hkt
              unfold LineP at hc
              obtain ⟨ln, hl⟩ : ∃ m, lenK t on k6 = m := ⟨_, rfl⟩
              rw [hl] at hc
              have hno := lensOk_no (t := t) (on := on) (k := k6) (n := on.length) (by have := E6.out; omega)
              have hnx := lensOk_next (k := k6) HLO6.out
              rw [hl] at hno hnx
              have HC := Lib.hid hc; have HNO := Lib.hid hno; have HNX := Lib.hid hnx
              clear hc hno hnx hl
              go_wp2_with fail
              refine HC.out.mono ?_
              rintro e w2 ⟨v2, xs2, rfl, ho2, hb2⟩
              obtain ⟨Al, cl, rfl, _, _⟩ := ownsRow_form ho2
              have HB2 := Lib.hid (HBW6.out.trans (hb2.mono HBW6.out.size)); have HK2 := Lib.hid (HBK6.out.below hb2 HBK6.out.lt)
              clear ho2 hb2
              by_cases h64l : 64 < ln
              · have h64lI : (64 : Int) < (ln : Int) := by omega
                obtain rfl : r = 2 := HRES2.out (HNO.out h64l)
                clear h64l
                go_wp2
                go_ret
                exact ⟨rfl, HB2.out⟩
              · have h64lI : ¬ (64 : Int) < (ln : Int) := by omega
                have HNX2 := Lib.hid (HNX.out (by omega))
                clear h64l
                go_wp2
                go_roundw
                case rel => exact ⟨k6 + 1, by omega, by go_num, HNX2.out, HK2.out, HB2.out⟩
                case measure => simp [RowKit.intOf]; omega

            · obtain rfl : m6 = k6 := by omega
              have hlo := HLO6.out
              have hres := HREST.out
              rw [if_pos (by rw [← E6.out]; exact hlo)] at hres
              have HRES0 : Hid (inRange m5 on = true → r = 0) := Lib.hid (fun h => by rw [if_pos (by rw [← E5.out]; exact h)] at hres; exact hres.symm)
              have HRES : Hid (inRange m5 on = false → r = 3) := Lib.hid (fun h => by rw [if_neg (by rw [← E5.out, h]; decide)] at hres; exact hres.symm)
              clear hlo hres
              go_wp2
              go_loopw [7] (fun i wr => ∃ k : Nat, k ≤ m6 ∧ i = .int .i64 k ∧ inRange m5 (on.take k) = true ∧ Blk wr w.heap.size 29 #[.slice A4 m4 c4, .slice A5 m5 c5, .slice A6 m6 c6] ∧ Below w.heap.size w wr) (fun i _ => m6 - (RowKit.intOf i).toNat)
              case atStart => exact ⟨0, by omega, rfl, rfl, HBK6.out, HBW6.out⟩
              case round =>
                obtain ⟨k7, hk7, rfl, hinv, hbk, hbw⟩ := hrel
                have HIN7 := Lib.hid hinv; have HBK7 := Lib.hid hbk; have HBW7 := Lib.hid hbw
                obtain ⟨V7, hV⟩ : ∃ W, W = wr := ⟨_, rfl⟩
                subst hV
                clear hinv hbk hbw g0 g1 g2
                have g0 := HBK7.out.cell 0
                have g1 := HBK7.out.cell 1
                have g2 := HBK7.out.cell 2
                simp only [List.getElem?_toArray, List.getElem?_cons_zero, List.getElem?_cons_succ] at g0 g1 g2
                by_cases hlt7 : k7 < m6
                · have hkI7 : (k7 : Int) < (m6 : Int) := by omega
                  have hk07 : (0 : Int) ≤ (k7 : Int) := by omega
                  have hko : k7 < on.length := by have := E6.out; omega
                  obtain ⟨ad7, cs7, hA, had7, hP7, hcc7⟩ := slC_cells on_len H6.out hko
                  subst hA
                  have hadb7 : ∀ m, (ad7.add m).block < B := fun m => by rw [add_block_]; exact had7
                  have hinx := inRange_next (m := m5) hko
                  rw [HIN7.out, Bool.true_and] at hinx
                  have hbadr : rngOk m5 on[k7] = false → inRange m5 on = false := fun h => in_bad hko h
                  have honx := HON.out _ (List.getElem_mem hko)
                  generalize on[k7] = x at *
                  obtain ⟨vx, rfl, hvx⟩ := hP7
                  obtain ⟨Ax, nx, cx, rfl, ex⟩ := hvx.form
                  have e6 := hcc7 0 _ rfl
                  rw [Nat.mul_one, Nat.add_zero] at e6
                  have f6 := (HKP.out V7 HBW7.out _ (hadb7 _)).trans e6
                  have hnx : nx ≤ 1000000000 := by omega
                  have HE6 := Lib.hid e6; have HINX := Lib.hid hinx; have HBADR := Lib.hid hbadr; have HVX := Lib.hid hvx; have HEX := Lib.hid ex
                  clear e6 hinx hbadr hvx ex hcc7 honx
                  go_wp2
                  go_loopw [8] (fun i wr => ∃ k : Nat, k ≤ nx ∧ i = .int .i64 k ∧ rngOk m5 (x.take k) = true ∧ Blk wr w.heap.size 29 #[.slice A4 m4 c4, .slice A5 m5 c5, .slice (some ad7) m6 c6] ∧ Below w.heap.size w wr) (fun i _ => nx - (RowKit.intOf i).toNat)
                  case atStart => exact ⟨0, by omega, rfl, rfl, HBK7.out, HBW7.out⟩
                  case round =>
                    obtain ⟨k8, hk8, rfl, hinv, hbk, hbw⟩ := hrel
                    have HRG8 := Lib.hid hinv; have HBK8 := Lib.hid hbk; have HBW8 := Lib.hid hbw
                    obtain ⟨V8, hV⟩ : ∃ W, W = wr := ⟨_, rfl⟩
                    subst hV
                    clear hinv hbk hbw g0 g1 g2 f6
                    have g0 := HBK8.out.cell 0
                    have g1 := HBK8.out.cell 1
                    have g2 := HBK8.out.cell 2
                    simp only [List.getElem?_toArray, List.getElem?_cons_zero, List.getElem?_cons_succ] at g0 g1 g2
                    have f6 := (HKP.out V8 HBW8.out _ (hadb7 _)).trans HE6.out
                    by_cases hlt8 : k8 < nx
                    · have hkI8 : (k8 : Int) < (nx : Int) := by omega
                      have hk08 : (0 : Int) ≤ (k8 : Int) := by omega
                      have hkx : k8 < x.length := by have := HEX.out; omega
                      obtain ⟨ad8, cs8, hA, had8, hP8, hcc8⟩ := slC_cells (plain_len (f := fun k : Int => [Value.int .i64 k]) (m := 1) fun _ => rfl) HVX.out hkx
                      subst hA
                      have hrn := rngOk_next (m := m5) hkx
                      rw [HRG8.out, Bool.true_and] at hrn
                      have hbadx : decide (0 ≤ x[k8] ∧ x[k8] < (m5 : Int)) = false → rngOk m5 x = false := fun h => rng_bad hkx h
                      generalize x[k8] = xi at *
                      obtain rfl : cs8 = [.int .i64 xi] := hP8
                      have e8 := hcc8 0 _ rfl
                      rw [Nat.mul_one, Nat.add_zero] at e8
                      have f8 := (HKP.out V8 HBW8.out _ (by rw [add_block_]; exact had8)).trans e8
                      have HRN := Lib.hid hrn; have HBADX := Lib.hid hbadx
                      clear hrn hbadx hcc8 e8
                      by_cases hneg : xi < 0
                      · obtain rfl : r = 3 := HRES.out (HBADR.out (HBADX.out (by rw [decide_eq_false]; omega)))
                        have hnI : xi < 0 := hneg
                        go_wp2
                        go_quiet (fail)
                        go_wp2
                        go_ret
                        exact ⟨rfl, bel_draws HBW8.out _⟩
                      · have hnI : ¬ xi < 0 := hneg
                        by_cases hge : (m5 : Int) ≤ xi
                        · obtain rfl : r = 3 := HRES.out (HBADR.out (HBADX.out (by rw [decide_eq_false]; omega)))
                          go_wp2
                          go_quiet (fail)
                          go_wp2
                          go_ret
                          exact ⟨rfl, bel_draws HBW8.out _⟩
                        · have hgI : ¬ (m5 : Int) ≤ xi := hge
                          have hrn := HRN.out
                          rw [decide_eq_true (by omega)] at hrn
                          have HRN2 := Lib.hid hrn
                          clear hrn
                          go_wp2
                          go_quiet (fail)
                          go_wp2
                          go_roundw
                          case rel => exact ⟨k8 + 1, by omega, by go_num, HRN2.out, HBK8.out, bel_draws HBW8.out _⟩
                          case measure => simp [RowKit.intOf]; omega

                    · obtain rfl : nx = k8 := by omega
                      have hrg := HRG8.out
                      rw [List.take_of_length_le (by rw [← HEX.out]; exact Nat.le_refl _)] at hrg
                      have hin := HINX.out
                      rw [hrg] at hin
                      have HIN2 := Lib.hid hin
                      clear hrg hin
                      go_wp2
                      go_roundw
                      case rel => exact ⟨k7 + 1, by omega, by go_num, HIN2.out, HBK8.out, HBW8.out⟩
                      case measure => simp [RowKit.intOf]; omega
                · obtain rfl : m6 = k7 := by omega
                  have hin := HIN7.out
                  rw [List.take_of_length_le (by rw [E6.out]; exact Nat.le_refl _)] at hin
                  obtain rfl : r = 0 := HRES0.out hin
                  clear hin
                  go_wp2
                  go_ret
                  exact ⟨rfl, HBW7.out⟩
end Go.Proofs.YtmepaeahchiglaaGreatDoor
