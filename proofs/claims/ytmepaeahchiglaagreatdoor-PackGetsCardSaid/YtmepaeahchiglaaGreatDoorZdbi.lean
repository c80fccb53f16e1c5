/-
 layer 25: the reference's Check of histories. Conditions: what can be read.
-/
import Derived.Test.YtmepaeahchiglaaGreatDoorZdbh
set_option maxRecDepth 20000
set_option maxHeartbeats 8000000
set_option linter.unusedSimpArgs false
namespace Go.Proofs.YtmepaeahchiglaaGreatDoor
open Go.RowKit Go.Lib
def yo (au : List Lw) (k : Nat) : Prop := ((au.take k).map fun l => bs l.name).Nodup
def vS (au : List Lw) (m : Nat) (s : ByteArray) : Bool := (au.take m).all fun x => !decide (bs s = bs x.name)
theorem BX {t : List Lw} {m : Nat} {s : ByteArray} (hm : m < t.length) (h : vS t m s = true) : vS t (m + 1) s = !decide (bs s = bs t[m].name) := by
 unfold vS at *
 rw [List.take_succ_eq_append_getElem hm, List.all_append, h]; simp
theorem DI {au : List Lw} {k : Nat} (hk : k < au.length) (h : yo au k) (hf : vS au k au[k].name = true) : yo au (k + 1) := by
 unfold yo at *
 rw [List.take_succ_eq_append_getElem hk, List.map_append, List.nodup_append]
 refine ⟨h, by simp, fun a ha b hb => ?_⟩
 obtain ⟨x, hx, rfl⟩ := List.mem_map.1 ha
 simp only [List.map_cons, List.map_nil, List.mem_singleton] at hb
 subst hb
 have := List.all_eq_true.1 hf x hx
 intro e
 rw [decide_eq_true e.symm] at this
 cases this
theorem Ji {au : List Lw} {i k : Nat} (hk : k < au.length) (hi : i < k) (h : bs au[k].name = bs (au[i]'(Nat.lt_trans hi hk)).name) : ¬ (au.map fun l => bs l.name).Nodup := by
 intro hn
 have := List.pairwise_iff_getElem.1 hn i k (by rw [List.length_map]; exact Nat.lt_trans hi hk) (by rw [List.length_map]; exact hk) hi
 rw [List.getElem_map, List.getElem_map] at this
 exact this h.symm
theorem ru {B : Nat} {a w : World} (h : Below B a w) (n : Nat) : Below B a (w.drewN n) := ⟨h.os, h.tape, h.output, h.size, h.block⟩
theorem LZ {m : Nat} {l : List Int} {k : Nat} (hk : k < l.length) (h : decide (0 ≤ l[k] ∧ l[k] < (m : Int)) = false) : jU m l = false := by
 unfold jU
 rw [List.all_eq_false]
 exact ⟨_, List.getElem_mem hk, by rw [h]; decide⟩
theorem OA {m : Nat} {on : List (List Int)} {k : Nat} (hk : k < on.length) (h : jU m on[k] = false) : cZ m on = false := by
 unfold cZ
 rw [List.all_eq_false]
 exact ⟨_, List.getElem_mem hk, by rw [show (on[k].all fun x => decide (0 ≤ x ∧ x < (m : Int))) = false from h]; decide⟩
theorem Ee {t : List Nd} {au : List Lw} {on : List (List Int)} (ht : cz t = 0) (h64 : ¬ 64 < au.length) (h : au.all dE = false) : dN t au on = 17 := by
 unfold dN
 rw [if_pos ht, if_neg h64, if_neg (by rw [h]; decide)]
theorem BN {t : List Nd} {au : List Lw} {on : List (List Int)} (ht : cz t = 0) (h64 : ¬ 64 < au.length) (h : au.all dE = true) (hn : ¬ (au.map fun l => bs l.name).Nodup) : dN t au on = 6 := by
 unfold dN
 rw [if_pos ht, if_neg h64, if_pos h, if_neg hn]
theorem Ed {t : List Nd} {au : List Lw} {on : List (List Int)} (ht : cz t = 0) (h64 : ¬ 64 < au.length) (h : au.all dE = true) (hn : (au.map fun l => bs l.name).Nodup) : dN t au on = if on.length = t.length then (if fE t on on.length then (if cZ au.length on then 0 else 3) else 2) else 2 := by
 unfold dN
 rw [if_pos ht, if_neg h64, if_pos h, if_pos hn]
theorem Gt (v4 v5 v6 : Value) (B : Nat) (t : List Nd) (au : List Lw) (on : List (List Int)) (w : World) (h4 : aP Ho 2 w B t v4) (h5 : aP fI 18 w B au v5) (h6 : aP si 1 w B on v6) (hB : B ≤ w.heap.size) (hs : ∀ x ∈ t, x.2.size ≤ maxLen) (hln : ∀ l ∈ au, l.name.size ≤ maxLen) (hon : ∀ l ∈ on, l.length ≤ 1000000000) :
 Calls Tryz.prog 154 #[.agg #[v4, v5, v6]] w fun e w' => e = .returned (.int .i64 (dN t au on)) ∧ Below w.heap.size w w' := by
 obtain ⟨A4, m4, c4, rfl, e4⟩ := h4.form
 obtain ⟨A5, m5, c5, rfl, e5⟩ := h5.form
 obtain ⟨A6, m6, c6, rfl, e6⟩ := h6.form
 have hm4 := h4.len.2
 have hm5 := h5.len.2
 have hm6 := h6.len.2
 unfold maxLen at hm4 hm5 hm6
 obtain ⟨r, aU⟩ : ∃ r, dN t au on = r := ⟨_, rfl⟩
 rw [aU]
 have hb0 := (Below.refl w.heap.size w).alloc (Nat.le_refl _) (.cells #[.slice A4 m4 c4, .slice A5 m5 c5, .slice A6 m6 c6] 29)
 have hk0 := Blk.new w 29 #[.slice A4 m4 c4, .slice A5 m5 c5, .slice A6 m6 c6]
 have dP := fun (W : World) (hW : Below w.heap.size w W) => fun (p : Addr) (hp : p.block < B) => hW.cell (p := p) (Nat.lt_of_lt_of_le hp hB)
 obtain ⟨W0, hW0⟩ : ∃ W, w.alloc (.cells #[.slice A4 m4 c4, .slice A5 m5 c5, .slice A6 m6 c6] 29) = W := ⟨_, rfl⟩
 rw [hW0] at hb0 hk0
 have htc := xR (.slice A4 m4 c4) B t W0 (aP.plain (dP W0 hb0) h4 (fun _ _ h => h)) (by have := hb0.size; omega) hs
 have NG := fun (ht : cz t = 0) (hlen : on.length = t.length) (W : World) (hW : Below w.heap.size w W) (v : Nat) (hv : v < t.length) => Ju A4 A5 A6 m4 m5 m6 c4 c5 c6 B t on (iM ht).2.2 (iM ht).1 hlen hon v W (aP.plain (dP W hW) h4 (fun _ _ h => h)) (aP.plain (dP W hW) h6 (fun _ _ h => si.keep (dP W hW) h)) (by have := hW.size; omega) hv
 have dA := qh aU; have H5 := qh h5; have H6 := qh h6; have Yj := qh hln; have UG := qh hon; have Hu := qh dP; have E4 := qh e4; have E5 := qh e5; have E6 := qh e6; have MS := qh htc; have HB0 := qh hb0; have jg := qh hk0; have HW := qh hW0; have UY := qh NG
 have g0 := hk0.cell 0
 simp only [gq2] at g0
 clear aU h4 h5 h6 hs hln hon dP e4 e5 e6 htc hb0 hk0 hW0 NG
 go_enter Tryz.func154, Tryz.ntmps154
 go_wp2_with (rw [HW.out])
 refine MS.out.mono ?_
 rintro e w1 ⟨rfl, hb1⟩
 have hsz0 := jg.out.lt
 have HB1 := qh (HB0.out.trans (hb1.mono HB0.out.size)); have jr := qh (jg.out.below hb1 hsz0)
 have hs1 := hb1.size
 clear hb1 g0 MS HW
 have g0 := jr.out.cell 0
 have g1 := jr.out.cell 1
 have g2 := jr.out.cell 2
 simp only [gq2] at g0 g1 g2
 by_cases ht : cz t = 0
 case neg =>
  have Wx : (cz t != (0 : Int)) = true := by rw [bne_iff_ne]; exact ht
  obtain rfl : r = 16 := by
   rw [← dA.out]
   unfold dN
   rw [if_neg ht]
  clear ht
  go_wp2
  go_ret
  exact ⟨rfl, HB1.out⟩
 have Wx : (cz t != (0 : Int)) = false := by rw [ht]; rfl
 have HT := qh ht
 clear ht
 by_cases h64 : 64 < m5
 ·have Kb : (64 : Int) < (m5 : Int) := by omega
  obtain rfl : r = 12 := by
   rw [← dA.out]
   unfold dN
   rw [if_pos HT.out, if_pos (by rw [← E5.out]; exact h64)]
  clear h64
  go_wp2
  go_ret
  exact ⟨rfl, HB1.out⟩
 have Kb : ¬ (64 : Int) < (m5 : Int) := by omega
 have YI : Hid (¬ 64 < au.length) := qh (by rw [← E5.out]; exact h64)
 clear h64
 go_wp2
 go_loopw [3] (fun i wr => ∃ k : Nat, k ≤ m5 ∧ i = .int .i64 k ∧ (au.take k).all dE = true ∧ Blk wr w.heap.size 29 #[.slice A4 m4 c4, .slice A5 m5 c5, .slice A6 m6 c6] ∧ Below w.heap.size w wr) (fun i _ => m5 - (RowKit.intOf i).toNat)
 case atStart => exact ⟨0, by omega, rfl, by simp, jr.out, HB1.out⟩
 case round =>
  obtain ⟨k, hk, rfl, aI, gp, hbw⟩ := hrel
  have bf := qh aI; have nX := qh gp; have aQ := qh hbw
  obtain ⟨V, hV⟩ : ∃ W, W = wr := ⟨_, rfl⟩
  subst hV
  clear aI gp hbw g0 g1 g2
  have g0 := nX.out.cell 0
  have g1 := nX.out.cell 1
  have g2 := nX.out.cell 2
  simp only [gq2] at g0 g1 g2
  by_cases hlt : k < m5
  ·have bB : k < au.length := by have := E5.out; omega
   have cB : (k : Int) < (m5 : Int) := by omega
   have hk0 : (0 : Int) ≤ (k : Int) := by omega
   obtain ⟨ad, cs, hA, had, hP, aC⟩ := aW (w := V) (by intro x cs h; exact fC h) (aP.plain (Hu.out V aQ.out) H5.out (fun _ _ h => h.keep (Hu.out V aQ.out))) bB
   subst hA
   have hall1 := kW bB bf.out
   have Rj := Yj.out _ (List.getElem_mem bB)
   have h18 := fC hP
   have hcell : ∀ j u, cs[j]? = some u → V.cell? ((ad.add (k * 18)).add j) = some u := fun j u hu => by rw [add_add]; exact aC j u hu
   have hck := sw V B au[k] cs hP (by have := aQ.out.size; omega) Rj
   generalize au[k] = x at *
   obtain ⟨q, hq⟩ : ∃ q, nR x = q := ⟨_, rfl⟩
   have hq0 : dE x = true ↔ q = 0 := by
    rw [← hq]
    unfold nR
    split <;> simp_all
   rw [hq] at hck
   have HA1 := qh hall1; have Vl := qh h18; have Lb := qh hcell; have Iq := qh hck; have Zn := qh hq0
   clear hall1 h18 hcell hck aC Rj hP hq hq0
   go_wp2_with (refine rV rfl _ rfl _ rfl cs Vl.out Lb.out ?_; simp only [Act.put, gq1])
   refine Iq.out.mono ?_
   rintro e w2 ⟨rfl, hb2⟩
   have HB2 := qh (aQ.out.trans (hb2.mono aQ.out.size)); have zL := qh (nX.out.below hb2 nX.out.lt)
   clear hb2 g0 g1 g2
   by_cases hz : q = 0
   ·have vE : (q != (0 : Int)) = false := by rw [hz]; rfl
    have hn := HA1.out.1
    rw [Zn.out.2 hz] at hn
    have HN := qh hn
    clear hz hn
    go_wp2
    go_roundw
    case rel => exact ⟨k + 1, by omega, by go_num, HN.out, zL.out, HB2.out⟩
    case measure => simp [RowKit.intOf]; omega
   ·have vE : (q != (0 : Int)) = true := by rw [bne_iff_ne]; exact hz
    obtain rfl : r = 17 := dA.out.symm.trans (Ee HT.out YI.out (HA1.out.2 (by
     cases h : dE x with
     | false => rfl
     | true => exact absurd (Zn.out.1 h) hz)))
    clear hz
    go_wp2
    go_ret
    exact ⟨rfl, HB2.out⟩
  ·obtain rfl : m5 = k := by omega
   have aI := bf.out
   rw [List.take_of_length_le (by have := E5.out; omega)] at aI
   have FL := qh aI
   clear aI bf hlt
   go_wp2
   go_loopw [4] (fun i wr => ∃ k : Nat, k ≤ m5 ∧ i = .int .i64 k ∧ yo au k ∧ Blk wr w.heap.size 29 #[.slice A4 m4 c4, .slice A5 m5 c5, .slice A6 m6 c6] ∧ Below w.heap.size w wr) (fun i _ => m5 - (RowKit.intOf i).toNat)
   case atStart => exact ⟨0, by omega, rfl, by unfold yo; simp, nX.out, aQ.out⟩
   case round =>
    obtain ⟨k4, hk4, rfl, hinv, gp, hbw⟩ := hrel
    have UN := qh hinv; have EI := qh gp; have jS := qh hbw
    obtain ⟨V4, hV⟩ : ∃ W, W = wr := ⟨_, rfl⟩
    subst hV
    clear hinv gp hbw g0 g1 g2
    have g0 := EI.out.cell 0
    have g1 := EI.out.cell 1
    have g2 := EI.out.cell 2
    simp only [gq2] at g0 g1 g2
    by_cases hlt4 : k4 < m5
    ·have hkI4 : (k4 : Int) < (m5 : Int) := by omega
     have hk04 : (0 : Int) ≤ (k4 : Int) := by omega
     have hkl4 : k4 < au.length := by have := E5.out; omega
     obtain ⟨ad4, cs4, hA, had4, GL, hcc4⟩ := aW (by intro x cs h; exact fC h) H5.out hkl4
     subst hA
     have hadb4 : ∀ m, (ad4.add m).block < B := fun m => by rw [gq]; exact had4
     have e4' := hcc4 0 _ (vB GL)
     rw [Nat.add_zero] at e4'
     have f4 := (Hu.out V4 jS.out _ (hadb4 _)).trans e4'
     obtain ⟨nm, hnm⟩ : ∃ s, au[k4].name = s := ⟨_, rfl⟩
     rw [hnm] at e4' f4
     have Po := qh hnm; have sj := qh e4'
     clear hnm e4' hcc4 GL
     go_wp2
     go_loopw [5] (fun i wr => ∃ k : Nat, k ≤ k4 ∧ i = .int .i64 k ∧ vS au k nm = true ∧ Blk wr w.heap.size 29 #[.slice A4 m4 c4, .slice (some ad4) m5 c5, .slice A6 m6 c6] ∧ Below w.heap.size w wr) (fun i _ => k4 - (RowKit.intOf i).toNat)
     case atStart => exact ⟨0, by omega, rfl, rfl, EI.out, jS.out⟩
     case round =>
      obtain ⟨k5, hk5, rfl, hinv, gp, hbw⟩ := hrel
      have Va := qh hinv; have EH := qh gp; have wK := qh hbw
      obtain ⟨V5, hV⟩ : ∃ W, W = wr := ⟨_, rfl⟩
      subst hV
      clear hinv gp hbw g0 g1 g2 f4
      have g0 := EH.out.cell 0
      have g1 := EH.out.cell 1
      have g2 := EH.out.cell 2
      simp only [gq2] at g0 g1 g2
      by_cases hlt5 : k5 < k4
      ·have hkI5 : (k5 : Int) < (k4 : Int) := by omega
       have hk05 : (0 : Int) ≤ (k5 : Int) := by omega
       first
      | (exfalso; omega)
      | (have Qh : k5 < au.length := by omega
         have ZW : (k5 : Int) < (m5 : Int) := by omega
         obtain ⟨ad5, cs5, hA, had5, Xf, hcc5⟩ := aW (by intro x cs h; exact fC h) H5.out Qh
         obtain rfl := Option.some.inj hA
         have d0 := hcc5 0 _ (vB Xf)
         rw [Nat.add_zero] at d0
         have f4 := (Hu.out V5 wK.out _ (hadb4 _)).trans sj.out
         have f5 := (Hu.out V5 wK.out _ (hadb4 _)).trans d0
         have dU := BX Qh Va.out
         have hdp := fun (h : bs au[k4].name = bs au[k5].name) => Ji hkl4 (by omega) h
         rw [Po.out] at hdp
         generalize au[k5].name = ny at *
         have hbeq : (nm.toList == ny.toList) = decide (bs nm = bs ny) := oQ nm ny
         by_cases hsm : bs nm = bs ny
         ·obtain rfl : r = 6 := dA.out.symm.trans (BN HT.out YI.out FL.out (hdp hsm))
          rw [decide_eq_true hsm] at hbeq
          clear dU hdp hsm hcc5 d0 Xf
          go_wp2
          go_region
          go_wp2
          go_ret
          exact ⟨rfl, wK.out.drew⟩
         ·rw [decide_eq_false hsm] at hbeq dU
          have ou := qh dU
          clear dU hdp hsm hcc5 d0 Xf
          go_wp2
          go_region
          go_wp2
          go_roundw
          case rel => exact ⟨k5 + 1, by omega, by go_num, ou.out, EH.out.drew, wK.out.drew⟩
          case measure => simp [RowKit.intOf]; omega)
      ·obtain rfl : k4 = k5 := by omega
       have Yb := qh (DI hkl4 UN.out (by rw [Po.out]; exact Va.out))
       go_wp2
       go_roundw
       case rel => exact ⟨k4 + 1, by omega, by go_num, Yb.out, EH.out, wK.out⟩
       case measure => simp [RowKit.intOf]; omega
    ·obtain rfl : m5 = k4 := by omega
     have eQ : (au.map fun l => bs l.name).Nodup := by
      have h := UN.out
      unfold yo at h
      rwa [List.take_of_length_le (by rw [E5.out]; exact Nat.le_refl _)] at h
     have hrest := dA.out.symm.trans (Ed HT.out YI.out FL.out eQ)
     have EH := EI; have wK := jS
     by_cases hlen : m6 = m4
     case neg =>
      have Vz : ((m6 : Int) != (m4 : Int)) = true := by rw [bne_iff_ne]; omega
      obtain rfl : r = 2 := by rw [hrest, if_neg (fun h => hlen (by rw [E4.out, E6.out]; exact h))]
      clear hrest hlen eQ
      go_wp2
      go_ret
      exact ⟨rfl, jS.out⟩
     have Vz : ((m6 : Int) != (m4 : Int)) = false := by rw [hlen]; simp
     have gu : Hid (on.length = t.length) := qh (by rw [← E4.out, ← E6.out]; exact hlen)
     rw [if_pos gu.out] at hrest
     have Ug : Hid ((if fE t on on.length = true then if cZ au.length on = true then (0 : Int) else 3 else 2) = r) := qh hrest.symm
     have Uh : Hid (fE t on on.length = false → r = 2) := qh (fun h => by rw [hrest, if_neg (by rw [h]; decide)])
     clear hrest eQ hlen
     go_wp2
     go_loopw [6] (fun i wr => ∃ k : Nat, k ≤ m6 ∧ i = .int .i64 k ∧ fE t on k = true ∧ Blk wr w.heap.size 29 #[.slice A4 m4 c4, .slice A5 m5 c5, .slice A6 m6 c6] ∧ Below w.heap.size w wr) (fun i _ => m6 - (RowKit.intOf i).toNat)
     case atStart => exact ⟨0, by omega, rfl, rfl, EH.out, wK.out⟩
     case round =>
      obtain ⟨k6, hk6, rfl, hinv, gp, hbw⟩ := hrel
      have UX := qh hinv; have Ie := qh gp; have Ni := qh hbw
      obtain ⟨V6, hV⟩ : ∃ W, W = wr := ⟨_, rfl⟩
      subst hV
      clear hinv gp hbw g0 g1 g2
      have g0 := Ie.out.cell 0
      have g1 := Ie.out.cell 1
      have g2 := Ie.out.cell 2
      simp only [gq2] at g0 g1 g2
      by_cases hlt6 : k6 < m6
      ·have hkI6 : (k6 : Int) < (m6 : Int) := by omega
       have hk06 : (0 : Int) ≤ (k6 : Int) := by omega
       have hkt : k6 < t.length := by have := gu.out; have := E6.out; omega
       have hc := UY.out HT.out gu.out V6 Ni.out k6 hkt
       unfold Fx at hc
       obtain ⟨ln, hl⟩ : ∃ m, lY t on k6 = m := ⟨_, rfl⟩
       rw [hl] at hc
       have aS := yw (t := t) (on := on) (k := k6) (n := on.length) (by have := E6.out; omega)
       have dU := rU (k := k6) UX.out
       rw [hl] at aS dU
       have HC := qh hc; have cu := qh aS; have ou := qh dU
       clear hc aS dU hl
       go_wp2_with fail
       refine HC.out.mono ?_
       rintro e w2 ⟨v2, xs2, rfl, ho2, hb2⟩
       obtain ⟨Al, cl, rfl, _, _⟩ := ownsRow_form ho2
       have HB2 := qh (Ni.out.trans (hb2.mono Ni.out.size)); have zL := qh (Ie.out.below hb2 Ie.out.lt)
       clear ho2 hb2
       by_cases OV : 64 < ln
       ·have RO : (64 : Int) < (ln : Int) := by omega
        obtain rfl : r = 2 := Uh.out (cu.out OV)
        clear OV
        go_wp2
        go_ret
        exact ⟨rfl, HB2.out⟩
       ·have RO : ¬ (64 : Int) < (ln : Int) := by omega
        have Ya := qh (ou.out (by omega))
        clear OV
        go_wp2
        go_roundw
        case rel => exact ⟨k6 + 1, by omega, by go_num, Ya.out, zL.out, HB2.out⟩
        case measure => simp [RowKit.intOf]; omega
      ·obtain rfl : m6 = k6 := by omega
       have hlo := UX.out
       have hres := Ug.out
       rw [if_pos (by rw [← E6.out]; exact hlo)] at hres
       have Ui : Hid (cZ m5 on = true → r = 0) := qh (fun h => by rw [if_pos (by rw [← E5.out]; exact h)] at hres; exact hres.symm)
       have bT : Hid (cZ m5 on = false → r = 3) := qh (fun h => by rw [if_neg (by rw [← E5.out, h]; decide)] at hres; exact hres.symm)
       clear hlo hres
       go_wp2
       go_loopw [7] (fun i wr => ∃ k : Nat, k ≤ m6 ∧ i = .int .i64 k ∧ cZ m5 (on.take k) = true ∧ Blk wr w.heap.size 29 #[.slice A4 m4 c4, .slice A5 m5 c5, .slice A6 m6 c6] ∧ Below w.heap.size w wr) (fun i _ => m6 - (RowKit.intOf i).toNat)
       case atStart => exact ⟨0, by omega, rfl, rfl, Ie.out, Ni.out⟩
       case round =>
        obtain ⟨k7, hk7, rfl, hinv, gp, hbw⟩ := hrel
        have U6 := qh hinv; have Nk := qh gp; have P5 := qh hbw
        obtain ⟨V7, hV⟩ : ∃ W, W = wr := ⟨_, rfl⟩
        subst hV
        clear hinv gp hbw g0 g1 g2
        have g0 := Nk.out.cell 0
        have g1 := Nk.out.cell 1
        have g2 := Nk.out.cell 2
        simp only [gq2] at g0 g1 g2
        by_cases hlt7 : k7 < m6
        ·have hkI7 : (k7 : Int) < (m6 : Int) := by omega
         have hk07 : (0 : Int) ≤ (k7 : Int) := by omega
         have hko : k7 < on.length := by have := E6.out; omega
         obtain ⟨ad7, cs7, hA, had7, Z6, hcc7⟩ := aW Jf H6.out hko
         subst hA
         have hadb7 : ∀ m, (ad7.add m).block < B := fun m => by rw [gq]; exact had7
         have OM := pW (m := m5) hko
         rw [U6.out, Bool.true_and] at OM
         have NL : jU m5 on[k7] = false → cZ m5 on = false := fun h => OA hko h
         have WC := UG.out _ (List.getElem_mem hko)
         generalize on[k7] = x at *
         obtain ⟨vx, rfl, rX⟩ := Z6
         obtain ⟨Ax, nx, cx, rfl, ex⟩ := rX.form
         have e6 := hcc7 0 _ rfl
         rw [Nat.mul_one, Nat.add_zero] at e6
         have f6 := (Hu.out V7 P5.out _ (hadb7 _)).trans e6
         have dU : nx ≤ 1000000000 := by omega
         have PX := qh e6; have Ym := qh OM; have Oc := qh NL; have HVX := qh rX; have nk := qh ex
         clear e6 OM NL rX ex hcc7 WC
         go_wp2
         go_loopw [8] (fun i wr => ∃ k : Nat, k ≤ nx ∧ i = .int .i64 k ∧ jU m5 (x.take k) = true ∧ Blk wr w.heap.size 29 #[.slice A4 m4 c4, .slice A5 m5 c5, .slice (some ad7) m6 c6] ∧ Below w.heap.size w wr) (fun i _ => nx - (RowKit.intOf i).toNat)
         case atStart => exact ⟨0, by omega, rfl, rfl, Nk.out, P5.out⟩
         case round =>
          obtain ⟨k8, hk8, rfl, hinv, gp, hbw⟩ := hrel
          have Uf := qh hinv; have Lg := qh gp; have Ic := qh hbw
          obtain ⟨V8, hV⟩ : ∃ W, W = wr := ⟨_, rfl⟩
          subst hV
          clear hinv gp hbw g0 g1 g2 f6
          have g0 := Lg.out.cell 0
          have g1 := Lg.out.cell 1
          have g2 := Lg.out.cell 2
          simp only [gq2] at g0 g1 g2
          have f6 := (Hu.out V8 Ic.out _ (hadb7 _)).trans PX.out
          by_cases hlt8 : k8 < nx
          ·have hkI8 : (k8 : Int) < (nx : Int) := by omega
           have hk08 : (0 : Int) ≤ (k8 : Int) := by omega
           have hkx : k8 < x.length := by have := nk.out; omega
           obtain ⟨ad8, cs8, hA, had8, Z5, hcc8⟩ := aW (yc (f := fun k : Int => [Value.int .i64 k]) (m := 1) fun _ => rfl) HVX.out hkx
           subst hA
           have hrn := uC (m := m5) hkx
           rw [Uf.out, Bool.true_and] at hrn
           have NK : decide (0 ≤ x[k8] ∧ x[k8] < (m5 : Int)) = false → jU m5 x = false := fun h => LZ hkx h
           generalize x[k8] = xi at *
           obtain rfl : cs8 = [.int .i64 xi] := Z5
           have e8 := hcc8 0 _ rfl
           rw [Nat.mul_one, Nat.add_zero] at e8
           have f8 := (Hu.out V8 Ic.out _ (by rw [gq]; exact had8)).trans e8
           have dR := qh hrn; have Ob := qh NK
           clear hrn NK hcc8 e8
           by_cases hneg : xi < 0
           ·obtain rfl : r = 3 := bT.out (Oc.out (Ob.out (by rw [decide_eq_false]; omega)))
            have OH : xi < 0 := hneg
            go_wp2
            go_quiet (fail)
            go_wp2
            go_ret
            exact ⟨rfl, ru Ic.out _⟩
           ·have OH : ¬ xi < 0 := hneg
            by_cases hge : (m5 : Int) ≤ xi
            ·obtain rfl : r = 3 := bT.out (Oc.out (Ob.out (by rw [decide_eq_false]; omega)))
             go_wp2
             go_quiet (fail)
             go_wp2
             go_ret
             exact ⟨rfl, ru Ic.out _⟩
            ·have hgI : ¬ (m5 : Int) ≤ xi := hge
             have hrn := dR.out
             rw [decide_eq_true (by omega)] at hrn
             have XY := qh hrn
             clear hrn
             go_wp2
             go_quiet (fail)
             go_wp2
             go_roundw
             case rel => exact ⟨k8 + 1, by omega, by go_num, XY.out, Lg.out, ru Ic.out _⟩
             case measure => simp [RowKit.intOf]; omega
          ·obtain rfl : nx = k8 := by omega
           have hrg := Uf.out
           rw [List.take_of_length_le (by rw [← nk.out]; exact Nat.le_refl _)] at hrg
           have hin := Ym.out
           rw [hrg] at hin
           have Yn := qh hin
           clear hrg hin
           go_wp2
           go_roundw
           case rel => exact ⟨k7 + 1, by omega, by go_num, Yn.out, Lg.out, Ic.out⟩
           case measure => simp [RowKit.intOf]; omega
        ·obtain rfl : m6 = k7 := by omega
         have hin := U6.out
         rw [List.take_of_length_le (by rw [E6.out]; exact Nat.le_refl _)] at hin
         obtain rfl : r = 0 := Ui.out hin
         clear hin
         go_wp2
         go_ret
         exact ⟨rfl, P5.out⟩
theorem Be (v4 v5 v6 v7 v8 : Value) (B : Nat) (t : List Nd) (au : List Lw) (on : List (List Int)) (aA : List Fm) (es : List En) (w : World) (h4 : aP Ho 2 w B t v4) (h5 : aP fI 18 w B au v5) (h6 : aP si 1 w B on v6) (h7 : aP bn 2 w B aA v7) (h8 : aP tN 2 w B es v8) (hB : B ≤ w.heap.size) (hs : ∀ x ∈ t, x.2.size ≤ maxLen) (hln : ∀ l ∈ au, l.name.size ≤ maxLen) (hon : ∀ l ∈ on, l.length ≤ 1000000000) (hg : ∀ x ∈ es, x.bX.size ≤ maxLen) (hop : ∀ f ∈ aA, ∀ s ∈ f.w, ok32 s) (hoe : ∀ x ∈ es, ∀ f ∈ x.bU, ∀ s ∈ f.w, ok32 s) :
 Calls Tryz.prog 101 #[.agg #[v4, v5, v6], v7, v8] w fun e w' => e = .returned (.int .i64 (Ex t au on aA es)) ∧ Below w.heap.size w w' := by
 obtain ⟨A4, m4, c4, rfl, -⟩ := h4.form
 obtain ⟨A5, m5, c5, rfl, -⟩ := h5.form
 obtain ⟨A6, m6, c6, rfl, -⟩ := h6.form
 obtain ⟨A7, m7, c7, rfl, e7⟩ := h7.form
 obtain ⟨A8, m8, c8, rfl, e8⟩ := h8.form
 have hm8 := h8.len.2.1
 have OJ := h8.len.2.2
 have hm7 := h7.len.2.1
 have OL := h7.len.2.2
 unfold maxLen at OJ OL
 obtain ⟨r, aU⟩ : ∃ r, Ex t au on aA es = r := ⟨_, rfl⟩
 rw [aU]
 rw [Fs] at aU
 have hb0 := (Below.refl w.heap.size w).alloc (Nat.le_refl _) (.cells #[.slice A4 m4 c4, .slice A5 m5 c5, .slice A6 m6 c6] 29)
 have hk0 := Blk.new w 29 #[.slice A4 m4 c4, .slice A5 m5 c5, .slice A6 m6 c6]
 have dP := fun (W : World) (hW : Below w.heap.size w W) => fun (p : Addr) (hp : p.block < B) => hW.cell (p := p) (Nat.lt_of_lt_of_le hp hB)
 have hle := fun (W : World) (hW : Below w.heap.size w W) => Nat.le_trans hB hW.size
 have c1 := fun (W : World) (hW : Below w.heap.size w W) => Gt _ _ _ B t au on W (aP.plain (dP W hW) h4 (fun _ _ h => h)) (aP.plain (dP W hW) h5 (fun _ _ h => h.keep (dP W hW))) (aP.plain (dP W hW) h6 (fun _ _ h => si.keep (dP W hW) h)) (hle W hW) hs hln hon
 have c2 := fun (W : World) (hW : Below w.heap.size w W) => AY _ B t W (aP.plain (dP W hW) h4 (fun _ _ h => h)) (hle W hW) hs
 have c3 := fun (W : World) (hW : Below w.heap.size w W) => uF _ B aA W (aP.plain (dP W hW) h7 (fun _ _ h => bn.keep (dP W hW) h)) (hle W hW)
 have Ci := fun (W : World) (hW : Below w.heap.size w W) (x : En) (v : Value) (hv : aP bn 2 W B x.bU v) => uF v B x.bU W hv (hle W hW)
 have CK := fun (W : World) (hW : Below w.heap.size w W) => uu _ B aA W (aP.plain (dP W hW) h7 (fun _ _ h => bn.keep (dP W hW) h)) (hle W hW) hop
 have zP := fun (W : World) (hW : Below w.heap.size w W) (x : En) (hx : x ∈ es) (v : Value) (hv : aP bn 2 W B x.bU v) => uu v B x.bU W hv (hle W hW) (hoe x hx)
 have h8' := fun (W : World) (hW : Below w.heap.size w W) => aP.plain (dP W hW) h8 (fun _ _ h => tN.keep (dP W hW) h)
 have C1 := qh (c1 _ hb0); have C2 := qh c2; have C3 := qh c3; have C4 := qh Ci; have C5 := qh CK; have C6 := qh zP; have H8 := qh h8'; have HG := qh hg; have Hu := qh dP
 have dA := qh aU; have E7 := qh e7; have E8 := qh e8; have HB0 := qh hb0; have jg := qh hk0
 have g0 := hk0.cell 0
 have g1 := hk0.cell 1
 have g2 := hk0.cell 2
 simp only [gq2] at g0 g1 g2
 have hp := fun (W : World) (hW : Below w.heap.size w W) (hW2 : Blk W w.heap.size 29 #[.slice A4 m4 c4, .slice A5 m5 c5, .slice A6 m6 c6]) => hW2.cell 0
 have HP := qh hp
 obtain ⟨hle0, hlt0⟩ : w.heap.size ≤ (w.alloc (.cells #[.slice A4 m4 c4, .slice A5 m5 c5, .slice A6 m6 c6] 29)).heap.size ∧ w.heap.size < (w.alloc (.cells #[.slice A4 m4 c4, .slice A5 m5 c5, .slice A6 m6 c6] 29)).heap.size := by simp
 clear h4 h5 h6 h7 h8 c1 c2 c3 Ci CK zP h8' dP hle hs hln hon hg hop hoe aU e7 e8 hb0 hk0 hp
 go_enter Tryz.func101, Tryz.ntmps101
 go_wp2_with fail
 refine C1.out.mono ?_
 rintro e w1 ⟨rfl, hb1⟩
 have HB1 := qh (HB0.out.trans (hb1.mono HB0.out.size)); have jr := qh (jg.out.below hb1 hlt0)
 clear hb1 g0 g1 g2 C1
 by_cases hh : dN t au on = 0
 case neg =>
  have WU : (dN t au on != (0 : Int)) = true := by rw [bne_iff_ne]; exact hh
  obtain rfl : r = dN t au on := by rw [← dA.out, if_neg hh]
  clear hh
  go_wp2
  go_ret
  exact ⟨rfl, HB1.out⟩
 have WU : (dN t au on != (0 : Int)) = false := by rw [hh]; rfl
 have aU := dA.out
 rw [if_pos hh] at aU
 have dA := qh aU
 have HT := qh (rY hh).1
 have g0 := jr.out.cell 0
 simp only [gq2] at g0
 clear hh aU
 by_cases h256 : 256 < m8
 ·have vK : (256 : Int) < (m8 : Int) := by omega
  obtain rfl : r = 12 := by rw [← dA.out, if_pos (by rw [← E8.out]; exact h256)]
  clear h256
  go_wp2
  go_ret
  exact ⟨rfl, HB1.out⟩
 have vK : ¬ (256 : Int) < (m8 : Int) := by omega
 have aU := dA.out
 rw [if_neg (by rw [← E8.out]; exact h256)] at aU
 have dA := qh aU
 clear aU h256
 go_wp2_with fail
 refine (C2.out w1 HB1.out HT.out).mono ?_
 rintro e w2 ⟨AL, cL, rfl, hb2⟩
 have HB2 := qh (HB1.out.trans (hb2.mono HB1.out.size))
 obtain ⟨nl, hnl⟩ : ∃ nl, (jG t).length = nl := ⟨_, rfl⟩
 have aU := dA.out
 rw [hnl] at aU ⊢
 have dA := qh aU
 clear hb2 g0 hnl
 by_cases h78 : m7 = m8
 case neg =>
  have Ka : ((m7 : Int) != (m8 : Int)) = true := by rw [bne_iff_ne]; omega
  obtain rfl : r = 2 := by rw [← dA.out, if_neg (fun h => h78 (by rw [E7.out, E8.out]; exact h.1))]
  clear h78
  go_wp2
  go_ret
  exact ⟨rfl, HB2.out⟩
 have Ka : ((m7 : Int) != (m8 : Int)) = false := by rw [h78]; simp
 clear h78
 go_wp2_with fail
 refine (C3.out w2 HB2.out).mono ?_
 rintro e w3 ⟨rfl, hb3⟩
 have HB3 := qh (HB2.out.trans (hb3.mono HB2.out.size))
 have aU := dA.out
 have h78 : aA.length = es.length := by
  rw [← E7.out, ← E8.out]
  by_cases e : m7 = m8
  ·exact e
  ·rw [bne_eq_false_iff_eq] at Ka; omega
 have hq1 : bS aA = false → r = 2 := fun e => by rw [← aU, if_neg (fun h => by rw [e] at h; exact absurd h.2 (by decide))]
 have hq2 := fun e : bS aA = true => (by rw [if_pos ⟨h78, e⟩] at aU; exact aU : (if jJ nl es = 0 then if aV aA = 0 then iT es else aV aA else jJ nl es) = r)
 obtain ⟨q, hq⟩ : ∃ q, bS aA = q := ⟨_, rfl⟩
 rw [hq] at hq1 hq2 ⊢
 have MV := qh hq1; have Cw := qh hq2
 clear hb3 aU h78 hq hq1 hq2
 cases q with
 | false =>
   obtain rfl : r = 2 := MV.out rfl
   go_wp2
   go_ret
   exact ⟨rfl, HB3.out⟩
 | true =>
   have dA := qh (Cw.out rfl)
   have aU := dA.out
   have HR2 : Hid (es.all (oq nl) = false → r = 2) := qh (fun h => by
    rw [show jJ nl es = 2 by unfold jJ; rw [if_neg (by rw [h]; decide)]] at aU
    rw [if_neg (by decide)] at aU
    exact aU.symm)
   clear aU
   go_wp2
   go_loopw [10] (fun i wr => ∃ k : Nat, k ≤ m8 ∧ i = .int .i64 k ∧ (es.take k).all (oq nl) = true ∧ Below w.heap.size w wr) (fun i _ => m8 - (RowKit.intOf i).toNat)
   case atStart => exact ⟨0, by omega, rfl, by simp, HB3.out⟩
   case round =>
    obtain ⟨k, hk, rfl, aS, hb⟩ := hrel
    have HB := qh hb
    clear hb
    by_cases hlt : k < m8
    ·have bB : k < es.length := by have := E8.out; omega
     have cB : (k : Int) < (m8 : Int) := by omega
     have hk0 : (0 : Int) ≤ (k : Int) := by omega
     have cu := qh aS
     clear aS
     obtain ⟨ad, cs, rfl, had, hP, aC⟩ := aW qZ (H8.out wr HB.out) bB
     obtain ⟨v, rfl, hv⟩ := hP
     obtain ⟨Ax, nx, cx, rfl, dU⟩ := hv.form
     have e0 := aC 0 _ rfl
     have e1 := aC 1 _ rfl
     rw [Nat.add_zero] at e0
     rw [aH ad (k * 2) 0] at e1
     obtain ⟨aF, aY⟩ := kW bB cu.out
     have hc := C4.out wr HB.out es[k] _ hv
     generalize es[k] = x at *
     have hen : oq nl x = (decide (nx = nl) && bS x.bU) := by unfold oq; rw [dU]
     obtain ⟨gl, fl⟩ := x
     simp only [] at *
     obtain ⟨q, hq⟩ : ∃ q, bS fl = q := ⟨_, rfl⟩
     rw [hq] at hc hen
     rw [hen] at aF aY
     have HC := qh hc; have bL := qh aF; have dX := qh aY
     clear aF aY aC hv hc dU hq hen
     by_cases hm : nx = nl
     ·have Qg : ((nx : Int) != (nl : Int)) = false := by rw [hm]; simp
      have aF := bL.out; have aY := dX.out
      rw [decide_eq_true hm, Bool.true_and] at aF aY
      have bL := qh aF; have dX := qh aY
      clear hm aF aY
      go_wp2_with fail
      refine HC.out.mono ?_
      rintro e w2 ⟨rfl, hb2⟩
      have HB2 := qh (HB.out.trans (hb2.mono HB.out.size))
      clear hb2
      cases q with
      | true =>
        go_wp2
        go_roundw
        case rel => exact ⟨k + 1, by omega, by go_num, bL.out, HB2.out⟩
        case measure => simp [RowKit.intOf]; omega
      | false =>
        obtain rfl : r = 2 := HR2.out (dX.out rfl)
        go_wp2
        go_ret
        exact ⟨rfl, HB2.out⟩
     ·have Qg : ((nx : Int) != (nl : Int)) = true := by rw [bne_iff_ne]; omega
      obtain rfl : r = 2 := HR2.out (dX.out (by rw [decide_eq_false hm]; rfl))
      clear hm
      go_wp2
      go_ret
      exact ⟨rfl, HB.out⟩
    ·obtain rfl : m8 = k := by omega
     rw [List.take_of_length_le (by have := E8.out; omega)] at aS
     have hen : jJ nl es = if es.all (fun x => aM x.bX) = true then 0 else 15 := by unfold jJ; rw [if_pos aS]
     have aU := dA.out
     rw [hen] at aU
     have X3 : Hid (es.all (fun x => aM x.bX) = false → r = 15) := qh (fun h => by
     have e : (if es.all (fun x => aM x.bX) = true then (0 : Int) else 15) = 15 := if_neg (by rw [h]; decide)
     rw [e, if_neg (by decide)] at aU
     exact aU.symm)
     have dR : Hid (es.all (fun x => aM x.bX) = true → (if aV aA = 0 then iT es else aV aA) = r) := qh (fun h => by
     have e : (if es.all (fun x => aM x.bX) = true then (0 : Int) else 15) = 0 := if_pos h
     rw [e, if_pos rfl] at aU
     exact aU)
     clear aS aU hen
     go_wp2
     go_loopw [11] (fun i wr => ∃ k : Nat, k ≤ m8 ∧ i = .int .i64 k ∧ (es.take k).all (fun x => aM x.bX) = true ∧ Below w.heap.size w wr) (fun i _ => m8 - (RowKit.intOf i).toNat)
     case atStart => exact ⟨0, by omega, rfl, by simp, HB.out⟩
     case round =>
      obtain ⟨k, hk, rfl, aS, hb⟩ := hrel
      have HB := qh hb
      clear hb
      by_cases hlt : k < m8
      ·have bB : k < es.length := by have := E8.out; omega
       have cB : (k : Int) < (m8 : Int) := by omega
       have hk0 : (0 : Int) ≤ (k : Int) := by omega
       have cu := qh aS
       clear aS
       obtain ⟨ad, cs, rfl, had, hP, aC⟩ := aW qZ (H8.out wr HB.out) bB
       obtain ⟨v, rfl, hv⟩ := hP
       obtain ⟨Ax, nx, cx, rfl, dU⟩ := hv.form
       have e0 := aC 0 _ rfl
       have e1 := aC 1 _ rfl
       rw [Nat.add_zero] at e0
       rw [aH ad (k * 2) 0] at e1
       obtain ⟨aF, aY⟩ := kW bB cu.out
       have hgl := HG.out _ (List.getElem_mem bB)
       generalize es[k] = x at *
       obtain ⟨gl, fl⟩ := x
       simp only [] at *
       have hc := xW gl wr hgl
       obtain ⟨q, hq⟩ : ∃ q, aM gl = q := ⟨_, rfl⟩
       rw [hq] at hc aF aY
       have HC := qh hc; have bL := qh aF; have dX := qh aY
       clear aF aY aC hv hc dU hq
       go_wp2_with fail
       refine HC.out.mono ?_
       rintro e w2 ⟨rfl, rfl⟩
       cases q with
       | true =>
         go_wp2
         go_roundw
         case rel => exact ⟨k + 1, by omega, by go_num, bL.out, HB.out⟩
         case measure => simp [RowKit.intOf]; omega
       | false =>
         obtain rfl : r = 15 := X3.out (dX.out rfl)
         go_wp2
         go_ret
         exact ⟨rfl, HB.out⟩
      ·obtain rfl : m8 = k := by omega
       rw [List.take_of_length_le (by have := E8.out; omega)] at aS
       have X0 := qh (dR.out aS)
       obtain ⟨wo, rfl⟩ : ∃ W, W = wr := ⟨_, rfl⟩
       clear aS
       go_wp2_with fail
       refine (C5.out wo HB.out).mono ?_
       rintro e w5 ⟨rfl, hb5⟩
       have mh := qh (HB.out.trans (hb5.mono HB.out.size))
       clear hb5
       obtain ⟨d, hd⟩ : ∃ d, aV aA = d := ⟨_, rfl⟩
       have aU := X0.out
       rw [hd] at aU ⊢
       have HD : Hid (d ≠ 0 → r = d) := qh (fun h => by rw [if_neg h] at aU; exact aU.symm)
       have HR3 : Hid (∀ {b : Int}, d = 0 → iT es = b → r = b) := qh (fun h e => by rw [if_pos h] at aU; exact aU.symm.trans e)
       clear aU hd
       go_wp2
       go_loopw [7, 12] (fun x i wr => ∃ (k : Nat) (c : Int), k ≤ m8 ∧ i = .int .i64 k ∧ x = .int .i64 c ∧ (c = 0 → d = 0 ∧ iT (es.take k) = 0) ∧ (c ≠ 0 → r = c) ∧ Below w.heap.size w wr) (fun _ i _ => m8 - (RowKit.intOf i).toNat)
       case atStart => exact ⟨0, d, by omega, rfl, rfl, fun h => ⟨h, by rw [List.take_zero]; rfl⟩, fun h => HD.out h, mh.out⟩
       case round =>
        obtain ⟨k, c, hk, rfl, rfl, aS, hne, hb⟩ := hrel
        have HB := qh hb
        clear hb
        by_cases hlt : k < m8
        ·have bB : k < es.length := by have := E8.out; omega
         have cB : (k : Int) < (m8 : Int) := by omega
         have hk0 : (0 : Int) ≤ (k : Int) := by omega
         have cu := qh aS; have N8 := qh hne
         clear aS hne
         by_cases hc0 : c = 0
         case neg =>
          obtain rfl : r = c := N8.out hc0
          have hcI : (r == (0 : Int)) = false := by rw [beq_eq_false_iff_ne]; exact hc0
          clear hc0
          go_wp2
          go_ret
          exact ⟨rfl, HB.out⟩
         have hcI : (c == (0 : Int)) = true := by rw [hc0]; rfl
         obtain ⟨aF, aY⟩ := vU bB (cu.out hc0).2
         have hd0 := (cu.out hc0).1
         have HD0 := qh hd0
         clear hd0
         clear hc0 cu N8
         obtain ⟨ad, cs, rfl, had, hP, aC⟩ := aW qZ (H8.out wr HB.out) bB
         obtain ⟨v, rfl, hv⟩ := hP
         obtain ⟨Ax, nx, cx, rfl, dU⟩ := hv.form
         have e0 := aC 0 _ rfl
         have e1 := aC 1 _ rfl
         rw [Nat.add_zero] at e0
         rw [aH ad (k * 2) 0] at e1
         have hmem : es[k] ∈ es := List.getElem_mem bB
         have hc := C6.out wr HB.out _ hmem _ hv
         obtain ⟨b, hb⟩ : ∃ b, aV es[k].bU = b := ⟨_, rfl⟩
         rw [hb] at hc aF aY
         generalize es[k] = x at *
         obtain ⟨gl, fl⟩ := x
         simp only [] at *
         have HC := qh hc; have bL := qh aF; have dX := qh aY
         clear aF aY aC hv hc hb hmem dU
         go_wp2_with fail
         refine HC.out.mono ?_
         rintro e w7 ⟨rfl, hb7⟩
         have Ir := qh (HB.out.trans (hb7.mono HB.out.size))
         clear hb7
         go_wp2
         go_roundw
         case rel => exact ⟨k + 1, b, by omega, by go_num, rfl, fun e => ⟨HD0.out, by rw [bL.out]; exact e⟩, fun e => HR3.out HD0.out (dX.out e), Ir.out⟩
         case measure => simp [RowKit.intOf]; omega
        ·obtain rfl : m8 = k := by omega
         have hr : r = c := by
          by_cases hc0 : c = 0
          ·obtain ⟨hd, h⟩ := aS hc0
           rw [List.take_of_length_le (by have := E8.out; omega)] at h
           exact (HR3.out hd h).trans hc0.symm
          ·exact hne hc0
         subst hr
         clear aS hne
         go_wp2
         go_ret
         exact ⟨rfl, HB.out⟩
end Go.Proofs.YtmepaeahchiglaaGreatDoor
