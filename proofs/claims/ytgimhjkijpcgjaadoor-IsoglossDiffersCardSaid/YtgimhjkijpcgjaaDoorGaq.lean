/-
  layer 37: Alike of the reference. Conditions: a map of New, or nil; lists that are read.
-/
import Derived.Test.YtgimhjkijpcgjaaDoorGap
import Derived.Test.YtgimhjkijpcgjaaDoorGao
namespace Go.Proofs.YtgimhjkijpcgjaaDoor
open Go.RowKit Go.Lib

def bstI : Option Nat → Int
  | none => -1
  | some c => (c : Int)
set_option maxRecDepth 20000 in
set_option maxHeartbeats 4000000 in
theorem refAlike_any (p : Option Addr) (om : Option Pts) (A : Option Addr) (m c : Nat) (l : List (List Int)) (a : Int) (w : World) (h : RefO w p om) (hG : NewO om) (hl : ReadII w w.heap.size A m l) (hm : m ≤ maxLen) :
    Calls Tryd.prog 29 #[.pointer p, .slice A m c, .int .i64 a] w (IntE w (alkV (lenO om) l a) (alkE (lenO om) l a)) := by
  have hck := fits_any p om A m c l w h hl hm
  have hlen := fun W (hW : Below w.heap.size w W) => refLen_any p om W (h.below hW)
  have hll := hl.1
  have hfew := hG.few
  have HLEN := Lib.hid hlen; have HL := Lib.hid hl
  clear h hG hlen hl
  unfold IntE
  generalize lenO om = N at *
  have HV : Hid (alkV N l a = if alkE N l a = 0 then (((bestB l a N).getD 0 : Nat) : Int) else 0) := Lib.hid rfl
  have HE : Hid (alkE N l a = if chkN N l = 0 then (if a < 0 ∨ (N : Int) ≤ a then 3 else if N = 1 then 5 else 0) else chkN N l) := Lib.hid rfl
  obtain ⟨vE, hvE⟩ : ∃ vE, alkE N l a = vE := ⟨_, rfl⟩
  obtain ⟨vV, hvV⟩ : ∃ vV, alkV N l a = vV := ⟨_, rfl⟩
  rw [hvE] at HE HV ⊢
  rw [hvV] at HV ⊢
  obtain ⟨E, hE⟩ : ∃ E, chkN N l = E := ⟨_, rfl⟩
  rw [hE] at hck HE
  clear hvE hvV
  by_cases h0 : E = 0
  · rw [h0] at hE hck HE
    obtain ⟨hN0, hm2, hin⟩ := chkN_zero hE
    have h00 : ((0 : Int) != 0) = false := by simp
    have HIN := Lib.hid hin
    clear hE h0 hin
    by_cases ha0 : a < 0
    · have e1 := HE.out
      rw [if_pos rfl, if_pos (.inl ha0)] at e1
      have e2 := HV.out
      rw [e1, if_neg (by decide)] at e2
      subst e1 e2
      have g0 : decide (a < 0) = true := decide_eq_true ha0
      clear HE HV HL HIN
      go_enter Tryd.func29, Tryd.ntmps29
      go_wp2_with fail
      refine hck.mono ?_
      rintro e w1 ⟨rfl, hb1⟩
      go_wp2
      go_ret2
      exact ⟨rfl, hb1⟩
    · have g0 : decide (a < 0) = false := decide_eq_false ha0
      by_cases haN : (N : Int) ≤ a
      · have e1 := HE.out
        rw [if_pos rfl, if_pos (.inr haN)] at e1
        have e2 := HV.out
        rw [e1, if_neg (by decide)] at e2
        subst e1 e2
        have g1 : decide ((N : Int) ≤ a) = true := decide_eq_true haN
        clear HE HV HL HIN
        go_enter Tryd.func29, Tryd.ntmps29
        go_wp2_with fail
        refine hck.mono ?_
        rintro e w1 ⟨rfl, hb1⟩
        have hl1 := HLEN.out w1 hb1
        go_wp2_with fail
        refine hl1.mono ?_
        rintro e w2 ⟨rfl, rfl⟩
        go_wp2
        go_ret2
        exact ⟨rfl, hb1⟩
      · have g1 : decide ((N : Int) ≤ a) = false := decide_eq_false haN
        by_cases h1 : N = 1
        · have e1 := HE.out
          rw [if_pos rfl, if_neg (by omega), if_pos h1] at e1
          have e2 := HV.out
          rw [e1, if_neg (by decide)] at e2
          subst e1 e2
          have h1I : (N : Int) = 1 := by omega
          clear HE HV HL HIN
          subst h1
          go_enter Tryd.func29, Tryd.ntmps29
          go_wp2_with fail
          refine hck.mono ?_
          rintro e w1 ⟨rfl, hb1⟩
          have hl1 := HLEN.out w1 hb1
          go_wp2_with fail
          refine hl1.mono ?_
          rintro e w2 ⟨rfl, rfl⟩
          go_wp2_with fail
          refine hl1.mono ?_
          rintro e w2 ⟨rfl, rfl⟩
          go_wp2
          go_ret2
          exact ⟨rfl, hb1⟩
        · have e1 := HE.out
          rw [if_pos rfl, if_neg (by omega), if_neg h1] at e1
          have e2 := HV.out
          rw [e1, if_pos rfl] at e2
          subst e1 e2
          have h1B : ((N : Int) == 1) = false := beq_false_of_ne (by omega)
          have h1I : ¬ (N : Int) = 1 := by omega
          have ha1 : a < (N : Int) := by omega
          have HR : Hid (∀ b : Nat, b < N → ∀ vs ∈ l, InR vs.length (a, (b : Int), 0)) := Lib.hid (fun b hb vs hv => by rw [HIN.out vs hv]; exact ⟨by show 0 ≤ a; omega, ha1, by show (0 : Int) ≤ (b : Int); omega, by show (b : Int) < (N : Int); omega⟩)
          clear HE HV HIN
          go_enter Tryd.func29, Tryd.ntmps29
          go_wp2_with fail
          refine hck.mono ?_
          rintro e w1 ⟨rfl, hb1⟩
          have hl1 := HLEN.out w1 hb1
          have HB1 := Lib.hid hb1
          clear hb1 hck
          go_wp2_with fail
          refine hl1.mono ?_
          rintro e w2 ⟨rfl, rfl⟩
          go_wp2_with fail
          refine hl1.mono ?_
          rintro e w2 ⟨rfl, rfl⟩
          go_wp2
          go_loopw [9, 10] (fun b i wr => ∃ j : Nat, j ≤ N ∧ i = .int .i64 j ∧ b = .int .i64 (bstI (bestB l a j)) ∧ Below w.heap.size w wr) (fun _ i _ => N - (intOf i).toNat)
          case atStart => exact ⟨0, by omega, rfl, rfl, HB1.out⟩
          case round =>
            obtain ⟨j, hj, rfl, rfl, hb⟩ := hrel
            have HB := Lib.hid hb
            have hln := HLEN.out wr hb
            clear hb hl1
            by_cases hlt : j < N
            · have hltI : (j : Int) < (N : Int) := by omega
              have hdf := fun W (hW : Below w.heap.size w W) => refDiffer_any A m c l a (j : Int) W (HL.out.later hW) (HR.out j hlt) (by omega)
              have hst := bestB_succ l a j
              have hs1 := fun hb h => step_less (m := m) (l := l) (a := a) (o := bestB l a j) (b := j) hb h
              have hs2 := fun hb h => step_more (m := m) (l := l) (a := a) (o := bestB l a j) (b := j) hb hll h
              have hs3 := fun hb => step_same (l := l) (a := a) (o := bestB l a j) (b := j) hb
              have hlo := fun c h => bestB_lt (l := l) (a := a) (k := j) (c := c) h
              generalize bestB l a j = o at *
              have HST := Lib.hid hst; have HLO := Lib.hid hlo
              clear hst hlo
              by_cases hja : (j : Int) = a
              · have HS := Lib.hid (hs3 hja)
                have g3 : ((j : Int) != a) = false := by rw [hja]; simp
                clear hs1 hs2 hs3 hja hdf
                generalize hbo : bstI o = bo at *
                have HBO := Lib.hid hbo
                clear hbo
                go_wp2_with fail
                refine hln.mono ?_
                rintro e w2 ⟨rfl, rfl⟩
                go_wp2
                go_roundw
                case rel => exact ⟨j + 1, by omega, by go_num, by rw [HST.out, HS.out, HBO.out], HB.out⟩
                case measure => simp [intOf]; omega
              · have g3 : ((j : Int) != a) = true := by simp [hja]
                cases o with
                | none =>
                  have HS := Lib.hid (hs1 hja (show difN l a (j : Int) < m + 1 by have := bundN_le l (a, (j : Int), 0); unfold difN; omega))
                  clear hs1 hs2 hs3 hja hdf
                  rw [show bstI none = -1 from rfl]
                  go_wp2_with fail
                  refine hln.mono ?_
                  rintro e w2 ⟨rfl, rfl⟩
                  go_wp2
                  go_roundw
                  case rel => exact ⟨j + 1, by omega, by go_num, by rw [HST.out, HS.out]; rfl, HB.out⟩
                  case measure => simp [intOf]; omega
                | some q =>
                  obtain ⟨hqj, hqa⟩ := HLO.out q rfl
                  rw [show bstI (some q) = (q : Int) from rfl]
                  have hdq := fun W (hW : Below w.heap.size w W) => refDiffer_any A m c l a (q : Int) W (HL.out.later hW) (HR.out q (by omega)) (by omega)
                  have hd1 := hdf wr HB.out
                  have g4 : decide ((q : Int) < 0) = false := decide_eq_false (by omega)
                  change ¬ (j : Int) = a → difN l a (j : Int) < difN l a (q : Int) → _ at hs1
                  change ¬ (j : Int) = a → ¬ difN l a (j : Int) < difN l a (q : Int) → _ at hs2
                  have hpr : ∃ (d1 d2 : Nat), difN l a (j : Int) = d1 ∧ difN l a (q : Int) = d2 := ⟨_, _, rfl, rfl⟩
                  obtain ⟨d1, d2, he1, he2⟩ := hpr
                  rw [he1] at hd1 hs1 hs2
                  simp only [he2] at hdq
                  rw [he2] at hs1 hs2
                  have HDQ := Lib.hid hdq
                  clear hdq hdf he1 he2 hqa hs3
                  by_cases hdd : d1 < d2
                  · have HS := Lib.hid (hs1 hja hdd)
                    have hdI : (d1 : Int) < (d2 : Int) := by omega
                    clear hs1 hs2 hja
                    go_wp2_with fail
                    refine hln.mono ?_
                    rintro e w2 ⟨rfl, rfl⟩
                    go_wp2_with fail
                    refine hd1.mono ?_
                    rintro e w3 ⟨rfl, hb3⟩
                    have HB3 := Lib.hid (HB.out.trans (hb3.mono HB.out.size))
                    have hd2 := HDQ.out w3 HB3.out
                    clear hb3 hd1
                    go_wp2_with fail
                    refine hd2.mono ?_
                    rintro e w4 ⟨rfl, hb4⟩
                    go_wp2
                    go_roundw
                    case rel => exact ⟨j + 1, by omega, by go_num, by rw [HST.out, HS.out]; rfl, HB3.out.trans (hb4.mono HB3.out.size)⟩
                    case measure => simp [intOf]; omega
                  · have HS := Lib.hid (hs2 hja hdd)
                    have hdI : ¬ (d1 : Int) < (d2 : Int) := by omega
                    clear hs1 hs2 hja
                    go_wp2_with fail
                    refine hln.mono ?_
                    rintro e w2 ⟨rfl, rfl⟩
                    go_wp2_with fail
                    refine hd1.mono ?_
                    rintro e w3 ⟨rfl, hb3⟩
                    have HB3 := Lib.hid (HB.out.trans (hb3.mono HB.out.size))
                    have hd2 := HDQ.out w3 HB3.out
                    clear hb3 hd1
                    go_wp2_with fail
                    refine hd2.mono ?_
                    rintro e w4 ⟨rfl, hb4⟩
                    go_wp2
                    go_roundw
                    case rel => exact ⟨j + 1, by omega, by go_num, by rw [HST.out, HS.out]; rfl, HB3.out.trans (hb4.mono HB3.out.size)⟩
                    case measure => simp [intOf]; omega
            · obtain rfl : N = j := by omega
              have hsome : bstI (bestB l a N) = (((bestB l a N).getD 0 : Nat) : Int) := by
                cases ho : bestB l a N with
                | none =>
                  have h2 := bestB_none ho 0 (by omega)
                  have h3 := bestB_none ho 1 (by omega)
                  omega
                | some q => rfl
              rw [hsome]
              go_wp2_with fail
              refine hln.mono ?_
              rintro e w2 ⟨rfl, rfl⟩
              go_wp2
              go_ret2
              exact ⟨rfl, HB.out⟩
  · have e1 := HE.out
    rw [if_neg h0] at e1
    have e2 := HV.out
    rw [e1, if_neg h0] at e2
    subst e2
    have e3 : vE = E := e1
    subst e3
    have h0B : (vE != 0) = true := by simp [h0]
    clear HE HV HL hE
    go_enter Tryd.func29, Tryd.ntmps29
    go_wp2_with fail
    refine hck.mono ?_
    rintro e w1 ⟨rfl, hb1⟩
    go_wp2
    go_ret2
    exact ⟨rfl, hb1⟩
end Go.Proofs.YtgimhjkijpcgjaaDoor
namespace Go.Proofs.YtgimhjkijpcgjaaDoor
open Go.RowKit Go.Lib

set_option maxRecDepth 20000 in
set_option maxHeartbeats 4000000 in
theorem refDifferF_any (A : Option Addr) (m c : Nat) (l : List (List Int)) (a b : Int) (w : World) (h : ReadII w w.heap.size A m l) :
    Calls Tryd.prog 31 #[.slice A m c, .int .i64 a, .int .i64 b] w (FracE w (difA l a b) (difE l a b)) := by
  have hml := h.1
  have hz := Blk.new w 37 #[.int .i64 0, .int .i64 0]
  have hbz := (Below.refl _ w).alloc (Nat.le_refl _) (.cells #[.int .i64 0, .int .i64 0] 37)
  have c0 := hz.cell 0
  have c1 := hz.cell 1
  have f0 := hz.frozen 0
  have f1 := hz.frozen 1
  simp only [List.getElem?_toArray, List.getElem?_cons_zero, List.getElem?_cons_succ] at c0 c1
  have H := Lib.hid h; have HML := Lib.hid hml; have HZ := Lib.hid hz; have HBZ := Lib.hid hbz
  clear h hml hz hbz
  unfold FracE
  by_cases h1 : 256 < m
  · have hE : difE l a b = 12 := by unfold difE; rw [if_pos (by rw [HML.out]; exact h1)]
    have hA : difA l a b = fracZ := by unfold difA; rw [hE]; rfl
    rw [hE, hA]
    have h1I : (256 : Int) < (m : Int) := by omega
    go_enter Tryd.func31, Tryd.ntmps31
    go_wp2
    refine bodyPost_ret (frac_ret2 rfl _ _ w.heap.size _ (by simp) HZ.out) rfl ?_
    exact ⟨rfl, HBZ.out⟩
  · have h1I : ¬ (256 : Int) < (m : Int) := by omega
    have HE : Hid (∀ q, (l.any fun vs => !(vs.length == len0 l)) = q → difE l a b = if q = true then 2 else if rngB (len0 l) a b = true then 3 else 0) := Lib.hid (fun q hq => by unfold difE; rw [if_neg (by rw [HML.out]; exact h1), hq])
    have HF : Hid (difA l a b = if difE l a b = 0 then fracA (difN l a b) l.length else fracZ) := Lib.hid rfl
    generalize difA l a b = vA at *
    generalize difE l a b = vE at *
    go_enter Tryd.func31, Tryd.ntmps31
    go_wp2
    clear c0 c1 f0 f1
    go_loopw [8] (fun i wr => ∃ j : Nat, j ≤ m ∧ i = .int .i64 j ∧ ((l.take j).any fun vs => !(vs.length == len0 l)) = false ∧ Below w.heap.size w wr ∧ Blk wr w.heap.size 37 #[.int .i64 0, .int .i64 0]) (fun i _ => m - (intOf i).toNat)
    case atStart => exact ⟨0, by omega, rfl, rfl, HBZ.out, HZ.out⟩
    case round =>
      obtain ⟨j, hj, rfl, hf, hb, hk⟩ := hrel
      have HFF := Lib.hid hf; have HB := Lib.hid hb; have HK := Lib.hid hk
      clear hf hb hk HZ HBZ
      by_cases hlt : j < m
      · have hjl : j < l.length := by rw [HML.out]; exact hlt
        obtain ⟨ad, A', c', rfl, hcell, hlt2, hR, hc1, hc2⟩ := H.out.2 j hjl
        have hcw := (HB.out.cell hlt2).trans hcell
        have hl00 : 0 < l.length := by omega
        obtain ⟨ad', A0, c0', e, hcell0, hlt0, _, _, _⟩ := H.out.2 0 hl00
        injection e with e
        subst e
        have hcw0 : wr.cell? ad = _ := (HB.out.cell hlt0).trans hcell0
        rw [len0_get hl00] at hcw0
        have hltI : (j : Int) < (m : Int) := by omega
        have hm0I : (0 : Int) < (m : Int) := by omega
        clear hR hcell hcell0
        by_cases hn : l[j].length = len0 l
        · have HN := Lib.hid (any_take_step hjl HFF.out hn)
          rw [hn] at hcw
          clear hn hc1
          have hnB : (((len0 l : Nat) : Int) != ((len0 l : Nat) : Int)) = false := by simp
          go_wp2
          go_region
          go_wp2
          go_roundw
          case rel => exact ⟨j + 1, by omega, by go_num, HN.out, HB.out.drew, HK.out.drew⟩
          case measure => simp [intOf]; omega
        · have hnB : ((l[j].length : Int) != ((len0 l : Nat) : Int)) = true := by rw [bne, beq_false_of_ne (by omega)]; rfl
          have HA : Hid ((l.any fun vs => !(vs.length == len0 l)) = true) := Lib.hid (List.any_eq_true.2 ⟨_, List.getElem_mem hjl, by simp [hn]⟩)
          generalize l[j].length = k at *
          have c0 := HK.out.cell 0
          have c1 := HK.out.cell 1
          have f0 := HK.out.frozen 0
          have f1 := HK.out.frozen 1
          simp only [List.getElem?_toArray, List.getElem?_cons_zero, List.getElem?_cons_succ] at c0 c1
          go_wp2
          go_region
          have k1 : Blk ((wr.drew.setCell ⟨w.heap.size, 0, none⟩ (.int .i64 0)).setCell ⟨w.heap.size, 1, none⟩ (.int .i64 0)) w.heap.size 37 #[.int .i64 0, .int .i64 0] := (HK.out.drew.set_ 0 (.int .i64 0)).set_ 1 (.int .i64 0)
          have HK1 := Lib.hid k1
          clear k1
          go_wp2
          refine bodyPost_ret (frac_ret2 rfl _ _ w.heap.size _ (by simp) HK1.out) rfl ?_
          have hE := HE.out _ HA.out
          rw [if_pos rfl] at hE
          refine ⟨?_, ((HB.out.drew.setCell (p := ⟨w.heap.size, 0, none⟩) (Nat.le_refl _) _).setCell (p := ⟨w.heap.size, 1, none⟩) (Nat.le_refl _) _)⟩
          rw [HF.out, hE]; rfl
      · obtain rfl : m = j := by omega
        have HA : Hid ((l.any fun vs => !(vs.length == len0 l)) = false) := Lib.hid (by have := HFF.out; rwa [List.take_of_length_le (by rw [HML.out]; exact Nat.le_refl _)] at this)
        have hE := HE.out _ HA.out
        rw [if_neg (by simp)] at hE
        have c0 := HK.out.cell 0
        have c1 := HK.out.cell 1
        have f0 := HK.out.frozen 0
        have f1 := HK.out.frozen 1
        simp only [List.getElem?_toArray, List.getElem?_cons_zero, List.getElem?_cons_succ] at c0 c1
        have hall : ∀ vs ∈ l, vs.length = len0 l := fun vs hv => by simpa using List.any_eq_false.1 HA.out vs hv
        have HE2 := Lib.hid hE
        clear hE
        have k1 : Blk ((wr.setCell ⟨w.heap.size, 0, none⟩ (.int .i64 0)).setCell ⟨w.heap.size, 1, none⟩ (.int .i64 0)) w.heap.size 37 #[.int .i64 0, .int .i64 0] := (HK.out.set_ 0 (.int .i64 0)).set_ 1 (.int .i64 0)
        have HK1 := Lib.hid k1
        clear k1
        rcases Nat.eq_zero_or_pos m with hm0 | hm0
        · have HV : Hid (vE = 3 ∧ vA = fracZ) := Lib.hid (by
            have e0 : len0 l = 0 := by
              obtain rfl := List.eq_nil_of_length_eq_zero (HML.out.trans hm0)
              rfl
            have hr : rngB (len0 l) a b = true := by
              rw [e0]; unfold rngB
              simp only [Bool.or_eq_true, decide_eq_true_iff]; omega
            have := HE2.out
            rw [hr, if_pos rfl] at this
            exact ⟨this, by rw [HF.out, this]; rfl⟩)
          obtain ⟨rfl, rfl⟩ := HV.out
          subst hm0
          go_wp2
          refine bodyPost_ret (frac_ret2 rfl _ _ w.heap.size _ (by simp) HK1.out) rfl ?_
          exact ⟨rfl, ((HB.out.setCell (p := ⟨w.heap.size, 0, none⟩) (Nat.le_refl _) _).setCell (p := ⟨w.heap.size, 1, none⟩) (Nat.le_refl _) _)⟩
        · have hm0I : ¬ (m : Int) = 0 := by omega
          have hm0B : ((m : Int) == 0) = false := beq_false_of_ne hm0I
          have hm0L : (0 : Int) < (m : Int) := by omega
          have hl00 : 0 < l.length := by rw [HML.out]; exact hm0
          obtain ⟨ad, A0, c0', rfl, hcell0, hlt0, _, hq1, hq2⟩ := H.out.2 0 hl00
          have hcw0 : wr.cell? ad = _ := (HB.out.cell hlt0).trans hcell0
          rw [len0_get hl00] at hcw0
          clear hcell0 hq1 hq2
          cases hr : rngB (len0 l) a b
          · obtain ⟨a0, a1, b0, b1⟩ := rng_false hr
            have hm3 : m ≤ 1000000 := by omega
            have hdf := refDiffer_any (some ad) m c l a b _ (H.out.later HB.out) (fun vs hv => by rw [hall vs hv]; exact ⟨a0, a1, b0, b1⟩) hm3
            have hle : difN l a b ≤ m := by have := bundN_le l (a, b, 0); rw [HML.out] at this; exact this
            have hlo := fun W => refLowest_any (difN l a b) m W hm0 (by omega) hm3
            have HV : Hid (vE = 0 ∧ vA = fracA (difN l a b) m) := Lib.hid (by
              have := HE2.out
              rw [hr, if_neg (by simp)] at this
              exact ⟨this, by rw [HF.out, this, if_pos rfl, HML.out]⟩)
            have HLO := Lib.hid hlo
            have g0 : decide (a < 0) = false := decide_eq_false (by omega)
            have g1 : decide (((len0 l : Nat) : Int) ≤ a) = false := decide_eq_false (by omega)
            have g2 : decide (b < 0) = false := decide_eq_false (by omega)
            have g3 : decide (((len0 l : Nat) : Int) ≤ b) = false := decide_eq_false (by omega)
            clear hr hall hlo HE HE2 HF HA HFF c0 c1 f0 f1 HK1
            generalize difN l a b = dn at *
            generalize len0 l = n0 at *
            go_wp2_with fail
            refine hdf.mono ?_
            rintro e w2 ⟨rfl, hb2⟩
            have hl2 := HLO.out w2
            have HB2 := Lib.hid (HB.out.trans (hb2.mono HB.out.size)); have HK2 := Lib.hid (HK.out.below hb2 HK.out.lt)
            clear hb2 hcw0
            go_wp2_with fail
            refine hl2.mono ?_
            rintro e w3 ⟨rfl, hb3⟩
            have HB3 := Lib.hid (HB2.out.trans (hb3.mono HB2.out.size)); have HK3 := Lib.hid (HK2.out.below hb3 HK2.out.lt)
            have c0 := HK3.out.cell 0
            have c1 := HK3.out.cell 1
            have f0 := HK3.out.frozen 0
            have f1 := HK3.out.frozen 1
            simp only [List.getElem?_toArray, List.getElem?_cons_zero, List.getElem?_cons_succ] at c0 c1
            clear hb3
            obtain ⟨rfl, rfl⟩ := HV.out
            go_wp2
            have k1 : Blk _ w.heap.size 37 #[.int .i64 ((lowN dn m : Nat) : Int), .int .i64 ((lowD dn m : Nat) : Int)] := (HK3.out.set_ 0 (.int .i64 ((lowN dn m : Nat) : Int))).set_ 1 (.int .i64 ((lowD dn m : Nat) : Int))
            refine bodyPost_ret (frac_ret2 rfl _ _ w.heap.size _ (by simp) k1) rfl ?_
            exact ⟨rfl, ((HB3.out.setCell (p := ⟨w.heap.size, 0, none⟩) (Nat.le_refl _) _).setCell (p := ⟨w.heap.size, 1, none⟩) (Nat.le_refl _) _)⟩
          · have HV : Hid (vE = 3 ∧ vA = fracZ) := Lib.hid (by
              have := HE2.out
              rw [hr, if_pos rfl] at this
              exact ⟨this, by rw [HF.out, this]; rfl⟩)
            have hcase : a < 0 ∨ (0 ≤ a ∧ ((len0 l : Nat) : Int) ≤ a) ∨ (0 ≤ a ∧ a < ((len0 l : Nat) : Int) ∧ b < 0) ∨ (0 ≤ a ∧ a < ((len0 l : Nat) : Int) ∧ 0 ≤ b ∧ ((len0 l : Nat) : Int) ≤ b) := by
              unfold rngB at hr
              simp only [Bool.or_eq_true, decide_eq_true_iff] at hr
              omega
            obtain ⟨rfl, rfl⟩ := HV.out
            clear hr hall HE HE2 HF HA HFF HV
            generalize len0 l = n0 at *
            rcases hcase with h | ⟨h, h2⟩ | ⟨h, h2, h3⟩ | ⟨h, h2, h3, h4⟩
            · have g0 : decide (a < 0) = true := decide_eq_true h
              go_wp2
              refine bodyPost_ret (frac_ret2 rfl _ _ w.heap.size _ (by simp) HK1.out) rfl ?_
              exact ⟨rfl, ((HB.out.setCell (p := ⟨w.heap.size, 0, none⟩) (Nat.le_refl _) _).setCell (p := ⟨w.heap.size, 1, none⟩) (Nat.le_refl _) _)⟩
            · have g0 : decide (a < 0) = false := decide_eq_false (by omega)
              have g1 : decide ((n0 : Int) ≤ a) = true := decide_eq_true h2
              go_wp2
              refine bodyPost_ret (frac_ret2 rfl _ _ w.heap.size _ (by simp) HK1.out) rfl ?_
              exact ⟨rfl, ((HB.out.setCell (p := ⟨w.heap.size, 0, none⟩) (Nat.le_refl _) _).setCell (p := ⟨w.heap.size, 1, none⟩) (Nat.le_refl _) _)⟩
            · have g0 : decide (a < 0) = false := decide_eq_false (by omega)
              have g1 : decide ((n0 : Int) ≤ a) = false := decide_eq_false (by omega)
              have g2 : decide (b < 0) = true := decide_eq_true h3
              go_wp2
              refine bodyPost_ret (frac_ret2 rfl _ _ w.heap.size _ (by simp) HK1.out) rfl ?_
              exact ⟨rfl, ((HB.out.setCell (p := ⟨w.heap.size, 0, none⟩) (Nat.le_refl _) _).setCell (p := ⟨w.heap.size, 1, none⟩) (Nat.le_refl _) _)⟩
            · have g0 : decide (a < 0) = false := decide_eq_false (by omega)
              have g1 : decide ((n0 : Int) ≤ a) = false := decide_eq_false (by omega)
              have g2 : decide (b < 0) = false := decide_eq_false (by omega)
              have g3 : decide ((n0 : Int) ≤ b) = true := decide_eq_true h4
              go_wp2
              refine bodyPost_ret (frac_ret2 rfl _ _ w.heap.size _ (by simp) HK1.out) rfl ?_
              exact ⟨rfl, ((HB.out.setCell (p := ⟨w.heap.size, 0, none⟩) (Nat.le_refl _) _).setCell (p := ⟨w.heap.size, 1, none⟩) (Nat.le_refl _) _)⟩
end Go.Proofs.YtgimhjkijpcgjaaDoor
