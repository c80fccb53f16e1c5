/-
 layer 26: Check of a history with its forms. Conditions: what can be read.
-/
import Derived.Test.YtmepaeahchiglaaGreatDoorZdaz
set_option maxRecDepth 20000
set_option maxHeartbeats 4000000
set_option linter.unusedSimpArgs false
namespace Go.Proofs.YtmepaeahchiglaaGreatDoor
open Go.RowKit Go.Lib
def oq (n : Nat) (x : En) : Bool := decide (x.bU.length = n) && bS x.bU
def jJ (n : Nat) (es : List En) : Int := if es.all (oq n) = true then (if es.all (fun x => aM x.bX) = true then 0 else 15) else 2
theorem kW {α : Type} {f : α → Bool} {l : List α} {k : Nat} (hk : k < l.length) (h : (l.take k).all f = true) : (l.take (k + 1)).all f = f l[k] ∧ (f l[k] = false → l.all f = false) := by
 constructor
 ·rw [List.take_succ_eq_append_getElem hk, List.all_append, h]; simp
 ·intro e
  rw [List.all_eq_false]
  exact ⟨_, List.getElem_mem hk, by rw [e]; decide⟩
theorem Cc (v : Value) (m B : Nat) (es : List En) (w : World) (h : aP tN 2 w B es v) (hB : B ≤ w.heap.size) (hs : ∀ x ∈ es, x.bX.size ≤ maxLen) :
 Calls Tryz.prog 132 #[v, .int .i64 (m : Int)] w fun e w' => e = .returned (.int .i64 (jJ m es)) ∧ Below w.heap.size w w' := by
 obtain ⟨A, n, c, rfl, -⟩ := h.form
 obtain ⟨hn, hn1, hn2⟩ := h.len
 unfold maxLen at hn2
 obtain ⟨r, hr⟩ : ∃ r, jJ m es = r := ⟨_, rfl⟩
 rw [hr]
 unfold jJ at hr
 have HR := qh hr; have HS := qh h; have HN := qh hn; have HG := qh hs
 clear hr h hn hs
 go_enter Tryz.func132, Tryz.ntmps132
 go_wp2
 go_loopw [11] (fun i wr => ∃ k : Nat, k ≤ n ∧ i = .int .i64 k ∧ (es.take k).all (oq m) = true ∧ Below w.heap.size w wr) (fun i _ => n - (RowKit.intOf i).toNat)
 case atStart => exact ⟨0, by omega, rfl, by simp, Below.refl _ _⟩
 case round =>
  obtain ⟨k, hk, rfl, aS, hb⟩ := hrel
  have cu := qh aS; have HB := qh hb
  clear aS hb
  by_cases hlt : k < n
  ·have bB : k < es.length := by have := HN.out; omega
   have cB : (k : Int) < (n : Int) := by omega
   have hk0 : (0 : Int) ≤ (k : Int) := by omega
   have hkeep : ∀ p : Addr, p.block < B → wr.cell? p = w.cell? p := fun p hp => HB.out.cell (Nat.lt_of_lt_of_le hp hB)
   obtain ⟨ad, cs, rfl, had, hP, aC⟩ := aW qZ (aP.plain hkeep HS.out (fun _ _ h => tN.keep hkeep h)) bB
   obtain ⟨v, rfl, hv⟩ := hP
   obtain ⟨Ax, nx, cx, rfl, dU⟩ := hv.form
   have e0 := aC 0 _ rfl
   have e1 := aC 1 _ rfl
   rw [Nat.add_zero] at e0
   rw [aH ad (k * 2) 0] at e1
   obtain ⟨aF, aY⟩ := kW bB cu.out
   generalize es[k] = x at *
   have aF : (es.take (k + 1)).all (oq m) = (decide (nx = m) && bS x.bU) := by rw [aF, dU]; rfl
   have aY : (decide (nx = m) && bS x.bU) = false → es.all (oq m) = false := fun e => aY (by rw [← e, dU]; rfl)
   obtain ⟨gl, fl⟩ := x
   simp only [] at *
   have lH := HB.out.alloc HB.out.size (.cells #[.string gl, .slice Ax nx cx] 84)
   have oM : ∀ p : Addr, p.block < B → (wr.alloc (.cells #[.string gl, .slice Ax nx cx] 84)).cell? p = wr.cell? p := fun p hp => World.cell?_alloc_lt wr _ p (by have := HB.out.size; omega)
   have hc := yF _ B fl (wr.alloc (.cells #[.string gl, .slice Ax nx cx] 84)) (aP.plain oM hv (fun _ _ h => bn.keep oM h)) (by rw [World.size_alloc]; have := HB.out.size; omega)
   obtain ⟨q, hq⟩ : ∃ q, bS fl = q := ⟨_, rfl⟩
   rw [hq] at hc aF aY
   have HC := qh hc; have bL := qh aF; have dX := qh aY; have fZ := qh lH
   clear aF aY aC hkeep hv hc lH oM dU hq
   by_cases hm : nx = m
   ·have Qg : ((nx : Int) != (m : Int)) = false := by rw [hm]; simp
    have aF := bL.out; have aY := dX.out
    rw [decide_eq_true hm, Bool.true_and] at aF aY
    have bL := qh aF; have dX := qh aY
    clear hm aF aY
    go_wp2_with fail
    refine HC.out.mono ?_
    rintro e w2 ⟨rfl, hb2⟩
    have HB2 := qh (fZ.out.trans (hb2.mono fZ.out.size))
    clear hb2
    cases q with
    | true =>
      go_wp2
      go_roundw
      case rel => exact ⟨k + 1, by omega, by go_num, bL.out, HB2.out⟩
      case measure => simp [RowKit.intOf]; omega
    | false =>
      obtain rfl : r = 2 := by rw [← HR.out, if_neg (by rw [dX.out rfl]; decide)]
      go_wp2
      go_ret
      exact ⟨rfl, HB2.out⟩
   ·have Qg : ((nx : Int) != (m : Int)) = true := by rw [bne_iff_ne]; omega
    obtain rfl : r = 2 := by rw [← HR.out, if_neg (by rw [dX.out (by rw [decide_eq_false hm]; rfl)]; decide)]
    clear hm
    go_wp2
    go_ret
    exact ⟨rfl, fZ.out⟩
  ·obtain rfl : k = n := by omega
   have aS := cu.out
   rw [List.take_of_length_le (by have := HN.out; omega)] at aS
   have hr := HR.out
   rw [if_pos aS] at hr
   have HR2 := qh hr
   obtain ⟨wo, rfl⟩ : ∃ W, W = wr := ⟨_, rfl⟩
   have HBo := HB
   clear aS hr HR cu HB
   go_wp2
   go_loopw [29] (fun i wr => ∃ j : Nat, j ≤ k ∧ i = .int .i64 j ∧ (es.take j).all (fun x => aM x.bX) = true ∧ Below w.heap.size w wr) (fun i _ => k - (RowKit.intOf i).toNat)
   case atStart => exact ⟨0, by omega, rfl, by simp, HBo.out⟩
   case round =>
    obtain ⟨j, hj, rfl, aS, hb⟩ := hrel
    have cu := qh aS; have HB := qh hb
    clear aS hb
    by_cases hlt2 : j < k
    ·have bB : j < es.length := by have := HN.out; omega
     have JU : (j : Int) < (k : Int) := by omega
     have hj0 : (0 : Int) ≤ (j : Int) := by omega
     have hkeep : ∀ p : Addr, p.block < B → wr.cell? p = w.cell? p := fun p hp => HB.out.cell (Nat.lt_of_lt_of_le hp hB)
     obtain ⟨ad, cs, rfl, had, hP, aC⟩ := aW qZ (aP.plain hkeep HS.out (fun _ _ h => tN.keep hkeep h)) bB
     obtain ⟨v, rfl, hv⟩ := hP
     obtain ⟨Ax, nx, cx, rfl, dU⟩ := hv.form
     have e0 := aC 0 _ rfl
     have e1 := aC 1 _ rfl
     rw [Nat.add_zero] at e0
     rw [aH ad (j * 2) 0] at e1
     obtain ⟨aF, aY⟩ := kW bB cu.out
     have hgl := HG.out _ (List.getElem_mem bB)
     generalize es[j] = x at *
     obtain ⟨gl, fl⟩ := x
     simp only [] at *
     have lH := HB.out.alloc HB.out.size (.cells #[.string gl, .slice Ax nx cx] 84)
     have hc := Ey gl (wr.alloc (.cells #[.string gl, .slice Ax nx cx] 84)) hgl
     obtain ⟨q, hq⟩ : ∃ q, aM gl = q := ⟨_, rfl⟩
     rw [hq] at hc aF aY
     have HC := qh hc; have bL := qh aF; have dX := qh aY; have fZ := qh lH
     clear aF aY aC hkeep hv hc lH dU hq
     go_wp2_with fail
     refine HC.out.mono ?_
     rintro e w2 ⟨rfl, hb2⟩
     have HB2 := qh (fZ.out.trans (hb2.mono fZ.out.size))
     clear hb2
     cases q with
     | true =>
       go_wp2
       go_roundw
       case rel => exact ⟨j + 1, by omega, by go_num, bL.out, HB2.out⟩
       case measure => simp [RowKit.intOf]; omega
     | false =>
       obtain rfl : r = 15 := by rw [← HR2.out, if_neg (by rw [dX.out rfl]; decide)]
       go_wp2
       go_ret
       exact ⟨rfl, HB2.out⟩
    ·obtain rfl : j = k := by omega
     have aS := cu.out
     rw [List.take_of_length_le (by have := HN.out; omega)] at aS
     obtain rfl : r = 0 := by rw [← HR2.out, if_pos aS]
     clear aS
     go_wp2
     go_ret
     exact ⟨rfl, HB.out⟩
theorem vU {l : List En} {k : Nat} (hk : k < l.length) (h : iT (l.take k) = 0) : iT (l.take (k + 1)) = aV l[k].bU ∧ (aV l[k].bU ≠ 0 → iT l = aV l[k].bU) := by
 have hc : ∀ (x : En) (l : List En), iT (x :: l) = if aV x.bU = 0 then iT l else aV x.bU := fun _ _ => rfl
 have hap : ∀ (a b : List En), iT a = 0 → iT (a ++ b) = iT b := by
  intro a b
  induction a with
  | nil => intro _; rfl
  | cons x a ih =>
    intro h
    rw [List.cons_append]
    rw [hc] at h ⊢
    by_cases e : aV x.bU = 0
    ·rw [if_pos e] at h ⊢; exact ih h
    ·rw [if_neg e] at h; exact absurd h e
 constructor
 ·rw [List.take_succ_eq_append_getElem hk, hap _ _ h, hc]
  split
  ·rename_i e; exact e.symm
  ·rfl
 ·intro hne
  have e : l = l.take k ++ l[k] :: l.drop (k + 1) := by rw [← List.drop_eq_getElem_cons hk, List.take_append_drop]
  conv => lhs; rw [e]
  rw [hap _ _ h, hc, if_neg hne]
theorem Fs (t : List Nd) (au : List Lw) (on : List (List Int)) (aA : List Fm) (es : List En) : Ex t au on aA es =
 if dN t au on = 0 then (if 256 < es.length then 12 else if aA.length = es.length ∧ bS aA = true then (if jJ (jG t).length es = 0 then (if aV aA = 0 then iT es else aV aA) else jJ (jG t).length es) else 2) else dN t au on := by
 unfold Ex jJ
 have e : (es.all fun x => decide (x.bU.length = (jG t).length) && bS x.bU) = es.all (oq (jG t).length) := rfl
 rw [e]
 by_cases h1 : es.all (oq (jG t).length) = true
 ·by_cases h2 : es.all (fun x => aM x.bX) = true
  ·simp only [h1, h2, if_true]
  ·simp only [h1, h2, if_true]; simp
 ·simp only [h1]; simp
theorem Ew (v4 v5 v6 v7 v8 : Value) (B : Nat) (t : List Nd) (au : List Lw) (on : List (List Int)) (aA : List Fm) (es : List En) (w : World) (h4 : aP Ho 2 w B t v4) (h5 : aP fI 18 w B au v5) (h6 : aP si 1 w B on v6) (h7 : aP bn 2 w B aA v7) (h8 : aP tN 2 w B es v8) (hB : B ≤ w.heap.size) (hs : ∀ x ∈ t, x.2.size ≤ maxLen) (hln : ∀ l ∈ au, l.name.size ≤ maxLen) (hon : ∀ l ∈ on, l.length ≤ 1000000000) (hg : ∀ x ∈ es, x.bX.size ≤ maxLen) (hop : ∀ f ∈ aA, ∀ s ∈ f.w, ok32 s) (hoe : ∀ x ∈ es, ∀ f ∈ x.bU, ∀ s ∈ f.w, ok32 s) :
 Calls Tryz.prog 61 #[.agg #[v4, v5, v6], v7, v8] w fun e w' => e = .returned (.int .i64 (Ex t au on aA es)) ∧ Below w.heap.size w w' := by
 obtain ⟨A4, m4, c4, rfl, -⟩ := h4.form
 obtain ⟨A5, m5, c5, rfl, -⟩ := h5.form
 obtain ⟨A6, m6, c6, rfl, -⟩ := h6.form
 obtain ⟨A7, m7, c7, rfl, e7⟩ := h7.form
 obtain ⟨A8, m8, c8, rfl, e8⟩ := h8.form
 have hm8 := h8.len.2.1
 have OJ := h8.len.2.2
 have hm7 := h7.len.2.1
 have OL := h7.len.2.2
 unfold maxLen at OJ OL
 obtain ⟨r, aU⟩ : ∃ r, Ex t au on aA es = r := ⟨_, rfl⟩
 rw [aU]
 rw [Fs] at aU
 have hb0 := (Below.refl w.heap.size w).alloc (Nat.le_refl _) (.cells #[.slice A4 m4 c4, .slice A5 m5 c5, .slice A6 m6 c6] 29)
 have hk0 := Blk.new w 29 #[.slice A4 m4 c4, .slice A5 m5 c5, .slice A6 m6 c6]
 have dP := fun (W : World) (hW : Below w.heap.size w W) => fun (p : Addr) (hp : p.block < B) => hW.cell (p := p) (Nat.lt_of_lt_of_le hp hB)
 have hle := fun (W : World) (hW : Below w.heap.size w W) => Nat.le_trans hB hW.size
 have c1 := fun (W : World) (hW : Below w.heap.size w W) => wZ _ _ _ B t au on W (aP.plain (dP W hW) h4 (fun _ _ h => h)) (aP.plain (dP W hW) h5 (fun _ _ h => h.keep (dP W hW))) (aP.plain (dP W hW) h6 (fun _ _ h => si.keep (dP W hW) h)) (hle W hW) hs hln hon
 have c2 := fun (W : World) (hW : Below w.heap.size w W) => ED _ B t W (aP.plain (dP W hW) h4 (fun _ _ h => h)) (hle W hW) hs
 have c3 := fun (W : World) (hW : Below w.heap.size w W) => yF _ B aA W (aP.plain (dP W hW) h7 (fun _ _ h => bn.keep (dP W hW) h)) (hle W hW)
 have Ci := fun (W : World) (hW : Below w.heap.size w W) => Cc _ (jG t).length B es W (aP.plain (dP W hW) h8 (fun _ _ h => tN.keep (dP W hW) h)) (hle W hW) hg
 have CK := fun (W : World) (hW : Below w.heap.size w W) => xD _ B aA W (aP.plain (dP W hW) h7 (fun _ _ h => bn.keep (dP W hW) h)) (hle W hW) hop
 have zP := fun (W : World) (hW : Below w.heap.size w W) (x : En) (hx : x ∈ es) (v : Value) (hv : aP bn 2 W B x.bU v) => xD v B x.bU W hv (hle W hW) (hoe x hx)
 have h8' := fun (W : World) (hW : Below w.heap.size w W) => aP.plain (dP W hW) h8 (fun _ _ h => tN.keep (dP W hW) h)
 have C1 := qh (c1 _ hb0); have C2 := qh c2; have C3 := qh c3; have C4 := qh Ci; have C5 := qh CK; have C6 := qh zP; have H8 := qh h8'; have Hu := qh dP
 have dA := qh aU; have E7 := qh e7; have E8 := qh e8; have HB0 := qh hb0; have jg := qh hk0
 have g0 := hk0.cell 0
 have g1 := hk0.cell 1
 have g2 := hk0.cell 2
 simp only [gq2] at g0 g1 g2
 have hp := fun (W : World) (hW : Below w.heap.size w W) (hW2 : Blk W w.heap.size 29 #[.slice A4 m4 c4, .slice A5 m5 c5, .slice A6 m6 c6]) => hW2.cell 0
 have HP := qh hp
 obtain ⟨hle0, hlt0⟩ : w.heap.size ≤ (w.alloc (.cells #[.slice A4 m4 c4, .slice A5 m5 c5, .slice A6 m6 c6] 29)).heap.size ∧ w.heap.size < (w.alloc (.cells #[.slice A4 m4 c4, .slice A5 m5 c5, .slice A6 m6 c6] 29)).heap.size := by simp
 clear h4 h5 h6 h7 h8 c1 c2 c3 Ci CK zP h8' dP hle hs hln hon hg hop hoe aU e7 e8 hb0 hk0 hp
 go_enter Tryz.func61, Tryz.ntmps61
 go_wp2_with fail
 refine C1.out.mono ?_
 rintro e w1 ⟨rfl, hb1⟩
 have HB1 := qh (HB0.out.trans (hb1.mono HB0.out.size)); have jr := qh (jg.out.below hb1 hlt0)
 clear hb1 g0 g1 g2 C1
 by_cases hh : dN t au on = 0
 case neg =>
  have WU : (dN t au on != (0 : Int)) = true := by rw [bne_iff_ne]; exact hh
  obtain rfl : r = dN t au on := by rw [← dA.out, if_neg hh]
  clear hh
  go_wp2
  go_ret
  exact ⟨rfl, HB1.out⟩
 have WU : (dN t au on != (0 : Int)) = false := by rw [hh]; rfl
 have aU := dA.out
 rw [if_pos hh] at aU
 have dA := qh aU
 have HT := qh (rY hh).1
 have g0 := jr.out.cell 0
 simp only [gq2] at g0
 clear hh aU
 go_wp2_with fail
 refine (C2.out w1 HB1.out HT.out).mono ?_
 rintro e w2 ⟨AL, cL, rfl, hb2⟩
 have HB2 := qh (HB1.out.trans (hb2.mono HB1.out.size))
 obtain ⟨nl, hnl⟩ : ∃ nl, (jG t).length = nl := ⟨_, rfl⟩
 have hc4 := C4.out
 have aU := dA.out
 rw [hnl] at hc4 aU ⊢
 have C4 := qh hc4; have dA := qh aU
 clear hb2 g0 hc4 hnl
 by_cases h256 : 256 < m8
 ·have vK : (256 : Int) < (m8 : Int) := by omega
  obtain rfl : r = 12 := by rw [← aU, if_pos (by rw [← E8.out]; exact h256)]
  clear aU h256
  go_wp2
  go_ret
  exact ⟨rfl, HB2.out⟩
 have vK : ¬ (256 : Int) < (m8 : Int) := by omega
 rw [if_neg (by rw [← E8.out]; exact h256)] at aU
 have dA := qh aU
 clear aU h256
 by_cases h78 : m7 = m8
 case neg =>
  have Ka : ((m7 : Int) != (m8 : Int)) = true := by rw [bne_iff_ne]; omega
  obtain rfl : r = 2 := by rw [← dA.out, if_neg (fun h => h78 (by rw [E7.out, E8.out]; exact h.1))]
  clear h78
  go_wp2
  go_ret
  exact ⟨rfl, HB2.out⟩
 have Ka : ((m7 : Int) != (m8 : Int)) = false := by rw [h78]; simp
 clear h78
 go_wp2_with fail
 refine (C3.out w2 HB2.out).mono ?_
 rintro e w3 ⟨rfl, hb3⟩
 have HB3 := qh (HB2.out.trans (hb3.mono HB2.out.size))
 have aU := dA.out
 have h78 : aA.length = es.length := by
  rw [← E7.out, ← E8.out]
  by_cases e : m7 = m8
  ·exact e
  ·rw [bne_eq_false_iff_eq] at Ka; omega
 have hq1 : bS aA = false → r = 2 := fun e => by rw [← aU, if_neg (fun h => by rw [e] at h; exact absurd h.2 (by decide))]
 have hq2 := fun e : bS aA = true => (by rw [if_pos ⟨h78, e⟩] at aU; exact aU : (if jJ nl es = 0 then if aV aA = 0 then iT es else aV aA else jJ nl es) = r)
 obtain ⟨q, hq⟩ : ∃ q, bS aA = q := ⟨_, rfl⟩
 rw [hq] at hq1 hq2 ⊢
 have MV := qh hq1; have Cw := qh hq2
 clear hb3 aU h78 hq hq1 hq2
 cases q with
 | false =>
   obtain rfl : r = 2 := MV.out rfl
   go_wp2
   go_ret
   exact ⟨rfl, HB3.out⟩
 | true =>
   have dA := qh (Cw.out rfl)
   go_wp2_with fail
   refine (C4.out w3 HB3.out).mono ?_
   rintro e w4 ⟨rfl, hb4⟩
   have tK := qh (HB3.out.trans (hb4.mono HB3.out.size))
   clear hb4
   obtain ⟨a, ha⟩ : ∃ a, jJ nl es = a := ⟨_, rfl⟩
   have aU := dA.out
   rw [ha] at aU ⊢
   have dA := qh aU
   clear aU ha
   by_cases hz : a = 0
   case neg =>
    have vE : (a != (0 : Int)) = true := by rw [bne_iff_ne]; exact hz
    obtain rfl : r = a := by rw [← dA.out, if_neg hz]
    clear hz
    go_wp2
    go_ret
    exact ⟨rfl, tK.out⟩
   have vE : (a != (0 : Int)) = false := by rw [hz]; rfl
   have aU := dA.out
   rw [if_pos hz] at aU
   have dA := qh aU
   clear aU hz
   go_wp2_with fail
   refine (C5.out w4 tK.out).mono ?_
   rintro e w5 ⟨rfl, hb5⟩
   have mh := qh (tK.out.trans (hb5.mono tK.out.size))
   clear hb5
   obtain ⟨d, hd⟩ : ∃ d, aV aA = d := ⟨_, rfl⟩
   have aU := dA.out
   rw [hd] at aU ⊢
   have dA := qh aU
   clear aU hd
   by_cases hz : d = 0
   case neg =>
    have Wn : (d != (0 : Int)) = true := by rw [bne_iff_ne]; exact hz
    obtain rfl : r = d := by rw [← dA.out, if_neg hz]
    clear hz
    go_wp2
    go_ret
    exact ⟨rfl, mh.out⟩
   have Wn : (d != (0 : Int)) = false := by rw [hz]; rfl
   have aU := dA.out
   rw [if_pos hz] at aU
   have dA := qh aU
   clear aU hz
   go_wp2
   go_loopw [55] (fun i wr => ∃ k : Nat, k ≤ m8 ∧ i = .int .i64 k ∧ iT (es.take k) = 0 ∧ Below w.heap.size w wr) (fun i _ => m8 - (RowKit.intOf i).toNat)
   case atStart => exact ⟨0, by omega, rfl, by rw [List.take_zero]; rfl, mh.out⟩
   case round =>
    obtain ⟨k, hk, rfl, aS, hb⟩ := hrel
    have cu := qh aS; have HB := qh hb
    clear aS hb
    by_cases hlt : k < m8
    ·have bB : k < es.length := by have := E8.out; omega
     have cB : (k : Int) < (m8 : Int) := by omega
     have hk0 : (0 : Int) ≤ (k : Int) := by omega
     obtain ⟨ad, cs, rfl, had, hP, aC⟩ := aW qZ (H8.out wr HB.out) bB
     obtain ⟨v, rfl, hv⟩ := hP
     obtain ⟨Ax, nx, cx, rfl, -⟩ := hv.form
     have e0 := aC 0 _ rfl
     have e1 := aC 1 _ rfl
     rw [Nat.add_zero] at e0
     rw [aH ad (k * 2) 0] at e1
     obtain ⟨aF, aY⟩ := vU bB cu.out
     have hmem : es[k] ∈ es := List.getElem_mem bB
     generalize es[k] = x at *
     obtain ⟨gl, fl⟩ := x
     simp only [] at *
     have lH := HB.out.alloc HB.out.size (.cells #[.string gl, .slice Ax nx cx] 84)
     have oM : ∀ p : Addr, p.block < B → (wr.alloc (.cells #[.string gl, .slice Ax nx cx] 84)).cell? p = wr.cell? p := fun p hp => World.cell?_alloc_lt wr _ p (by have := HB.out.size; omega)
     have hc := C6.out _ lH _ hmem _ (aP.plain oM hv (fun _ _ h => bn.keep oM h))
     simp only [] at hc
     obtain ⟨b, hb⟩ : ∃ b, aV fl = b := ⟨_, rfl⟩
     rw [hb] at hc aF aY
     have HC := qh hc; have bL := qh aF; have dX := qh aY; have fZ := qh lH
     clear aF aY aC hv hc lH oM hb hmem
     go_wp2_with fail
     refine HC.out.mono ?_
     rintro e w7 ⟨rfl, hb7⟩
     have Ir := qh (fZ.out.trans (hb7.mono fZ.out.size))
     clear hb7
     by_cases hz : b = 0
     ·have Wo : (b != (0 : Int)) = false := by rw [hz]; rfl
      have aF := bL.out
      rw [hz] at aF
      have dz := qh aF
      clear hz aF
      go_wp2
      go_roundw
      case rel => exact ⟨k + 1, by omega, by go_num, dz.out, Ir.out⟩
      case measure => simp [RowKit.intOf]; omega
     ·have Wo : (b != (0 : Int)) = true := by rw [bne_iff_ne]; exact hz
      obtain rfl : r = b := dA.out.symm.trans (dX.out hz)
      clear hz
      go_wp2
      go_ret
      exact ⟨rfl, Ir.out⟩
    ·obtain rfl : k = m8 := by omega
     have aS := cu.out
     rw [List.take_of_length_le (by have := E8.out; omega)] at aS
     obtain rfl : r = 0 := dA.out.symm.trans aS
     clear aS
     go_wp2
     go_ret
     exact ⟨rfl, HB.out⟩
theorem BC (n i : Nat) (hn : n ≤ 32) : (4294967295 - (2 ^ n - 1)).testBit i = (decide (i < 32) && !decide (i < n)) := by
 have hp : 0 < 2 ^ n := Nat.two_pow_pos n
 have hle : 2 ^ n ≤ 2 ^ 32 := Nat.pow_le_pow_right (by decide) hn
 have e : 4294967295 - (2 ^ n - 1) = 2 ^ 32 - ((2 ^ n - 1) + 1) := by omega
 rw [e, Nat.testBit_two_pow_sub_succ (by omega), Nat.testBit_two_pow_sub_one]
theorem mask0 {o n : Nat} (ho : o < 4294967296) (hn : n ≤ 32) : o &&& (4294967295 - (2 ^ n - 1)) = 0 ↔ o < 2 ^ n := by
 constructor
 ·intro h
  refine Nat.lt_pow_two_of_testBit _ fun i hi => ?_
  by_cases h32 : i < 32
  ·have hb := congrArg (fun x => x.testBit i) h
   simp only [Nat.testBit_and, BC n i hn, Nat.zero_testBit, decide_eq_true h32, decide_eq_false (show ¬ i < n by omega), Bool.not_false, Bool.and_self, Bool.and_true] at hb
   exact hb
  ·exact Nat.testBit_lt_two_pow (Nat.lt_of_lt_of_le ho (Nat.pow_le_pow_right (n := 2) (by decide) (show 32 ≤ i by omega)))
 ·intro h
  refine Nat.eq_of_testBit_eq fun i => ?_
  rw [Nat.zero_testBit, Nat.testBit_and, BC n i hn]
  by_cases hi : i < n
  ·rw [decide_eq_true hi]; simp
  ·rw [Nat.testBit_lt_two_pow (Nat.lt_of_lt_of_le h (Nat.pow_le_pow_right (by decide) (by omega)))]; rfl
theorem zf {n : Nat} (hn : n ≤ 24) : ((2 : Int) ^ n - 1) % 4294967296 = ((2 ^ n - 1 : Nat) : Int) := by
 have hp : 0 < 2 ^ n := Nat.two_pow_pos n
 have hle : 2 ^ n ≤ 2 ^ 24 := Nat.pow_le_pow_right (by decide) hn
 have e : ((2 : Int) ^ n) = ((2 ^ n : Nat) : Int) := by simp
 rw [e]
 omega
theorem Cj {w : World} {S : Nat → Prop} {g : Nat} {fs : List ByteArray} {L : List fw} (s : Snd) (h : gU w S g fs L) (hs : ok32 s) : Calls Tryz.prog 211 #[af g, jy s] w fun e w' => e = .returned (.bool (dJ fs.length s)) ∧ Below w.heap.size w w' := by
 obtain ⟨A, c, A2, c2, b1, b2, b3, f2, f3, h1, -, -, -, -⟩ := h.parts
 have hf24 := h.ok.f24
 have hgl := h1.lt
 have c0 := h1.cell 0
 simp only [gq2] at c0
 have e1 := u32_and_nat s.1 s.2 hs.1 hs.2
 have e2 := u32_or_nat s.1 s.2 hs.1 hs.2
 have h32 : s.1 ||| s.2 < 4294967296 := Nat.or_lt_two_pow (n := 32) hs.1 hs.2
 have hp := zf hf24
 have hm : 2 ^ fs.length - 1 < 4294967296 := by have := Nat.pow_le_pow_right (n := 2) (by decide) hf24; omega
 have e3 := u32_andNot_nat (s.1 ||| s.2) (2 ^ fs.length - 1) h32 hm
 have hq := mask0 h32 (show fs.length ≤ 32 by omega)
 obtain ⟨r, hr⟩ : ∃ r, dJ fs.length s = r := ⟨_, rfl⟩
 rw [hr]
 have hr' : decide (s.1 &&& s.2 = 0 ∧ (s.1 ||| s.2) &&& (4294967295 - (2 ^ fs.length - 1)) = 0) = r := by
  rw [← hr]; exact decide_eq_decide.2 (and_congr_right fun _ => hq)
 replace hr := hr'
 clear hr'
 generalize fs.length = n at *
 obtain ⟨x, y⟩ := s
 simp only [] at *
 clear h1 h hs hq
 generalize (x ||| y) &&& (4294967295 - (2 ^ n - 1)) = q at *
 generalize 2 ^ n - 1 = m at *
 generalize x ||| y = o at *
 generalize x &&& y = a at *
 by_cases ha : a = 0
 ·subst ha
  by_cases hq0 : q = 0
  ·subst hq0
   obtain rfl : r = true := by rw [← hr]; simp
   clear hr
   go_enter Tryz.func211, Tryz.ntmps211
   go_wp2
   go_ret
   exact ⟨rfl, (Below.refl _ _).alloc (Nat.le_refl _) _⟩
  ·obtain rfl : r = false := by rw [← hr]; simp [hq0]
   have WB : ((q : Int) == 0) = false := by rw [beq_eq_false_iff_ne]; omega
   clear hr hq0
   go_enter Tryz.func211, Tryz.ntmps211
   go_wp2
   go_ret
   exact ⟨rfl, (Below.refl _ _).alloc (Nat.le_refl _) _⟩
 ·obtain rfl : r = false := by rw [← hr]; simp [ha]
  have Y4 : ((a : Int) == 0) = false := by rw [beq_eq_false_iff_ne]; omega
  clear hr ha
  go_enter Tryz.func211, Tryz.ntmps211
  go_wp2
  go_ret
  exact ⟨rfl, (Below.refl _ _).alloc (Nat.le_refl _) _⟩
theorem GN {w : World} {S : Nat → Prop} {g : Nat} {fs : List ByteArray} {L : List fw} (h : gU w S g fs L) : Calls Tryz.prog 173 #[af g] w fun e w' => ∃ v, e = .returned v ∧ w'.ownsRow w.heap.size 9 1 v fs.length (fs.map Value.string) ∧ Below w.heap.size w w' := by
 obtain ⟨A, c, A2, c2, b1, b2, b3, f2, f3, h1, hr, -, -, -⟩ := h.parts
 have c0 := h1.cell 0
 simp only [gq2] at c0
 have hm := vo h
 have hc := oP A fs.length c _ w w.heap.size hr (mE fs) (Nat.le_refl _) (by have := h.ok.f24; omega)
 have HM := qh hm; have HC := qh hc
 clear h1 h hr hm hc
 go_enter Tryz.func173, Tryz.ntmps173
 go_wp2_with (go_at_call 208; refine HM.out.mono ?_; rintro e w' ⟨rfl, rfl⟩)
 refine HC.out.mono ?_
 rintro e w1 ⟨v, rfl, ho, hb⟩
 have HO := qh ho; have HB := qh hb
 clear ho hb
 go_wp2
 go_ret
 exact ⟨_, rfl, HO.out, HB.out⟩
theorem CZ : EE 207 dG := ⟨enters_of Tryz.func207 (by kernel_rfl) rfl, xN⟩
abbrev ni (w w' : World) : Nat → Prop := fun b => w.heap.size ≤ b ∧ b < w'.heap.size
def qp (w : World) (fs : List ByteArray) (e : Ending) (w' : World) : Prop :=
 Below w.heap.size w w' ∧ ((eO fs = 0 ∧ ∃ g, e = .returned (.tuple #[af g, .int .i64 0]) ∧ gU w' (ni w w') g fs []) ∨ (eO fs ≠ 0 ∧ e = .returned (.tuple #[.pointer none, .int .i64 (eO fs)])))
theorem zk {w w' : World} {fs : List ByteArray} (x : Int) (hb : Below w.heap.size w w') (h : eO fs = x) (hx : x ≠ 0) : qp w fs (.returned (.tuple #[.pointer none, .int .i64 x])) w' :=
 ⟨hb, .inr ⟨by rw [h]; exact hx, by rw [h]⟩⟩
theorem rQ {fs : List ByteArray} {k : Nat} (hk : k < fs.length) (h : dH fs[k] = false) : fs.all dH = false := by
 cases ha : fs.all dH with
 | false => rfl
 | true => rw [List.all_eq_true.1 ha _ (List.getElem_mem hk)] at h; cases h
theorem wf64 {n : Nat} (h : n < 9223372036854775808) : (Lit.int .i64 (n : Int)).wf = true := by
 have h1 : IntKind.i64.min = -9223372036854775808 := rfl
 have h2 : IntKind.i64.max = 9223372036854775807 := rfl
 simp only [Lit.wf, Bool.and_eq_true, decide_eq_true_eq, h1, h2]
 omega
theorem Kt {a b : ByteArray} (h : bs a = bs b) : a = b := str_eq h
theorem uY {fs : List ByteArray} {k : Nat} (hk : k < fs.length) (hn : ((fs.take k).map bs).Nodup) : ((fs.take (k + 1)).map bs).Nodup ↔ ((fs.take k).any fun t => decide (bs t = bs fs[k])) = false := by
 rw [List.take_succ_eq_append_getElem hk, List.map_append, List.nodup_append]
 simp only [List.map_cons, List.map_nil, List.mem_map, List.mem_singleton, List.any_eq_false, decide_eq_true_eq]
 constructor
 ·rintro ⟨_, _, h⟩ t ht e
  exact h (bs t) ⟨t, ht, rfl⟩ (bs fs[k]) rfl e
 ·intro h
  refine ⟨hn, by simp, ?_⟩
  rintro _ ⟨t, ht, rfl⟩ _ rfl e
  exact h t ht e
theorem Jk (A : Option Addr) (n c B : Nat) (fs : List ByteArray) (w : World) (hr : ReadS w B A n fs) (hB : B ≤ w.heap.size) (hn : n ≤ c) (hs : ∀ s ∈ fs, s.size ≤ maxLen) :
 Calls Tryz.prog 170 #[.slice A n c] w (qp w fs) := by
 have hfl := hr.len
 subst hfl
 by_cases h24 : 24 < fs.length
 ·have vL : (24 : Int) < (fs.length : Int) := by omega
  have hE : eO fs = 12 := by unfold eO; rw [if_pos h24]
  have HE := qh hE
  clear hr hs h24 hE
  go_enter Tryz.func170, Tryz.ntmps170
  go_wp2
  go_ret2
  exact zk 12 (Below.refl _ _) HE.out (by decide)
 have vL : ¬ (24 : Int) < (fs.length : Int) := by omega
 have hb0 := ((((Below.refl w.heap.size w).alloc (Nat.le_refl _) (.map #[] 0)).alloc (by simp) (.map #[] 0)).alloc (by simp; omega) (.map #[] 0)).alloc (by simp; omega) (.cells #[.slice none 0 0, .map (some w.heap.size), .slice none 0 0, .map (some (w.heap.size + 1)), .map (some (w.heap.size + 1 + 1))] 265)
 have hm1 := (((bC.made w).kept (World.grownBy_alloc _ (.map #[] 0) none) (by simp)).kept (World.grownBy_alloc _ (.map #[] 0) none) (by simp)).kept (World.grownBy_alloc _ (.cells #[.slice none 0 0, .map (some w.heap.size), .slice none 0 0, .map (some (w.heap.size + 1)), .map (some (w.heap.size + 1 + 1))] 265) none) (by simp)
 have hm2 := ((bC.made (w.alloc (.map #[] 0))).kept (World.grownBy_alloc _ (.map #[] 0) none) (by simp)).kept (World.grownBy_alloc _ (.cells #[.slice none 0 0, .map (some w.heap.size), .slice none 0 0, .map (some (w.heap.size + 1)), .map (some (w.heap.size + 1 + 1))] 265) none) (by simp)
 have hm3 := (bI.made ((w.alloc (.map #[] 0)).alloc (.map #[] 0))).kept (World.grownBy_alloc _ (.cells #[.slice none 0 0, .map (some w.heap.size), .slice none 0 0, .map (some (w.heap.size + 1)), .map (some (w.heap.size + 1 + 1))] 265) none) (by simp)
 have hg := Blk.new (((w.alloc (.map #[] 0)).alloc (.map #[] 0)).alloc (.map #[] 0)) 265 #[.slice none 0 0, .map (some w.heap.size), .slice none 0 0, .map (some (w.heap.size + 1)), .map (some (w.heap.size + 1 + 1))]
 simp only [World.size_alloc] at hm2 hm3 hg
 obtain ⟨W0, hW0⟩ : ∃ W, (((w.alloc (.map #[] 0)).alloc (.map #[] 0)).alloc (.map #[] 0)).alloc (.cells #[.slice none 0 0, .map (some w.heap.size), .slice none 0 0, .map (some (w.heap.size + 1)), .map (some (w.heap.size + 1 + 1))] 265) = W := ⟨_, rfl⟩
 have hsz0 : W0.heap.size = w.heap.size + 4 := by rw [← hW0]; simp
 rw [hW0] at hb0 hm1 hm2 hm3 hg
 have hr0 : ReadS W0 B A fs.length fs := Reads.below hr (hb0.mono hB)
 have HW0 := qh hW0; have HB0 := qh hb0; have UU := qh hm1; have N9 := qh hm2; have VN := qh hm3; have HG := qh hg; have NU := qh hr0; have HS := qh hs
 have hE : fs.all dH = false → eO fs = 15 := fun h => by unfold eO; rw [if_neg h24, h]; rfl
 have HE := qh hE
 clear hr hs hW0 hb0 hm1 hm2 hm3 hg hr0 hE
 have hmm := @run_makeMap Tryz.prog
 go_enter Tryz.func170, Tryz.ntmps170
 go_wp2
 rw [HW0.out]
 clear HW0
 go_loop [21] (fun i => ∃ k : Nat, k ≤ fs.length ∧ i = .int .i64 k ∧ (fs.take k).all dH = true) (fun i => fs.length - (RowKit.intOf i).toNat)
 case atStart => exact ⟨0, by omega, rfl, rfl⟩
 case round =>
  obtain ⟨k, hk, rfl, aI⟩ := hrel
  have bf := qh aI
  clear aI
  by_cases hlt : k < fs.length
  ·have cB : (k : Int) < (fs.length : Int) := by omega
   obtain ⟨ad, rfl, had, hcell⟩ := NU.out.at_ hlt
   have hcs := qi _ _ 16 fs[k] W0 CZ (HS.out _ (List.getElem_mem hlt))
   have aF := fM dH fs k hlt
   have aS := fun h => HE.out (rQ hlt h)
   have hok : dH fs[k] = (gT dG 16 fs[k] && decide (57 < ((bs fs[k]).headD 0).toNat)) := rfl
   generalize fs[k] = s at *
   have bL := qh aF; have cu := qh aS; have nW := qh hcs
   clear aF aS hcs
   cases aC : gT dG 16 s with
   | false =>
     rw [aC] at hok nW
     have gW := qh hok
     clear hok aC
     go_wp2_with (go_at_call 206; refine nW.out.mono ?_; rintro e w' ⟨rfl, rfl⟩)
     go_ret2
     have hE := cu.out (by rw [gW.out]; rfl)
     exact zk 15 HB0.out hE (by decide)
   | true =>
     have hs1 : 0 < s.size := by
      unfold gT at aC
      simp only [Bool.and_eq_true, decide_eq_true_eq] at aC
      omega
     have hhead : ((bs s).headD 0).toNat = (s[0]).toNat := by
      have hl : 0 < (bs s).length := by rw [fT]; exact hs1
      have e : (bs s).headD 0 = (bs s)[0] := by
       rw [List.headD_eq_head?_getD, List.head?_eq_getElem?, List.getElem?_eq_getElem hl]; rfl
      rw [e]; rfl
     rw [aC, hhead] at hok
     rw [aC] at nW
     obtain ⟨b, hb⟩ : ∃ b, s[0].toNat = b := ⟨_, rfl⟩
     have RG : ((s[0].toNat : Nat) : Int) = (b : Int) := by rw [hb]
     rw [hb] at hok
     have gW := qh hok
     clear hok aC hhead hb
     by_cases hb57 : b ≤ 57
     ·have hbb : (b : Int) ≤ 57 := by omega
      go_wp2_with (go_at_call 206; refine nW.out.mono ?_; rintro e w' ⟨rfl, rfl⟩)
      go_ret2
      have hE := cu.out (by rw [gW.out, decide_eq_false (show ¬ 57 < b by omega)]; rfl)
      exact zk 15 HB0.out hE (by decide)
     ·have hbb : ¬ (b : Int) ≤ 57 := by omega
      go_wp2_with (go_at_call 206; refine nW.out.mono ?_; rintro e w' ⟨rfl, rfl⟩)
      go_round
      case rel => exact ⟨k + 1, by omega, by go_num, by rw [bL.out, bf.out, gW.out, decide_eq_true (show 57 < b by omega)]; rfl⟩
      case measure => simp [RowKit.intOf]; omega
  ·obtain rfl : k = fs.length := by omega
   have aI : fs.all dH = true := by have := bf.out; rwa [List.take_length] at this
   have Y8 : ¬ (fs.map bs).Nodup → eO fs = 6 := fun h => by unfold eO; rw [if_neg h24, aI, if_pos rfl, if_neg h]
   have hE0 : (fs.map bs).Nodup → eO fs = 0 := fun h => by unfold eO; rw [if_neg h24, aI, if_pos rfl, if_pos h]
   have h16 : ∀ s ∈ fs, s.size ≤ 16 := fun s hs => by
    have := List.all_eq_true.1 aI s hs
    unfold dH gT at this
    simp only [Bool.and_eq_true, decide_eq_true_eq] at this
    omega
   have PX := qh Y8; have qy := qh hE0; have ZK := qh h16
   clear aI Y8 hE0 h16 HE bf hlt
   go_wp2
   go_loopw [36] (fun i wr => ∃ (k : Nat) (f : ByteArray → Option Int), k ≤ fs.length ∧ i = .int .i64 k ∧ ((fs.take k).map bs).Nodup ∧ bC wr w.heap.size k f ∧ (∀ t, (f t).isSome = (fs.take k).any fun x => decide (bs x = bs t)) ∧ bA (fun b => b = w.heap.size) W0 wr) (fun i _ => fs.length - (RowKit.intOf i).toNat)
   case atStart => exact ⟨0, _, by omega, rfl, List.nodup_nil, UU.out, fun t => rfl, bA.refl _ _⟩
   case round =>
    obtain ⟨k, f, hk, rfl, eQ, hmap, hf, bQ⟩ := hrel
    have hsz := bQ.size
    have hgr := HG.out.dQ bQ (by omega)
    have g1 := hgr.cell 1
    simp only [gq2] at g1
    have hrw : ReadS wr B A fs.length fs := Reads.keep NU.out (fun q hq => World.cell?_of_block (bQ.block q.block (by omega) (by omega)))
    have CO := qh eQ; have Ht := qh hmap; have HF := qh hf; have bz := qh bQ; have VR := qh hgr; have HRW := qh hrw
    clear eQ hmap hf bQ hgr hrw
    by_cases hlt : k < fs.length
    ·have cB : (k : Int) < (fs.length : Int) := by omega
     obtain ⟨ad, rfl, had, hcell⟩ := HRW.out.at_ hlt
     have hsz16 := ZK.out _ (List.getElem_mem hlt)
     have om := Ht.out.look fs[k] (by unfold maxLen; omega)
     have NI := HF.out fs[k]
     have hnt := uY hlt CO.out
     have htk : ∀ t, ((fs.take (k + 1)).any fun x => decide (bs x = bs t)) = (((fs.take k).any fun x => decide (bs x = bs t)) || decide (bs fs[k] = bs t)) := fun t => by
      rw [List.take_succ_eq_append_getElem hlt, List.any_append]; simp
     have hnn : ¬ ((fs.take (k + 1)).map bs).Nodup → ¬ (fs.map bs).Nodup := fun h h' => h (h'.sublist ((List.take_sublist _ _).map bs))
     generalize fs[k] = s at *
     cases hfs : f s with
     | some i =>
       rw [hfs] at NI om
       simp only [Option.getD_some, Option.isSome_some] at om NI
       have hE := PX.out (hnn (fun h => by rw [hnt] at h; rw [← NI] at h; cases h))
       have ay : qp w fs (.returned (.tuple #[.pointer none, .int .i64 6])) wr := ⟨HB0.out.trans (bz.out.below (fun i hi => by omega) (by omega)), .inr ⟨by rw [hE]; decide, by rw [hE]⟩⟩
       have aD := qh ay
       clear NI hnt htk hnn hE hfs ay
       go_wp2
       go_ret2
       exact aD.out
     | none =>
       rw [hfs] at NI om
       simp only [Option.getD_none, Option.isSome_none] at om NI
       have VK := qh (hnt.2 NI.symm); have FD := qh htk
       clear NI hnt htk hnn hfs
       go_wp2_with (refine lh rfl _ _ _ rfl _ _ _ rfl Ht.out (by unfold maxLen; omega) s (by unfold maxLen; omega) (k : Int) (wf64 (by omega)) rfl rfl ?_; intro w1 hmap1 hgrow1)
       go_roundw
       case rel => exact ⟨k + 1, _, by omega, by go_num, VK.out, hmap1, fun t => by
        rw [FD.out t]
        by_cases e : t = s
        ·subst e; simp
        ·rw [if_neg e, HF.out t, decide_eq_false (show ¬ bs s = bs t from fun h => e (Kt h.symm))]; simp, bz.out.grown hgrow1 (fun j hj => by injection hj with hj; exact .inl hj.symm)⟩
       case measure => simp [RowKit.intOf]; omega
    ·obtain rfl : k = fs.length := by omega
     have hE := qy.out (by have := CO.out; rwa [List.take_length] at this)
     have bW := oP A fs.length c _ wr B HRW.out (mE fs) (by omega) (by omega)
     have qx := qh hE; have Ip := qh bW
     clear hE bW PX qy hlt
     go_wp2_with fail
     refine Ip.out.mono ?_
     rintro e w1 ⟨v1, rfl, ho1, hb1⟩
     obtain ⟨A1, c1, rfl, -, -⟩ := ownsRow_form ho1
     have hg1 := VR.out.below hb1 (by omega)
     have k0 := hg1.cell 0
     have fr0 := hg1.frozen 0
     simp only [gq2] at k0
     have hsz1 := hb1.size
     have hcs := (bA.refl (fun b => b = w.heap.size + 1 + 1 + 1) w1).setCell (p := ⟨w.heap.size + 1 + 1 + 1, 0, none⟩) (.inl rfl) (.slice A1 fs.length c1)
     have hszs := hcs.size
     have hc1' := (bA.of_below (S := fun _ => False) hb1)
     have ay : qp w fs (.returned (.tuple #[af (w.heap.size + 1 + 1 + 1), .int .i64 0])) (w1.setCell ⟨w.heap.size + 1 + 1 + 1, 0, none⟩ (.slice A1 fs.length c1)) := by
      refine ⟨(HB0.out.trans (bz.out.below (fun i hi => by omega) (by omega))).trans ((hb1.mono (by omega)).trans (hcs.below (fun i hi => by omega) (by omega))), .inl ⟨qx.out, _, rfl, ?_⟩⟩
      refine ⟨A1, c1, .slice none 0 0, w.heap.size, w.heap.size + 1, w.heap.size + 1 + 1, f, _, _, ⟨by simpa using hg1.set_ 0 (.slice A1 fs.length c1), by omega, by omega⟩, ⟨dh (bH ho1 hcs (fun k hk e => by have := (ho1.lt k hk).1; omega)) (Nat.zero_le _), (fun b hb => by have := ho1.lt b hb; exact ⟨by omega, by omega⟩)⟩, ⟨World.ownsRow_nil _ _ _ _, fun b hb => by cases hb⟩, ⟨(Ht.out.below hb1).dQ hcs (by omega), by omega, by omega⟩, ⟨((N9.out.dQ bz.out (by omega)).dQ hc1' (fun h => h)).dQ hcs (by omega), ⟨by omega, by omega⟩, fun s => ⟨rfl, fun i hi => by cases hi⟩⟩, ⟨((VN.out.dQ bz.out (by omega)).dQ hc1' (fun h => h)).dQ hcs (by omega), ⟨by omega, by omega⟩, fun s => rfl⟩, ⟨by omega, by omega, by omega⟩, ⟨by omega, ZK.out, by simp, (fun x hx => by cases hx), List.nodup_nil⟩⟩
     have aD := qh ay
     clear ho1 hb1 hg1 hcs hc1' ay
     go_wp2
     go_ret2
     exact aD.out
end Go.Proofs.YtmepaeahchiglaaGreatDoor
