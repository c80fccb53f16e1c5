/-
 layer 22: the reference's Check of trees. Conditions: a tree that can be read.
-/
import Derived.Test.YtmepaeahchiglaaGreatDoorZdbf
set_option maxRecDepth 20000
set_option maxHeartbeats 8000000
set_option linter.unusedSimpArgs false
namespace Go.Proofs.YtmepaeahchiglaaGreatDoor
open Go.RowKit Go.Lib
def vR (t : List Nd) (m : Nat) (s : ByteArray) : Bool := (t.take m).all fun x => !decide (bs x.2 = bs s)
theorem BV {t : List Nd} {m : Nat} {s : ByteArray} (hm : m < t.length) (h : vR t m s = true) : vR t (m + 1) s = !decide (bs t[m].2 = bs s) := by
 unfold vR at *
 rw [List.take_succ_eq_append_getElem hm, List.all_append, h]; simp
theorem Eh {t : List Nd} {k : Nat} {s : ByteArray} (h : vR t k s = true) : ∀ x ∈ t.take k, bs x.2 ≠ bs s := fun x hx => by
 have := List.all_eq_true.1 h x hx
 simpa using this
theorem xR (v : Value) (B : Nat) (t : List Nd) (w : World) (h : aP Ho 2 w B t v) (hB : B ≤ w.heap.size) (hs : ∀ x ∈ t, x.2.size ≤ maxLen) :
 Calls Tryz.prog 199 #[v] w fun e w' => e = .returned (.int .i64 (cz t)) ∧ Below w.heap.size w w' := by
 obtain ⟨A, c, rfl, ⟨hc1, hc2⟩, hr⟩ := h.flat
 unfold maxLen at hc2
 obtain ⟨r, aU⟩ : ∃ r, cz t = r := ⟨_, rfl⟩
 rw [aU]
 have dA := qh aU; have HR := qh hr; have HS := qh hs
 clear aU hr hs h
 obtain ⟨n, hn⟩ : ∃ n, t.length = n := ⟨_, rfl⟩
 rw [hn] at hc1 ⊢
 have HN := qh hn
 clear hn
 by_cases h0 : n < 1
 ·obtain rfl : r = 16 := dA.out.symm.trans (qj (.inl (by have := HN.out; omega)))
  have RX : (n : Int) < 1 := by omega
  clear h0 dA
  go_enter Tryz.func199, Tryz.ntmps199
  go_wp2
  go_ret
  exact ⟨rfl, Below.refl _ _⟩
 have RX : ¬ (n : Int) < 1 := by omega
 by_cases h63 : 63 < n
 ·obtain rfl : r = 16 := dA.out.symm.trans (qj (.inr (by have := HN.out; omega)))
  have OW : (63 : Int) < (n : Int) := by omega
  clear h63 h0 dA
  go_enter Tryz.func199, Tryz.ntmps199
  go_wp2
  go_ret
  exact ⟨rfl, Below.refl _ _⟩
 have OW : ¬ (63 : Int) < (n : Int) := by omega
 have hlt0 : 0 < t.length := by have := HN.out; omega
 obtain ⟨ad0, e, had0, hcc0⟩ := HR.out.row (fun _ => rfl) (by decide) hlt0
 subst e
 have z0 := hcc0 0 _ rfl
 rw [Nat.zero_mul, Nat.add_zero] at z0
 obtain ⟨p0, hp0⟩ : ∃ p, t[0].1 = p := ⟨_, rfl⟩
 rw [hp0] at z0
 have z1 : w.cell? ad0 = some (.int .i64 p0) := by
  have h := z0
  unfold Addr.add at h
  simpa using h
 have h0n : (0 : Int) < (n : Int) := by omega
 have Zp := qh hp0
 clear hcc0 hp0
 by_cases hm1 : p0 = -1
 case neg =>
  obtain rfl : r = 16 := dA.out.symm.trans (ry hlt0 (by unfold jP; rw [if_pos rfl, Zp.out, decide_eq_false hm1, Bool.false_and]))
  have WM : (p0 != (-1 : Int)) = true := by rw [bne_iff_ne]; exact hm1
  clear hm1 dA h0 h63
  go_enter Tryz.func199, Tryz.ntmps199
  go_wp2
  go_ret
  exact ⟨rfl, Below.refl _ _⟩
 have WM : (p0 != (-1 : Int)) = false := by rw [hm1]; rfl
 have UU := qh hm1
 clear hm1 h0 h63
 go_enter Tryz.func199, Tryz.ntmps199
 go_wp2
 go_loopw [3] (fun i wr => ∃ k : Nat, k ≤ n ∧ i = .int .i64 k ∧ yC t k ∧ Below w.heap.size w wr) (fun i _ => n - (RowKit.intOf i).toNat)
 case atStart => exact ⟨0, by omega, rfl, vO t, Below.refl _ _⟩
 case round =>
  obtain ⟨k, hk, rfl, hgo, hbw⟩ := hrel
  have zV := qh hgo; have aQ := qh hbw
  obtain ⟨V, hV⟩ : ∃ W, W = wr := ⟨_, rfl⟩
  subst hV
  clear hgo hbw z0 z1
  by_cases hlt : k < n
  ·have bB : k < t.length := by have := HN.out; omega
   have cB : (k : Int) < (n : Int) := by omega
   have hk0 : (0 : Int) ≤ (k : Int) := by omega
   obtain ⟨ad, e, had, aC⟩ := HR.out.row (fun _ => rfl) (by decide) bB
   obtain rfl := Option.some.inj e
   have e0 := aC 0 _ rfl
   have e1 := aC 1 _ rfl
   rw [Nat.add_zero] at e0
   rw [aH ad0 (k * 2) 0] at e1
   have Mx : ∀ m, (ad0.add m).block < B := fun m => by rw [gq]; exact had
   have aY := ry bB
   have hgood := vP bB zV.out
   have hsz := HS.out _ (List.getElem_mem bB)
   have hdup := fun (m : Nat) (hm : m < k) (h : bs (t[m]'(Nat.lt_trans hm bB)).2 = bs t[k].2) => yH bB hm h
   have hpar0 : k = 0 → t[k].1 = p0 := fun e => by subst e; exact Zp.out
   have f0 := (aQ.out.cell (p := ad0.add (k * 2)) (Nat.lt_of_lt_of_le (Mx _) hB)).trans e0
   have f1 := (aQ.out.cell (p := ⟨(ad0.add (k * 2)).block, (ad0.add (k * 2)).off + (0 + 1), none⟩) (Nat.lt_of_lt_of_le (Mx (k * 2)) hB)).trans e1
   have hstr : ∃ x, t[k] = x := ⟨_, rfl⟩
   obtain ⟨x, hx⟩ := hstr
   have HX := qh hx
   rw [hx] at e0 e1 aY hgood hsz hdup hpar0 f0 f1
   clear hx aC
   obtain ⟨par, nm⟩ := x
   simp only [] at *
   have hnm := xW nm V hsz
   have dX := qh aY; have yO := qh hgood; have Yz := qh hdup; have Uy := qh hpar0; have rC := qh hnm; have rD := qh e1
   clear aY hgood hdup hpar0 hnm e0 e1 hsz
   by_cases hpk : (k = 0) ∨ (0 ≤ par ∧ par < k)
   case neg =>
    obtain rfl : r = 16 := dA.out.symm.trans (dX.out (by
     unfold jP
     rw [if_neg (fun e => hpk (.inl e))]
     simp only [Bool.and_eq_false_iff, decide_eq_false_iff_not]
     left
     by_cases h1 : 0 ≤ par
     ·right; intro h2; exact hpk (.inr ⟨h1, h2⟩)
     ·left; exact h1))
    have Ro : (0 : Int) < (k : Int) := by omega
    by_cases hq1 : par < 0
    ·clear hpk
     go_wp2
     go_ret
     exact ⟨rfl, aQ.out⟩
    ·have hq2 : (k : Int) ≤ par := by omega
     clear hpk
     go_wp2
     go_ret
     exact ⟨rfl, aQ.out⟩
   have eQ : jP k (par, nm) = aM nm := by
    unfold jP
    by_cases e : k = 0
    ·rw [if_pos e]
     have := Uy.out e
     rw [decide_eq_true (this.trans UU.out), Bool.true_and]
    ·rw [if_neg e]
     have h2 := hpk.resolve_left e
     rw [decide_eq_true h2.1, decide_eq_true h2.2]; rfl
   have CO := qh eQ
   clear eQ
   rcases hpk with hc | hc
   all_goals
    first
     | (have Ro : ¬ (0 : Int) < (k : Int) := by omega)
     | (have Ro : (0 : Int) < (k : Int) := by
         rcases Nat.eq_zero_or_pos k with e | e
         ·exfalso; rw [e] at hc; omega
         ·omega
        have hq1 : ¬ par < 0 := by omega
        have hq2 : ¬ (k : Int) ≤ par := by omega)
    clear hc
    go_wp2_with fail
    refine rC.out.mono ?_
    rintro e V' ⟨rfl, rfl⟩
    obtain ⟨q, hq⟩ : ∃ q, aM nm = q := ⟨_, rfl⟩
    have eQ := CO.out
    rw [hq] at eQ ⊢
    have Nb := qh eQ
    clear eQ hq
    cases q with
    | false =>
      obtain rfl : r = 16 := dA.out.symm.trans (dX.out Nb.out)
      go_wp2
      go_ret
      exact ⟨rfl, aQ.out⟩
    | true =>
      go_wp2
      go_loopw [4] (fun j wr => ∃ m : Nat, m ≤ k ∧ j = .int .i64 m ∧ vR t m nm = true ∧ Below w.heap.size w wr) (fun j _ => k - (RowKit.intOf j).toNat)
      case atStart => exact ⟨0, by omega, rfl, rfl, aQ.out⟩
      case round =>
       obtain ⟨m, hm, rfl, hfr, hb2⟩ := hrel
       have Yv := qh hfr; have HB2 := qh hb2
       obtain ⟨U, hU⟩ : ∃ W, W = wr := ⟨_, rfl⟩
       subst hU
       clear hfr hb2 f0 f1
       by_cases hmk : m < k
       ·first
         | (exfalso; omega)
         | (have Qf : m < t.length := by omega
            have Qg : (m : Int) < (k : Int) := by omega
            have hm0 : (0 : Int) ≤ (m : Int) := by omega
            have ZW : (m : Int) < (n : Int) := by omega
            obtain ⟨ad, e, had2, aC⟩ := HR.out.row (fun _ => rfl) (by decide) Qf
            obtain rfl := Option.some.inj e
            have d1 := aC 1 _ rfl
            rw [aH ad0 (m * 2) 0] at d1
            have f1 := (HB2.out.cell (p := ⟨(ad0.add (k * 2)).block, (ad0.add (k * 2)).off + (0 + 1), none⟩) (Nat.lt_of_lt_of_le (Mx (k * 2)) hB)).trans rD.out
            have f2 := (HB2.out.cell (p := ⟨(ad0.add (m * 2)).block, (ad0.add (m * 2)).off + (0 + 1), none⟩) (Nat.lt_of_lt_of_le (Mx (m * 2)) hB)).trans d1
            have dU := BV Qf Yv.out
            have hdp := Yz.out m hmk
            generalize t[m] = y at *
            obtain ⟨py, ny⟩ := y
            simp only [] at *
            have hbeq : (ny.toList == nm.toList) = decide (bs ny = bs nm) := oQ ny nm
            by_cases hsm : bs ny = bs nm
            ·obtain rfl : r = 16 := dA.out.symm.trans (hdp hsm)
             rw [decide_eq_true hsm] at hbeq
             clear dU hdp hsm aC d1
             go_wp2
             go_region
             go_wp2
             go_ret
             exact ⟨rfl, HB2.out.drew⟩
            ·rw [decide_eq_false hsm] at hbeq dU
             have ou := qh dU
             clear dU hdp hsm aC d1
             go_wp2
             go_region
             go_wp2
             go_roundw
             case rel => exact ⟨m + 1, by omega, by go_num, ou.out, HB2.out.drew⟩
             case measure => simp [RowKit.intOf]; omega)
       ·obtain rfl : k = m := by omega
        have hgd := yO.out Nb.out (by rw [HX.out] at *; exact Eh Yv.out)
        have HGD := qh hgd
        clear hgd Yv hmk
        go_wp2
        go_roundw
        case rel => exact ⟨k + 1, by omega, by go_num, HGD.out, HB2.out⟩
        case measure => simp [RowKit.intOf]; omega
  ·obtain rfl : n = k := by omega
   obtain rfl : r = 0 := by
    have h1 := zV.out
    have h2 := HN.out
    rw [← h2] at h1
    exact dA.out.symm.trans (yB h1 (by omega) (by omega))
   go_wp2
   go_ret
   exact ⟨rfl, aQ.out⟩
def jI (t : List Nd) (v : Int) (k : Nat) : Nat := ((t.take k).filter fun x => decide (x.1 = v)).length
theorem DV {t : List Nd} {v : Int} {k : Nat} (hk : k < t.length) : jI t v (k + 1) = jI t v k + (if t[k].1 = v then 1 else 0) := by
 unfold jI
 rw [List.take_succ_eq_append_getElem hk, List.filter_append, List.length_append]
 congr 1
 by_cases h : t[k].1 = v
 ·rw [if_pos h, List.filter_cons_of_pos (by simpa using h)]; rfl
 ·rw [if_neg h, List.filter_cons_of_neg (by simpa using h)]; rfl
theorem JA {t : List Nd} {v : Int} (k : Nat) : jI t v k ≤ t.length := by
 unfold jI
 exact Nat.le_trans (List.length_filter_le _ _) (by rw [List.length_take]; exact Nat.min_le_right _ _)
theorem Gs (A : Option Addr) (n c B : Nat) (t : List Nd) (v : Int) (w : World) (hr : Reads w B 2 A n (t.flatMap fun x : Nd => [Value.int .i64 x.1, Value.string x.2])) (hB : B ≤ w.heap.size) (hn : n = t.length) (h63 : t.length ≤ 63) :
 Calls Tryz.prog 202 #[.slice A n c, .int .i64 v] w fun e w' => ∃ A c, e = .returned (.slice A (jI t v t.length) c) ∧ Below w.heap.size w w' := by
 obtain ⟨i0, hi, hz0, hz1, hz2⟩ := info_parts (show (Tryz.prog.info? 3).map (fun i => (i.zero, i.size, i.bytes)) = some (some (.int .i64 0), 1, 8) by kernel_rfl)
 have HR := qh hr; have HN := qh hn
 have hn63 : n ≤ 63 := by omega
 clear hr hn
 go_enter Tryz.func202, Tryz.ntmps202
 go_wp2
 go_loopw [5, 6] (fun x i wr => ∃ (k : Nat) (xs : List Value), k ≤ n ∧ i = .int .i64 k ∧ wr.ownsRow w.heap.size 3 1 x (jI t v k) xs ∧ Below w.heap.size w wr) (fun _ i _ => n - (RowKit.intOf i).toNat)
 case atStart => exact ⟨0, [], by omega, rfl, World.ownsRow_nil _ _ _ _, Below.refl _ _⟩
 case round =>
  obtain ⟨k, xs, hk, rfl, hown, hb⟩ := hrel
  have HO := qh hown; have HB := qh hb
  obtain ⟨V, hV⟩ : ∃ W, W = wr := ⟨_, rfl⟩
  subst hV
  clear hown hb
  by_cases hlt : k < n
  ·have bB : k < t.length := by have := HN.out; omega
   have cB : (k : Int) < (n : Int) := by omega
   have hk0 : (0 : Int) ≤ (k : Int) := by omega
   obtain ⟨ad, e, had, aC⟩ := (HR.out.below (HB.out.mono hB)).row (fun _ => rfl) (by decide) bB
   subst e
   have e0 := aC 0 _ rfl
   rw [Nat.add_zero] at e0
   have aF := DV (v := v) bB
   have hle := JA (t := t) (v := v) k
   generalize t[k] = x at *
   obtain ⟨par, nm⟩ := x
   simp only [] at *
   have bL := qh aF
   clear aF aC
   by_cases hp : par = v
   ·have Q7 : (par == v) = true := by rw [beq_iff_eq]; exact hp
    have aF := bL.out
    rw [if_pos hp] at aF
    have hal := (Below.refl V.heap.size V).alloc (Nat.le_refl _) (.cells #[.int .i64 (k : Int)] 3)
    have hrn := reads_new V 3 [.int .i64 (k : Int)]
    have dz := qh aF; have dR := qh hrn; have jf := qh (own_below HO.out hal); have HB2 := qh (HB.out.trans (hal.mono HB.out.size))
    have hs2 : w.heap.size ≤ (V.alloc (.cells #[.int .i64 (k : Int)] 3)).heap.size := Nat.le_trans HB.out.size hal.size
    have HS2 := qh hs2
    obtain ⟨kn, hkn⟩ : ∃ m, jI t v k = m := ⟨_, rfl⟩
    have ho2 := jf.out
    have aF := dz.out
    rw [hkn] at ho2 hle aF
    have N7 := qh ho2; have sS := qh aF
    clear aF hp hal hrn hs2 bL dz jf HO ho2 hkn
    go_wp2_with (at_builtin; refine wpList_append_any _ rfl _ _ 144 rfl w.heap.size 3 i0 (.int .i64 0) 1 8 Tryz.underlying144 hi hz0 hz1 hz2 rfl (by decide) _ _ _ rfl N7.out _ _ _ _ [.int .i64 (k : Int)] rfl dR.out (by simp [Value.oneCell']) (by unfold maxLen; omega) (by omega) HS2.out ?_; intro v4 w4 hown4 hgrow4 hgx; clear hgx)
    have hb4 := HB2.out.grown hgrow4 HS2.out (fun j hj => (N7.out.lt j hj).1)
    go_roundw
    case rel => exact ⟨k + 1, _, by omega, by go_num, by rw [sS.out]; exact hown4, hb4⟩
    case measure => simp [RowKit.intOf]; omega
   ·have Q7 : (par == v) = false := by rw [beq_eq_false_iff_ne]; exact hp
    have aF := bL.out
    rw [if_neg hp, Nat.add_zero] at aF
    have dz := qh aF
    clear aF hp bL
    go_wp2
    go_roundw
    case rel => exact ⟨k + 1, xs, by omega, by go_num, by rw [dz.out]; exact HO.out, HB.out⟩
    case measure => simp [RowKit.intOf]; omega
  ·obtain rfl : n = k := by omega
   have hown := HO.out
   rw [show jI t v n = jI t v t.length by rw [HN.out]] at hown
   obtain ⟨Ax, cx, rfl, -, -⟩ := ownsRow_form hown
   clear hown HO
   go_wp2
   go_ret
   exact ⟨_, _, rfl, HB.out⟩
theorem yx (t : List Nd) (k : Nat) : (t.all fun x => decide (x.1 ≠ (k : Int))) = decide (jI t k t.length = 0) := by
 rw [Bool.eq_iff_iff, List.all_eq_true, decide_eq_true_eq]
 unfold jI
 rw [List.take_length, List.length_eq_zero_iff, List.filter_eq_nil_iff]
 constructor
 ·intro h x hx; simpa using h x hx
 ·intro h x hx; simpa using h x hx
def jX (t : List Nd) (k : Nat) : Nat := ((List.range k).filter fun v : Nat => t.all fun x => decide (x.1 ≠ (v : Int))).length
theorem zn (t : List Nd) (k : Nat) : jX t (k + 1) = jX t k + (if jI t k t.length = 0 then 1 else 0) := by
 unfold jX
 rw [List.range_succ, List.filter_append, List.length_append]
 congr 1
 by_cases h : jI t k t.length = 0
 ·rw [if_pos h, List.filter_cons_of_pos (by rw [yx, decide_eq_true h])]; rfl
 ·rw [if_neg h, List.filter_cons_of_neg (by rw [yx, decide_eq_false h]; decide)]; rfl
theorem DR (t : List Nd) (k : Nat) : jX t k ≤ k := by
 unfold jX
 exact Nat.le_trans (List.length_filter_le _ _) (by simp)
theorem AY (v : Value) (B : Nat) (t : List Nd) (w : World) (h : aP Ho 2 w B t v) (hB : B ≤ w.heap.size) (hs : ∀ x ∈ t, x.2.size ≤ maxLen) (ht : cz t = 0) :
 Calls Tryz.prog 155 #[v] w fun e w' => ∃ A c, e = .returned (.tuple #[.slice A (jG t).length c, .int .i64 0]) ∧ Below w.heap.size w w' := by
 obtain ⟨i0, hi, hz0, hz1, hz2⟩ := info_parts (show (Tryz.prog.info? 3).map (fun i => (i.zero, i.size, i.bytes)) = some (some (.int .i64 0), 1, 8) by kernel_rfl)
 obtain ⟨h63, -, -⟩ := iM ht
 have htc := xR v B t w h hB hs
 rw [ht] at htc
 obtain ⟨A, c, rfl, hc, hr⟩ := h.flat
 have hk := fun (W : World) (hW : Below w.heap.size w W) (x : Int) => Gs A t.length c B t x W (hr.below (hW.mono hB)) (Nat.le_trans hB hW.size) rfl h63
 obtain ⟨n, hn⟩ : ∃ n, t.length = n := ⟨_, rfl⟩
 have hll : jX t n = (jG t).length := by rw [← hn]; rfl
 rw [hn] at hk htc h63 ⊢
 have HK := qh hk; have MS := qh htc; have zU := qh hll; have HN := qh hn
 clear hk htc hr hs ht h hll hn hc
 go_enter Tryz.func155, Tryz.ntmps155
 go_wp2_with fail
 refine MS.out.mono ?_
 rintro e w1 ⟨rfl, hb1⟩
 have HB1 := qh hb1
 clear hb1
 go_wp2
 go_loopw [5, 6] (fun x i wr => ∃ (k : Nat) (xs : List Value), k ≤ n ∧ i = .int .i64 k ∧ wr.ownsRow w.heap.size 3 1 x (jX t k) xs ∧ Below w.heap.size w wr) (fun _ i _ => n - (RowKit.intOf i).toNat)
 case atStart => exact ⟨0, [], by omega, rfl, World.ownsRow_nil _ _ _ _, HB1.out⟩
 case round =>
  obtain ⟨k, xs, hk, rfl, hown, hb⟩ := hrel
  have HO := qh hown; have HB := qh hb
  obtain ⟨V, hV⟩ : ∃ W, W = wr := ⟨_, rfl⟩
  subst hV
  clear hown hb
  by_cases hlt : k < n
  ·have cB : (k : Int) < (n : Int) := by omega
   have hk0 : (0 : Int) ≤ (k : Int) := by omega
   have aF := zn t k
   have hle := DR t k
   have hc := HK.out V HB.out (k : Int)
   rw [HN.out] at aF
   obtain ⟨q, hq⟩ : ∃ q, jI t k n = q := ⟨_, rfl⟩
   rw [hq] at hc aF
   have bL := qh aF; have HC := qh hc
   clear aF hc hq
   go_wp2_with fail
   refine HC.out.mono ?_
   rintro e w2 ⟨Aq, cq, rfl, hb2⟩
   have jf := qh (own_below' HO.out hb2); have HB2 := qh (HB.out.trans (hb2.mono HB.out.size))
   clear hb2
   by_cases hp : q = 0
   ·have Q7 : ((q : Int) == 0) = true := by rw [hp]; rfl
    have aF := bL.out
    rw [if_pos hp] at aF
    have hal := (Below.refl w2.heap.size w2).alloc (Nat.le_refl _) (.cells #[.int .i64 (k : Int)] 3)
    have hrn := reads_new w2 3 [.int .i64 (k : Int)]
    have dR := qh hrn
    have ho3 := own_below jf.out hal
    have HB3 := qh (HB2.out.trans (hal.mono HB2.out.size))
    have hs2 : w.heap.size ≤ (w2.alloc (.cells #[.int .i64 (k : Int)] 3)).heap.size := Nat.le_trans HB2.out.size hal.size
    have HS2 := qh hs2
    obtain ⟨kn, hkn⟩ : ∃ m, jX t k = m := ⟨_, rfl⟩
    rw [hkn] at ho3 hle aF
    have N7 := qh ho3; have sS := qh aF
    clear aF hp hal hrn hs2 bL jf HO ho3 hkn
    go_wp2_with (at_builtin; refine wpList_append_any _ rfl _ _ 144 rfl w.heap.size 3 i0 (.int .i64 0) 1 8 Tryz.underlying144 hi hz0 hz1 hz2 rfl (by decide) _ _ _ rfl N7.out _ _ _ _ [.int .i64 (k : Int)] rfl dR.out (by simp [Value.oneCell']) (by unfold maxLen; omega) (by omega) HS2.out ?_; intro v4 w4 hown4 hgrow4 hgx; clear hgx)
    have hb4 := HB3.out.grown hgrow4 HS2.out (fun j hj => (N7.out.lt j hj).1)
    go_roundw
    case rel => exact ⟨k + 1, _, by omega, by go_num, by rw [sS.out]; exact hown4, hb4⟩
    case measure => simp [RowKit.intOf]; omega
   ·have Q7 : ((q : Int) == 0) = false := by rw [beq_eq_false_iff_ne]; omega
    have aF := bL.out
    rw [if_neg hp, Nat.add_zero] at aF
    have dz := qh aF
    clear aF hp bL
    go_wp2
    go_roundw
    case rel => exact ⟨k + 1, xs, by omega, by go_num, by rw [dz.out]; exact jf.out, HB2.out⟩
    case measure => simp [RowKit.intOf]; omega
  ·obtain rfl : n = k := by omega
   have hown := HO.out
   rw [zU.out] at hown
   obtain ⟨Ax, cx, rfl, -, -⟩ := ownsRow_form hown
   clear hown HO
   go_wp2
   go_ret2
   exact ⟨_, _, rfl, HB.out⟩
theorem Cf {l : List Fm} {k : Nat} (hk : k < l.length) (h : bS (l.take k) = true) : bS (l.take (k + 1)) = (!lN l[k]) ∧ (lN l[k] = true → bS l = false) := by
 have h1 : ∀ l : List Fm, bS l = l.all fun f => !lN f := fun l => by
  unfold bS
  exact congrArg l.all (funext Fp)
 rw [h1] at h
 rw [h1, h1]
 have := kW hk h
 exact ⟨this.1, fun e => this.2 (by rw [e]; rfl)⟩
theorem uF (v : Value) (B : Nat) (l : List Fm) (w : World) (h : aP bn 2 w B l v) (hB : B ≤ w.heap.size) :
 Calls Tryz.prog 156 #[v] w fun e w' => e = .returned (.bool (bS l)) ∧ Below w.heap.size w w' := by
 obtain ⟨A, n, c, rfl, -⟩ := h.form
 obtain ⟨hn, hn1, hn2⟩ := h.len
 unfold maxLen at hn2
 obtain ⟨r, hr⟩ : ∃ r, bS l = r := ⟨_, rfl⟩
 rw [hr]
 have HR := qh hr; have HS := qh h; have HN := qh hn
 clear hr h hn
 go_enter Tryz.func156, Tryz.ntmps156
 go_wp2
 go_loopw [3] (fun i wr => ∃ k : Nat, k ≤ n ∧ i = .int .i64 k ∧ bS (l.take k) = true ∧ Below w.heap.size w wr) (fun i _ => n - (RowKit.intOf i).toNat)
 case atStart => exact ⟨0, by omega, rfl, by rw [List.take_zero]; rfl, Below.refl _ _⟩
 case round =>
  obtain ⟨k, hk, rfl, aS, hb⟩ := hrel
  have cu := qh aS; have HB := qh hb
  clear aS hb
  by_cases hlt : k < n
  ·have bB : k < l.length := by have := HN.out; omega
   have cB : (k : Int) < (n : Int) := by omega
   have hk0 : (0 : Int) ≤ (k : Int) := by omega
   have hkeep : ∀ p : Addr, p.block < B → wr.cell? p = w.cell? p := fun p hp => HB.out.cell (Nat.lt_of_lt_of_le hp hB)
   obtain ⟨ad, cs, rfl, had, hP, aC⟩ := aW qg (aP.plain hkeep HS.out (fun _ _ h => bn.keep hkeep h)) bB
   obtain ⟨v, rfl, hv⟩ := hP
   obtain ⟨Ax, nx, cx, rfl, hx⟩ := hv.form
   have e0 := aC 0 _ rfl
   have e1 := aC 1 _ rfl
   rw [Nat.add_zero] at e0
   rw [aH ad (k * 2) 0] at e1
   obtain ⟨aF, aY⟩ := Cf bB cu.out
   generalize l[k] = x at *
   obtain ⟨has, ws⟩ := x
   simp only [] at *
   have hbf : lN ⟨has, ws⟩ = (!has && decide (0 < nx)) := by unfold lN; rw [hx]
   rw [hbf] at aF aY
   have bL := qh aF; have dX := qh aY
   clear aF aY aC hkeep hv hx hbf
   cases has with
   | true =>
     go_wp2
     go_roundw
     case rel => exact ⟨k + 1, by omega, by go_num, bL.out, HB.out⟩
     case measure => simp [RowKit.intOf]; omega
   | false =>
     by_cases hx0 : 0 < nx
     ·have ZR : (0 : Int) < (nx : Int) := by omega
      obtain rfl : r = false := by rw [← HR.out, dX.out (by rw [decide_eq_true hx0]; rfl)]
      clear hx0
      go_wp2
      go_ret
      exact ⟨rfl, HB.out⟩
     ·have ZR : ¬ (0 : Int) < (nx : Int) := by omega
      have aF := bL.out
      rw [decide_eq_false hx0] at aF
      have dz := qh aF
      clear hx0 aF
      go_wp2
      go_roundw
      case rel => exact ⟨k + 1, by omega, by go_num, dz.out, HB.out⟩
      case measure => simp [RowKit.intOf]; omega
  ·obtain rfl : n = k := by omega
   have aS := cu.out
   rw [List.take_of_length_le (by have := HN.out; omega)] at aS
   obtain rfl : r = true := HR.out.symm.trans aS
   go_wp2
   go_ret
   exact ⟨rfl, HB.out⟩
theorem uu (v : Value) (B : Nat) (l : List Fm) (w : World) (h : aP bn 2 w B l v) (hB : B ≤ w.heap.size) (hok : ∀ f ∈ l, ∀ s ∈ f.w, ok32 s) :
 Calls Tryz.prog 158 #[v] w fun e w' => e = .returned (.int .i64 (aV l)) ∧ Below w.heap.size w w' := by
 obtain ⟨A, n, c, rfl, -⟩ := h.form
 obtain ⟨hn, hn1, hn2⟩ := h.len
 unfold maxLen at hn2
 obtain ⟨r, hr⟩ : ∃ r, aV l = r := ⟨_, rfl⟩
 rw [hr]
 have HR := qh hr; have HS := qh h; have HN := qh hn; have gW := qh hok
 clear hr h hn hok
 go_enter Tryz.func158, Tryz.ntmps158
 go_wp2
 go_loopw [3] (fun i wr => ∃ k : Nat, k ≤ n ∧ i = .int .i64 k ∧ aV (l.take k) = 0 ∧ Below w.heap.size w wr) (fun i _ => n - (RowKit.intOf i).toNat)
 case atStart => exact ⟨0, by omega, rfl, by rw [List.take_zero]; rfl, Below.refl _ _⟩
 case round =>
  obtain ⟨k, hk, rfl, aS, hb⟩ := hrel
  have cu := qh aS; have HB := qh hb
  clear aS hb
  by_cases hlt : k < n
  ·have bB : k < l.length := by have := HN.out; omega
   have cB : (k : Int) < (n : Int) := by omega
   have hk0 : (0 : Int) ≤ (k : Int) := by omega
   have hkeep : ∀ p : Addr, p.block < B → wr.cell? p = w.cell? p := fun p hp => HB.out.cell (Nat.lt_of_lt_of_le hp hB)
   obtain ⟨ad, cs, rfl, had, hP, aC⟩ := aW qg (aP.plain hkeep HS.out (fun _ _ h => bn.keep hkeep h)) bB
   obtain ⟨v, rfl, hv⟩ := hP
   obtain ⟨Ax, cx, rfl, ⟨hx1, hx2⟩, DY⟩ := hv.flat
   have e0 := aC 0 _ rfl
   have e1 := aC 1 _ rfl
   rw [Nat.add_zero] at e0
   rw [aH ad (k * 2) 0] at e1
   obtain ⟨aF, aY⟩ := rF bB cu.out
   have JQ := gW.out _ (List.getElem_mem bB)
   generalize l[k] = x at *
   obtain ⟨has, ws⟩ := x
   simp only [] at *
   have hc := AZ Ax ws.length cx B ws wr DY (Nat.le_trans hB HB.out.size) (by omega) JQ
   have HC := qh hc; have bL := qh aF; have dX := qh aY
   clear aF aY aC hkeep hv hc DY JQ
   go_wp2_with fail
   refine HC.out.mono ?_
   rintro e w2 ⟨rfl, hb2⟩
   have HB2 := qh (HB.out.trans (hb2.mono HB.out.size))
   clear hb2
   by_cases hz : bF ws = 0
   ·have vE : (bF ws != (0 : Int)) = false := by rw [hz]; rfl
    have aF := bL.out
    rw [hz] at aF
    have dz := qh aF
    clear hz aF
    go_wp2
    go_roundw
    case rel => exact ⟨k + 1, by omega, by go_num, dz.out, HB2.out⟩
    case measure => simp [RowKit.intOf]; omega
   ·have vE : (bF ws != (0 : Int)) = true := by rw [bne_iff_ne]; exact hz
    obtain rfl : r = bF ws := HR.out.symm.trans (dX.out hz)
    clear hz
    go_wp2
    go_ret
    exact ⟨rfl, HB2.out⟩
  ·obtain rfl : k = n := by omega
   have aS := cu.out
   rw [List.take_of_length_le (by have := HN.out; omega)] at aS
   obtain rfl : r = 0 := HR.out.symm.trans aS
   go_wp2
   go_ret
   exact ⟨rfl, HB.out⟩
def ndT (k : Int) (a b : Nat) (neg : Bool) (lo hi : Int) (n i : Nat) : Bool := match i with
 | 0 => decide (k < 0) || decide (6 < k)
 | 1 => !decide (k = 1) && (!decide (a = 0 ∧ b = 0) || neg)
 | 2 => !decide (k = 3) && (!decide (k = 4) && (!decide (k = 5) && decide (0 < n)))
 | 3 => !decide (k = 5) && (!decide (lo = 0) || !decide (hi = 0))
 | 4 => decide (k = 5) && (!decide (n = 1) || (decide (lo < 0) || (decide (32 < lo) || (!decide (hi = -1) && (decide (hi < lo) || decide (32 < hi))))))
 | _ => false
theorem Ov (k : Int) (a b : Nat) (neg : Bool) (lo hi : Int) (n : Nat) : bu k (a, b) neg lo hi n = true ↔ (ndT k a b neg lo hi n 0 = false ∧ ndT k a b neg lo hi n 1 = false ∧ ndT k a b neg lo hi n 2 = false ∧ ndT k a b neg lo hi n 3 = false ∧ ndT k a b neg lo hi n 4 = false ∧ ax (a, b) = true) := by
 have h00 : ax (0, 0) = true := by decide
 by_cases hk : k < 0 ∨ 6 < k
 ·have : bu k (a, b) neg lo hi n = false := by
   unfold bu
   rw [if_neg (by omega), if_neg (by omega), if_neg (by omega), if_neg (by omega)]
   simp
  rw [this]
  unfold ndT
  simp
  intro h1 h2; omega
 ·have hk7 : k = 0 ∨ k = 1 ∨ k = 2 ∨ k = 3 ∨ k = 4 ∨ k = 5 ∨ k = 6 := by omega
  by_cases ha : a = 0
  ·by_cases hb : b = 0
   ·subst ha hb
    unfold bu ndT
    rcases hk7 with rfl | rfl | rfl | rfl | rfl | rfl | rfl <;> cases neg <;> simp [h00] <;> omega
   ·subst ha
    unfold bu ndT
    rcases hk7 with rfl | rfl | rfl | rfl | rfl | rfl | rfl <;> cases neg <;> (try (generalize ax (0, b) = q; cases q)) <;> simp [hb] <;> omega
  ·unfold bu ndT
   rcases hk7 with rfl | rfl | rfl | rfl | rfl | rfl | rfl <;> cases neg <;> (try (generalize ax (a, b) = q; cases q)) <;> simp [ha] <;> omega
theorem Ba (k : Int) (s : Snd) (neg : Bool) (lo hi : Int) (A : Option Addr) (n c : Nat) (w : World) (hs : ok32 s) (hn : n ≤ maxLen) :
 Calls Tryz.prog 246 #[pF k s neg lo hi (.slice A n c)] w fun e w' => ∃ x : Int, e = .returned (.int .i64 x) ∧ (x = 0 ↔ bu k s neg lo hi n = true) ∧ Below w.heap.size w w' := by
 unfold maxLen at hn
 have hv := fun W => mJ s W hs
 obtain ⟨a, b⟩ := s
 have hok := Ov k a b neg lo hi n
 have hb0 := (Below.refl w.heap.size w).alloc (Nat.le_refl _) (.cells #[.int .i64 k, .int .u32 a, .int .u32 b, .bool neg, .int .i64 lo, .int .i64 hi, .slice A n c] 58)
 have hblk := Blk.new w 58 #[.int .i64 k, .int .u32 a, .int .u32 b, .bool neg, .int .i64 lo, .int .i64 hi, .slice A n c]
 obtain ⟨va, hva⟩ : ∃ va, ax (a, b) = va := ⟨_, rfl⟩
 rw [hva] at hv hok
 obtain ⟨ok, hok'⟩ : ∃ ok, bu k (a, b) neg lo hi n = ok := ⟨_, rfl⟩
 rw [hok'] at hok ⊢
 obtain ⟨t0, ht0⟩ : ∃ t, ndT k a b neg lo hi n 0 = t := ⟨_, rfl⟩
 obtain ⟨t1, ht1⟩ : ∃ t, ndT k a b neg lo hi n 1 = t := ⟨_, rfl⟩
 obtain ⟨t2, ht2⟩ : ∃ t, ndT k a b neg lo hi n 2 = t := ⟨_, rfl⟩
 obtain ⟨t3, ht3⟩ : ∃ t, ndT k a b neg lo hi n 3 = t := ⟨_, rfl⟩
 obtain ⟨t4, ht4⟩ : ∃ t, ndT k a b neg lo hi n 4 = t := ⟨_, rfl⟩
 rw [ht0, ht1, ht2, ht3, ht4] at hok
 have c0 := hblk.cell 0; have c1 := hblk.cell 1; have c2 := hblk.cell 2; have c3 := hblk.cell 3; have c4 := hblk.cell 4; have c5 := hblk.cell 5; have c6 := hblk.cell 6
 simp only [gq2] at c0 c1 c2 c3 c4 c5 c6
 have HV := qh hv; have HB0 := qh hb0; have gW := qh hok; have HT0 := qh ht0; have HT1 := qh ht1; have HT2 := qh ht2; have HT3 := qh ht3; have Qk := qh ht4
 clear hv hb0 hok hva hs hok' ht0 ht1 ht2 ht3 ht4 hblk
 go_enter Tryz.func246, Tryz.ntmps246
 go_upto_region 1 with fail
 obtain ⟨W, hW⟩ : ∃ W, (w.alloc (.cells #[.int .i64 k, .int .u32 a, .int .u32 b, .bool neg, .int .i64 lo, .int .i64 hi, .slice A n c] 58)) = W := ⟨_, rfl⟩
 rw [hW] at HB0 c0 c1 c2 c3 c4 c5 c6 ⊢
 clear hW
 go_cut [0, 10] (fun p v wx => v = .bool t0 ∧ W = wx)
 case first =>
  go_wp2_with fail
  all_goals
   go_meet
   refine ⟨?_, rfl⟩
   have ht := HT0.out
   unfold ndT at ht
   clear HT0 HT1 HT2 HT3 Qk gW HV HB0
   refine congrArg Value.bool ?_
   rw [← ht, Bool.eq_iff_iff]
   clear ht c0 c1 c2 c3 c4 c5 c6
   first | (simp <;> omega) | (cases neg <;> simp <;> omega) | (simp_all; done) | (simp_all; omega)
 case rest =>
  obtain ⟨rfl, rfl⟩ := hcut
  cases t0
  rotate_left
  ·go_wp2
   go_ret
   exact ⟨_, rfl, ⟨fun h => by omega, fun h => by have := (gW.out.1 h); simp at this⟩, HB0.out⟩
  go_upto_region 3 with fail
  go_cut [0, 23] (fun p v wx => v = .bool t1 ∧ W = wx)
  case first =>
   by_cases ha : (a : Int) = 0
   all_goals by_cases hb : (b : Int) = 0
   all_goals (first | (have hA : ((a : Int) == 0) = true := by rw [beq_iff_eq]; exact ha) | (have hA : ((a : Int) == 0) = false := by rw [beq_eq_false_iff_ne]; exact ha))
   all_goals (first | (have hB : ((b : Int) == 0) = true := by rw [beq_iff_eq]; exact hb) | (have hB : ((b : Int) == 0) = false := by rw [beq_eq_false_iff_ne]; exact hb))
   all_goals go_wp2_with fail
   all_goals
    go_meet
    refine ⟨?_, rfl⟩
    have ht := HT1.out
    unfold ndT at ht
    clear HT0 HT1 HT2 HT3 Qk gW HV HB0
    refine congrArg Value.bool ?_
    rw [← ht, Bool.eq_iff_iff]
    clear ht c0 c1 c2 c3 c4 c5 c6
    first | (simp <;> omega) | (cases neg <;> simp <;> omega) | (simp_all; done) | (simp_all; omega)
  case rest =>
   obtain ⟨rfl, rfl⟩ := hcut
   cases t1
   rotate_left
   ·go_wp2
    go_ret
    exact ⟨_, rfl, ⟨fun h => by omega, fun h => by have := (gW.out.1 h); simp at this⟩, HB0.out⟩
   go_upto_region 5 with fail
   go_cut [0, 42] (fun p v wx => v = .bool t2 ∧ W = wx)
   case first =>
    go_wp2_with fail
    all_goals
     go_meet
     refine ⟨?_, rfl⟩
     have ht := HT2.out
     unfold ndT at ht
     clear HT0 HT1 HT2 HT3 Qk gW HV HB0
     refine congrArg Value.bool ?_
     rw [← ht, Bool.eq_iff_iff]
     clear ht c0 c1 c2 c3 c4 c5 c6
     first | (simp <;> omega) | (cases neg <;> simp <;> omega) | (simp_all; done) | (simp_all; omega)
   case rest =>
    obtain ⟨rfl, rfl⟩ := hcut
    cases t2
    rotate_left
    ·go_wp2
     go_ret
     exact ⟨_, rfl, ⟨fun h => by omega, fun h => by have := (gW.out.1 h); simp at this⟩, HB0.out⟩
    go_upto_region 7 with fail
    go_cut [0, 55] (fun p v wx => v = .bool t3 ∧ W = wx)
    case first =>
     go_wp2_with fail
     all_goals
      go_meet
      refine ⟨?_, rfl⟩
      have ht := HT3.out
      unfold ndT at ht
      clear HT0 HT1 HT2 HT3 Qk gW HV HB0
      refine congrArg Value.bool ?_
      rw [← ht, Bool.eq_iff_iff]
      clear ht c0 c1 c2 c3 c4 c5 c6
      first | (simp <;> omega) | (cases neg <;> simp <;> omega) | (simp_all; done) | (simp_all; omega)
    case rest =>
     obtain ⟨rfl, rfl⟩ := hcut
     cases t3
     rotate_left
     ·go_wp2
      go_ret
      exact ⟨_, rfl, ⟨fun h => by omega, fun h => by have := (gW.out.1 h); simp at this⟩, HB0.out⟩
     go_upto_region 9 with fail
     go_cut [0, 91] (fun p v wx => v = .bool t4 ∧ W = wx)
     case first =>
      go_wp2_with fail
      all_goals
       go_meet
       refine ⟨?_, rfl⟩
       have ht := Qk.out
       unfold ndT at ht
       clear HT0 HT1 HT2 HT3 Qk gW HV HB0
       refine congrArg Value.bool ?_
       rw [← ht, Bool.eq_iff_iff]
       clear ht c0 c1 c2 c3 c4 c5 c6
       first | (simp <;> omega) | (cases neg <;> simp <;> omega) | (simp_all; done) | (simp_all; omega)
     case rest =>
      obtain ⟨rfl, rfl⟩ := hcut
      cases t4
      rotate_left
      ·go_wp2
       go_ret
       exact ⟨_, rfl, ⟨fun h => by omega, fun h => by have := (gW.out.1 h); simp at this⟩, HB0.out⟩
      cases va
      all_goals
       go_wp2_with (go_at_call 231; refine (HV.out _).mono ?_; rintro e wv ⟨rfl, hb⟩; have LF := qh (HB0.out.trans (hb.mono HB0.out.size)); clear hb)
       go_ret
       refine ⟨_, rfl, ⟨fun h => ?_, fun h => ?_⟩, LF.out⟩
       all_goals first
        | (apply gW.out.2; simp; done)
        | (simp at h; done)
        | rfl
        | (have h2 := gW.out.1 h; simp at h2; done)
theorem xZ {l : List Pt} {i : Nat} (hi : i < l.length) : ptSizes (l.take (i + 1)) = ptSizes (l.take i) + ptSize l[i] := by
 induction l generalizing i with
 | nil => exact absurd hi (by simp)
 | cons p l ih =>
   cases i with
   | zero => simp [aR, bO]
   | succ i => rw [List.take_succ_cons, List.take_succ_cons, aR, aR, ih (by simpa using hi)]; simp; omega
def yP (p : Pt) (n : Nat) : Prop := sG p = true ∧ n + ptSize p ≤ 40
def Fv (p : Pt) (n : Nat) (w : World) (e : Ending) (w' : World) : Prop := ∃ k x : Int, e = .returned (.tuple #[.int .i64 k, .int .i64 x]) ∧ (x = 0 ↔ yP p n) ∧ (x = 0 → k = (n + ptSize p : Nat)) ∧ Below w.heap.size w w'
def Kz (m : Nat) : Prop := ∀ (p : Pt) (k : Int) (s : Snd) (neg : Bool) (lo hi : Int) (A : Option Addr) (n' c : Nat) (w : World) (B n : Nat), 40 - n ≤ m → n ≤ 40 → PatC w B p (aZ k s neg lo hi (.slice A n' c)) → B ≤ w.heap.size →
 Calls Tryz.prog 240 #[pF k s neg lo hi (.slice A n' c), .int .i64 n] w (Fv p n w)
theorem sD {l : List Pt} {i : Nat} (hi : i < l.length) : fK (l.take (i + 1)) = (fK (l.take i) && sG l[i]) := by
 rw [List.take_succ_eq_append_getElem hi, gM, dS, iy, Bool.and_true]
theorem Dl {l : List Pt} {i : Nat} (hi : i < l.length) : ptSizes (l.take i) + ptSize l[i] ≤ ptSizes l := by
 rw [← xZ hi]; exact ze l (i + 1)
theorem Iw (m : Nat) (hm : ∀ q, q < m → Kz q) : Kz m := by
 rintro ⟨k, s, neg, lo, hi, l⟩ k' s' kQ lo' hi' A n' c w B n hnm hn hp hB
 rw [gN] at hp
 obtain ⟨A', c', ys, he, h32, hc, hcm, hr, hps⟩ := hp
 simp only [aZ, List.cons.injEq, Value.int.injEq, Value.bool.injEq, Value.slice.injEq, true_and, and_true] at he
 obtain ⟨rfl, h1, h2, rfl, rfl, rfl, rfl, rfl, rfl⟩ := he
 obtain rfl : s' = s := Prod.ext (by omega) (by omega)
 clear h1 h2
 have hb0 := (Below.refl w.heap.size w).alloc (Nat.le_refl _) (.cells #[.int .i64 k', .int .u32 s'.1, .int .u32 s'.2, .bool kQ, .int .i64 lo', .int .i64 hi', .slice A l.length c] 58)
 have hk0 := Blk.new w 58 #[.int .i64 k', .int .u32 s'.1, .int .u32 s'.2, .bool kQ, .int .i64 lo', .int .i64 hi', .slice A l.length c]
 have eQ := Ba k' s' kQ lo' hi' A l.length c (w.alloc (.cells #[.int .i64 k', .int .u32 s'.1, .int .u32 s'.2, .bool kQ, .int .i64 lo', .int .i64 hi', .slice A l.length c] 58)) h32 (by omega)
 have PU : Hid (yP (.mk k' s' kQ lo' hi' l) n ↔ bu k' s' kQ lo' hi' l.length = true ∧ fK l = true ∧ n + 1 + ptSizes l ≤ 40) := qh (by
  unfold yP
  rw [sZ, dK, Bool.and_eq_true, and_assoc, Nat.add_assoc])
 have HSZ : Hid (n + ptSize (.mk k' s' kQ lo' hi' l) = n + 1 + ptSizes l) := qh (by rw [dK]; omega)
 have HB0 := qh hb0; have jg := qh hk0; have HR := qh hr; have MW := qh hps; have HM := qh hm; have oU := qh hB; have CO := qh eQ
 clear hb0 hk0 hr hps hm hB eQ
 unfold Fv
 rw [HSZ.out]
 generalize yP (.mk k' s' kQ lo' hi' l) n = fit at *
 unfold maxLen at hcm
 by_cases h40 : n = 40
 ·have OH : (n : Int) = 40 := by omega
  go_enter Tryz.func240, Tryz.ntmps240
  go_wp2
  go_ret2
  exact ⟨_, _, rfl, ⟨fun h => absurd h (by decide), fun h => by have := (PU.out.1 h).2.2; omega⟩, fun h => absurd h (by decide), HB0.out⟩
 ·have OH : ¬ (n : Int) = 40 := by omega
  go_enter Tryz.func240, Tryz.ntmps240
  go_wp2_with fail
  refine CO.out.mono ?_
  rintro e w1 ⟨x, rfl, hx, hb1⟩
  have HX := qh hx
  have HB1 := qh (HB0.out.trans (hb1.mono HB0.out.size))
  have jr := qh (jg.out.below hb1 jg.out.lt)
  clear hx hb1 CO jg
  by_cases hx0 : x = 0
  ·have Wt : (x != 0) = false := by rw [hx0]; rfl
   have BL := HX.out.1 hx0
   have HN := qh BL
   clear BL
   subst hx0
   go_wp2
   go_loopw [7, 8] (fun t i wr => ∃ j : Nat, j ≤ l.length ∧ i = .int .i64 j ∧ t = .int .i64 ((n + 1 + ptSizes (l.take j) : Nat) : Int) ∧ fK (l.take j) = true ∧ n + 1 + ptSizes (l.take j) ≤ 40 ∧ Below w1.heap.size w1 wr) (fun _ i _ => l.length - (RowKit.intOf i).toNat)
   case atStart => exact ⟨0, by omega, rfl, by rw [List.take_zero, bO, Nat.add_zero]; go_num, by rw [List.take_zero, iy], by rw [List.take_zero, bO]; omega, Below.refl _ _⟩
   case round =>
    obtain ⟨j, hj, rfl, rfl, hok, RQ, hbw⟩ := hrel
    obtain ⟨t, ht⟩ : ∃ t, n + 1 + ptSizes (l.take j) = t := ⟨_, rfl⟩
    rw [ht] at RQ ⊢
    have hblk := jr.out.below hbw jr.out.lt
    obtain ⟨c0, c1, c2, c3, c4, c5, c6⟩ := hblk.seven
    have aI : Below w.heap.size w wr := HB1.out.trans (hbw.mono HB1.out.size)
    have htn : n + 1 ≤ t := by omega
    have bf := qh aI; have aQ := qh hbw; have VG := qh ht; have UH := qh hok
    clear hblk aI hbw ht hok
    by_cases hlt : j < l.length
    ·have JU : (j : Int) < (l.length : Int) := by omega
     have hadd := xZ hlt
     have hokS := sD hlt
     have hat := Dl hlt
     have hmem := fun h : fK l = true => qP (List.getElem_mem hlt) h
     obtain ⟨ad, k1, s1, neg1, lo1, hi1, A1, n1, c1', rfl, had, hpc, e0, e1, e2, e3, e4, e5, e6⟩ := kM (HR.out.below (bf.out.mono oU.out)) (MW.out.below (bf.out.mono oU.out)) rfl (i := j) hlt
     have ae := HM.out (40 - t) (by omega) l[j] k1 s1 neg1 lo1 hi1 A1 n1 c1' wr B t (by omega) RQ hpc (Nat.le_trans oU.out bf.out.size)
     have aj := qh ae; have Ih := qh hadd; have sV := qh hokS; have HAT := qh hat; have Yh := qh hmem
     clear ae hadd hpc hokS hat hmem
     generalize l[j] = pj at *
     go_wp2_with fail
     refine aj.out.mono ?_
     rintro e w2 ⟨r, y, rfl, hy, hr2, hb2⟩
     have HY := qh hy; have HR2 := qh hr2
     have HB2 := qh (aQ.out.trans (hb2.mono aQ.out.size))
     clear hy hr2 hb2 aj
     by_cases hy0 : y = 0
     ·have Wq : (y != 0) = false := by rw [hy0]; rfl
      have hf := HY.out.1 hy0
      have hrr := HR2.out hy0
      subst hrr
      have HF := qh hf
      clear hf
      subst hy0
      go_wp2
      go_roundw
      case rel => exact ⟨j + 1, by omega, by go_num, by rw [Ih.out, ← VG.out]; go_num, by rw [sV.out, UH.out, HF.out.1]; rfl, by have := HF.out.2; have := Ih.out; have := VG.out; omega, HB2.out⟩
      case measure => simp [RowKit.intOf]; omega
     ·have Wq : (y != 0) = true := by simp [hy0]
      have Qn := qh (fun h => hy0 (HY.out.2 h))
      clear hy0
      go_wp2
      go_ret2
      refine ⟨_, _, rfl, ⟨fun h => by subst h; simp at Wq, fun h => ?_⟩, fun h => by subst h; simp at Wq, HB1.out.trans (HB2.out.mono HB1.out.size)⟩
      exfalso
      obtain ⟨_, h2, h3⟩ := PU.out.1 h
      exact Qn.out ⟨Yh.out h2, by have := HAT.out; have := VG.out; omega⟩
    ·obtain rfl : j = l.length := by omega
     have h1 := VG.out
     have h2 := UH.out
     rw [List.take_length] at h1 h2
     have Yw : Hid fit := qh (PU.out.2 ⟨HN.out, h2, by omega⟩)
     have H1 := qh h1
     clear h1 h2
     go_wp2
     go_ret2
     exact ⟨_, _, rfl, ⟨fun _ => Yw.out, fun _ => rfl⟩, fun _ => by rw [H1.out], bf.out⟩
  ·have Wt : (x != 0) = true := by simp [hx0]
   have ou := qh (fun h => hx0 (HX.out.2 h))
   clear hx0
   go_wp2
   go_ret2
   exact ⟨_, _, rfl, ⟨fun h => by subst h; simp at Wt, fun h => absurd (PU.out.1 h).1 ou.out⟩, fun h => by subst h; simp at Wt, HB1.out⟩
theorem De (m : Nat) : Kz m := by
 induction m using Nat.strongRecOn with
 | _ m ih => exact Iw m ih
theorem pz (p : Pt) (k : Int) (s : Snd) (neg : Bool) (lo hi : Int) (A : Option Addr) (n' c : Nat) (w : World) (B : Nat) (hp : PatC w B p (aZ k s neg lo hi (.slice A n' c))) (hB : B ≤ w.heap.size) :
 Calls Tryz.prog 229 #[pF k s neg lo hi (.slice A n' c)] w fun e w' => ∃ x : Int, e = .returned (.int .i64 x) ∧ (x = 0 ↔ eF p = true) ∧ Below w.heap.size w w' := by
 have hb0 := (Below.refl w.heap.size w).alloc (Nat.le_refl _) (.cells #[.int .i64 k, .int .u32 s.1, .int .u32 s.2, .bool neg, .int .i64 lo, .int .i64 hi, .slice A n' c] 58)
 have hc := De 40 p k s neg lo hi A n' c _ B 0 (by omega) (by omega) (hp.below (hb0.mono hB)) (Nat.le_trans hB hb0.size)
 have HF : Hid (yP p 0 ↔ eF p = true) := qh (by unfold yP eF; rw [Bool.and_eq_true, decide_eq_true_iff, Nat.zero_add])
 have HC := qh hc; have HB0 := qh hb0
 clear hc hb0 hp hB
 generalize eF p = ok at *
 go_enter Tryz.func229, Tryz.ntmps229
 go_wp2_with fail
 refine HC.out.mono ?_
 rintro e w1 ⟨r, x, rfl, hx, _, hb1⟩
 have HX := qh hx
 have HB1 := qh (HB0.out.trans (hb1.mono HB0.out.size))
 clear hb1 hx
 go_wp2
 go_ret
 exact ⟨x, rfl, HX.out.trans HF.out, HB1.out⟩
end Go.Proofs.YtmepaeahchiglaaGreatDoor
