/-
 layer 22: letter, named, Check of trees. Conditions: a tree that can be read.
-/
import Derived.Test.YtmepaeahchiglaaGreatDoorZdax
import Derived.Deep.DeepCutAuto
import Derived.Deep.OwnRows
set_option maxRecDepth 20000
set_option maxHeartbeats 4000000
set_option linter.unusedSimpArgs false
namespace Go.Proofs.YtmepaeahchiglaaGreatDoor
open Go.RowKit Go.Lib
theorem Ad (c : UInt8) (w : World) : Calls Tryz.prog 233 #[.int .u8 c.toNat] w fun e w' => e = .returned (.bool (aT c)) ∧ w = w' := by
 obtain ⟨r, hr⟩ : ∃ r, aT c = r := ⟨_, rfl⟩
 rw [hr]
 unfold aT at hr
 have h256 := c.toNat_lt
 obtain ⟨n, hn⟩ : ∃ n, c.toNat = n := ⟨_, rfl⟩
 rw [hn] at hr h256 ⊢
 have HR := qh hr
 clear hr hn
 go_enter Tryz.func233, Tryz.ntmps233
 go_wp2
 all_goals
  go_ret
  refine ⟨?_, rfl⟩
  rw [← HR.out]
  simp
  try (first | omega | (rw [Bool.eq_iff_iff]; simp only [Bool.or_eq_true, Bool.and_eq_true, decide_eq_true_eq, beq_iff_eq]; omega))
theorem uW (s : ByteArray) : aM s = (decide (0 < s.size) && (decide (s.size ≤ 24) && (bs s).all aT)) := by
 unfold aM bs
 rw [Bool.and_assoc]
theorem CR (s : ByteArray) (w : World) (hs : s.size ≤ maxLen) : Calls Tryz.prog 214 #[.string s] w fun e w' => e = .returned (.bool (aM s)) ∧ w = w' := by
 obtain ⟨r, hr⟩ : ∃ r, aM s = r := ⟨_, rfl⟩
 rw [hr]
 rw [uW] at hr
 have HR := qh hr
 clear hr
 unfold maxLen at hs
 go_enter Tryz.func214, Tryz.ntmps214
 go_wp2
 go_loopw [6] (fun i wr => ∃ k : Nat, k ≤ s.size ∧ i = .int .i64 k ∧ ((bs s).take k).all aT = true ∧ w = wr) (fun i _ => s.size - (RowKit.intOf i).toNat)
 case atStart => exact ⟨0, by omega, rfl, rfl, rfl⟩
 case round =>
  obtain ⟨k, hk, rfl, aI, rfl⟩ := hrel
  by_cases hlt : k < s.size
  ·have cB : (k : Int) < (s.size : Int) := by omega
   have hk0 : (0 : Int) ≤ (k : Int) := by omega
   have hkb : k < (bs s).length := by rw [fT]; exact hlt
   have gp : (bs s)[k] = s[k]'hlt := rfl
   have dU : ((bs s).take (k + 1)).all aT = (aT (s[k]'hlt)) := by
    rw [List.take_succ_eq_append_getElem hkb, List.all_append, aI, gp]; simp
   have hx256 : (((s[k]'hlt).toNat : Nat) : Int) < 256 := by have := (s[k]'hlt).toNat_lt; omega
   have hc := Ad (s[k]'hlt) w
   cases hv : aT (s[k]'hlt) with
   | false =>
     rw [hv] at hc
     have HC := qh hc
     have aY : (bs s).all aT = false := by
      rw [List.all_eq_false]
      exact ⟨_, List.getElem_mem hkb, by rw [gp, hv]; decide⟩
     obtain rfl : r = false := by rw [← HR.out, aY, Bool.and_false, Bool.and_false]
     clear hc hv aY dU aI hkb gp HR
     go_wp2_with fail
     refine HC.out.mono ?_
     rintro e w1 ⟨rfl, rfl⟩
     go_wp2
     go_ret
     exact ⟨rfl, rfl⟩
   | true =>
     rw [hv] at hc dU
     have HC := qh hc; have ou := qh dU
     clear hc hv dU aI hkb gp
     go_wp2_with fail
     refine HC.out.mono ?_
     rintro e w1 ⟨rfl, rfl⟩
     go_wp2
     go_roundw
     case rel => exact ⟨k + 1, by omega, by go_num, ou.out, trivial⟩
     case measure => simp [RowKit.intOf]; omega
  ·obtain rfl : k = s.size := by omega
   rw [← fT, List.take_length] at aI
   have hr := HR.out
   rw [aI, Bool.and_true] at hr
   clear HR aI
   by_cases h0 : 0 < s.size
   ·have RX : (0 : Int) < (s.size : Int) := by omega
    rw [decide_eq_true h0, Bool.true_and] at hr
    by_cases h24 : s.size ≤ 24
    ·have vL : (s.size : Int) ≤ 24 := by omega
     rw [decide_eq_true h24] at hr
     subst hr
     go_wp2
     go_ret
     exact ⟨rfl, rfl⟩
    ·have vL : ¬ (s.size : Int) ≤ 24 := by omega
     rw [decide_eq_false h24] at hr
     subst hr
     go_wp2
     go_ret
     exact ⟨rfl, rfl⟩
   ·have RX : ¬ (0 : Int) < (s.size : Int) := by omega
    rw [decide_eq_false h0, Bool.false_and] at hr
    subst hr
    go_wp2
    go_ret
    exact ⟨rfl, rfl⟩
def nZ (t : List Nd) (k : Nat) (s : ByteArray) : Bool := (t.take k).any fun x => decide (x.2 = s)
theorem Db {t : List Nd} {k : Nat} (hk : k < t.length) : (fun s => if s = t[k].2 then true else nZ t k s) = nZ t (k + 1) := by
 funext s
 unfold nZ
 rw [List.take_succ_eq_append_getElem hk, List.any_append]
 by_cases e : s = t[k].2
 ·rw [if_pos e]; simp [e]
 ·rw [if_neg e]; simp [Ne.symm e]
theorem I1 {t : List Nd} {k : Nat} {s : ByteArray} (h : nZ t k s = false) : ∀ x ∈ t.take k, bs x.2 ≠ bs s := fun x hx e => by
 unfold nZ at h
 have := List.any_eq_false.1 h x hx
 simp only [decide_eq_true_eq] at this
 exact this (str_eq e)
theorem Gj {t : List Nd} {k : Nat} (hk : k < t.length) (h : nZ t k t[k].2 = true) : cz t = 16 := by
 unfold nZ at h
 obtain ⟨x, hx, hxe⟩ := List.any_eq_true.1 h
 obtain ⟨i, hi, rfl⟩ := List.mem_iff_getElem.1 hx
 rw [List.length_take] at hi
 have hxe := of_decide_eq_true hxe
 rw [List.getElem_take] at hxe
 exact yH hk (i := i) (by omega) (by rw [hxe])
theorem kr (v : Value) (B : Nat) (t : List Nd) (w : World) (h : aP Ho 2 w B t v) (hB : B ≤ w.heap.size) (hs : ∀ x ∈ t, x.2.size ≤ maxLen) :
 Calls Tryz.prog 177 #[v] w fun e w' => e = .returned (.int .i64 (cz t)) ∧ Below w.heap.size w w' := by
 obtain ⟨A, c, rfl, ⟨hc1, hc2⟩, hr⟩ := h.flat
 obtain ⟨r, aU⟩ : ∃ r, cz t = r := ⟨_, rfl⟩
 rw [aU]
 have dA := qh aU; have HR := qh hr; have HS := qh hs
 clear aU hr hs h
 by_cases h0 : t.length = 0
 ·obtain rfl : r = 16 := dA.out.symm.trans (qj (.inl h0))
  have RX : ((t.length : Int) == 0) = true := by rw [h0]; rfl
  clear h0 dA
  go_enter Tryz.func177, Tryz.ntmps177
  go_wp2
  go_ret
  exact ⟨rfl, Below.refl _ _⟩
 have RX : ((t.length : Int) == 0) = false := by rw [beq_eq_false_iff_ne]; omega
 by_cases h63 : 63 < t.length
 ·obtain rfl : r = 16 := dA.out.symm.trans (qj (.inr h63))
  have OW : (63 : Int) < (t.length : Int) := by omega
  clear h63 h0 dA
  go_enter Tryz.func177, Tryz.ntmps177
  go_wp2
  go_ret
  exact ⟨rfl, Below.refl _ _⟩
 have OW : ¬ (63 : Int) < (t.length : Int) := by omega
 have hmm := @run_makeMap Tryz.prog
 have hb0 := (Below.refl w.heap.size w).alloc (Nat.le_refl _) (.map #[] 0)
 have hm0 := kg.made w
 have HB0 := qh hb0; have UW := qh hm0
 clear hb0 hm0
 go_enter Tryz.func177, Tryz.ntmps177
 go_wp2
 go_loopw [17] (fun i wr => ∃ k : Nat, k ≤ t.length ∧ i = .int .i64 k ∧ yC t k ∧ kg wr w.heap.size k (nZ t k) ∧ Below w.heap.size w wr) (fun i _ => t.length - (RowKit.intOf i).toNat)
 case atStart => exact ⟨0, by omega, rfl, vO t, UW.out, HB0.out⟩
 case round =>
  obtain ⟨k, hk, rfl, hgo, hmp, hbw⟩ := hrel
  have zV := qh hgo; have Qo := qh hmp; have aQ := qh hbw
  clear hgo hmp hbw UW HB0
  by_cases hlt : k < t.length
  ·have cB : (k : Int) < (t.length : Int) := by omega
   have hk0 : (0 : Int) ≤ (k : Int) := by omega
   obtain ⟨ad, e, had, aC⟩ := (HR.out.below (aQ.out.mono hB)).row (fun _ => rfl) (by decide) hlt
   subst e
   have e0 := aC 0 _ rfl
   have e1 := aC 1 _ rfl
   rw [Nat.add_zero] at e0
   rw [aH ad (k * 2) 0] at e1
   have aY := ry hlt
   have hgood := vP hlt zV.out
   have hsy := Gj hlt
   have hsn := I1 (t := t) (k := k) (s := t[k].2)
   have hnf := Db hlt
   have hsz := HS.out _ (List.getElem_mem hlt)
   have Wu := Qo.out.below ((Below.refl _ wr).alloc (Nat.le_refl _) (.cells #[.int .i64 t[k].1, .string t[k].2] 78))
   have om := Wu.look t[k].2 hsz
   generalize t[k] = x at *
   obtain ⟨par, nm⟩ := x
   simp only [] at *
   have hkb := Blk.new wr 78 #[.int .i64 par, .string nm]
   have lH := aQ.out.alloc aQ.out.size (.cells #[.int .i64 par, .string nm] 78)
   have hsw := aQ.out.size
   have c0 := hkb.cell 0; have c1 := hkb.cell 1
   simp only [gq2] at c0 c1
   have dX := qh aY; have yO := qh hgood; have Ua := qh hsy; have Ub := qh hsn; have Qn := qh hnf; have HWA := qh Wu; have fZ := qh lH; have HKB := qh hkb
   clear aC aY hgood hsy hsn hnf Wu lH hkb
   have hnm := CR nm (wr.alloc (.cells #[.int .i64 par, .string nm] 78)) hsz
   obtain ⟨pk, hpk⟩ : ∃ p, (if k = 0 then decide (par = -1) else decide (0 ≤ par) && decide (par < (k : Int))) = p := ⟨_, rfl⟩
   have aS : jP k (par, nm) = (pk && aM nm) := by unfold jP; rw [hpk]
   have cu := qh aS; have VJ := qh hpk; have rC := qh hnm
   clear aS hpk hnm
   cases pk with
   | false =>
     obtain rfl : r = 16 := dA.out.symm.trans (dX.out (by rw [cu.out, Bool.false_and]))
     have hpk := VJ.out
     clear VJ cu rC dX yO Ua Ub Qn zV Qo om
     by_cases hA : (k : Int) ≤ par
     ·clear hpk
      go_wp2
      go_ret
      exact ⟨rfl, fZ.out⟩
     ·have hBm : par < min ((k : Int) - 1) 0 := by
       by_cases hz : k = 0
       ·rw [if_pos hz] at hpk
        have := of_decide_eq_false hpk
        omega
       ·rw [if_neg hz] at hpk
        simp only [Bool.and_eq_false_imp, decide_eq_true_eq, decide_eq_false_iff_not] at hpk
        have h1 : ¬ 0 ≤ par := fun h => absurd (hpk h) (by omega)
        omega
      clear hpk
      go_wp2
      go_ret
      exact ⟨rfl, fZ.out⟩
   | true =>
     have hpk := VJ.out
     have hp1 : ¬ (k : Int) ≤ par := by
      by_cases hz : k = 0
      ·rw [if_pos hz] at hpk; have := of_decide_eq_true hpk; omega
      ·rw [if_neg hz] at hpk; simp only [Bool.and_eq_true, decide_eq_true_eq] at hpk; omega
     have hp2 : ¬ par < min ((k : Int) - 1) 0 := by
      by_cases hz : k = 0
      ·rw [if_pos hz] at hpk; have := of_decide_eq_true hpk; omega
      ·rw [if_neg hz] at hpk; simp only [Bool.and_eq_true, decide_eq_true_eq] at hpk; omega
     clear hpk VJ
     cases hok : aM nm with
     | false =>
       have rC := rC.out
       rw [hok] at rC
       have rC := qh rC
       obtain rfl : r = 16 := dA.out.symm.trans (dX.out (by rw [cu.out, hok, Bool.and_false]))
       clear hok cu dX yO Ua Ub Qn zV Qo om
       go_wp2_with fail
       refine rC.out.mono ?_
       rintro e w1 ⟨rfl, rfl⟩
       go_wp2
       go_ret
       exact ⟨rfl, fZ.out⟩
     | true =>
       have rC := rC.out
       rw [hok] at rC
       have rC := qh rC
       have hgo := yO.out (by rw [cu.out, hok]; rfl)
       have PT := qh hgo
       clear hok cu dX yO hgo zV Qo
       cases hsn : nZ t k nm with
       | true =>
         rw [hsn] at om
         obtain rfl : r = 16 := dA.out.symm.trans (Ua.out hsn)
         clear hsn Ua Ub Qn PT
         go_wp2_with fail
         refine rC.out.mono ?_
         rintro e w1 ⟨rfl, rfl⟩
         go_wp2
         go_ret
         exact ⟨rfl, fZ.out⟩
       | false =>
         rw [hsn] at om
         have Yt := qh (PT.out (Ub.out hsn))
         clear hsn Ua Ub PT
         go_wp2_with fail
         refine rC.out.mono ?_
         rintro e w1 ⟨rfl, rfl⟩
         go_wp2_with (at_mapUpdate; refine yQ rfl _ _ _ rfl w.heap.size k (nZ t k) rfl HWA.out (by unfold maxLen; omega) nm hsz rfl rfl ?_; intro w3 hmap3 hg3)
         rw [Qn.out] at hmap3
         have hb3 := fZ.out.grown hg3 fZ.out.size (fun j hj => by injection hj with hj; omega)
         go_roundw
         case rel => exact ⟨k + 1, by omega, by go_num, Yt.out, hmap3, hb3⟩
         case measure => simp [RowKit.intOf]; omega
  ·obtain rfl : k = t.length := by omega
   obtain rfl : r = 0 := dA.out.symm.trans (yB zV.out (by omega) (by omega))
   go_wp2
   go_ret
   exact ⟨rfl, aQ.out⟩
theorem gq (a : Addr) (n : Nat) : (a.add n).block = a.block := by unfold Addr.add; split <;> rfl
def CQ (N : Nat) (us : Nat → Value) : Array Value := ((List.range N).map us).toArray
def lU (us : Nat → Value) (k : Nat) (v : Value) : Nat → Value := fun i => if i = k then v else us i
theorem lq {N : Nat} (us : Nat → Value) {k : Nat} (h : k < N) : (CQ N us)[k]? = some (us k) := by simp [CQ, h]
theorem yS {N : Nat} (us : Nat → Value) {k : Nat} (v : Value) : (CQ N us).setIfInBounds k v = CQ N (lU us k v) := by
 unfold CQ lU
 rw [List.setIfInBounds_toArray]
 congr 1
 apply List.ext_getElem
 ·simp
 ·intro i h1 h2
  rw [List.getElem_set, List.getElem_map, List.getElem_map, List.getElem_range]
  by_cases e : k = i
  ·rw [if_pos e, if_pos e.symm]
  ·rw [if_neg e, if_neg (fun h => e h.symm)]
theorem pR (z : Value) (n : Nat) : madeCells #[z] n = CQ n (fun _ => z) := by
 unfold madeCells CQ
 apply Array.ext
 ·simp
 ·intro i h1 h2
  simp [Nat.mod_one]
def lY (t : List Nd) (on : List (List Int)) (k : Nat) : Nat := (on[k]?.getD []).length + (if 0 ≤ (t[k]?.getD (-1, ⟨#[]⟩)).1 then (lensL t on k)[(t[k]?.getD (-1, ⟨#[]⟩)).1.toNat]?.getD 0 else 0)
theorem oK (t : List Nd) (on : List (List Int)) (k : Nat) : lensL t on (k + 1) = lensL t on k ++ [lY t on k] := rfl
theorem EY (t : List Nd) (on : List (List Int)) (k i : Nat) : (lensL t on (k + 1))[i]?.getD 0 = if i = k then lY t on k else (lensL t on k)[i]?.getD 0 := by
 rw [oK]
 by_cases e : i = k
 ·subst e
  rw [if_pos rfl, List.getElem?_append_right (by rw [jm]; exact Nat.le_refl _), jm, Nat.sub_self]; rfl
 ·rw [if_neg e]
  by_cases h : i < k
  ·rw [List.getElem?_append_left (by rw [jm]; exact h)]
  ·rw [List.getElem?_eq_none (by rw [List.length_append, jm]; simp; omega), List.getElem?_eq_none (by rw [jm]; omega)]
theorem BD (t : List Nd) (on : List (List Int)) {k : Nat} : ∀ {n : Nat}, k < n → lY t on k ∈ lensL t on n
 | 0, h => absurd h (Nat.not_lt_zero _)
 | n + 1, h => by
   rw [oK]
   rcases Nat.lt_succ_iff_lt_or_eq.1 h with h | rfl
   ·exact List.mem_append_left _ (BD t on h)
   ·exact List.mem_append_right _ (List.mem_singleton.2 rfl)
theorem yw {t : List Nd} {on : List (List Int)} {k n : Nat} (hk : k < n) (h : 64 < lY t on k) : fE t on n = false := by
 unfold fE
 rw [List.all_eq_false]
 exact ⟨_, BD t on hk, by simp; omega⟩
theorem rU {t : List Nd} {on : List (List Int)} {k : Nat} (h : fE t on k = true) (h1 : lY t on k ≤ 64) : fE t on (k + 1) = true := by
 unfold fE at *
 rw [oK, List.all_append, h]
 simp [h1]
theorem GH {t : List Nd} {on : List (List Int)} {k i : Nat} (h : fE t on k = true) : (lensL t on k)[i]?.getD 0 ≤ 64 := by
 cases hq : (lensL t on k)[i]? with
 | none => exact Nat.zero_le _
 | some x =>
   have := List.all_eq_true.1 h x (List.mem_of_getElem? hq)
   exact of_decide_eq_true this
theorem iM {t : List Nd} (h : cz t = 0) : t.length ≤ 63 ∧ 1 ≤ t.length ∧ ∀ (i : Nat) (hi : i < t.length), jP i t[i] = true := by
 unfold cz at h
 by_cases hk : mr t = true
 ·unfold mr at hk
  simp only [Bool.and_eq_true, decide_eq_true_eq] at hk
  exact ⟨hk.2.1, hk.1, fun i hi => by have := uZ hk.2.2.1 i hi; rwa [Nat.zero_add] at this⟩
 ·rw [if_neg hk] at h; cases h
theorem kR {v : Nat} {x : Nd} (h : jP v x = true) : (v = 0 ∧ x.1 = -1) ∨ (0 < v ∧ 0 ≤ x.1 ∧ x.1 < v) := by
 unfold jP at h
 simp only [Bool.and_eq_true] at h
 have h := h.1
 by_cases e : v = 0
 ·rw [if_pos e] at h; exact .inl ⟨e, of_decide_eq_true h⟩
 ·rw [if_neg e] at h
  simp only [Bool.and_eq_true, decide_eq_true_eq] at h
  exact .inr ⟨by omega, h⟩
def jU (m : Nat) (l : List Int) : Bool := l.all fun x => decide (0 ≤ x ∧ x < (m : Int))
theorem uC {m : Nat} {l : List Int} {k : Nat} (hk : k < l.length) : jU m (l.take (k + 1)) = (jU m (l.take k) && decide (0 ≤ l[k] ∧ l[k] < (m : Int))) := by
 unfold jU
 rw [List.take_succ_eq_append_getElem hk, List.all_append]; simp
theorem pW {m : Nat} {on : List (List Int)} {k : Nat} (hk : k < on.length) : cZ m (on.take (k + 1)) = (cZ m (on.take k) && jU m on[k]) := by
 unfold cZ jU
 rw [List.take_succ_eq_append_getElem hk, List.all_append]; simp
theorem Eb (v4 v6 : Value) (A5 : Option Addr) (m c5 B : Nat) (t : List Nd) (on : List (List Int)) (w : World) (h4 : aP Ho 2 w B t v4) (h6 : aP si 1 w B on v6) (hB : B ≤ w.heap.size) (ht : cz t = 0) (hlen : on.length = t.length) (hon : ∀ l ∈ on, l.length ≤ 1000000000) :
 Calls Tryz.prog 178 #[.agg #[v4, .slice A5 m c5, v6]] w fun e w' => e = .returned (.int .i64 (if fE t on on.length then (if cZ m on then 0 else 3) else 2)) ∧ Below w.heap.size w w' := by
 obtain ⟨h63, h1t, eQ⟩ := iM ht
 obtain ⟨A4, c4, rfl, ⟨hc41, hc42⟩, hr4⟩ := h4.flat
 obtain ⟨A6, n6, c6, rfl, hn6⟩ := h6.form
 obtain ⟨r, aU⟩ : ∃ r, (if fE t on on.length = true then (if cZ m on = true then (0 : Int) else 3) else 2) = r := ⟨_, rfl⟩
 rw [aU]
 obtain ⟨n, hn⟩ : ∃ n, t.length = n := ⟨_, rfl⟩
 obtain rfl : n6 = n := by omega
 have HN := qh hn; have HL := qh hlen; have dA := qh aU; have H6 := qh h6; have H4 := qh hr4; have CO := qh eQ; have UG := qh hon
 have hb0 := (Below.refl w.heap.size w).alloc (Nat.le_refl _) (.cells #[.slice A4 t.length c4, .slice A5 m c5, .slice A6 n6 c6] 29)
 have hb1 := hb0.alloc (by simp) (.cells (madeCells #[.int .i64 0] n6) 3)
 have hk0 := (Blk.new w 29 #[.slice A4 t.length c4, .slice A5 m c5, .slice A6 n6 c6]).alloc (.cells (madeCells #[.int .i64 0] n6) 3)
 have hk1 := Blk.new (w.alloc (.cells #[.slice A4 t.length c4, .slice A5 m c5, .slice A6 n6 c6] 29)) 3 (madeCells #[.int .i64 0] n6)
 rw [World.size_alloc] at hk1
 rw [hn] at hb0 hb1 hk0 hk1 hc41 ⊢
 have Rv : Blk ((w.alloc (.cells #[.slice A4 n6 c4, .slice A5 m c5, .slice A6 n6 c6] 29)).alloc (.cells (madeCells #[.int .i64 0] n6) 3)) (w.heap.size + 1) 3 (CQ n6 fun i => .int .i64 ((lensL t on 0)[i]?.getD 0 : Nat)) := by
  rw [show (CQ n6 fun i => Value.int .i64 ((lensL t on 0)[i]?.getD 0 : Nat)) = madeCells #[.int .i64 0] n6 from (pR (.int .i64 0) n6).symm]
  exact hk1
 have HB1 := qh hb1; have jg := qh hk0; have jr := qh Rv
 unfold maxLen at hc42
 have hn63 : n6 ≤ 63 := by omega
 have hmk := fun W => run_make_row' (P := Tryz.prog) 144 3 (.int .i64 0) 8 Tryz.underlying144 (by kernel_rfl) rfl .i64 .i64 n6 (by omega) (by omega) W
 clear hon hn hlen aU h6 hr4 eQ h4 hb0 hb1 hk0 hk1 Rv ht hn6 h63
 go_enter Tryz.func178, Tryz.ntmps178
 go_wp2
 go_loopw [4, 17] (fun b i wr => ∃ k : Nat, k ≤ n6 ∧ i = .int .i64 k ∧ b = .bool (!cZ m (on.take k)) ∧ fE t on k = true ∧ Blk wr w.heap.size 29 #[.slice A4 n6 c4, .slice A5 m c5, .slice A6 n6 c6] ∧ Blk wr (w.heap.size + 1) 3 (CQ n6 fun i => .int .i64 ((lensL t on k)[i]?.getD 0 : Nat)) ∧ Below w.heap.size w wr) (fun _ i _ => n6 - (RowKit.intOf i).toNat)
 case atStart => exact ⟨0, by omega, rfl, rfl, rfl, jg.out, jr.out, HB1.out⟩
 case round =>
  obtain ⟨k, hk, rfl, rfl, hlo, gp, hbl, hbw⟩ := hrel
  obtain ⟨wo, rfl⟩ : ∃ W, W = wr := ⟨_, rfl⟩
  have VO := qh hlo; have nX := qh gp; have oU := qh hbl; have aQ := qh hbw
  clear hlo gp hbl hbw HB1 jg jr
  have g0 := nX.out.cell 0; have g1 := nX.out.cell 1; have g2 := nX.out.cell 2
  simp only [gq2] at g0 g1 g2
  by_cases hlt : k < n6
  ·have cB : (k : Int) < (n6 : Int) := by omega
   have hk0 : (0 : Int) ≤ (k : Int) := by omega
   have hkt : k < t.length := by rw [HN.out]; exact hlt
   have hko : k < on.length := by rw [HL.out]; exact hkt
   have hkeep : ∀ p : Addr, p.block < B → wo.cell? p = w.cell? p := fun p hp => aQ.out.cell (Nat.lt_of_lt_of_le hp hB)
   obtain ⟨ad6, cs, rfl, had6, hP, aC⟩ := aW (w := wo) (by rintro x cs ⟨v, rfl, -⟩; rfl) (aP.plain hkeep H6.out (fun _ _ h => si.keep hkeep h)) hko
   obtain ⟨vx, rfl, rX⟩ := hP
   obtain ⟨Ax, cx, rfl, ⟨hx1, hx2⟩, DY⟩ := rX.flat
   have e6 := aC 0 _ rfl
   rw [Nat.mul_one, Nat.add_zero] at e6
   obtain ⟨ad4, e, had4, hcc4⟩ := (H4.out.keep hkeep).row (fun _ => rfl) (by decide) hkt
   subst e
   have e4 := hcc4 0 _ rfl
   rw [Nat.add_zero] at e4
   have wX := kR (CO.out k hkt)
   have hrn := pW (m := m) hko
   have hlk : lY t on k = on[k].length + (if 0 ≤ t[k].1 then (lensL t on k)[t[k].1.toNat]?.getD 0 else 0) := by
    unfold lY
    rw [List.getElem?_eq_getElem hkt, List.getElem?_eq_getElem hko]; rfl
   have hat := EY t on k
   have aS := fun h => yw (t := t) (on := on) hko (k := k) h
   have eu := rU (k := k) VO.out
   have hl9 := UG.out _ (List.getElem_mem hko)
   unfold maxLen at hx2
   generalize on[k] = l at *
   generalize t[k] = x at *
   obtain ⟨par, nm⟩ := x
   simp only [] at *
   obtain ⟨lk, JS⟩ : ∃ z, lY t on k = z := ⟨_, rfl⟩
   rw [JS] at hlk hat aS eu
   have HAT := qh hat; have cu := qh aS; have wF := qh eu; have Qq := qh hlk; have dR := qh hrn; have TT := qh DY
   clear aC hcc4 hkeep rX hat aS eu JS hlk hrn DY
   have c1 := (oU.out.cell k).trans (lq _ hlt)
   have fr1 := oU.out.frozen k
   have hsk := oU.out.set_ k (.int .i64 l.length)
   rw [yS] at hsk
   have gp := nX.out.far (p := ⟨w.heap.size + 1, k, none⟩) (by simp) (.int .i64 l.length)
   have hbw := aQ.out.setCell (p := ⟨w.heap.size + 1, k, none⟩) (by simp) (.int .i64 l.length)
   have hno4 : ¬ w.heap.size + 1 = ad4.block := by omega
   have e4' : (wo.setCell ⟨w.heap.size + 1, k, none⟩ (.int .i64 l.length)).cell? (ad4.add (k * 2)) = some (.int .i64 par) := (World.cell?_setCell_far _ _ _ _ (by show w.heap.size + 1 ≠ (ad4.add (k * 2)).block; rw [gq]; omega)).trans e4
   have FE := qh hsk; have Lh := qh gp; have Lf := qh hbw; have MZ := qh wX
   clear hsk gp hbw wX
   go_upto_if 34 with fail
   obtain ⟨w3, hw3⟩ : ∃ W, wo.setCell ⟨w.heap.size + 1, k, none⟩ (.int .i64 l.length) = W := ⟨_, rfl⟩
   rw [hw3] at FE Lh Lf ⊢
   clear hw3 c1 fr1 e4 e4' e6 g0 g1 g2
   go_cut [] (fun wx => Blk wx w.heap.size 29 #[.slice (some ad4) n6 c4, .slice A5 m c5, .slice (some ad6) n6 c6] ∧ Blk wx (w.heap.size + 1) 3 (CQ n6 fun i => .int .i64 ((lensL t on (k + 1))[i]?.getD 0 : Nat)) ∧ Below w.heap.size w wx)
   case first =>
    have wX := MZ.out
    have hlk := Qq.out
    have hlo := fun i => GH (i := i) VO.out
    rcases wX with ⟨hk00, rfl⟩ | ⟨dP, hp0, hpk⟩
    ·rw [if_neg (by decide), Nat.add_zero] at hlk
     have ay : Blk w3 (w.heap.size + 1) 3 (CQ n6 fun i => .int .i64 ((lensL t on (k + 1))[i]?.getD 0 : Nat)) := by
      have h := FE.out
      rwa [show lU (fun i => Value.int IntKind.i64 ((lensL t on k)[i]?.getD 0 : Nat)) k (Value.int IntKind.i64 l.length) = fun i => .int .i64 ((lensL t on (k + 1))[i]?.getD 0 : Nat) from by
       funext i
       unfold lU
       rw [HAT.out i]
       by_cases e : i = k
       ·rw [if_pos e, if_pos e, hlk]
       ·rw [if_neg e, if_neg e]] at h
     have aD := qh ay
     clear ay hlk hlo hk00
     go_wp2
     go_meet
     exact ⟨Lh.out, aD.out, Lf.out⟩
    ·obtain ⟨p, rfl⟩ : ∃ p : Nat, par = p := ⟨par.toNat, by omega⟩
     rw [if_pos hp0, Int.toNat_natCast] at hlk
     have hp64 := hlo p
     obtain ⟨lp, hlp⟩ : ∃ z, (lensL t on k)[p]?.getD 0 = z := ⟨_, rfl⟩
     rw [hlp] at hlk hp64
     have hpn : (p : Int) < (n6 : Int) := by omega
     have hpl : p < n6 := by omega
     have d1 : w3.cell? ⟨w.heap.size + 1, k, none⟩ = some (.int .i64 l.length) := by
      rw [FE.out.cell k, lq _ hlt]; unfold lU; rw [if_pos rfl]
     have d2 : w3.cell? ⟨w.heap.size + 1, p, none⟩ = some (.int .i64 lp) := by
      rw [FE.out.cell p, lq _ hpl]; unfold lU; rw [if_neg (by omega)]; simp only [hlp]
     have hfr := FE.out.frozen k
     have ay : Blk (w3.setCell ⟨w.heap.size + 1, k, none⟩ (.int .i64 lk)) (w.heap.size + 1) 3 (CQ n6 fun i => .int .i64 ((lensL t on (k + 1))[i]?.getD 0 : Nat)) := by
      have h := FE.out.set_ k (.int .i64 lk)
      rw [yS] at h
      rwa [show lU (lU (fun i => Value.int IntKind.i64 ((lensL t on k)[i]?.getD 0 : Nat)) k (Value.int IntKind.i64 l.length)) k (.int .i64 lk) = fun i => .int .i64 ((lensL t on (k + 1))[i]?.getD 0 : Nat) from by
       funext i
       unfold lU
       rw [HAT.out i]
       by_cases e : i = k
       ·rw [if_pos e, if_pos e]
       ·rw [if_neg e, if_neg e, if_neg e]] at h
     have aD := qh ay
     have gp := Lh.out.far (p := ⟨w.heap.size + 1, k, none⟩) (by simp) (.int .i64 lk)
     have hbw := Lf.out.setCell (p := ⟨w.heap.size + 1, k, none⟩) (by simp) (.int .i64 lk)
     have Nl := qh gp; have rE := qh hbw
     have hsum : (l.length : Int) + (lp : Int) = (lk : Int) := by omega
     have hwv : Value.int .i64 (wrap64 (lk : Int)) = Value.int .i64 lk := by rw [IntWalk.wrap64_in _ ⟨by omega, by omega⟩]
     have HWV := qh hwv
     clear ay hlk hlo gp hbw FE Lh Lf HAT hlp hwv
     go_wp2
     go_region
     all_goals
      go_wp2
      go_meet
      try rw [HWV.out]
      exact ⟨Nl.out, aD.out, rE.out.drew⟩
   case rest =>
   obtain ⟨gp, hbl, hbw⟩ := hcut
   have hlen2 : ((lensL t on (k + 1))[k]?.getD 0) = lk := by rw [HAT.out k, if_pos rfl]
   have d1 := (hbl.cell k).trans (lq _ hlt)
   simp only [hlen2] at d1
   have Nl := qh gp; have YF := qh hbl; have rE := qh hbw
   clear gp hbl hbw hlen2 FE Lh Lf nX oU HAT
   by_cases h64 : 64 < lk
   ·have Kb : (64 : Int) < (lk : Int) := by omega
    have hr := dA.out
    rw [if_neg (by rw [cu.out h64]; decide)] at hr
    subst hr
    clear h64
    go_wp2
    go_ret
    exact ⟨rfl, rE.out⟩
   ·have Kb : ¬ (64 : Int) < (lk : Int) := by omega
    have Yi := qh (wF.out (by omega))
    have DY := TT.out
    have hkeep3 : ∀ p : Addr, p.block < B → wc.cell? p = wo.cell? p := fun p hp => (rE.out.cell (Nat.lt_of_lt_of_le hp hB)).trans (aQ.out.cell (Nat.lt_of_lt_of_le hp hB)).symm
    have CL := qh (TT.out.keep hkeep3)
    clear h64 DY hkeep3 cu wF TT VO
    obtain ⟨bq, hbq⟩ : ∃ b, cZ m (on.take k) = b := ⟨_, rfl⟩
    rw [hbq] at dR ⊢
    clear hbq
    go_wp2
    go_loopw [4, 52] (fun b i wr => ∃ j : Nat, j ≤ l.length ∧ i = .int .i64 j ∧ b = .bool (!(bq && jU m (l.take j))) ∧ wc = wr) (fun _ i _ => l.length - (RowKit.intOf i).toNat)
    case atStart => exact ⟨0, by omega, rfl, by rw [List.take_zero]; show _ = Value.bool (!(bq && true)); rw [Bool.and_true], rfl⟩
    case round =>
     obtain ⟨j, hj, rfl, rfl, rfl⟩ := hrel
     have g1 := Nl.out.cell 1
     simp only [gq2] at g1
     by_cases Rn : j < l.length
     ·have JU : (j : Int) < (l.length : Int) := by omega
      have hj0 : (0 : Int) ≤ (j : Int) := by omega
      obtain ⟨adx, e, hadx, RA⟩ := CL.out.row (fun _ => rfl) (by decide) Rn
      subst e
      have ex := RA 0 _ rfl
      rw [Nat.mul_one, Nat.add_zero] at ex
      have dU := uC (m := m) Rn
      generalize l[j] = x at *
      obtain ⟨bj, hbj⟩ : ∃ b, (bq && jU m (l.take j)) = b := ⟨_, rfl⟩
      have hnx2 : (bq && jU m (l.take (j + 1))) = (bj && decide (0 ≤ x ∧ x < (m : Int))) := by rw [dU, ← Bool.and_assoc, hbj]
      rw [hbj]
      have ou := qh hnx2
      clear RA dU hnx2 hbj
      cases bj with
      | false =>
        go_wp2
        go_roundw
        case rel => exact ⟨j + 1, by omega, by go_num, by rw [ou.out]; rfl, trivial⟩
        case measure => simp [RowKit.intOf]; omega
      | true =>
        by_cases hx0 : x < 0
        ·go_wp2
         go_roundw
         case rel => exact ⟨j + 1, by omega, by go_num, by rw [ou.out, decide_eq_false (by omega)]; rfl, trivial⟩
         case measure => simp [RowKit.intOf]; omega
        ·by_cases hxm : (m : Int) ≤ x
         ·go_wp2
          go_roundw
          case rel => exact ⟨j + 1, by omega, by go_num, by rw [ou.out, decide_eq_false (by omega)]; rfl, trivial⟩
          case measure => simp [RowKit.intOf]; omega
         ·go_wp2
          go_roundw
          case rel => exact ⟨j + 1, by omega, by go_num, by rw [ou.out, decide_eq_true (by omega)]; rfl, trivial⟩
          case measure => simp [RowKit.intOf]; omega
     ·obtain rfl : j = l.length := by omega
      rw [List.take_length]
      rw [← dR.out]
      go_wp2
      go_roundw
      case rel => exact ⟨k + 1, by omega, by go_num, rfl, Yi.out, Nl.out, YF.out, rE.out⟩
      case measure => simp [RowKit.intOf]; omega
  ·obtain rfl : k = n6 := by omega
   have hr := dA.out
   rw [HL.out, HN.out, if_pos VO.out] at hr
   have aI : on.take k = on := List.take_of_length_le (by rw [HL.out, HN.out]; exact Nat.le_refl _)
   rw [aI]
   cases hq : cZ m on with
   | true =>
     rw [hq, if_pos rfl] at hr
     subst hr
     clear aI
     go_wp2
     go_ret
     exact ⟨rfl, aQ.out⟩
   | false =>
     rw [hq, if_neg (by decide)] at hr
     subst hr
     clear aI
     go_wp2
     go_ret
     exact ⟨rfl, aQ.out⟩
theorem vB {w : World} {B : Nat} {l : Lw} {cs : List Value} (h : fI w B l cs) : cs[0]? = some (.string l.name) := by
 obtain ⟨q1, q2, A3, c3, A4, c4, rfl, -⟩ := h
 rfl
theorem rY {t : List Nd} {au : List Lw} {on : List (List Int)} (h : dN t au on = 0) : cz t = 0 ∧ au.length ≤ 64 ∧ (∀ l ∈ au, dE l = true) ∧ on.length = t.length ∧ fE t on on.length = true ∧ cZ au.length on = true := by
 unfold dN at h
 by_cases h1 : cz t = 0
 ·rw [if_pos h1] at h
  by_cases h2 : 64 < au.length
  ·rw [if_pos h2] at h; cases h
  rw [if_neg h2] at h
  by_cases h3 : au.all dE = true
  ·rw [if_pos h3] at h
   by_cases h4 : (au.map fun l => bs l.name).Nodup
   ·rw [if_pos h4] at h
    by_cases h5 : on.length = t.length
    ·rw [if_pos h5] at h
     by_cases h6 : fE t on on.length = true
     ·rw [if_pos h6] at h
      by_cases h7 : cZ au.length on = true
      ·exact ⟨h1, by omega, List.all_eq_true.1 h3, h5, h6, h7⟩
      ·rw [if_neg h7] at h; cases h
     ·rw [if_neg h6] at h; cases h
    ·rw [if_neg h5] at h; cases h
   ·rw [if_neg h4] at h; cases h
  ·rw [if_neg h3] at h; cases h
 ·rw [if_neg h1] at h; cases h
theorem wZ (v4 v5 v6 : Value) (B : Nat) (t : List Nd) (au : List Lw) (on : List (List Int)) (w : World) (h4 : aP Ho 2 w B t v4) (h5 : aP fI 18 w B au v5) (h6 : aP si 1 w B on v6) (hB : B ≤ w.heap.size) (hs : ∀ x ∈ t, x.2.size ≤ maxLen) (hln : ∀ l ∈ au, l.name.size ≤ maxLen) (hon : ∀ l ∈ on, l.length ≤ 1000000000) :
 Calls Tryz.prog 129 #[.agg #[v4, v5, v6]] w fun e w' => e = .returned (.int .i64 (dN t au on)) ∧ Below w.heap.size w w' := by
 obtain ⟨A4, m4, c4, rfl, e4⟩ := h4.form
 obtain ⟨A5, m5, c5, rfl, e5⟩ := h5.form
 obtain ⟨A6, m6, c6, rfl, e6⟩ := h6.form
 have hm5 := h5.len.2.1
 have Mt := h5.len.2.2
 obtain ⟨r, aU⟩ : ∃ r, dN t au on = r := ⟨_, rfl⟩
 rw [aU]
 unfold dN at aU
 have hb0 := (Below.refl w.heap.size w).alloc (Nat.le_refl _) (.cells #[.slice A4 m4 c4, .slice A5 m5 c5, .slice A6 m6 c6] 29)
 have hk0 := Blk.new w 29 #[.slice A4 m4 c4, .slice A5 m5 c5, .slice A6 m6 c6]
 have dP := fun (W : World) (hW : Below w.heap.size w W) => fun (p : Addr) (hp : p.block < B) => hW.cell (p := p) (Nat.lt_of_lt_of_le hp hB)
 obtain ⟨W0, hW0⟩ : ∃ W, w.alloc (.cells #[.slice A4 m4 c4, .slice A5 m5 c5, .slice A6 m6 c6] 29) = W := ⟨_, rfl⟩
 rw [hW0] at hb0 hk0
 have htc := kr (.slice A4 m4 c4) B t W0 (aP.plain (dP W0 hb0) h4 (fun _ _ h => h)) (by have := hb0.size; omega) hs
 have dA := qh aU; have H4 := qh h4; have H5 := qh h5; have H6 := qh h6; have HS := qh hs; have Yj := qh hln; have UG := qh hon; have Hu := qh dP; have E4 := qh e4; have E5 := qh e5; have E6 := qh e6; have MS := qh htc; have HB0 := qh hb0; have jg := qh hk0; have HW := qh hW0
 have g0 := hk0.cell 0
 simp only [gq2] at g0
 unfold maxLen at Mt
 clear aU h4 h5 h6 hs hln hon dP e4 e5 e6 htc hb0 hk0 hW0
 go_enter Tryz.func129, Tryz.ntmps129
 go_wp2_with (rw [HW.out])
 refine MS.out.mono ?_
 rintro e w1 ⟨rfl, hb1⟩
 have hsz0 := jg.out.lt
 have HB1 := qh (HB0.out.trans (hb1.mono HB0.out.size)); have jr := qh (jg.out.below hb1 hsz0)
 have hs1 := hb1.size
 clear hb1 g0 MS HW
 have g1 := jr.out.cell 1
 simp only [gq2] at g1
 by_cases ht : cz t = 0
 case neg =>
  have Wx : (cz t != (0 : Int)) = true := by rw [bne_iff_ne]; exact ht
  obtain rfl : r = 16 := by rw [← dA.out, if_neg ht]
  clear ht
  go_wp2
  go_ret
  exact ⟨rfl, HB1.out⟩
 have Wx : (cz t != (0 : Int)) = false := by rw [ht]; rfl
 have aU := dA.out
 rw [if_pos ht] at aU
 have HT := qh ht
 by_cases h64 : 64 < m5
 ·have Kb : (64 : Int) < (m5 : Int) := by omega
  obtain rfl : r = 12 := by rw [← aU, if_pos (by rw [← E5.out]; exact h64)]
  clear aU dA ht
  go_wp2
  go_ret
  exact ⟨rfl, HB1.out⟩
 have Kb : ¬ (64 : Int) < (m5 : Int) := by omega
 rw [if_neg (by rw [← E5.out]; exact h64)] at aU
 have dA := qh aU
 have hmm := @run_makeMap Tryz.prog
 have Y3 := HB1.out.alloc HB1.out.size (.map #[] 0)
 have Qh := jr.out.alloc (.map #[] 0)
 have hmp := iY.made w1
 have hne : w.heap.size ≠ w1.heap.size := by omega
 have HBM := qh Y3; have HKM := qh Qh; have Qo := qh hmp
 have g1 := Qh.cell 1
 simp only [gq2] at g1
 clear Y3 Qh hmp aU ht h64
 go_wp2
 go_loopw [18] (fun i wr => ∃ k : Nat, k ≤ m5 ∧ i = .int .i64 k ∧ (au.take k).all dE = true ∧ iY wr w1.heap.size ((au.take k).map fun l => bs l.name) ∧ Blk wr w.heap.size 29 #[.slice A4 m4 c4, .slice A5 m5 c5, .slice A6 m6 c6] ∧ Below w.heap.size w wr ∧ w1.heap.size < wr.heap.size) (fun i _ => m5 - (RowKit.intOf i).toNat)
 case atStart => exact ⟨0, by omega, rfl, by simp, Qo.out, HKM.out, HBM.out, by simp⟩
 case round =>
  obtain ⟨k, hk, rfl, aI, hmp, gp, hbw, hsz⟩ := hrel
  have bf := qh aI; have UR := qh hmp; have nX := qh gp; have aQ := qh hbw
  clear aI hmp gp hbw g1
  by_cases hlt : k < m5
  ·have bB : k < au.length := by have := E5.out; omega
   have cB : (k : Int) < (m5 : Int) := by omega
   have hk0 : (0 : Int) ≤ (k : Int) := by omega
   have hkeep := Hu.out wr aQ.out
   obtain ⟨ad, cs, rfl, had, hP, aC⟩ := aW (w := wr) (by intro x cs h; exact fC h) (aP.plain hkeep H5.out (fun _ _ h => h.keep hkeep)) bB
   have hcell : ∀ j u, cs[j]? = some u → wr.cell? ((ad.add (k * 18)).add j) = some u := fun j u hu => by rw [add_add]; exact aC j u hu
   have h18 := fC hP
   have gQ := Jy hP
   have hnm0 := vB hP
   have OG := Yj.out _ (List.getElem_mem bB)
   have htk : (au.take (k + 1)).all dE = ((au.take k).all dE && dE au[k]) := by rw [List.take_succ_eq_append_getElem bB, List.all_append]; simp
   have htn : ((au.take (k + 1)).map fun l => bs l.name) = ((au.take k).map fun l => bs l.name) ++ [au[k].name.data.toList] := by rw [List.take_succ_eq_append_getElem bB, List.map_append]; rfl
   have NM : dE au[k] = false → ¬ au.all dE = true := fun h h2 => by rw [List.all_eq_true.1 h2 _ (List.getElem_mem bB)] at h; cases h
   rw [bf.out, Bool.true_and] at htk
   generalize au[k] = x at *
   have hlc := pV (wr.alloc (.cells cs.toArray 62)) B x cs (hP.keep fun p hp => World.cell?_alloc_lt wr _ p (by have := aQ.out.size; omega)) (by rw [World.size_alloc]; have := aQ.out.size; omega) OG
   have hblk := Blk.new wr 62 cs.toArray
   have hz := Blk.new wr 62 Od.toArray
   have hset := yY wr 62 Od.toArray cs.toArray
   have Zw := qh hlc; have fZ := qh (aQ.out.alloc aQ.out.size (.cells cs.toArray 62)); have P6 := qh hblk; have HZ := qh hz; have KP := qh hset; have Vl := qh h18; have jR := qh gQ; have Lb := qh hcell; have rC := qh hnm0; have FD := qh htk; have HTN := qh htn; have dX := qh NM
   have Zu := qh (UR.out.below ((Below.refl _ wr).alloc (Nat.le_refl _) (.cells cs.toArray 62))); have U4 := qh (nX.out.alloc (.cells cs.toArray 62))
   clear hlc hblk hz hset h18 gQ hcell hP hkeep aC hnm0 htk htn NM
   go_wp2_with (first | (refine rV rfl _ rfl _ rfl cs Vl.out Lb.out ?_; simp only [Act.put, gq1]) | (refine DU rfl _ _ rfl _ rfl cs Od rfl Vl.out jR.out HZ.out rfl ?_; rw [KP.out]; simp only [Act.put, gq1]) | (refine iP rfl _ rfl _ rfl _ Vl.out P6.out ?_; simp only [Act.put, gq1]))
   refine Zw.out.mono ?_
   rintro e w5 ⟨rfl, hb5⟩
   have mh := qh (fZ.out.trans (hb5.mono fZ.out.size)); have VM := qh (Zu.out.below hb5); have yN := qh (U4.out.below hb5 U4.out.lt)
   have hx5 := P6.out.below hb5 P6.out.lt
   have hn5 : w5.cell? ⟨wr.heap.size, 0, none⟩ = some (.string x.name) := by
    rw [hx5.cell 0, List.getElem?_toArray]
    exact rC.out
   have hs5 := hb5.size
   rw [World.size_alloc] at hs5
   clear hb5 hx5 Zu U4 Zw
   cases hq : dE x with
   | false =>
     have hqe : (nR x != (0 : Int)) = true := by simp [zo hq]
     obtain rfl : r = 17 := by rw [← dA.out, if_neg (dX.out hq)]
     clear hq
     go_wp2
     go_ret
     exact ⟨rfl, mh.out⟩
   | true =>
     have hqe : (nR x != (0 : Int)) = false := by simp [vC hq]
     have hall2 := FD.out
     rw [hq] at hall2
     have FL := qh hall2
     obtain ⟨c, hc0, hc1, om⟩ := VM.out.look x.name OG
     have hlen : ((au.take k).map fun l => bs l.name).length = k := by rw [List.length_map, List.length_take]; omega
     rw [hlen] at hc1
     have gu := qh hlen
     clear hq hall2 hlen
     go_wp2_with (at_mapUpdate; (refine yR rfl _ _ _ rfl w1.heap.size _ rfl VM.out (by have := gu.out; omega) x.name OG (c + 1) (by omega) (by have := gu.out; omega) rfl rfl ?_; intro w6 hmap6 hg6))
     rw [← HTN.out] at hmap6
     have hb6 := mh.out.grown hg6 mh.out.size (fun j hj => by injection hj with hj; omega)
     have hk6 := yN.out.grown hg6 (fun e => by injection e with e; omega)
     have hs6 := hg6.size
     go_roundw
     case rel => exact ⟨k + 1, by omega, by go_num, FL.out, hmap6, hk6, hb6, by omega⟩
     case measure => simp [RowKit.intOf]; omega
  ·obtain rfl : k = m5 := by omega
   have aI := bf.out
   have hmp := UR.out
   rw [List.take_of_length_le (by have := E5.out; omega)] at aI hmp
   have aU := dA.out
   rw [if_pos aI] at aU
   obtain ⟨nn, hlenr, hnn⟩ := hmp.len 3
   have g0 := nX.out.cell 0; have g1 := nX.out.cell 1; have g2 := nX.out.cell 2
   simp only [gq2] at g0 g1 g2
   have hnl : (au.map fun l => bs l.name).length = k := by rw [List.length_map]; exact E5.out.symm
   rw [hnl] at hnn
   clear aI hmp
   by_cases eQ : (au.map fun l => bs l.name).Nodup
   case neg =>
    rw [if_neg eQ] at aU
    subst aU
    have OH : (nn : Int) < (k : Int) := by rcases hnn with h | h; exact absurd h.2 eQ; omega
    clear eQ hnn
    go_wp2
    go_ret
    exact ⟨rfl, aQ.out⟩
   rw [if_pos eQ] at aU
   have OH : ¬ (nn : Int) < (k : Int) := by rcases hnn with h | h; omega; exact absurd eQ h.2
   by_cases hl : on.length = t.length
   case neg =>
    rw [if_neg hl] at aU
    subst aU
    have Vz : ((m6 : Int) != (m4 : Int)) = true := by rw [bne_iff_ne]; have := E4.out; have := E6.out; omega
    clear eQ hnn hl
    go_wp2
    go_ret
    exact ⟨rfl, aQ.out⟩
   rw [if_pos hl] at aU
   have Vz : ((m6 : Int) != (m4 : Int)) = false := by rw [bne_eq_false_iff_eq]; have := E4.out; have := E6.out; omega
   have hkeep := Hu.out wr aQ.out
   have WO := Eb (.slice A4 m4 c4) (.slice A6 m6 c6) A5 k c5 B t on wr (aP.plain hkeep H4.out (fun _ _ h => h)) (aP.plain hkeep H6.out (fun _ _ h => si.keep hkeep h)) (Nat.le_trans hB aQ.out.size) HT.out hl UG.out
   rw [show au.length = k from E5.out.symm] at aU
   rw [aU] at WO
   have HLI := qh WO
   clear WO aU hkeep eQ hnn hl
   go_wp2_with fail
   refine HLI.out.mono ?_
   rintro e w9 ⟨rfl, hb9⟩
   have EK := qh (aQ.out.trans (hb9.mono aQ.out.size))
   clear hb9
   go_wp2
   go_ret
   exact ⟨rfl, EK.out⟩
end Go.Proofs.YtmepaeahchiglaaGreatDoor
