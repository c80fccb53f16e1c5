/-
  layer 22: the reference's Check of trees. Conditions: a tree that can be read.
-/
import Derived.Test.YtmepaeahchiglaaGreatDoorZaay
namespace Go.Proofs.YtmepaeahchiglaaGreatDoor
open Go.RowKit Go.Lib

def freshN (t : List Nd) (m : Nat) (s : ByteArray) : Bool := (t.take m).all fun x => !decide (bs x.2 = bs s)
theorem freshN_next {t : List Nd} {m : Nat} {s : ByteArray} (hm : m < t.length) (h : freshN t m s = true) : freshN t (m + 1) s = !decide (bs t[m].2 = bs s) := by
  unfold freshN at *
  rw [List.take_succ_eq_append_getElem hm, List.all_append, h]; simp
theorem freshN_all {t : List Nd} {k : Nat} {s : ByteArray} (h : freshN t k s = true) : ∀ x ∈ t.take k, bs x.2 ≠ bs s := fun x hx => by
  have := List.all_eq_true.1 h x hx
  simpa using this
set_option linter.unusedSimpArgs false in
set_option maxRecDepth 20000 in
set_option maxHeartbeats 8000000 in
theorem rtree_any (v : Value) (B : Nat) (t : List Nd) (w : World) (h : SlC NdC 2 w B t v) (hB : B ≤ w.heap.size) (hs : ∀ x ∈ t, x.2.size ≤ maxLen) :
    Calls Tryz.prog 199 #[v] w fun e w' => e = .returned (.int .i64 (treeE t)) ∧ Below w.heap.size w w' := by
  obtain ⟨A, c, rfl, ⟨hc1, hc2⟩, hr⟩ := h.flat
  unfold maxLen at hc2
  obtain ⟨r, hre⟩ : ∃ r, treeE t = r := ⟨_, rfl⟩
  rw [hre]
  have HRE := Lib.hid hre; have HR := Lib.hid hr; have HS := Lib.hid hs
  clear hre hr hs h
  obtain ⟨n, hn⟩ : ∃ n, t.length = n := ⟨_, rfl⟩
  rw [hn] at hc1 ⊢
  have HN := Lib.hid hn
  clear hn
  by_cases h0 : n < 1
  · obtain rfl : r = 16 := HRE.out.symm.trans (badT_len (.inl (by have := HN.out; omega)))
    have h0I : (n : Int) < 1 := by omega
    clear h0 HRE
    go_enter Tryz.func199, Tryz.ntmps199
    go_wp2
    go_ret
    exact ⟨rfl, Below.refl _ _⟩
  have h0I : ¬ (n : Int) < 1 := by omega
  by_cases h63 : 63 < n
  · obtain rfl : r = 16 := HRE.out.symm.trans (badT_len (.inr (by have := HN.out; omega)))
    have h63I : (63 : Int) < (n : Int) := by omega
    clear h63 h0 HRE
    go_enter Tryz.func199, Tryz.ntmps199
    go_wp2
    go_ret
    exact ⟨rfl, Below.refl _ _⟩
  have h63I : ¬ (63 : Int) < (n : Int) := by omega
  have hlt0 : 0 < t.length := by have := HN.out; omega
  obtain ⟨ad0, e, had0, hcc0⟩ := HR.out.row (fun _ => rfl) (by decide) hlt0
  subst e
  have z0 := hcc0 0 _ rfl
  rw [Nat.zero_mul, Nat.add_zero] at z0
  obtain ⟨p0, hp0⟩ : ∃ p, t[0].1 = p := ⟨_, rfl⟩
  rw [hp0] at z0
  have z1 : w.cell? ad0 = some (.int .i64 p0) := by
    have h := z0
    unfold Addr.add at h
    simpa using h
  have h0n : (0 : Int) < (n : Int) := by omega
  have HP0 := Lib.hid hp0
  clear hcc0 hp0
  by_cases hm1 : p0 = -1
  case neg =>
    obtain rfl : r = 16 := HRE.out.symm.trans (badT_node hlt0 (by unfold ndOk; rw [if_pos rfl, HP0.out, decide_eq_false hm1, Bool.false_and]))
    have hm1I : (p0 != (-1 : Int)) = true := by rw [bne_iff_ne]; exact hm1
    clear hm1 HRE h0 h63
    go_enter Tryz.func199, Tryz.ntmps199
    go_wp2
    go_ret
    exact ⟨rfl, Below.refl _ _⟩
  have hm1I : (p0 != (-1 : Int)) = false := by rw [hm1]; rfl
  have HM1 := Lib.hid hm1
  clear hm1 h0 h63
  go_enter Tryz.func199, Tryz.ntmps199
  go_wp2
  go_loopw [3] (fun i wr => ∃ k : Nat, k ≤ n ∧ i = .int .i64 k ∧ goodT t k ∧ Below w.heap.size w wr) (fun i _ => n - (RowKit.intOf i).toNat)
  case atStart => exact ⟨0, by omega, rfl, goodT_zero t, Below.refl _ _⟩
  case round =>
    obtain ⟨k, hk, rfl, hgo, hbw⟩ := hrel
    have HGO := Lib.hid hgo; have HBW := Lib.hid hbw
    obtain ⟨V, hV⟩ : ∃ W, W = wr := ⟨_, rfl⟩
    subst hV
    clear hgo hbw z0 z1
    by_cases hlt : k < n
    · have hkl : k < t.length := by have := HN.out; omega
      have hkI : (k : Int) < (n : Int) := by omega
      have hk0 : (0 : Int) ≤ (k : Int) := by omega
      obtain ⟨ad, e, had, hcc⟩ := HR.out.row (fun _ => rfl) (by decide) hkl
      obtain rfl := Option.some.inj e
      have e0 := hcc 0 _ rfl
      have e1 := hcc 1 _ rfl
      rw [Nat.add_zero] at e0
      rw [add_next ad0 (k * 2) 0] at e1
      have hadb : ∀ m, (ad0.add m).block < B := fun m => by rw [add_block_]; exact had
      have hbad := badT_node hkl
      have hgood := goodT_next hkl HGO.out
      have hsz := HS.out _ (List.getElem_mem hkl)
      have hdup := fun (m : Nat) (hm : m < k) (h : bs (t[m]'(Nat.lt_trans hm hkl)).2 = bs t[k].2) => badT_name hkl hm h
      have hpar0 : k = 0 → t[k].1 = p0 := fun e => by subst e; exact HP0.out
      have f0 := (HBW.out.cell (p := ad0.add (k * 2)) (Nat.lt_of_lt_of_le (hadb _) hB)).trans e0
      have f1 := (HBW.out.cell (p := ⟨(ad0.add (k * 2)).block, (ad0.add (k * 2)).off + (0 + 1), none⟩) (Nat.lt_of_lt_of_le (hadb (k * 2)) hB)).trans e1
      have hstr : ∃ x, t[k] = x := ⟨_, rfl⟩
      obtain ⟨x, hx⟩ := hstr
      have HX := Lib.hid hx
      rw [hx] at e0 e1 hbad hgood hsz hdup hpar0 f0 f1
      clear hx hcc
      obtain ⟨par, nm⟩ := x
      simp only [] at *
      have hnm := rname_any nm V hsz
      have HBAD := Lib.hid hbad; have HGOOD := Lib.hid hgood; have HDUP := Lib.hid hdup; have HPAR0 := Lib.hid hpar0; have HNM := Lib.hid hnm; have HE1 := Lib.hid e1
      clear hbad hgood hdup hpar0 hnm e0 e1 hsz
      by_cases hpk : (k = 0) ∨ (0 ≤ par ∧ par < k)
      case neg =>
        obtain rfl : r = 16 := HRE.out.symm.trans (HBAD.out (by
          unfold ndOk
          rw [if_neg (fun e => hpk (.inl e))]
          simp only [Bool.and_eq_false_iff, decide_eq_false_iff_not]
          left
          by_cases h1 : 0 ≤ par
          · right; intro h2; exact hpk (.inr ⟨h1, h2⟩)
          · left; exact h1))
        have hkpI : (0 : Int) < (k : Int) := by omega
        by_cases hq1 : par < 0
        · clear hpk
          go_wp2
          go_ret
          exact ⟨rfl, HBW.out⟩
        · have hq2 : (k : Int) ≤ par := by omega
          clear hpk
          go_wp2
          go_ret
          exact ⟨rfl, HBW.out⟩
      have hnd : ndOk k (par, nm) = okName nm := by
        unfold ndOk
        by_cases e : k = 0
        · rw [if_pos e]
          have := HPAR0.out e
          rw [decide_eq_true (this.trans HM1.out), Bool.true_and]
        · rw [if_neg e]
          have h2 := hpk.resolve_left e
          rw [decide_eq_true h2.1, decide_eq_true h2.2]; rfl
      have HND := Lib.hid hnd
      clear hnd
      rcases hpk with hc | hc
      all_goals
        first
          | (have hkpI : ¬ (0 : Int) < (k : Int) := by omega)
          | (have hkpI : (0 : Int) < (k : Int) := by
               rcases Nat.eq_zero_or_pos k with e | e
               · exfalso; rw [e] at hc; omega
               · omega
             have hq1 : ¬ par < 0 := by omega
             have hq2 : ¬ (k : Int) ≤ par := by omega)
        clear hc
        go_wp2_with fail
        refine HNM.out.mono ?_
        rintro e V' ⟨rfl, rfl⟩
        obtain ⟨q, hq⟩ : ∃ q, okName nm = q := ⟨_, rfl⟩
        have hnd := HND.out
        rw [hq] at hnd ⊢
        have HND2 := Lib.hid hnd
        clear hnd hq
        cases q with
        | false =>
          obtain rfl : r = 16 := HRE.out.symm.trans (HBAD.out HND2.out)
          go_wp2
          go_ret
          exact ⟨rfl, HBW.out⟩
        | true =>
          go_wp2
          go_loopw [4] (fun j wr => ∃ m : Nat, m ≤ k ∧ j = .int .i64 m ∧ freshN t m nm = true ∧ Below w.heap.size w wr) (fun j _ => k - (RowKit.intOf j).toNat)
          case atStart => exact ⟨0, by omega, rfl, rfl, HBW.out⟩
          case round =>
            obtain ⟨m, hm, rfl, hfr, hb2⟩ := hrel
            have HFR := Lib.hid hfr; have HB2 := Lib.hid hb2
            obtain ⟨U, hU⟩ : ∃ W, W = wr := ⟨_, rfl⟩
            subst hU
            clear hfr hb2 f0 f1
            by_cases hmk : m < k
            · first
                | (exfalso; omega)
                | (have hml : m < t.length := by omega
                   have hmI : (m : Int) < (k : Int) := by omega
                   have hm0 : (0 : Int) ≤ (m : Int) := by omega
                   have hmn : (m : Int) < (n : Int) := by omega
                   obtain ⟨ad, e, had2, hcc⟩ := HR.out.row (fun _ => rfl) (by decide) hml
                   obtain rfl := Option.some.inj e
                   have d1 := hcc 1 _ rfl
                   rw [add_next ad0 (m * 2) 0] at d1
                   have f1 := (HB2.out.cell (p := ⟨(ad0.add (k * 2)).block, (ad0.add (k * 2)).off + (0 + 1), none⟩) (Nat.lt_of_lt_of_le (hadb (k * 2)) hB)).trans HE1.out
                   have f2 := (HB2.out.cell (p := ⟨(ad0.add (m * 2)).block, (ad0.add (m * 2)).off + (0 + 1), none⟩) (Nat.lt_of_lt_of_le (hadb (m * 2)) hB)).trans d1
                   have hnx := freshN_next hml HFR.out
                   have hdp := HDUP.out m hmk
                   generalize t[m] = y at *
                   obtain ⟨py, ny⟩ := y
                   simp only [] at *
                   have hbeq : (ny.toList == nm.toList) = decide (bs ny = bs nm) := beq_bs ny nm
                   by_cases hsm : bs ny = bs nm
                   · obtain rfl : r = 16 := HRE.out.symm.trans (hdp hsm)
                     rw [decide_eq_true hsm] at hbeq
                     clear hnx hdp hsm hcc d1
                     go_wp2
                     go_region
                     go_wp2
                     go_ret
                     exact ⟨rfl, HB2.out.drew⟩
                   · rw [decide_eq_false hsm] at hbeq hnx
                     have HNX := Lib.hid hnx
                     clear hnx hdp hsm hcc d1
                     go_wp2
                     go_region
                     go_wp2
                     go_roundw
                     case rel => exact ⟨m + 1, by omega, by go_num, HNX.out, HB2.out.drew⟩
                     case measure => simp [RowKit.intOf]; omega)
            · obtain rfl : k = m := by omega
              have hgd := HGOOD.out HND2.out (by rw [HX.out] at *; exact freshN_all HFR.out)
              have HGD := Lib.hid hgd
              clear hgd HFR hmk
              go_wp2
              go_roundw
              case rel => exact ⟨k + 1, by omega, by go_num, HGD.out, HB2.out⟩
              case measure => simp [RowKit.intOf]; omega
    · obtain rfl : n = k := by omega
      obtain rfl : r = 0 := by
        have h1 := HGO.out
        have h2 := HN.out
        rw [← h2] at h1
        exact HRE.out.symm.trans (goodT_all h1 (by omega) (by omega))
      go_wp2
      go_ret
      exact ⟨rfl, HBW.out⟩
end Go.Proofs.YtmepaeahchiglaaGreatDoor
namespace Go.Proofs.YtmepaeahchiglaaGreatDoor
open Go.RowKit Go.Lib

def kidsN (t : List Nd) (v : Int) (k : Nat) : Nat := ((t.take k).filter fun x => decide (x.1 = v)).length
theorem kidsN_next {t : List Nd} {v : Int} {k : Nat} (hk : k < t.length) : kidsN t v (k + 1) = kidsN t v k + (if t[k].1 = v then 1 else 0) := by
  unfold kidsN
  rw [List.take_succ_eq_append_getElem hk, List.filter_append, List.length_append]
  congr 1
  by_cases h : t[k].1 = v
  · rw [if_pos h, List.filter_cons_of_pos (by simpa using h)]; rfl
  · rw [if_neg h, List.filter_cons_of_neg (by simpa using h)]; rfl
theorem kidsN_le {t : List Nd} {v : Int} (k : Nat) : kidsN t v k ≤ t.length := by
  unfold kidsN
  exact Nat.le_trans (List.length_filter_le _ _) (by rw [List.length_take]; exact Nat.min_le_right _ _)
set_option linter.unusedSimpArgs false in
set_option maxRecDepth 20000 in
set_option maxHeartbeats 4000000 in
theorem rkids_any (A : Option Addr) (n c B : Nat) (t : List Nd) (v : Int) (w : World) (hr : Reads w B 2 A n (t.flatMap fun x : Nd => [Value.int .i64 x.1, Value.string x.2])) (hB : B ≤ w.heap.size) (hn : n = t.length) (h63 : t.length ≤ 63) :
    Calls Tryz.prog 202 #[.slice A n c, .int .i64 v] w fun e w' => ∃ A c, e = .returned (.slice A (kidsN t v t.length) c) ∧ Below w.heap.size w w' := by
  obtain ⟨i0, hi, hz0, hz1, hz2⟩ := info_parts (show (Tryz.prog.info? 3).map (fun i => (i.zero, i.size, i.bytes)) = some (some (.int .i64 0), 1, 8) by kernel_rfl)
  have HR := Lib.hid hr; have HN := Lib.hid hn
  have hn63 : n ≤ 63 := by omega
  clear hr hn
  go_enter Tryz.func202, Tryz.ntmps202
  go_wp2
  go_loopw [5, 6] (fun x i wr => ∃ (k : Nat) (xs : List Value), k ≤ n ∧ i = .int .i64 k ∧ wr.ownsRow w.heap.size 3 1 x (kidsN t v k) xs ∧ Below w.heap.size w wr) (fun _ i _ => n - (RowKit.intOf i).toNat)
  case atStart => exact ⟨0, [], by omega, rfl, World.ownsRow_nil _ _ _ _, Below.refl _ _⟩
  case round =>
    obtain ⟨k, xs, hk, rfl, hown, hb⟩ := hrel
    have HO := Lib.hid hown; have HB := Lib.hid hb
    obtain ⟨V, hV⟩ : ∃ W, W = wr := ⟨_, rfl⟩
    subst hV
    clear hown hb
    by_cases hlt : k < n
    · have hkl : k < t.length := by have := HN.out; omega
      have hkI : (k : Int) < (n : Int) := by omega
      have hk0 : (0 : Int) ≤ (k : Int) := by omega
      obtain ⟨ad, e, had, hcc⟩ := (HR.out.below (HB.out.mono hB)).row (fun _ => rfl) (by decide) hkl
      subst e
      have e0 := hcc 0 _ rfl
      rw [Nat.add_zero] at e0
      have hst := kidsN_next (v := v) hkl
      have hle := kidsN_le (t := t) (v := v) k
      generalize t[k] = x at *
      obtain ⟨par, nm⟩ := x
      simp only [] at *
      have HST := Lib.hid hst
      clear hst hcc
      by_cases hp : par = v
      · have hpI : (par == v) = true := by rw [beq_iff_eq]; exact hp
        have hst := HST.out
        rw [if_pos hp] at hst
        have hal := (Below.refl V.heap.size V).alloc (Nat.le_refl _) (.cells #[.int .i64 (k : Int)] 3)
        have hrn := reads_new V 3 [.int .i64 (k : Int)]
        have HST2 := Lib.hid hst; have HRN := Lib.hid hrn; have HO2 := Lib.hid (own_below HO.out hal); have HB2 := Lib.hid (HB.out.trans (hal.mono HB.out.size))
        have hs2 : w.heap.size ≤ (V.alloc (.cells #[.int .i64 (k : Int)] 3)).heap.size := Nat.le_trans HB.out.size hal.size
        have HS2 := Lib.hid hs2
        obtain ⟨kn, hkn⟩ : ∃ m, kidsN t v k = m := ⟨_, rfl⟩
        have ho2 := HO2.out
        have hst := HST2.out
        rw [hkn] at ho2 hle hst
        have HO3 := Lib.hid ho2; have HST3 := Lib.hid hst
        clear hst hp hal hrn hs2 HST HST2 HO2 HO ho2 hkn
        go_wp2_with (at_builtin; refine wpList_append_any _ rfl _ _ 144 rfl w.heap.size 3 i0 (.int .i64 0) 1 8 Tryz.underlying144 hi hz0 hz1 hz2 rfl (by decide) _ _ _ rfl HO3.out _ _ _ _ [.int .i64 (k : Int)] rfl HRN.out (by simp [Value.oneCell']) (by unfold maxLen; omega) (by omega) HS2.out ?_; intro v4 w4 hown4 hgrow4 hgx; clear hgx)
        have hb4 := HB2.out.grown hgrow4 HS2.out (fun j hj => (HO3.out.lt j hj).1)
        go_roundw
        case rel => exact ⟨k + 1, _, by omega, by go_num, by rw [HST3.out]; exact hown4, hb4⟩
        case measure => simp [RowKit.intOf]; omega
      · have hpI : (par == v) = false := by rw [beq_eq_false_iff_ne]; exact hp
        have hst := HST.out
        rw [if_neg hp, Nat.add_zero] at hst
        have HST2 := Lib.hid hst
        clear hst hp HST
        go_wp2
        go_roundw
        case rel => exact ⟨k + 1, xs, by omega, by go_num, by rw [HST2.out]; exact HO.out, HB.out⟩
        case measure => simp [RowKit.intOf]; omega
    · obtain rfl : n = k := by omega
      have hown := HO.out
      rw [show kidsN t v n = kidsN t v t.length by rw [HN.out]] at hown
      obtain ⟨Ax, cx, rfl, -, -⟩ := ownsRow_form hown
      clear hown HO
      go_wp2
      go_ret
      exact ⟨_, _, rfl, HB.out⟩
theorem leaf_kids (t : List Nd) (k : Nat) : (t.all fun x => decide (x.1 ≠ (k : Int))) = decide (kidsN t k t.length = 0) := by
  rw [Bool.eq_iff_iff, List.all_eq_true, decide_eq_true_eq]
  unfold kidsN
  rw [List.take_length, List.length_eq_zero_iff, List.filter_eq_nil_iff]
  constructor
  · intro h x hx; simpa using h x hx
  · intro h x hx; simpa using h x hx
def leavesN (t : List Nd) (k : Nat) : Nat := ((List.range k).filter fun v : Nat => t.all fun x => decide (x.1 ≠ (v : Int))).length
theorem leavesN_next (t : List Nd) (k : Nat) : leavesN t (k + 1) = leavesN t k + (if kidsN t k t.length = 0 then 1 else 0) := by
  unfold leavesN
  rw [List.range_succ, List.filter_append, List.length_append]
  congr 1
  by_cases h : kidsN t k t.length = 0
  · rw [if_pos h, List.filter_cons_of_pos (by rw [leaf_kids, decide_eq_true h])]; rfl
  · rw [if_neg h, List.filter_cons_of_neg (by rw [leaf_kids, decide_eq_false h]; decide)]; rfl
theorem leavesN_le (t : List Nd) (k : Nat) : leavesN t k ≤ k := by
  unfold leavesN
  exact Nat.le_trans (List.length_filter_le _ _) (by simp)
set_option linter.unusedSimpArgs false in
set_option maxRecDepth 20000 in
set_option maxHeartbeats 4000000 in
theorem rleaves_any (v : Value) (B : Nat) (t : List Nd) (w : World) (h : SlC NdC 2 w B t v) (hB : B ≤ w.heap.size) (hs : ∀ x ∈ t, x.2.size ≤ maxLen) (ht : treeE t = 0) :
    Calls Tryz.prog 155 #[v] w fun e w' => ∃ A c, e = .returned (.tuple #[.slice A (leafs t).length c, .int .i64 0]) ∧ Below w.heap.size w w' := by
  obtain ⟨i0, hi, hz0, hz1, hz2⟩ := info_parts (show (Tryz.prog.info? 3).map (fun i => (i.zero, i.size, i.bytes)) = some (some (.int .i64 0), 1, 8) by kernel_rfl)
  obtain ⟨h63, -, -⟩ := treeE_nodes ht
  have htc := rtree_any v B t w h hB hs
  rw [ht] at htc
  obtain ⟨A, c, rfl, hc, hr⟩ := h.flat
  have hk := fun (W : World) (hW : Below w.heap.size w W) (x : Int) => rkids_any A t.length c B t x W (hr.below (hW.mono hB)) (Nat.le_trans hB hW.size) rfl h63
  obtain ⟨n, hn⟩ : ∃ n, t.length = n := ⟨_, rfl⟩
  have hll : leavesN t n = (leafs t).length := by rw [← hn]; rfl
  rw [hn] at hk htc h63 ⊢
  have HK := Lib.hid hk; have HTC := Lib.hid htc; have HLL := Lib.hid hll; have HN := Lib.hid hn
  clear hk htc hr hs ht h hll hn hc
  go_enter Tryz.func155, Tryz.ntmps155
  go_wp2_with fail
  refine HTC.out.mono ?_
  rintro e w1 ⟨rfl, hb1⟩
  have HB1 := Lib.hid hb1
  clear hb1
  go_wp2
  go_loopw [5, 6] (fun x i wr => ∃ (k : Nat) (xs : List Value), k ≤ n ∧ i = .int .i64 k ∧ wr.ownsRow w.heap.size 3 1 x (leavesN t k) xs ∧ Below w.heap.size w wr) (fun _ i _ => n - (RowKit.intOf i).toNat)
  case atStart => exact ⟨0, [], by omega, rfl, World.ownsRow_nil _ _ _ _, HB1.out⟩
  case round =>
    obtain ⟨k, xs, hk, rfl, hown, hb⟩ := hrel
    have HO := Lib.hid hown; have HB := Lib.hid hb
    obtain ⟨V, hV⟩ : ∃ W, W = wr := ⟨_, rfl⟩
    subst hV
    clear hown hb
    by_cases hlt : k < n
    · have hkI : (k : Int) < (n : Int) := by omega
      have hk0 : (0 : Int) ≤ (k : Int) := by omega
      have hst := leavesN_next t k
      have hle := leavesN_le t k
      have hc := HK.out V HB.out (k : Int)
      rw [HN.out] at hst
      obtain ⟨q, hq⟩ : ∃ q, kidsN t k n = q := ⟨_, rfl⟩
      rw [hq] at hc hst
      have HST := Lib.hid hst; have HC := Lib.hid hc
      clear hst hc hq
      go_wp2_with fail
      refine HC.out.mono ?_
      rintro e w2 ⟨Aq, cq, rfl, hb2⟩
      have HO2 := Lib.hid (own_below' HO.out hb2); have HB2 := Lib.hid (HB.out.trans (hb2.mono HB.out.size))
      clear hb2
      by_cases hp : q = 0
      · have hpI : ((q : Int) == 0) = true := by rw [hp]; rfl
        have hst := HST.out
        rw [if_pos hp] at hst
        have hal := (Below.refl w2.heap.size w2).alloc (Nat.le_refl _) (.cells #[.int .i64 (k : Int)] 3)
        have hrn := reads_new w2 3 [.int .i64 (k : Int)]
        have HRN := Lib.hid hrn
        have ho3 := own_below HO2.out hal
        have HB3 := Lib.hid (HB2.out.trans (hal.mono HB2.out.size))
        have hs2 : w.heap.size ≤ (w2.alloc (.cells #[.int .i64 (k : Int)] 3)).heap.size := Nat.le_trans HB2.out.size hal.size
        have HS2 := Lib.hid hs2
        obtain ⟨kn, hkn⟩ : ∃ m, leavesN t k = m := ⟨_, rfl⟩
        rw [hkn] at ho3 hle hst
        have HO3 := Lib.hid ho3; have HST3 := Lib.hid hst
        clear hst hp hal hrn hs2 HST HO2 HO ho3 hkn
        go_wp2_with (at_builtin; refine wpList_append_any _ rfl _ _ 144 rfl w.heap.size 3 i0 (.int .i64 0) 1 8 Tryz.underlying144 hi hz0 hz1 hz2 rfl (by decide) _ _ _ rfl HO3.out _ _ _ _ [.int .i64 (k : Int)] rfl HRN.out (by simp [Value.oneCell']) (by unfold maxLen; omega) (by omega) HS2.out ?_; intro v4 w4 hown4 hgrow4 hgx; clear hgx)
        have hb4 := HB3.out.grown hgrow4 HS2.out (fun j hj => (HO3.out.lt j hj).1)
        go_roundw
        case rel => exact ⟨k + 1, _, by omega, by go_num, by rw [HST3.out]; exact hown4, hb4⟩
        case measure => simp [RowKit.intOf]; omega
      · have hpI : ((q : Int) == 0) = false := by rw [beq_eq_false_iff_ne]; omega
        have hst := HST.out
        rw [if_neg hp, Nat.add_zero] at hst
        have HST2 := Lib.hid hst
        clear hst hp HST
        go_wp2
        go_roundw
        case rel => exact ⟨k + 1, xs, by omega, by go_num, by rw [HST2.out]; exact HO2.out, HB2.out⟩
        case measure => simp [RowKit.intOf]; omega
    · obtain rfl : n = k := by omega
      have hown := HO.out
      rw [HLL.out] at hown
      obtain ⟨Ax, cx, rfl, -, -⟩ := ownsRow_form hown
      clear hown HO
      go_wp2
      go_ret2
      exact ⟨_, _, rfl, HB.out⟩
end Go.Proofs.YtmepaeahchiglaaGreatDoor
namespace Go.Proofs.YtmepaeahchiglaaGreatDoor
open Go.RowKit Go.Lib

theorem emptyF_next {l : List Fm} {k : Nat} (hk : k < l.length) (h : emptyF (l.take k) = true) : emptyF (l.take (k + 1)) = (!badF l[k]) ∧ (badF l[k] = true → emptyF l = false) := by
  have h1 : ∀ l : List Fm, emptyF l = l.all fun f => !badF f := fun l => by
    unfold emptyF
    exact congrArg l.all (funext badF_eq)
  rw [h1] at h
  rw [h1, h1]
  have := all_next hk h
  exact ⟨this.1, fun e => this.2 (by rw [e]; rfl)⟩
set_option linter.unusedSimpArgs false in
set_option maxRecDepth 20000 in
set_option maxHeartbeats 4000000 in
theorem rforms_any (v : Value) (B : Nat) (l : List Fm) (w : World) (h : SlC FormC 2 w B l v) (hB : B ≤ w.heap.size) :
    Calls Tryz.prog 156 #[v] w fun e w' => e = .returned (.bool (emptyF l)) ∧ Below w.heap.size w w' := by
  obtain ⟨A, n, c, rfl, -⟩ := h.form
  obtain ⟨hn, hn1, hn2⟩ := h.len
  unfold maxLen at hn2
  obtain ⟨r, hr⟩ : ∃ r, emptyF l = r := ⟨_, rfl⟩
  rw [hr]
  have HR := Lib.hid hr; have HS := Lib.hid h; have HN := Lib.hid hn
  clear hr h hn
  go_enter Tryz.func156, Tryz.ntmps156
  go_wp2
  go_loopw [3] (fun i wr => ∃ k : Nat, k ≤ n ∧ i = .int .i64 k ∧ emptyF (l.take k) = true ∧ Below w.heap.size w wr) (fun i _ => n - (RowKit.intOf i).toNat)
  case atStart => exact ⟨0, by omega, rfl, by rw [List.take_zero]; rfl, Below.refl _ _⟩
  case round =>
    obtain ⟨k, hk, rfl, hno, hb⟩ := hrel
    have HNO := Lib.hid hno; have HB := Lib.hid hb
    clear hno hb
    by_cases hlt : k < n
    · have hkl : k < l.length := by have := HN.out; omega
      have hkI : (k : Int) < (n : Int) := by omega
      have hk0 : (0 : Int) ≤ (k : Int) := by omega
      have hkeep : ∀ p : Addr, p.block < B → wr.cell? p = w.cell? p := fun p hp => HB.out.cell (Nat.lt_of_lt_of_le hp hB)
      obtain ⟨ad, cs, rfl, had, hP, hcc⟩ := slC_cells form_len (SlC.plain hkeep HS.out (fun _ _ h => FormC.keep hkeep h)) hkl
      obtain ⟨v, rfl, hv⟩ := hP
      obtain ⟨Ax, nx, cx, rfl, hx⟩ := hv.form
      have e0 := hcc 0 _ rfl
      have e1 := hcc 1 _ rfl
      rw [Nat.add_zero] at e0
      rw [add_next ad (k * 2) 0] at e1
      obtain ⟨hst, hbad⟩ := emptyF_next hkl HNO.out
      generalize l[k] = x at *
      obtain ⟨has, ws⟩ := x
      simp only [] at *
      have hbf : badF ⟨has, ws⟩ = (!has && decide (0 < nx)) := by unfold badF; rw [hx]
      rw [hbf] at hst hbad
      have HST := Lib.hid hst; have HBAD := Lib.hid hbad
      clear hst hbad hcc hkeep hv hx hbf
      cases has with
      | true =>
        go_wp2
        go_roundw
        case rel => exact ⟨k + 1, by omega, by go_num, HST.out, HB.out⟩
        case measure => simp [RowKit.intOf]; omega
      | false =>
        by_cases hx0 : 0 < nx
        · have hxI : (0 : Int) < (nx : Int) := by omega
          obtain rfl : r = false := by rw [← HR.out, HBAD.out (by rw [decide_eq_true hx0]; rfl)]
          clear hx0
          go_wp2
          go_ret
          exact ⟨rfl, HB.out⟩
        · have hxI : ¬ (0 : Int) < (nx : Int) := by omega
          have hst := HST.out
          rw [decide_eq_false hx0] at hst
          have HST2 := Lib.hid hst
          clear hx0 hst
          go_wp2
          go_roundw
          case rel => exact ⟨k + 1, by omega, by go_num, HST2.out, HB.out⟩
          case measure => simp [RowKit.intOf]; omega
    · obtain rfl : n = k := by omega
      have hno := HNO.out
      rw [List.take_of_length_le (by have := HN.out; omega)] at hno
      obtain rfl : r = true := HR.out.symm.trans hno
      go_wp2
      go_ret
      exact ⟨rfl, HB.out⟩
set_option maxRecDepth 20000 in
set_option maxHeartbeats 2000000 in
theorem rwords_any (v : Value) (B : Nat) (l : List Fm) (w : World) (h : SlC FormC 2 w B l v) (hB : B ≤ w.heap.size) (hok : ∀ f ∈ l, ∀ s ∈ f.w, ok32 s) :
    Calls Tryz.prog 158 #[v] w fun e w' => e = .returned (.int .i64 (wordsE l)) ∧ Below w.heap.size w w' := by
  obtain ⟨A, n, c, rfl, -⟩ := h.form
  obtain ⟨hn, hn1, hn2⟩ := h.len
  unfold maxLen at hn2
  obtain ⟨r, hr⟩ : ∃ r, wordsE l = r := ⟨_, rfl⟩
  rw [hr]
  have HR := Lib.hid hr; have HS := Lib.hid h; have HN := Lib.hid hn; have HOK := Lib.hid hok
  clear hr h hn hok
  go_enter Tryz.func158, Tryz.ntmps158
  go_wp2
  go_loopw [3] (fun i wr => ∃ k : Nat, k ≤ n ∧ i = .int .i64 k ∧ wordsE (l.take k) = 0 ∧ Below w.heap.size w wr) (fun i _ => n - (RowKit.intOf i).toNat)
  case atStart => exact ⟨0, by omega, rfl, by rw [List.take_zero]; rfl, Below.refl _ _⟩
  case round =>
    obtain ⟨k, hk, rfl, hno, hb⟩ := hrel
    have HNO := Lib.hid hno; have HB := Lib.hid hb
    clear hno hb
    by_cases hlt : k < n
    · have hkl : k < l.length := by have := HN.out; omega
      have hkI : (k : Int) < (n : Int) := by omega
      have hk0 : (0 : Int) ≤ (k : Int) := by omega
      have hkeep : ∀ p : Addr, p.block < B → wr.cell? p = w.cell? p := fun p hp => HB.out.cell (Nat.lt_of_lt_of_le hp hB)
      obtain ⟨ad, cs, rfl, had, hP, hcc⟩ := slC_cells form_len (SlC.plain hkeep HS.out (fun _ _ h => FormC.keep hkeep h)) hkl
      obtain ⟨v, rfl, hv⟩ := hP
      obtain ⟨Ax, cx, rfl, ⟨hx1, hx2⟩, hxr⟩ := hv.flat
      have e0 := hcc 0 _ rfl
      have e1 := hcc 1 _ rfl
      rw [Nat.add_zero] at e0
      rw [add_next ad (k * 2) 0] at e1
      obtain ⟨hst, hbad⟩ := wordsE_next hkl HNO.out
      have hokx := HOK.out _ (List.getElem_mem hkl)
      generalize l[k] = x at *
      obtain ⟨has, ws⟩ := x
      simp only [] at *
      have hc := refWord_any Ax ws.length cx B ws wr hxr (Nat.le_trans hB HB.out.size) (by omega) hokx
      have HC := Lib.hid hc; have HST := Lib.hid hst; have HBAD := Lib.hid hbad
      clear hst hbad hcc hkeep hv hc hxr hokx
      go_wp2_with fail
      refine HC.out.mono ?_
      rintro e w2 ⟨rfl, hb2⟩
      have HB2 := Lib.hid (HB.out.trans (hb2.mono HB.out.size))
      clear hb2
      by_cases hz : wordE ws = 0
      · have hzI : (wordE ws != (0 : Int)) = false := by rw [hz]; rfl
        have hst := HST.out
        rw [hz] at hst
        have HST2 := Lib.hid hst
        clear hz hst
        go_wp2
        go_roundw
        case rel => exact ⟨k + 1, by omega, by go_num, HST2.out, HB2.out⟩
        case measure => simp [RowKit.intOf]; omega
      · have hzI : (wordE ws != (0 : Int)) = true := by rw [bne_iff_ne]; exact hz
        obtain rfl : r = wordE ws := HR.out.symm.trans (HBAD.out hz)
        clear hz
        go_wp2
        go_ret
        exact ⟨rfl, HB2.out⟩
    · obtain rfl : k = n := by omega
      have hno := HNO.out
      rw [List.take_of_length_le (by have := HN.out; omega)] at hno
      obtain rfl : r = 0 := HR.out.symm.trans hno
      go_wp2
      go_ret
      exact ⟨rfl, HB.out⟩
end Go.Proofs.YtmepaeahchiglaaGreatDoor
