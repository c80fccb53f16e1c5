/-
  layer 25: the lists of a history. Conditions: a history that can be read, whose tree is valid.
-/
import Derived.Test.YtmepaeahchiglaaGreatDoorZbal
import Derived.Deep.DeepCutAuto
import Derived.Deep.OwnRows
import Derived.Deep.QuietTactic
import Derived.Deep.RegionHeld
import Derived.BigQuiet
import Derived.Test.YtmepaeahchiglaaGreatDoorZbaj
namespace Go.Proofs.YtmepaeahchiglaaGreatDoor
open Go.RowKit Go.Lib

theorem add_block_ (a : Addr) (n : Nat) : (a.add n).block = a.block := by unfold Addr.add; split <;> rfl
/-! Rows that turn. -/
def usF (N : Nat) (us : Nat → Value) : Array Value := ((List.range N).map us).toArray
def setUF (us : Nat → Value) (k : Nat) (v : Value) : Nat → Value := fun i => if i = k then v else us i
theorem usF_get {N : Nat} (us : Nat → Value) {k : Nat} (h : k < N) : (usF N us)[k]? = some (us k) := by simp [usF, h]
theorem usF_set {N : Nat} (us : Nat → Value) {k : Nat} (v : Value) : (usF N us).setIfInBounds k v = usF N (setUF us k v) := by
  unfold usF setUF
  rw [List.setIfInBounds_toArray]
  congr 1
  apply List.ext_getElem
  · simp
  · intro i h1 h2
    rw [List.getElem_set, List.getElem_map, List.getElem_map, List.getElem_range]
    by_cases e : k = i
    · rw [if_pos e, if_pos e.symm]
    · rw [if_neg e, if_neg (fun h => e h.symm)]
theorem madeCells_us (z : Value) (n : Nat) : madeCells #[z] n = usF n (fun _ => z) := by
  unfold madeCells usF
  apply Array.ext
  · simp
  · intro i h1 h2
    simp [Nat.mod_one]
/-! The lengths of lines. -/
def lenK (t : List Nd) (on : List (List Int)) (k : Nat) : Nat := (on[k]?.getD []).length + (if 0 ≤ (t[k]?.getD (-1, ⟨#[]⟩)).1 then (lensL t on k)[(t[k]?.getD (-1, ⟨#[]⟩)).1.toNat]?.getD 0 else 0)
theorem lensL_next (t : List Nd) (on : List (List Int)) (k : Nat) : lensL t on (k + 1) = lensL t on k ++ [lenK t on k] := rfl
theorem lens_at (t : List Nd) (on : List (List Int)) (k i : Nat) : (lensL t on (k + 1))[i]?.getD 0 = if i = k then lenK t on k else (lensL t on k)[i]?.getD 0 := by
  rw [lensL_next]
  by_cases e : i = k
  · subst e
    rw [if_pos rfl, List.getElem?_append_right (by rw [lensL_len]; exact Nat.le_refl _), lensL_len, Nat.sub_self]; rfl
  · rw [if_neg e]
    by_cases h : i < k
    · rw [List.getElem?_append_left (by rw [lensL_len]; exact h)]
    · rw [List.getElem?_eq_none (by rw [List.length_append, lensL_len]; simp; omega), List.getElem?_eq_none (by rw [lensL_len]; omega)]
theorem lens_mem (t : List Nd) (on : List (List Int)) {k : Nat} : ∀ {n : Nat}, k < n → lenK t on k ∈ lensL t on n
  | 0, h => absurd h (Nat.not_lt_zero _)
  | n + 1, h => by
    rw [lensL_next]
    rcases Nat.lt_succ_iff_lt_or_eq.1 h with h | rfl
    · exact List.mem_append_left _ (lens_mem t on h)
    · exact List.mem_append_right _ (List.mem_singleton.2 rfl)
theorem lensOk_no {t : List Nd} {on : List (List Int)} {k n : Nat} (hk : k < n) (h : 64 < lenK t on k) : lensOk t on n = false := by
  unfold lensOk
  rw [List.all_eq_false]
  exact ⟨_, lens_mem t on hk, by simp; omega⟩
theorem lensOk_next {t : List Nd} {on : List (List Int)} {k : Nat} (h : lensOk t on k = true) (h1 : lenK t on k ≤ 64) : lensOk t on (k + 1) = true := by
  unfold lensOk at *
  rw [lensL_next, List.all_append, h]
  simp [h1]
theorem lensOk_le {t : List Nd} {on : List (List Int)} {k i : Nat} (h : lensOk t on k = true) : (lensL t on k)[i]?.getD 0 ≤ 64 := by
  cases hq : (lensL t on k)[i]? with
  | none => exact Nat.zero_le _
  | some x =>
    have := List.all_eq_true.1 h x (List.mem_of_getElem? hq)
    exact of_decide_eq_true this
theorem treeE_nodes {t : List Nd} (h : treeE t = 0) : t.length ≤ 63 ∧ 1 ≤ t.length ∧ ∀ (i : Nat) (hi : i < t.length), ndOk i t[i] = true := by
  unfold treeE at h
  by_cases hk : treeOk t = true
  · unfold treeOk at hk
    simp only [Bool.and_eq_true, decide_eq_true_eq] at hk
    exact ⟨hk.2.1, hk.1, fun i hi => by have := ndsOk_at hk.2.2.1 i hi; rwa [Nat.zero_add] at this⟩
  · rw [if_neg hk] at h; cases h
theorem ndOk_par {v : Nat} {x : Nd} (h : ndOk v x = true) : (v = 0 ∧ x.1 = -1) ∨ (0 < v ∧ 0 ≤ x.1 ∧ x.1 < v) := by
  unfold ndOk at h
  simp only [Bool.and_eq_true] at h
  have h := h.1
  by_cases e : v = 0
  · rw [if_pos e] at h; exact .inl ⟨e, of_decide_eq_true h⟩
  · rw [if_neg e] at h
    simp only [Bool.and_eq_true, decide_eq_true_eq] at h
    exact .inr ⟨by omega, h⟩
def rngOk (m : Nat) (l : List Int) : Bool := l.all fun x => decide (0 ≤ x ∧ x < (m : Int))
theorem rngOk_next {m : Nat} {l : List Int} {k : Nat} (hk : k < l.length) : rngOk m (l.take (k + 1)) = (rngOk m (l.take k) && decide (0 ≤ l[k] ∧ l[k] < (m : Int))) := by
  unfold rngOk
  rw [List.take_succ_eq_append_getElem hk, List.all_append]; simp
theorem inRange_next {m : Nat} {on : List (List Int)} {k : Nat} (hk : k < on.length) : inRange m (on.take (k + 1)) = (inRange m (on.take k) && rngOk m on[k]) := by
  unfold inRange rngOk
  rw [List.take_succ_eq_append_getElem hk, List.all_append]; simp
set_option linter.unusedSimpArgs false in
set_option maxRecDepth 20000 in
set_option maxHeartbeats 4000000 in
theorem hlists_any (v4 v6 : Value) (A5 : Option Addr) (m c5 B : Nat) (t : List Nd) (on : List (List Int)) (w : World) (h4 : SlC NdC 2 w B t v4) (h6 : SlC OnC 1 w B on v6) (hB : B ≤ w.heap.size) (ht : treeE t = 0) (hlen : on.length = t.length) (hon : ∀ l ∈ on, l.length ≤ 1000000000) :
    Calls Tryz.prog 178 #[.agg #[v4, .slice A5 m c5, v6]] w fun e w' => e = .returned (.int .i64 (if lensOk t on on.length then (if inRange m on then 0 else 3) else 2)) ∧ Below w.heap.size w w' := by
  obtain ⟨h63, h1t, hnd⟩ := treeE_nodes ht
  obtain ⟨A4, c4, rfl, ⟨hc41, hc42⟩, hr4⟩ := h4.flat
  obtain ⟨A6, n6, c6, rfl, hn6⟩ := h6.form
  obtain ⟨r, hre⟩ : ∃ r, (if lensOk t on on.length = true then (if inRange m on = true then (0 : Int) else 3) else 2) = r := ⟨_, rfl⟩
  rw [hre]
  obtain ⟨n, hn⟩ : ∃ n, t.length = n := ⟨_, rfl⟩
  obtain rfl : n6 = n := by omega
  have HN := Lib.hid hn; have HL := Lib.hid hlen; have HRE := Lib.hid hre; have H6 := Lib.hid h6; have H4 := Lib.hid hr4; have HND := Lib.hid hnd; have HON := Lib.hid hon
  have hb0 := (Below.refl w.heap.size w).alloc (Nat.le_refl _) (.cells #[.slice A4 t.length c4, .slice A5 m c5, .slice A6 n6 c6] 29)
  have hb1 := hb0.alloc (by simp) (.cells (madeCells #[.int .i64 0] n6) 3)
  have hk0 := (Blk.new w 29 #[.slice A4 t.length c4, .slice A5 m c5, .slice A6 n6 c6]).alloc (.cells (madeCells #[.int .i64 0] n6) 3)
  have hk1 := Blk.new (w.alloc (.cells #[.slice A4 t.length c4, .slice A5 m c5, .slice A6 n6 c6] 29)) 3 (madeCells #[.int .i64 0] n6)
  rw [World.size_alloc] at hk1
  rw [hn] at hb0 hb1 hk0 hk1 hc41 ⊢
  have hk1' : Blk ((w.alloc (.cells #[.slice A4 n6 c4, .slice A5 m c5, .slice A6 n6 c6] 29)).alloc (.cells (madeCells #[.int .i64 0] n6) 3)) (w.heap.size + 1) 3 (usF n6 fun i => .int .i64 ((lensL t on 0)[i]?.getD 0 : Nat)) := by
    rw [show (usF n6 fun i => Value.int .i64 ((lensL t on 0)[i]?.getD 0 : Nat)) = madeCells #[.int .i64 0] n6 from (madeCells_us (.int .i64 0) n6).symm]
    exact hk1
  have HB1 := Lib.hid hb1; have HK0 := Lib.hid hk0; have HK1 := Lib.hid hk1'
  unfold maxLen at hc42
  have hn63 : n6 ≤ 63 := by omega
  have hmk := fun W => run_make_row' (P := Tryz.prog) 144 3 (.int .i64 0) 8 Tryz.underlying144 (by kernel_rfl) rfl .i64 .i64 n6 (by omega) (by omega) W
  clear hon hn hlen hre h6 hr4 hnd h4 hb0 hb1 hk0 hk1 hk1' ht hn6 h63
  go_enter Tryz.func178, Tryz.ntmps178
  go_wp2
  go_loopw [4, 17] (fun b i wr => ∃ k : Nat, k ≤ n6 ∧ i = .int .i64 k ∧ b = .bool (!inRange m (on.take k)) ∧ lensOk t on k = true ∧ Blk wr w.heap.size 29 #[.slice A4 n6 c4, .slice A5 m c5, .slice A6 n6 c6] ∧ Blk wr (w.heap.size + 1) 3 (usF n6 fun i => .int .i64 ((lensL t on k)[i]?.getD 0 : Nat)) ∧ Below w.heap.size w wr) (fun _ i _ => n6 - (RowKit.intOf i).toNat)
  case atStart => exact ⟨0, by omega, rfl, rfl, rfl, HK0.out, HK1.out, HB1.out⟩
  case round =>
    obtain ⟨k, hk, rfl, rfl, hlo, hbk, hbl, hbw⟩ := hrel
    obtain ⟨wo, rfl⟩ : ∃ W, W = wr := ⟨_, rfl⟩
    have HLO := Lib.hid hlo; have HBK := Lib.hid hbk; have HBL := Lib.hid hbl; have HBW := Lib.hid hbw
    clear hlo hbk hbl hbw HB1 HK0 HK1
    have g0 := HBK.out.cell 0; have g1 := HBK.out.cell 1; have g2 := HBK.out.cell 2
    simp only [List.getElem?_toArray, List.getElem?_cons_zero, List.getElem?_cons_succ] at g0 g1 g2
    by_cases hlt : k < n6
    · have hkI : (k : Int) < (n6 : Int) := by omega
      have hk0 : (0 : Int) ≤ (k : Int) := by omega
      have hkt : k < t.length := by rw [HN.out]; exact hlt
      have hko : k < on.length := by rw [HL.out]; exact hkt
      have hkeep : ∀ p : Addr, p.block < B → wo.cell? p = w.cell? p := fun p hp => HBW.out.cell (Nat.lt_of_lt_of_le hp hB)
      obtain ⟨ad6, cs, rfl, had6, hP, hcc⟩ := slC_cells (w := wo) (by rintro x cs ⟨v, rfl, -⟩; rfl) (SlC.plain hkeep H6.out (fun _ _ h => OnC.keep hkeep h)) hko
      obtain ⟨vx, rfl, hvx⟩ := hP
      obtain ⟨Ax, cx, rfl, ⟨hx1, hx2⟩, hxr⟩ := hvx.flat
      have e6 := hcc 0 _ rfl
      rw [Nat.mul_one, Nat.add_zero] at e6
      obtain ⟨ad4, e, had4, hcc4⟩ := (H4.out.keep hkeep).row (fun _ => rfl) (by decide) hkt
      subst e
      have e4 := hcc4 0 _ rfl
      rw [Nat.add_zero] at e4
      have hpar := ndOk_par (HND.out k hkt)
      have hrn := inRange_next (m := m) hko
      have hlk : lenK t on k = on[k].length + (if 0 ≤ t[k].1 then (lensL t on k)[t[k].1.toNat]?.getD 0 else 0) := by
        unfold lenK
        rw [List.getElem?_eq_getElem hkt, List.getElem?_eq_getElem hko]; rfl
      have hat := lens_at t on k
      have hno := fun h => lensOk_no (t := t) (on := on) hko (k := k) h
      have hyes := lensOk_next (k := k) HLO.out
      have hl9 := HON.out _ (List.getElem_mem hko)
      unfold maxLen at hx2
      generalize on[k] = l at *
      generalize t[k] = x at *
      obtain ⟨par, nm⟩ := x
      simp only [] at *
      obtain ⟨lk, hlke⟩ : ∃ z, lenK t on k = z := ⟨_, rfl⟩
      rw [hlke] at hlk hat hno hyes
      have HAT := Lib.hid hat; have HNO := Lib.hid hno; have HYES := Lib.hid hyes; have HLK := Lib.hid hlk; have HRN := Lib.hid hrn; have HXR := Lib.hid hxr
      clear hcc hcc4 hkeep hvx hat hno hyes hlke hlk hrn hxr
      have c1 := (HBL.out.cell k).trans (usF_get _ hlt)
      have fr1 := HBL.out.frozen k
      have hsk := HBL.out.set_ k (.int .i64 l.length)
      rw [usF_set] at hsk
      have hbk := HBK.out.far (p := ⟨w.heap.size + 1, k, none⟩) (by simp) (.int .i64 l.length)
      have hbw := HBW.out.setCell (p := ⟨w.heap.size + 1, k, none⟩) (by simp) (.int .i64 l.length)
      have hno4 : ¬ w.heap.size + 1 = ad4.block := by omega
      have e4' : (wo.setCell ⟨w.heap.size + 1, k, none⟩ (.int .i64 l.length)).cell? (ad4.add (k * 2)) = some (.int .i64 par) := (World.cell?_setCell_far _ _ _ _ (by show w.heap.size + 1 ≠ (ad4.add (k * 2)).block; rw [add_block_]; omega)).trans e4
      have HSK := Lib.hid hsk; have HBK2 := Lib.hid hbk; have HBW2 := Lib.hid hbw; have HPAR := Lib.hid hpar
      clear hsk hbk hbw hpar
      go_upto_if 34 with fail
      obtain ⟨w3, hw3⟩ : ∃ W, wo.setCell ⟨w.heap.size + 1, k, none⟩ (.int .i64 l.length) = W := ⟨_, rfl⟩
      rw [hw3] at HSK HBK2 HBW2 ⊢
      clear hw3 c1 fr1 e4 e4' e6 g0 g1 g2
      go_cut [] (fun wx => Blk wx w.heap.size 29 #[.slice (some ad4) n6 c4, .slice A5 m c5, .slice (some ad6) n6 c6] ∧ Blk wx (w.heap.size + 1) 3 (usF n6 fun i => .int .i64 ((lensL t on (k + 1))[i]?.getD 0 : Nat)) ∧ Below w.heap.size w wx)
      case first =>
        have hpar := HPAR.out
        have hlk := HLK.out
        have hlo := fun i => lensOk_le (i := i) HLO.out
        rcases hpar with ⟨hk00, rfl⟩ | ⟨hkp, hp0, hpk⟩
        · rw [if_neg (by decide), Nat.add_zero] at hlk
          have hfin : Blk w3 (w.heap.size + 1) 3 (usF n6 fun i => .int .i64 ((lensL t on (k + 1))[i]?.getD 0 : Nat)) := by
            have h := HSK.out
            rwa [show setUF (fun i => Value.int IntKind.i64 ((lensL t on k)[i]?.getD 0 : Nat)) k (Value.int IntKind.i64 l.length) = fun i => .int .i64 ((lensL t on (k + 1))[i]?.getD 0 : Nat) from by
              funext i
              unfold setUF
              rw [HAT.out i]
              by_cases e : i = k
              · rw [if_pos e, if_pos e, hlk]
              · rw [if_neg e, if_neg e]] at h
          have HFIN := Lib.hid hfin
          clear hfin hlk hlo hk00
          go_wp2
          go_meet
          exact ⟨HBK2.out, HFIN.out, HBW2.out⟩
        · obtain ⟨p, rfl⟩ : ∃ p : Nat, par = p := ⟨par.toNat, by omega⟩
          rw [if_pos hp0, Int.toNat_natCast] at hlk
          have hp64 := hlo p
          obtain ⟨lp, hlp⟩ : ∃ z, (lensL t on k)[p]?.getD 0 = z := ⟨_, rfl⟩
          rw [hlp] at hlk hp64
          have hpn : (p : Int) < (n6 : Int) := by omega
          have hpl : p < n6 := by omega
          have d1 : w3.cell? ⟨w.heap.size + 1, k, none⟩ = some (.int .i64 l.length) := by
            rw [HSK.out.cell k, usF_get _ hlt]; unfold setUF; rw [if_pos rfl]
          have d2 : w3.cell? ⟨w.heap.size + 1, p, none⟩ = some (.int .i64 lp) := by
            rw [HSK.out.cell p, usF_get _ hpl]; unfold setUF; rw [if_neg (by omega)]; simp only [hlp]
          have hfr := HSK.out.frozen k
          have hfin : Blk (w3.setCell ⟨w.heap.size + 1, k, none⟩ (.int .i64 lk)) (w.heap.size + 1) 3 (usF n6 fun i => .int .i64 ((lensL t on (k + 1))[i]?.getD 0 : Nat)) := by
            have h := HSK.out.set_ k (.int .i64 lk)
            rw [usF_set] at h
            rwa [show setUF (setUF (fun i => Value.int IntKind.i64 ((lensL t on k)[i]?.getD 0 : Nat)) k (Value.int IntKind.i64 l.length)) k (.int .i64 lk) = fun i => .int .i64 ((lensL t on (k + 1))[i]?.getD 0 : Nat) from by
              funext i
              unfold setUF
              rw [HAT.out i]
              by_cases e : i = k
              · rw [if_pos e, if_pos e]
              · rw [if_neg e, if_neg e, if_neg e]] at h
          have HFIN := Lib.hid hfin
          have hbk := HBK2.out.far (p := ⟨w.heap.size + 1, k, none⟩) (by simp) (.int .i64 lk)
          have hbw := HBW2.out.setCell (p := ⟨w.heap.size + 1, k, none⟩) (by simp) (.int .i64 lk)
          have HBK3 := Lib.hid hbk; have HBW3 := Lib.hid hbw
          have hsum : (l.length : Int) + (lp : Int) = (lk : Int) := by omega
          have hwv : Value.int .i64 (wrap64 (lk : Int)) = Value.int .i64 lk := by rw [IntWalk.wrap64_in _ ⟨by omega, by omega⟩]
          have HWV := Lib.hid hwv
          clear hfin hlk hlo hbk hbw HSK HBK2 HBW2 HAT hlp hwv
          go_wp2
          go_region
          all_goals
            go_wp2
            go_meet
            try rw [HWV.out]
            exact ⟨HBK3.out, HFIN.out, HBW3.out.drew⟩
      case rest =>
      obtain ⟨hbk, hbl, hbw⟩ := hcut
      have hlen2 : ((lensL t on (k + 1))[k]?.getD 0) = lk := by rw [HAT.out k, if_pos rfl]
      have d1 := (hbl.cell k).trans (usF_get _ hlt)
      simp only [hlen2] at d1
      have HBK3 := Lib.hid hbk; have HBL3 := Lib.hid hbl; have HBW3 := Lib.hid hbw
      clear hbk hbl hbw hlen2 HSK HBK2 HBW2 HBK HBL HAT
      by_cases h64 : 64 < lk
      · have h64I : (64 : Int) < (lk : Int) := by omega
        have hr := HRE.out
        rw [if_neg (by rw [HNO.out h64]; decide)] at hr
        subst hr
        clear h64
        go_wp2
        go_ret
        exact ⟨rfl, HBW3.out⟩
      · have h64I : ¬ (64 : Int) < (lk : Int) := by omega
        have HLO2 := Lib.hid (HYES.out (by omega))
        have hxr := HXR.out
        have hkeep3 : ∀ p : Addr, p.block < B → wc.cell? p = wo.cell? p := fun p hp => (HBW3.out.cell (Nat.lt_of_lt_of_le hp hB)).trans (HBW.out.cell (Nat.lt_of_lt_of_le hp hB)).symm
        have HX3 := Lib.hid (HXR.out.keep hkeep3)
        clear h64 hxr hkeep3 HNO HYES HXR HLO
        obtain ⟨bq, hbq⟩ : ∃ b, inRange m (on.take k) = b := ⟨_, rfl⟩
        rw [hbq] at HRN ⊢
        clear hbq
        go_wp2
        go_loopw [4, 52] (fun b i wr => ∃ j : Nat, j ≤ l.length ∧ i = .int .i64 j ∧ b = .bool (!(bq && rngOk m (l.take j))) ∧ wc = wr) (fun _ i _ => l.length - (RowKit.intOf i).toNat)
        case atStart => exact ⟨0, by omega, rfl, by rw [List.take_zero]; show _ = Value.bool (!(bq && true)); rw [Bool.and_true], rfl⟩
        case round =>
          obtain ⟨j, hj, rfl, rfl, rfl⟩ := hrel
          have g1 := HBK3.out.cell 1
          simp only [List.getElem?_toArray, List.getElem?_cons_zero, List.getElem?_cons_succ] at g1
          by_cases hltj : j < l.length
          · have hjI : (j : Int) < (l.length : Int) := by omega
            have hj0 : (0 : Int) ≤ (j : Int) := by omega
            obtain ⟨adx, e, hadx, hccx⟩ := HX3.out.row (fun _ => rfl) (by decide) hltj
            subst e
            have ex := hccx 0 _ rfl
            rw [Nat.mul_one, Nat.add_zero] at ex
            have hnx := rngOk_next (m := m) hltj
            generalize l[j] = x at *
            obtain ⟨bj, hbj⟩ : ∃ b, (bq && rngOk m (l.take j)) = b := ⟨_, rfl⟩
            have hnx2 : (bq && rngOk m (l.take (j + 1))) = (bj && decide (0 ≤ x ∧ x < (m : Int))) := by rw [hnx, ← Bool.and_assoc, hbj]
            rw [hbj]
            have HNX := Lib.hid hnx2
            clear hccx hnx hnx2 hbj
            cases bj with
            | false =>
              go_wp2
              go_roundw
              case rel => exact ⟨j + 1, by omega, by go_num, by rw [HNX.out]; rfl, trivial⟩
              case measure => simp [RowKit.intOf]; omega
            | true =>
              by_cases hx0 : x < 0
              · go_wp2
                go_roundw
                case rel => exact ⟨j + 1, by omega, by go_num, by rw [HNX.out, decide_eq_false (by omega)]; rfl, trivial⟩
                case measure => simp [RowKit.intOf]; omega
              · by_cases hxm : (m : Int) ≤ x
                · go_wp2
                  go_roundw
                  case rel => exact ⟨j + 1, by omega, by go_num, by rw [HNX.out, decide_eq_false (by omega)]; rfl, trivial⟩
                  case measure => simp [RowKit.intOf]; omega
                · go_wp2
                  go_roundw
                  case rel => exact ⟨j + 1, by omega, by go_num, by rw [HNX.out, decide_eq_true (by omega)]; rfl, trivial⟩
                  case measure => simp [RowKit.intOf]; omega
          · obtain rfl : j = l.length := by omega
            rw [List.take_length]
            rw [← HRN.out]
            go_wp2
            go_roundw
            case rel => exact ⟨k + 1, by omega, by go_num, rfl, HLO2.out, HBK3.out, HBL3.out, HBW3.out⟩
            case measure => simp [RowKit.intOf]; omega
    · obtain rfl : k = n6 := by omega
      have hr := HRE.out
      rw [HL.out, HN.out, if_pos HLO.out] at hr
      have hall : on.take k = on := List.take_of_length_le (by rw [HL.out, HN.out]; exact Nat.le_refl _)
      rw [hall]
      cases hq : inRange m on with
      | true =>
        rw [hq, if_pos rfl] at hr
        subst hr
        clear hall
        go_wp2
        go_ret
        exact ⟨rfl, HBW.out⟩
      | false =>
        rw [hq, if_neg (by decide)] at hr
        subst hr
        clear hall
        go_wp2
        go_ret
        exact ⟨rfl, HBW.out⟩
end Go.Proofs.YtmepaeahchiglaaGreatDoor
namespace Go.Proofs.YtmepaeahchiglaaGreatDoor
open Go.RowKit Go.Lib

theorem textB_len (s : ByteArray) : (textB s).length ≤ 5 + s.size := by
  unfold textB
  have := numB_len s.size
  rw [List.length_append, sbytes_len]
  omega
set_option maxRecDepth 20000 in
set_option maxHeartbeats 2000000 in
theorem nmd_any (w : World) (base g h0 : Nat) (x : Nam) (xs : List Nat) (h : Wr w base g xs) (hh : Blk w h0 142 #[wptr g]) (h1 : x.1.size ≤ 1000) (h2 : ok32 x.2) (hx : xs.length + 1015 ≤ CAP) :
    Calls Tryz.prog 87 #[.agg #[.string x.1, .int .u32 x.2.1, .int .u32 x.2.2], wptr h0] w fun e w' => e = .returned (.tuple #[]) ∧ Wr w' base g (xs ++ nmdB x) ∧ WStep g w w' := by
  have hgh : h0 ≠ g := fun e => by
    subst e
    obtain ⟨v, b1, _⟩ := h
    exact Blk.ne_ b1 hh (by decide) rfl
  have hw0 := h.alloc (.cells #[.string x.1, .int .u32 x.2.1, .int .u32 x.2.2] 74)
  have hB0 := Blk.new w 74 #[.string x.1, .int .u32 x.2.1, .int .u32 x.2.2]
  have hh0 := hh.alloc (.cells #[.string x.1, .int .u32 x.2.1, .int .u32 x.2.2] 74)
  have hst := (WStep.refl g w).alloc h.lt (.cells #[.string x.1, .int .u32 x.2.1, .int .u32 x.2.2] 74)
  have hgl := h.lt
  have hhl := hh.lt
  have hhc := hh0.cell 0
  simp only [List.getElem?_toArray, List.getElem?_cons_zero] at hhc
  have HOK := Lib.hid h2
  clear h2
  have HW0 := Lib.hid hw0; have HB0 := Lib.hid hB0; have HST := Lib.hid hst; have HH0 := Lib.hid hh0; have HX := Lib.hid h
  clear hw0 hB0 hst hh0 h hh
  go_enter Tryz.func87, Tryz.ntmps87
  go_wp2_with fail
  refine (text_any _ base g x.1 _ HW0.out (by omega) (by omega)).mono ?_
  rintro e w1 ⟨rfl, h1, h2⟩
  have hb1 := h2.blk HW0.out HB0.out (by decide) (by omega)
  have hh1 := h2.blk HW0.out HH0.out (by decide) hgh
  have c0 := hb1.cell 0
  have c1 := hb1.cell 1
  have c2 := hb1.cell 2
  have hhc := hh1.cell 0
  simp only [List.getElem?_toArray, List.getElem?_cons_zero, List.getElem?_cons_succ] at hhc c0 c1 c2
  have HW1 := Lib.hid h1; have HS1 := Lib.hid h2; have HB1 := Lib.hid hb1; have HH1 := Lib.hid hh1
  clear h1 h2 hb1 hh1
  go_wp2_with fail
  refine (sound_any w1 base g x.2 _ HW1.out HOK.out (by have := textB_len x.1; rw [List.length_append]; omega)).mono ?_
  rintro e w2 ⟨rfl, h1, h2⟩
  have HW2 := Lib.hid h1; have HS2 := Lib.hid h2
  clear h1 h2
  go_wp2
  go_end0
  refine ⟨rfl, ?_, ((HST.out.trans HS1.out).trans HS2.out)⟩
  unfold nmdB
  have := HW2.out
  simp only [List.append_assoc] at this
  exact this
set_option maxRecDepth 20000 in
set_option maxHeartbeats 2000000 in
theorem mkd_any (w : World) (base g h0 : Nat) (x : Mk) (xs : List Nat) (h : Wr w base g xs) (hh : Blk w h0 142 #[wptr g]) (h1 : x.text.size ≤ 1000) (h2 : is32 x.clear) (h3 : ok32 x.set) (hx : xs.length + 1020 ≤ CAP) :
    Calls Tryz.prog 89 #[.agg #[.string x.text, .int .u32 x.clear, .int .u32 x.set.1, .int .u32 x.set.2], wptr h0] w fun e w' => e = .returned (.tuple #[]) ∧ Wr w' base g (xs ++ mkdB x) ∧ WStep g w w' := by
  have hgh : h0 ≠ g := fun e => by
    subst e
    obtain ⟨v, b1, _⟩ := h
    exact Blk.ne_ b1 hh (by decide) rfl
  have hw0 := h.alloc (.cells #[.string x.text, .int .u32 x.clear, .int .u32 x.set.1, .int .u32 x.set.2] 76)
  have hB0 := Blk.new w 76 #[.string x.text, .int .u32 x.clear, .int .u32 x.set.1, .int .u32 x.set.2]
  have hh0 := hh.alloc (.cells #[.string x.text, .int .u32 x.clear, .int .u32 x.set.1, .int .u32 x.set.2] 76)
  have hst := (WStep.refl g w).alloc h.lt (.cells #[.string x.text, .int .u32 x.clear, .int .u32 x.set.1, .int .u32 x.set.2] 76)
  have hgl := h.lt
  have hhl := hh.lt
  have hhc := hh0.cell 0
  simp only [List.getElem?_toArray, List.getElem?_cons_zero] at hhc
  have HOK := Lib.hid h2; have HOK3 := Lib.hid h3
  clear h2 h3
  have HW0 := Lib.hid hw0; have HB0 := Lib.hid hB0; have HST := Lib.hid hst; have HH0 := Lib.hid hh0; have HX := Lib.hid h
  clear hw0 hB0 hst hh0 h hh
  go_enter Tryz.func89, Tryz.ntmps89
  go_wp2_with fail
  refine (text_any _ base g x.text _ HW0.out (by omega) (by omega)).mono ?_
  rintro e w1 ⟨rfl, h1, h2⟩
  have hb1 := h2.blk HW0.out HB0.out (by decide) (by omega)
  have hh1 := h2.blk HW0.out HH0.out (by decide) hgh
  have c0 := hb1.cell 0
  have c1 := hb1.cell 1
  have c2 := hb1.cell 2
  have c3 := hb1.cell 3
  have hhc := hh1.cell 0
  simp only [List.getElem?_toArray, List.getElem?_cons_zero, List.getElem?_cons_succ] at hhc c0 c1 c2 c3
  have HW1 := Lib.hid h1; have HS1 := Lib.hid h2; have HB1 := Lib.hid hb1; have HH1 := Lib.hid hh1
  clear h1 h2 hb1 hh1
  go_wp2_with fail
  refine (num_any w1 base g x.clear _ HW1.out HOK.out (by have := textB_len x.text; rw [List.length_append]; omega)).mono ?_
  rintro e w2 ⟨rfl, h1, h2⟩
  have hb1 := h2.blk HW1.out HB1.out (by decide) (by omega)
  have hh1 := h2.blk HW1.out HH1.out (by decide) hgh
  have c0 := hb1.cell 0
  have c1 := hb1.cell 1
  have c2 := hb1.cell 2
  have c3 := hb1.cell 3
  have hhc := hh1.cell 0
  simp only [List.getElem?_toArray, List.getElem?_cons_zero, List.getElem?_cons_succ] at hhc c0 c1 c2 c3
  have HW2 := Lib.hid h1; have HS2 := Lib.hid h2; have HB2 := Lib.hid hb1; have HH2 := Lib.hid hh1
  clear h1 h2 hb1 hh1
  go_wp2_with fail
  refine (sound_any w2 base g x.set _ HW2.out HOK3.out (by have := textB_len x.text; have := numB_len x.clear; rw [List.length_append, List.length_append]; omega)).mono ?_
  rintro e w3 ⟨rfl, h1, h2⟩
  have HW3 := Lib.hid h1; have HS3 := Lib.hid h2
  clear h1 h2
  go_wp2
  go_end0
  refine ⟨rfl, ?_, (((HST.out.trans HS1.out).trans HS2.out).trans HS3.out)⟩
  unfold mkdB
  have := HW3.out
  simp only [List.append_assoc] at this
  exact this
set_option maxRecDepth 20000 in
set_option maxHeartbeats 2000000 in
theorem nd_any (w : World) (base g h0 : Nat) (x : Nd) (xs : List Nat) (h : Wr w base g xs) (hh : Blk w h0 142 #[wptr g]) (h1 : -1 ≤ x.1) (h2 : x.1 < 4294967295) (h3 : x.2.size ≤ 1000) (hx : xs.length + 1015 ≤ CAP) :
    Calls Tryz.prog 92 #[.agg #[.int .i64 x.1, .string x.2], wptr h0] w fun e w' => e = .returned (.tuple #[]) ∧ Wr w' base g (xs ++ ndB x) ∧ WStep g w w' := by
  have hgh : h0 ≠ g := fun e => by
    subst e
    obtain ⟨v, b1, _⟩ := h
    exact Blk.ne_ b1 hh (by decide) rfl
  have hw0 := h.alloc (.cells #[.int .i64 x.1, .string x.2] 78)
  have hB0 := Blk.new w 78 #[.int .i64 x.1, .string x.2]
  have hh0 := hh.alloc (.cells #[.int .i64 x.1, .string x.2] 78)
  have hst := (WStep.refl g w).alloc h.lt (.cells #[.int .i64 x.1, .string x.2] 78)
  have hgl := h.lt
  have hhl := hh.lt
  have hhc := hh0.cell 0
  simp only [List.getElem?_toArray, List.getElem?_cons_zero] at hhc
  have HW0 := Lib.hid hw0; have HB0 := Lib.hid hB0; have HST := Lib.hid hst; have HH0 := Lib.hid hh0; have HX := Lib.hid h
  clear hw0 hB0 hst hh0 h hh
  go_enter Tryz.func92, Tryz.ntmps92
  go_wp2_with fail
  refine (count_int _ base g (x.1 + 1) _ HW0.out (by omega) (by omega) (by omega)).mono ?_
  rintro e w1 ⟨rfl, h1, h2⟩
  have hb1 := h2.blk HW0.out HB0.out (by decide) (by omega)
  have hh1 := h2.blk HW0.out HH0.out (by decide) hgh
  have c0 := hb1.cell 0
  have c1 := hb1.cell 1
  have hhc := hh1.cell 0
  simp only [List.getElem?_toArray, List.getElem?_cons_zero, List.getElem?_cons_succ] at hhc c0 c1
  have HW1 := Lib.hid h1; have HS1 := Lib.hid h2; have HB1 := Lib.hid hb1; have HH1 := Lib.hid hh1
  clear h1 h2 hb1 hh1
  go_wp2_with fail
  refine (text_any w1 base g x.2 _ HW1.out (by omega) (by have := numB_len (x.1 + 1).toNat; rw [List.length_append]; omega)).mono ?_
  rintro e w2 ⟨rfl, h1, h2⟩
  have HW2 := Lib.hid h1; have HS2 := Lib.hid h2
  clear h1 h2
  go_wp2
  go_end0
  refine ⟨rfl, ?_, ((HST.out.trans HS1.out).trans HS2.out)⟩
  unfold ndB
  have := HW2.out
  simp only [List.append_assoc] at this
  exact this
set_option maxRecDepth 20000 in
set_option maxHeartbeats 2000000 in
theorem form_any (w : World) (base g B : Nat) (f : Fm) (v : Value) (xs : List Nat) (h : Wr w base g xs) (hv : SlC SndCC 2 w B f.w v) (hB : B ≤ base) (hn : f.w.length ≤ 1000) (hok : ∀ s ∈ f.w, ok32 s) (hx : xs.length + 10020 ≤ CAP) :
    Calls Tryz.prog 97 #[wptr g, .agg #[.bool f.has, v]] w fun e w' => e = .returned (.tuple #[]) ∧ Wr w' base g (xs ++ formB f) ∧ WStep g w w' := by
  obtain ⟨A, c, rfl, ⟨hc1, hc2⟩, hr⟩ := hv.flat
  have hw0 := h.alloc (.cells #[.bool f.has, .slice A f.w.length c] 82)
  have hB0 := Blk.new w 82 #[.bool f.has, .slice A f.w.length c]
  have hst := (WStep.refl g w).alloc h.lt (.cells #[.bool f.has, .slice A f.w.length c] 82)
  have hgl := h.lt
  have hfl : (flagB f.has).length ≤ 5 := numB_len _
  have HW0 := Lib.hid hw0; have HB0 := Lib.hid hB0; have HST := Lib.hid hst; have HX := Lib.hid h; have HR := Lib.hid hr; have HOK := Lib.hid hok
  clear hw0 hB0 hst h hr hok hv
  go_enter Tryz.func97, Tryz.ntmps97
  go_wp2_with fail
  refine (flag_any _ base g f.has _ HW0.out (by omega)).mono ?_
  rintro e w1 ⟨rfl, h1, h2⟩
  have hb1 := h2.blk HW0.out HB0.out (by decide) (by omega)
  have c0 := hb1.cell 0; have c1 := hb1.cell 1
  simp only [List.getElem?_toArray, List.getElem?_cons_zero, List.getElem?_cons_succ] at c0 c1
  have hr1 := (HST.out.trans h2).reads HX.out HR.out hB
  have HW1 := Lib.hid h1; have HS1 := Lib.hid h2; have HR1 := Lib.hid hr1
  clear h1 h2 hb1 hr1
  obtain ⟨has, ws⟩ := f
  simp only [] at *
  cases has with
  | false =>
    go_wp2
    go_end0
    refine ⟨rfl, ?_, HST.out.trans HS1.out⟩
    show Wr w1 base g (xs ++ (flagB false ++ []))
    rw [List.append_nil]
    exact HW1.out
  | true =>
    go_wp2_with fail
    refine (allSnd_any w1 base g B A ws.length c ws _ HW1.out HR1.out hB (by omega) HOK.out (by rw [List.length_append]; omega)).mono ?_
    rintro e w2 ⟨rfl, h1, h2⟩
    have HW2 := Lib.hid h1; have HS2 := Lib.hid h2
    clear h1 h2
    go_wp2
    go_end0
    refine ⟨rfl, ?_, (HST.out.trans HS1.out).trans HS2.out⟩
    show Wr w2 base g (xs ++ (flagB true ++ wordB ws))
    rw [← List.append_assoc]
    exact HW2.out
end Go.Proofs.YtmepaeahchiglaaGreatDoor
