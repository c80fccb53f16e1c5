/-
  layer 36: Roads, Within, Labels, Middle, Path of the reference answer as the program's do. Conditions: a map as the reference's New makes it, or nil; a map that New made.
-/
import Derived.Test.YtgimhjkijpcgjaaDoorGaj
import Derived.Test.YtgimhjkijpcgjaaDoorGah
import Derived.Test.YtgimhjkijpcgjaaDoorGae
import Derived.Test.YtgimhjkijpcgjaaDoorShelf
namespace Go.Proofs.YtgimhjkijpcgjaaDoor
open Go.RowKit Go.Lib

theorem NewO.few {om : Option Pts} (h : NewO om) : lenO om ≤ 128 := h.good.few
theorem NewO.roads {om : Option Pts} (h : NewO om) : (roadsO om).length ≤ 512 := by
  cases om with
  | none => exact Nat.zero_le _
  | some M =>
    obtain ⟨names, roads, h1, rfl⟩ := h M rfl
    exact (newE_zero h1).2.1
set_option maxRecDepth 20000 in
set_option maxHeartbeats 2000000 in
theorem refRoads_any (p : Option Addr) (om : Option Pts) (w : World) (h : RefO w p om) (hN : (roadsO om).length ≤ 512) : Calls Tryd.prog 48 #[.pointer p] w fun e w' => ∃ v, e = .returned v ∧ w'.ownsRow w.heap.size 71 3 v (roadsO om).length ((roadsO om).flatMap roadV) ∧ Below w.heap.size w w' := by
  have hv := refValid_any p om w h
  cases om with
  | none =>
    rw [show (none : Option Pts).isSome = false from rfl] at hv
    clear h
    go_enter Tryd.func48, Tryd.ntmps48
    go_wp2_with fail
    refine hv.mono ?_
    rintro e w' ⟨rfl, rfl⟩
    go_wp2
    go_ret
    exact ⟨_, rfl, World.ownsRow_nil _ _ _ _, Below.refl _ _⟩
  | some M =>
    rw [show (some M : Option Pts).isSome = true from rfl] at hv
    obtain ⟨g, rfl, base, vN, vR, vD, us, h1, h2, h3, h4⟩ := h
    obtain ⟨A, c, rfl, _, _⟩ := ownsRow_form h3
    have hc := h1.cell 2
    have hgl := h1.lt
    simp only [List.getElem?_toArray, List.getElem?_cons_succ, List.getElem?_cons_zero] at hc
    show Calls _ _ _ _ fun e w' => ∃ v, e = .returned v ∧ w'.ownsRow w.heap.size 71 3 v M.roads.length (M.roads.flatMap roadV) ∧ Below w.heap.size w w'
    have hone : ∀ u ∈ M.roads.flatMap roadV, u.oneCell' = true := fun u hu => by
      obtain ⟨r, _, hr⟩ := List.mem_flatMap.1 hu
      simp only [roadV, List.mem_cons, List.not_mem_nil, or_false] at hr
      rcases hr with rfl | rfl | rfl <;> rfl
    have hR := (Reads.of_own h3).alloc (Nat.le_refl _) (.cells #[] 71)
    have hc' : (w.alloc (.cells #[] 71)).cell? ⟨g, 2, none⟩ = some (.slice A M.roads.length c) := (World.cell?_alloc_lt w _ ⟨g, 2, none⟩ hgl).trans hc
    replace hN : M.roads.length ≤ 512 := hN
    have hown := own_empty3 w 71
    obtain ⟨i0, hi, hz0, hz1, hz2⟩ := info_parts (show (Tryd.prog.info? 71).map (fun i => (i.zero, i.size, i.bytes)) = some (some (.agg #[.int .i64 0, .int .i64 0, .int .i64 0]), 3, 24) by kernel_rfl)
    have HONE := Lib.hid hone
    clear h1 h2 h3 h4 hone hc
    generalize M.roads.flatMap roadV = xs at *
    generalize M.roads.length = n at *
    go_enter Tryd.func48, Tryd.ntmps48
    go_wp2_with fail
    refine hv.mono ?_
    rintro e w' ⟨rfl, rfl⟩
    go_wp2_with (at_builtin; refine wpList_append_any _ rfl _ _ 23 rfl w.heap.size 71 i0 (.agg #[.int .i64 0, .int .i64 0, .int .i64 0]) 3 24 Tryd.underlying23 hi hz0 hz1 hz2 rfl (by decide) _ _ _ rfl hown w.heap.size _ _ _ xs rfl hR HONE.out (by unfold maxLen; omega) (by omega) (by simp) ?_; intro v' w1 hown' hgrow _)
    have hb1 : Below w.heap.size w w1 := ((Below.refl _ w).alloc (Nat.le_refl _) _).grown hgrow (by simp) (fun g hg => (hown.lt g hg).1)
    clear hgrow
    go_ret
    exact ⟨_, rfl, by simpa using hown', hb1⟩
theorem within_ref (om : Option Pts) (a d : Int) : intsL ((List.range (lenO om)).filter fun (b : Nat) => (distO om a (b : Int)).2 && decide ((distO om a (b : Int)).1 ≤ d)) = withinO om a d := by
  by_cases ha : inO om a
  · cases om with
    | none => exact absurd ha.2 (by show ¬ a < ((0 : Nat) : Int); have := ha.1; omega)
    | some M =>
      obtain ⟨k, rfl⟩ : ∃ k : Nat, a = k := ⟨a.toNat, by have := ha.1; omega⟩
      have hk : k < M.n := by have := ha.2; have : (k : Int) < (M.n : Int) := this; omega
      rw [withinO_in hk]
      unfold intsL selL
      congr 1
      refine List.filter_congr fun b hb => ?_
      rw [distO_in hk (List.mem_range.1 hb), Bool.eq_iff_iff]
      simp only [Bool.and_eq_true, decide_eq_true_iff]
      omega
  · rw [withinO_out ha]
    have : ((List.range (lenO om)).filter fun (b : Nat) => (distO om a (b : Int)).2 && decide ((distO om a (b : Int)).1 ≤ d)) = [] := by
      rw [List.filter_eq_nil_iff]
      intro b _
      rw [distO_out (fun h => ha h.1)]
      simp
    rw [this]; rfl
end Go.Proofs.YtgimhjkijpcgjaaDoor
namespace Go.Proofs.YtgimhjkijpcgjaaDoor
open Go.RowKit Go.Lib

abbrev roadA (x : Rd) : Value := .agg #[.int .i64 x.1, .int .i64 x.2.1, .int .i64 x.2.2]
/-- The ends of a road are points. -/
def InR (n : Nat) (x : Rd) : Prop := 0 ≤ x.1 ∧ x.1 < n ∧ 0 ≤ x.2.1 ∧ x.2.1 < n
theorem InR.of_ok {n : Nat} {x : Rd} (h : Okr n x) : InR n x := ⟨h.a0, h.a1, h.b0, h.b1⟩
theorem cut_nat (vs : List Int) {a b : Nat} (l : Int) (ha : a < vs.length) (hb : b < vs.length) : cutB vs ((a : Int), (b : Int), l) = !(vs[a] == vs[b]) := by
  unfold cutB
  show (!(valAt vs (a : Int) == valAt vs (b : Int))) = _
  rw [valAt_get ha, valAt_get hb]
set_option maxRecDepth 20000 in
set_option maxHeartbeats 1000000 in
theorem cut_any (x : Rd) (A : Option Addr) (n c : Nat) (vs : List Int) (w : World) (h : ReadI w w.heap.size A n vs) (hx : InR n x) :
    Calls Tryd.prog 46 #[roadA x, .slice A n c] w fun e w' => e = .returned (.bool (cutB vs x)) ∧ Below w.heap.size w w' := by
  obtain ⟨a0, a1, b0, b1⟩ := hx
  obtain ⟨xa, xb, xl⟩ := x
  simp only at a0 a1 b0 b1
  obtain ⟨a, rfl⟩ : ∃ k : Nat, xa = k := ⟨xa.toNat, by omega⟩
  obtain ⟨b, rfl⟩ : ∃ k : Nat, xb = k := ⟨xb.toNat, by omega⟩
  have hl := h.len
  have ha : a < vs.length := by omega
  have hb : b < vs.length := by omega
  obtain ⟨ad, rfl, had, hca, hcb⟩ := readI_two h ha hb
  rw [cut_nat vs xl ha hb]
  generalize vs[a] = va at *
  generalize vs[b] = vb at *
  have hbx := Blk.new w 71 #[.int .i64 (a : Int), .int .i64 (b : Int), .int .i64 xl]
  have c0 := hbx.cell 0
  have c1 := hbx.cell 1
  simp only [List.getElem?_toArray, List.getElem?_cons_zero, List.getElem?_cons_succ] at c0 c1
  have ka : (w.alloc (.cells #[.int .i64 (a : Int), .int .i64 (b : Int), .int .i64 xl] 71)).cell? (ad.add a) = some (.int .i64 va) := (World.cell?_alloc_lt _ _ _ (by rw [block_of_add]; exact had)).trans hca
  have kb : (w.alloc (.cells #[.int .i64 (a : Int), .int .i64 (b : Int), .int .i64 xl] 71)).cell? (ad.add b) = some (.int .i64 vb) := (World.cell?_alloc_lt _ _ _ (by rw [block_of_add]; exact had)).trans hcb
  have HB := Lib.hid ((Below.refl _ w).alloc (Nat.le_refl _) (.cells #[.int .i64 (a : Int), .int .i64 (b : Int), .int .i64 xl] 71))
  clear h hca hcb hbx hl ha hb vs
  go_enter Tryd.func46, Tryd.ntmps46
  go_wp2
  go_region
  go_wp2
  go_ret
  exact ⟨rfl, HB.out.drew⟩
set_option maxRecDepth 20000 in
set_option maxHeartbeats 1000000 in
theorem refCut_any (x : Rd) (A : Option Addr) (n c : Nat) (vs : List Int) (w : World) (h : ReadI w w.heap.size A n vs) (hx : InR n x) :
    Calls Tryd.prog 49 #[roadA x, .slice A n c] w fun e w' => e = .returned (.bool (cutB vs x)) ∧ Below w.heap.size w w' := by
  obtain ⟨a0, a1, b0, b1⟩ := hx
  obtain ⟨xa, xb, xl⟩ := x
  simp only at a0 a1 b0 b1
  obtain ⟨a, rfl⟩ : ∃ k : Nat, xa = k := ⟨xa.toNat, by omega⟩
  obtain ⟨b, rfl⟩ : ∃ k : Nat, xb = k := ⟨xb.toNat, by omega⟩
  have hl := h.len
  have ha : a < vs.length := by omega
  have hb : b < vs.length := by omega
  obtain ⟨ad, rfl, had, hca, hcb⟩ := readI_two h ha hb
  rw [cut_nat vs xl ha hb]
  generalize vs[a] = va at *
  generalize vs[b] = vb at *
  have hbx := Blk.new w 71 #[.int .i64 (a : Int), .int .i64 (b : Int), .int .i64 xl]
  have c0 := hbx.cell 0
  have c1 := hbx.cell 1
  simp only [List.getElem?_toArray, List.getElem?_cons_zero, List.getElem?_cons_succ] at c0 c1
  have ka : (w.alloc (.cells #[.int .i64 (a : Int), .int .i64 (b : Int), .int .i64 xl] 71)).cell? (ad.add a) = some (.int .i64 va) := (World.cell?_alloc_lt _ _ _ (by rw [block_of_add]; exact had)).trans hca
  have kb : (w.alloc (.cells #[.int .i64 (a : Int), .int .i64 (b : Int), .int .i64 xl] 71)).cell? (ad.add b) = some (.int .i64 vb) := (World.cell?_alloc_lt _ _ _ (by rw [block_of_add]; exact had)).trans hcb
  have HB := Lib.hid ((Below.refl _ w).alloc (Nat.le_refl _) (.cells #[.int .i64 (a : Int), .int .i64 (b : Int), .int .i64 xl] 71))
  clear h hca hcb hbx hl ha hb vs
  go_enter Tryd.func49, Tryd.ntmps49
  go_wp2
  go_region
  go_wp2
  go_ret
  exact ⟨rfl, HB.out.drew⟩
set_option maxRecDepth 20000 in
set_option maxHeartbeats 1000000 in
theorem bundle_any (x : Rd) (A : Option Addr) (m c : Nat) (l : List (List Int)) (w : World) (h : ReadII w w.heap.size A m l) (hx : ∀ vs ∈ l, InR vs.length x) (hm : m ≤ 1000000) :
    Calls Tryd.prog 56 #[roadA x, .slice A m c] w fun e w' => e = .returned (.int .i64 (bundN l x : Nat)) ∧ Below w.heap.size w w' := by
  have hml := h.1
  have hb0 := (Below.refl _ w).alloc (Nat.le_refl _) (.cells #[.int .i64 x.1, .int .i64 x.2.1, .int .i64 x.2.2] 71)
  have hbx := Blk.new w 71 #[.int .i64 x.1, .int .i64 x.2.1, .int .i64 x.2.2]
  have H := Lib.hid h; have HX := Lib.hid hx; have HB0 := Lib.hid hb0; have HBX := Lib.hid hbx; have HML := Lib.hid hml
  clear h hx hb0 hbx hml
  go_enter Tryd.func56, Tryd.ntmps56
  go_wp2
  go_loopw [5, 10] (fun v i wr => ∃ j : Nat, j ≤ m ∧ i = .int .i64 j ∧ v = .int .i64 (bundN (l.take j) x : Nat) ∧ Below w.heap.size w wr ∧ Blk wr w.heap.size 71 #[.int .i64 x.1, .int .i64 x.2.1, .int .i64 x.2.2]) (fun _ i _ => m - (intOf i).toNat)
  case atStart => exact ⟨0, by omega, rfl, rfl, HB0.out, HBX.out⟩
  case round =>
    obtain ⟨j, hj, rfl, rfl, hb, hk⟩ := hrel
    have HB := Lib.hid hb; have HK := Lib.hid hk
    clear hb hk HB0 HBX
    by_cases hlt : j < m
    · have hjl : j < l.length := by rw [HML.out]; exact hlt
      have hst := bundN_step l x hjl
      obtain ⟨ad, A', c', rfl, hcell, hlt2, hR, hc1, hc2⟩ := H.out.2 j hjl
      have hcw := (HB.out.cell hlt2).trans hcell
      have hcut := cut_any x A' l[j].length c' l[j] wr (ReadI.later hR HB.out) (HX.out _ (List.getElem_mem hjl))
      have c0 := HK.out.cell 0; have c1 := HK.out.cell 1; have c2 := HK.out.cell 2
      simp only [List.getElem?_toArray, List.getElem?_cons_zero, List.getElem?_cons_succ] at c0 c1 c2
      have hle : bundN (l.take j) x ≤ 1000000 := by
        have := bundN_le (l.take j) x
        have h2 := List.length_take_le j l
        rw [List.length_take] at this
        omega
      have HST := Lib.hid hst
      generalize bundN (l.take j) x = N at *
      generalize cutB l[j] x = b at *
      have hltI : (j : Int) < (m : Int) := by omega
      clear hst hR hcell
      cases b
      · go_wp2_with fail
        refine hcut.mono ?_
        rintro e w2 ⟨rfl, hb2⟩
        have hB2 := HB.out.trans (hb2.mono HB.out.size)
        have hK2 := HK.out.below hb2 HK.out.lt
        clear hb2
        go_wp2
        go_roundw
        case rel => exact ⟨j + 1, by omega, by go_num, by rw [HST.out]; rfl, hB2, hK2⟩
        case measure => simp [intOf]; omega
      · go_wp2_with fail
        refine hcut.mono ?_
        rintro e w2 ⟨rfl, hb2⟩
        have hB2 := HB.out.trans (hb2.mono HB.out.size)
        have hK2 := HK.out.below hb2 HK.out.lt
        clear hb2
        go_wp2
        go_roundw
        case rel => exact ⟨j + 1, by omega, by go_num, by rw [HST.out]; go_num, hB2, hK2⟩
        case measure => simp [intOf]; omega
    · obtain rfl : j = m := by omega
      rw [List.take_of_length_le (by rw [HML.out]; exact Nat.le_refl _)]
      clear HK
      go_wp2
      go_ret
      exact ⟨rfl, HB.out⟩
end Go.Proofs.YtgimhjkijpcgjaaDoor
namespace Go.Proofs.YtgimhjkijpcgjaaDoor
open Go.RowKit Go.Lib

abbrev SlI := Option Addr × Nat × Nat
def encSl (s : SlI) : Value := .slice s.1 s.2.1 s.2.2
theorem add_at' (b o j : Nat) : (⟨b, o, none⟩ : Addr).add j = ⟨b, o + j, none⟩ := by unfold Addr.add; split <;> simp_all
/-- An address that a slice begins at. -/
def PlainA (A : Option Addr) : Prop := ∀ ad, A = some ad → ∃ b o, ad = ⟨b, o, none⟩
theorem plainA_none : PlainA none := fun _ h => by cases h
theorem plainA_at (b : Nat) : PlainA (some ⟨b, 0, none⟩) := fun ad h => ⟨b, 0, by injection h with h; exact h.symm⟩
theorem readII_slices {w : World} {B n b o : Nat} {gs : List (List Int)} (h : ReadII w B (some ⟨b, o, none⟩) n gs) : ∀ k, k ≤ n → ∃ zs : List SlI, zs.length = k ∧ (∀ j, j < k → w.cell? ⟨b, o + j, none⟩ = some (encSl zs[j]!)) ∧ zs.map (fun s => s.2.1) = (gs.take k).map List.length := by
  intro k
  induction k with
  | zero => intro _; exact ⟨[], rfl, fun j h => absurd h (by omega), by simp⟩
  | succ k ih =>
    intro hk
    obtain ⟨zs, h1, h2, h3⟩ := ih (by omega)
    have hkg : k < gs.length := by have := h.1; omega
    obtain ⟨ad, A', c', e, hc, _, _, _, _⟩ := h.2 k hkg
    injection e with e
    subst e
    rw [add_at'] at hc
    refine ⟨zs ++ [(A', gs[k].length, c')], by simp [h1], fun j hj => ?_, ?_⟩
    · rcases Nat.lt_or_ge j k with hl | hl
      · rw [h2 j hl, getElem!_pos zs j (by omega), getElem!_pos _ j (by simp; omega), List.getElem_append_left (by omega)]
      · obtain rfl : j = k := by omega
        rw [hc, getElem!_pos _ j (by simp; omega), List.getElem_append_right (by omega)]
        simp [encSl, h1]
    · rw [List.map_append, h3, List.take_succ_eq_append_getElem hkg, List.map_append]; rfl
theorem any_len {zs : List SlI} {gs : List (List Int)} (h : zs.map (fun s => s.2.1) = gs.map List.length) (N : Nat) : (zs.any fun s => !(s.2.1 == N)) = gs.any fun vs => !(vs.length == N) := by
  have h1 : (zs.any fun s => !(s.2.1 == N)) = (zs.map fun s => s.2.1).any fun k => !(k == N) := by rw [List.any_map]; rfl
  have h2 : (gs.any fun vs => !(vs.length == N)) = (gs.map List.length).any fun k => !(k == N) := by rw [List.any_map]; rfl
  rw [h1, h2, h]
theorem check1_fn (bx N : Nat) (w : World) (hx : Blk w bx 3 #[.int .i64 (N : Int)]) : PredAt Tryd.prog 75 #[.pointer (some ⟨bx, 0, none⟩)] encSl (fun s => !(s.2.1 == N)) w := by
  rintro W ⟨A, n, c⟩ hW
  show Calls Tryd.prog 75 #[.slice A n c, .pointer (some ⟨bx, 0, none⟩)] W fun e w' => e = .returned (.bool (!(n == N))) ∧ ∃ q, w' = W.drewN q
  have k0 := (hx.below hW hx.lt).cell 0
  simp only [List.getElem?_toArray, List.getElem?_cons_zero] at k0
  clear hx hW
  by_cases e : n = N
  · subst e
    rw [show (!(n == n)) = false from by simp]
    go_enter Tryd.func75, Tryd.ntmps75
    go_wp2
    go_ret
    exact ⟨rfl, 0, rfl⟩
  · rw [show (!(n == N)) = true from by simp [e]]
    have eI : ((n : Int) != (N : Int)) = true := by rw [bne, beq_false_of_ne (show (n : Int) ≠ N by omega)]; rfl
    go_enter Tryd.func75, Tryd.ntmps75
    go_wp2
    go_ret
    exact ⟨rfl, 0, rfl⟩
theorem hasLen_any (A : Option Addr) (m c bx N : Nat) (l : List (List Int)) (w : World) (hl : ReadII w w.heap.size A m l) (hA : PlainA A) (hm : m ≤ maxLen) (hx : Blk w bx 3 #[.int .i64 (N : Int)]) :
    Calls Tryd.prog 74 #[.slice A m c, .func (.func 75) #[] #[.pointer (some ⟨bx, 0, none⟩)]] w fun e w' => e = .returned (.bool (l.any fun vs => !(vs.length == N))) ∧ Below w.heap.size w w' := by
  have hll := hl.1
  rcases Nat.eq_zero_or_pos m with h0 | h0
  · subst h0
    obtain rfl : l = [] := List.eq_nil_of_length_eq_zero hll
    refine (AnyE.slices_ContainsFunc_empty Tryd.laysSlH8_f74 A c _ w).mono ?_
    rintro e w' ⟨rfl, rfl⟩
    exact ⟨rfl, Below.refl _ _⟩
  · obtain ⟨ad, _, _, rfl, _⟩ := hl.2 0 (by omega)
    obtain ⟨b, o, rfl⟩ := hA ad rfl
    obtain ⟨zs, h1, h2, h3⟩ := readII_slices hl m (Nat.le_refl _)
    rw [List.take_of_length_le (by omega)] at h3
    refine (AnyE.slices_ContainsFunc Tryd.laysSlH8_f74 encSl (fun s => !(s.2.1 == N)) 75 #[.pointer (some ⟨bx, 0, none⟩)] (enters_of Tryd.func75 (by kernel_rfl) rfl) b o m c zs w (check1_fn bx N w hx) (by omega) (by unfold maxLen at hm; omega) (fun j hj => h2 j (by omega))).mono ?_
    rintro e w' ⟨rfl, q, rfl⟩
    rw [List.take_of_length_le (by omega), any_len h3]
    exact ⟨rfl, below_drewN' (Below.refl _ _) q⟩
set_option maxRecDepth 20000 in
set_option maxHeartbeats 1000000 in
theorem check_any (p : Option Addr) (om : Option Pts) (A : Option Addr) (m c : Nat) (l : List (List Int)) (w : World) (h : MapO w p om) (hl : ReadII w w.heap.size A m l) (hA : PlainA A) (hm : m ≤ maxLen) :
    Calls Tryd.prog 44 #[.pointer p, .slice A m c] w fun e w' => e = .returned (.int .i64 (chkN (lenO om) l)) ∧ Below w.heap.size w w' := by
  have hlen := lenP_any p om w h
  have hll := hl.1
  generalize lenO om = N at *
  have hb0 := (Below.refl _ w).alloc (Nat.le_refl _) (.cells #[.int .i64 (N : Int)] 3)
  have hbx := Blk.new w 3 #[.int .i64 (N : Int)]
  have hc0 := hbx.cell 0
  simp only [List.getElem?_toArray, List.getElem?_cons_zero] at hc0
  have hcf := hasLen_any A m c w.heap.size N l _ (hl.later hb0) hA hm hbx
  have HB0 := Lib.hid hb0; have HLL := Lib.hid hll
  clear h hl hA hb0 hbx hll
  by_cases h0 : N = 0
  · subst h0
    have e : chkN 0 l = 1 := by unfold chkN; rw [if_pos rfl]
    rw [e]
    clear hcf
    go_enter Tryd.func44, Tryd.ntmps44
    go_wp2_with fail
    refine hlen.mono ?_
    rintro e w' ⟨rfl, rfl⟩
    go_wp2
    go_ret
    exact ⟨rfl, HB0.out⟩
  · have h0I : ¬ (N : Int) = 0 := by omega
    have h0B : ((N : Int) == 0) = false := beq_false_of_ne h0I
    by_cases h1 : 256 < m
    · have e : chkN N l = 12 := by unfold chkN; rw [if_neg h0, if_pos (by rw [HLL.out]; exact h1)]
      rw [e]
      have h1I : (256 : Int) < (m : Int) := by omega
      clear hcf
      go_enter Tryd.func44, Tryd.ntmps44
      go_wp2_with fail
      refine hlen.mono ?_
      rintro e w' ⟨rfl, rfl⟩
      go_wp2
      go_ret
      exact ⟨rfl, HB0.out⟩
    · have h1I : ¬ (256 : Int) < (m : Int) := by omega
      cases ha : l.any fun vs => !(vs.length == N)
      · have e : chkN N l = 0 := by unfold chkN; rw [if_neg h0, if_neg (by rw [HLL.out]; exact h1), ha]; rfl
        rw [e]
        rw [ha] at hcf
        clear ha e
        go_enter Tryd.func44, Tryd.ntmps44
        go_wp2_with fail
        refine hlen.mono ?_
        rintro e w' ⟨rfl, rfl⟩
        go_wp2_with fail
        refine hcf.mono ?_
        rintro e w2 ⟨rfl, hb2⟩
        go_wp2
        go_ret
        exact ⟨rfl, HB0.out.trans (hb2.mono HB0.out.size)⟩
      · have e : chkN N l = 2 := by unfold chkN; rw [if_neg h0, if_neg (by rw [HLL.out]; exact h1), ha]; rfl
        rw [e]
        rw [ha] at hcf
        clear ha e
        go_enter Tryd.func44, Tryd.ntmps44
        go_wp2_with fail
        refine hlen.mono ?_
        rintro e w' ⟨rfl, rfl⟩
        go_wp2_with fail
        refine hcf.mono ?_
        rintro e w2 ⟨rfl, hb2⟩
        go_wp2
        go_ret
        exact ⟨rfl, HB0.out.trans (hb2.mono HB0.out.size)⟩
/-- No list among the first ones has another length. -/
theorem any_take_step {l : List (List Int)} {N j : Nat} (hj : j < l.length) (h : ((l.take j).any fun vs => !(vs.length == N)) = false) (hn : l[j].length = N) : ((l.take (j + 1)).any fun vs => !(vs.length == N)) = false := by
  rw [List.take_succ_eq_append_getElem hj, List.any_append, h, List.any_cons, hn]
  simp
set_option maxRecDepth 20000 in
set_option maxHeartbeats 1000000 in
theorem fits_any (p : Option Addr) (om : Option Pts) (A : Option Addr) (m c : Nat) (l : List (List Int)) (w : World) (h : RefO w p om) (hl : ReadII w w.heap.size A m l) (hm : m ≤ maxLen) :
    Calls Tryd.prog 47 #[.pointer p, .slice A m c] w fun e w' => e = .returned (.int .i64 (chkN (lenO om) l)) ∧ Below w.heap.size w w' := by
  have hlenA := fun W (hW : Below w.heap.size w W) => refLen_any p om W (h.below hW)
  have HLA := Lib.hid hlenA
  have hlen := refLen_any p om w h
  have hll := hl.1
  generalize lenO om = N at *
  have HL := Lib.hid hl
  clear h hl hlenA
  by_cases h0 : N = 0
  · have e : chkN N l = 1 := by unfold chkN; rw [if_pos h0]
    rw [e]
    have h0I : (N : Int) = 0 := by omega
    go_enter Tryd.func47, Tryd.ntmps47
    go_wp2_with fail
    refine hlen.mono ?_
    rintro e w' ⟨rfl, rfl⟩
    go_wp2
    go_ret
    exact ⟨rfl, Below.refl _ _⟩
  · have h0I : ¬ (N : Int) = 0 := by omega
    have h0B : ((N : Int) == 0) = false := beq_false_of_ne h0I
    by_cases h1 : 256 < m
    · have e : chkN N l = 12 := by unfold chkN; rw [if_neg h0, if_pos (by rw [hll]; exact h1)]
      rw [e]
      have h1I : (256 : Int) < (m : Int) := by omega
      go_enter Tryd.func47, Tryd.ntmps47
      go_wp2_with fail
      refine hlen.mono ?_
      rintro e w' ⟨rfl, rfl⟩
      go_wp2
      go_ret
      exact ⟨rfl, Below.refl _ _⟩
    · have h1I : ¬ (256 : Int) < (m : Int) := by omega
      have HE : Hid (∀ b, (l.any fun vs => !(vs.length == N)) = b → chkN N l = if b = true then 2 else 0) := Lib.hid (fun b hb => by unfold chkN; rw [if_neg h0, if_neg (by rw [hll]; exact h1), hb])
      have HLL := Lib.hid hll
      clear hll
      go_enter Tryd.func47, Tryd.ntmps47
      go_wp2_with fail
      refine hlen.mono ?_
      rintro e w' ⟨rfl, rfl⟩
      go_wp2
      go_loopw [5] (fun i wr => ∃ j : Nat, j ≤ m ∧ i = .int .i64 j ∧ Below w.heap.size w wr ∧ ((l.take j).any fun vs => !(vs.length == N)) = false) (fun i _ => m - (intOf i).toNat)
      case atStart => exact ⟨0, by omega, rfl, Below.refl _ _, rfl⟩
      case round =>
        obtain ⟨j, hj, rfl, hb, hf⟩ := hrel
        have HF := Lib.hid hf; have HB := Lib.hid hb
        have hlenD := HLA.out wr.drew hb.drew
        clear hf hb hlen
        by_cases hlt : j < m
        · have hjl : j < l.length := by rw [HLL.out]; exact hlt
          obtain ⟨ad, A', c', rfl, hcell, hlt2, hR, hc1, hc2⟩ := HL.out.2 j hjl
          have hltI : (j : Int) < (m : Int) := by omega
          replace hcell := (HB.out.cell hlt2).trans hcell
          by_cases hn : l[j].length = N
          · have HN := Lib.hid (any_take_step hjl HF.out hn)
            rw [hn] at hcell
            clear hR hn
            go_wp2
            go_region_with (first | (refine hlenD.mono ?_; rintro e w' ⟨rfl, rfl⟩))
            all_goals
              go_wp2
              go_roundw
              case rel => exact ⟨j + 1, by omega, by go_num, HB.out.drew, HN.out⟩
              case measure => simp [intOf]; omega
          · have hnB : ((l[j].length : Int) != (N : Int)) = true := by rw [bne, beq_false_of_ne (show (l[j].length : Int) ≠ N by omega)]; rfl
            have HA : Hid ((l.any fun vs => !(vs.length == N)) = true) := Lib.hid (List.any_eq_true.2 ⟨_, List.getElem_mem hjl, by simp [hn]⟩)
            generalize l[j].length = k at *
            clear hR
            go_wp2
            go_region_with (first | (refine hlenD.mono ?_; rintro e w' ⟨rfl, rfl⟩))
            all_goals
              go_wp2
              go_ret
              exact ⟨by rw [HE.out _ HA.out]; rfl, HB.out.drew⟩
        · obtain rfl : j = m := by omega
          have HA : Hid ((l.any fun vs => !(vs.length == N)) = false) := Lib.hid (by have := HF.out; rwa [List.take_of_length_le (by rw [HLL.out]; exact Nat.le_refl _)] at this)
          go_wp2
          go_ret
          exact ⟨by rw [HE.out _ HA.out]; rfl, HB.out⟩
end Go.Proofs.YtgimhjkijpcgjaaDoor
