/-
  layer 36: Path of the program. Conditions: nil, or a map that New made (or the zero one).
-/
import Derived.Test.YtdelkgfodeilkaaDoorPtD
import Derived.Test.YtdelkgfodeilkaaDoorShelf4
import Derived.Test.YtdelkgfodeilkaaDoorPtN
namespace Go.Proofs.YtdelkgfodeilkaaDoor
open Go.RowKit Go.Lib

theorem FromM.of_row {w w1 : World} {q N : Nat} {r : Nat → Int} (hq : w.heap.size ≤ q) (h : Blk w1 q 2 (rowA N r).toArray) (hb : Below w.heap.size w w1) :
    FromM w (w1.alloc (.cells #[.slice (some ⟨q, 0, none⟩) N N] 63)) w1.heap.size q N r [] (.slice none 0 0) :=
  ⟨Blk.new w1 _ _, h.alloc _, World.ownsRow_nil _ _ _ _, fun x hx => (by cases hx), hb.alloc hb.size _, hb.size, hq⟩
theorem FromM.later {w wr w' : World} {b q N : Nat} {r : Nat → Int} {op : List Nat} {v : Value} (h : FromM w wr b q N r op v) (hb : Below wr.heap.size wr w') : FromM w w' b q N r op v :=
  ⟨h.box.below hb h.box.lt, h.row.below hb h.row.lt, own_below h.opn hb, h.lt, h.below.trans (hb.mono h.below.size), h.hb, h.hq⟩
/-- The ends that a map of N points can have. -/
abbrev EndN (N : Nat) := {e : Nat × Int // e.1 < N ∧ 1 ≤ e.2 ∧ e.2 ≤ 1073741824}
def encE {N : Nat} (x : EndN N) : List Value := [.int .i64 (x.1.1 : Int), .int .i64 x.1.2]
set_option maxRecDepth 20000 in
theorem path1_below {N b q b9 at_ : Nat} (r : Nat → Int) (w : World) (hb : Blk w b 63 #[.slice (some ⟨q, 0, none⟩) N N]) (hq : Blk w q 2 (rowA N r).toArray) (h9 : Blk w b9 3 #[.int .i64 (at_ : Int)]) (hat : at_ < N) (hr : ∀ x, -1 ≤ r x ∧ r x ≤ 137438953472) :
    PredBelow Tryd.prog 57 #[.pointer (some ⟨b, 0, none⟩), .pointer (some ⟨b9, 0, none⟩)] (fun x : EndN N => .agg (encE x).toArray) (fun x => r x.1.1 + x.1.2 == r at_) w := by
  rintro W ⟨⟨xe, xl⟩, h1, h2, h3⟩ hW
  show Calls Tryd.prog 57 #[.agg #[.int .i64 (xe : Int), .int .i64 xl], .pointer (some ⟨b, 0, none⟩), .pointer (some ⟨b9, 0, none⟩)] W fun e w' => e = .returned (.bool (r xe + xl == r at_)) ∧ Below w.heap.size w w'
  have kb := ((hb.below hW hb.lt).alloc (.cells #[.int .i64 (xe : Int), .int .i64 xl] 76)).cell 0
  have kq := (hq.below hW hq.lt).alloc (.cells #[.int .i64 (xe : Int), .int .i64 xl] 76)
  have k9 := ((h9.below hW h9.lt).alloc (.cells #[.int .i64 (xe : Int), .int .i64 xl] 76)).cell 0
  have kx := row_cell kq (x := xe) h1
  have ka := row_cell kq hat
  have k0 := (Blk.new W 76 #[.int .i64 (xe : Int), .int .i64 xl]).cell 0
  have k1 := (Blk.new W 76 #[.int .i64 (xe : Int), .int .i64 xl]).cell 1
  simp only [List.getElem?_toArray, List.getElem?_cons_zero, List.getElem?_cons_succ] at kb k9 k0 k1
  have b1 := hr xe
  have b2 := hr at_
  have h1I : (xe : Int) < (N : Int) := by simp only at h1; omega
  have h2I : (at_ : Int) < (N : Int) := by omega
  have hbl := hW.alloc hW.size (.cells #[.int .i64 (xe : Int), .int .i64 xl] 76)
  simp only at h2 h3
  have HBL := Lib.hid hbl
  clear hb hq h9 kq hr hat h1 hbl hW
  go_enter Tryd.func57, Tryd.ntmps57
  go_wp2
  go_region
  go_wp2
  go_ret
  exact ⟨rfl, HBL.out.drew⟩
theorem idxEnd_hit {N : Nat} [Inhabited (EndN N)] (r : Nat → Int) (w : World) {b q b9 at_ : Nat} (hb : Blk w b 63 #[.slice (some ⟨q, 0, none⟩) N N]) (hq : Blk w q 2 (rowA N r).toArray) (h9 : Blk w b9 3 #[.int .i64 (at_ : Int)]) (hat : at_ < N) (hr : ∀ x, -1 ≤ r x ∧ r x ≤ 137438953472)
    {q' cq m k : Nat} {L : List (Nat × Int)} (hL : ∀ e ∈ L, e.1 < N ∧ 1 ≤ e.2 ∧ e.2 ≤ 1073741824) (hm : L.length = m) (hm2 : m ≤ 100000) (hq' : q' < w.heap.size)
    (hc : ∀ k (hk : k < L.length), w.cell? ⟨q', k * 2, none⟩ = some (.int .i64 L[k].1) ∧ w.cell? ⟨q', k * 2 + 1, none⟩ = some (.int .i64 L[k].2)) (hk : k < L.length) (hit : r L[k].1 + L[k].2 = r at_) (hmiss : ∀ j (hj : j < k), ¬ r (L[j]'(by omega)).1 + (L[j]'(by omega)).2 = r at_) :
    Calls Tryd.prog 56 #[.slice (some ⟨q', 0, none⟩) m cq, .func (.func 57) #[] #[.pointer (some ⟨b, 0, none⟩), .pointer (some ⟨b9, 0, none⟩)]] w fun e w' => e = .returned (.int .i64 (k : Int)) ∧ Below w.heap.size w w' := by
  obtain ⟨zs, hzs⟩ : ∃ zs : List (EndN N), zs.map Subtype.val = L := ⟨L.pmap (fun e he => ⟨e, he⟩) hL, by rw [List.map_pmap]; simp⟩
  have hzl : zs.length = m := by rw [← hm, ← hzs, List.length_map]
  have hzk : ∀ j (hj : j < zs.length), (zs[j]!).1 = L[j]'(by rw [hm]; omega) := by
    intro j hj
    rw [getElem!_pos zs j hj]
    simp only [← hzs, List.getElem_map]
  have h := AnyQ.slices_IndexFunc Tryd.idxEnd 2 Tryd.isAgg76 Tryd.sizeOf76 (encE (N := N)) (fun _ => rfl) (fun x => r x.1.1 + x.1.2 == r at_) 57 #[.pointer (some ⟨b, 0, none⟩), .pointer (some ⟨b9, 0, none⟩)] (enters_of Tryd.func57 (by kernel_rfl) rfl) q' 0 m cq zs w
    (path1_below r w hb hq h9 hat hr) (by omega) (by omega) hq' (fun j hj i v hi => by
      have hjl : j < L.length := by omega
      have hc' := hc j hjl
      unfold encE at hi
      rw [hzk j hj] at hi
      rw [Nat.zero_add]
      match i, hi with
      | 0, hi => simp at hi; rw [← hi]; exact hc'.1
      | 1, hi => simp at hi; rw [← hi]; exact hc'.2
      | i + 2, hi => simp at hi)
  rw [Lib.idxBy_hit (fun _ y => r y.1.1 + y.1.2 == r at_) zs m k default (by omega) (by omega) (by
    rw [hzk k (by omega), beq_iff_eq]; exact hit) (fun j hj => by
    rw [hzk j (by omega), beq_eq_false_iff_ne]; exact hmiss j hj)] at h
  exact h
noncomputable def wayO : Option Pts → Int → Int → List Int
  | none, _, _ => []
  | some M, a, b => wayS M a b
theorem wayO_out {om : Option Pts} {a b : Int} (h : ¬ (inO om a ∧ inO om b)) : wayO om a b = [] := by
  cases om with
  | none => rfl
  | some M => show wayS M a b = _; unfold wayS; exact if_neg h
theorem wayO_in {M : Pts} {a b : Nat} (ha : a < M.names.length) (hb : b < M.names.length) : wayO (some M) a b = (wayL M a b).map (fun (x : Nat) => (x : Int)) := by
  show wayS M a b = _
  unfold wayS
  rw [if_pos ⟨⟨by omega, by show (a : Int) < (M.names.length : Int); omega⟩, ⟨by omega, by show (b : Int) < (M.names.length : Int); omega⟩⟩, Int.toNat_natCast, Int.toNat_natCast]
theorem size_setCell_ (w : World) (p : Addr) (u : Value) : (w.setCell p u).heap.size = w.heap.size := by simp [World.setCell]
theorem nats_eq (l : List Nat) : nats l = (l.map (fun (x : Nat) => (x : Int))).map (Value.int .i64) := by unfold nats; rw [List.map_map]; rfl
set_option maxRecDepth 20000 in
set_option maxHeartbeats 8000000 in
theorem path_in (g : Nat) (M : Pts) (a b : Nat) (w : World) (hM : MapAt w g M) (hG : GoodM M) (ha : a < M.names.length) (hb : b < M.names.length) :
    Calls Tryd.prog 24 #[.pointer (some ⟨g, 0, none⟩), .int .i64 a, .int .i64 b] w (GivesI w (wayO (some M) a b)) := by
  have hh1 := hasP_yes (w := w) (om := some M) ⟨g, rfl, hM⟩ (a := (a : Int)) ⟨by omega, by show (a : Int) < (M.names.length : Int); omega⟩
  have hh2 := hasP_yes (w := w) (om := some M) ⟨g, rfl, hM⟩ (a := (b : Int)) ⟨by omega, by show (b : Int) < (M.names.length : Int); omega⟩
  have hf := from_any g M b w hM hG hb
  rw [wayO_in ha hb]
  unfold wayL GivesI
  unfold RowPost at hf
  have hgl := hM.lt
  obtain ⟨qE, cE, hcE, hqE, hrows⟩ := near_rows hM hG (by omega)
  have hbnd : ∀ x, -1 ≤ distM M b x ∧ distM M b x ≤ 137438953472 := fun x => ⟨hG.low b x, hG.bound hb⟩
  obtain ⟨nr, hnrd⟩ : ∃ nr : Nat → List (Nat × Int), ∀ k, M.near.getD k [] = nr k := ⟨_, fun _ => rfl⟩
  have hstep : ∀ at_, 0 ≤ distM M b at_ → at_ ≠ b → at_ < M.names.length → ∃ e k, ∃ hk : k < (nr at_).length, (nr at_)[k] = e ∧ distM M b (nr at_)[k].1 + (nr at_)[k].2 = distM M b at_ ∧ (∀ j (hj : j < k), ¬ distM M b ((nr at_)[j]'(by omega)).1 + ((nr at_)[j]'(by omega)).2 = distM M b at_) ∧
      0 ≤ distM M b e.1 ∧ e.1 < M.names.length ∧ distM M b e.1 < distM M b at_ ∧ wayF M b (distM M b at_).toNat at_ = at_ :: wayF M b (distM M b e.1).toNat e.1 := by
    intro at_ h0 hne hlt
    have hlt' : at_ < M.near.length := by rw [hG.len]; exact hlt
    obtain ⟨e, k, hk, hs, hx, hmiss, he, hx0, hxe, hxn, hl⟩ := step_some hG h0 hne hlt'
    have hg : nr at_ = M.near[at_] := by rw [← hnrd, List.getD_eq_getElem?_getD, List.getElem?_eq_getElem hlt']; rfl
    simp only [hg]
    exact ⟨e, k, hk, hx, by rw [hx]; exact hxe, hmiss, hx0, hxn, hl, wayF_step hG h0 hne hlt' hs⟩
  have hend := fun at_ => wayF_here M b at_
  have hedge : ∀ k, k < M.names.length → ∀ e ∈ nr k, e.1 < M.names.length ∧ 1 ≤ e.2 ∧ e.2 ≤ 1073741824 := by
    intro k hk e he
    have hk' : k < M.near.length := by rw [hG.len]; exact hk
    have hg : nr k = M.near[k] := by rw [← hnrd, List.getD_eq_getElem?_getD, List.getElem?_eq_getElem hk']; rfl
    rw [hg] at he
    have := hG.ends k e.1 e.2 ⟨hk', he⟩
    omega
  have hself := hG.self b
  have hzero : ∀ v, v < M.names.length → distM M b v ≤ 0 → 0 ≤ distM M b v → v = b := fun v _ h1 h0 => hG.zero (by omega)
  have hnr : ∀ k, k < M.names.length → ∃ u, w.cell? ⟨qE, k, none⟩ = some u ∧ (∃ base, w.ownsRow base 76 2 u (nr k).length ((nr k).flatMap endV)) ∧ (nr k).length ≤ 100000 := by
    intro k hk
    obtain ⟨u, row, h1, h2, hr, _, h3⟩ := hrows k hk
    rw [hnrd] at hr
    subst hr
    exact ⟨u, h1, h2, h3⟩
  have hwl : ∀ k at_, at_ < M.names.length → (wayF M b k at_).length ≤ k + 1 := by
    intro k
    induction k with
    | zero => intro at_ _; simp [wayF]
    | succ k ih =>
      intro at_ hat
      unfold wayF
      split
      · simp
      · split
        · rename_i e he
          rw [List.length_cons]
          have : e.1 < M.names.length := by
            unfold stepM at he
            rw [hnrd] at he
            exact (hedge at_ hat e (List.mem_of_find?_eq_some he)).1
          have := ih e.1 this
          omega
        · simp
  obtain ⟨i0, hi, hz0, hz1, hz2⟩ := info_parts (show (Tryd.prog.info? 3).map (fun i => (i.zero, i.size, i.bytes)) = some (some (.int .i64 0), 1, 8) by kernel_rfl)
  have HST := Lib.hid hstep; have HEN := Lib.hid hend; have HED := Lib.hid hedge; have HZ := Lib.hid hzero; have HNR := Lib.hid hnr; have hwl0 := hwl; have HB := Lib.hid hbnd
  have hba := hbnd a
  have hbb := hbnd b
  clear hrows hM hG hend hstep hedge hzero hnr hwl hbnd hnrd
  generalize wayF M b = way at *
  generalize distM M b = r at *
  generalize M.names.length = N at *
  obtain ⟨full, hfull⟩ : ∃ full, (if 0 ≤ r a then way (r a).toNat a else []) = full := ⟨_, rfl⟩
  rw [hfull]
  have hfl : full.length ≤ 137438953473 := by
    rw [← hfull]
    split
    · have := hwl0 (r a).toNat a ha
      omega
    · simp
  have HFU := Lib.hid hfull
  clear hfull hwl0
  have haI : (a : Int) < (N : Int) := by omega
  have hbI : (b : Int) < (N : Int) := by omega
  go_enter Tryd.func24, Tryd.ntmps24
  go_wp2_with fail
  refine hh1.mono ?_
  rintro e w' ⟨rfl, rfl⟩
  go_wp2_with fail
  refine hh2.mono ?_
  rintro e w' ⟨rfl, rfl⟩
  go_wp2_with fail
  refine hf.mono ?_
  rintro e w1 ⟨q, rfl, hq, hrow, hb1⟩
  have hF := FromM.of_row hq hrow hb1
  have hcx := hF.cell ha
  have hcb := hF.box.cell 0
  simp only [List.getElem?_toArray, List.getElem?_cons_zero] at hcb
  have HF := Lib.hid hF
  clear hF hrow
  by_cases h0 : 0 ≤ r a
  · have hF1 := HF.out.first ha
    have hF2 := hF1.alloc (.cells #[.int .i64 (a : Int)] 3)
    have hp9 := Blk.new ((w1.alloc (.cells #[.slice (some ⟨q, 0, none⟩) N N] 63)).alloc (.cells #[.int .i64 (a : Int)] 3)) 3 #[.int .i64 (a : Int)]
    have HF2 := Lib.hid hF2; have HP9 := Lib.hid hp9
    clear hF1 hF2 hp9
    go_wp2
    go_loopg [8, 9] (r a).toNat (fun k v p9 wr => ∃ (pre : List Nat) (at_ b9 : Nat), p9 = .pointer (some ⟨b9, 0, none⟩) ∧ FromM w wr w1.heap.size q N r (pre ++ [at_]) v ∧ Blk wr b9 3 #[.int .i64 (at_ : Int)] ∧ v.ownBlock ≠ some b9 ∧ w.heap.size ≤ b9 ∧ 0 ≤ r at_ ∧ r at_ ≤ k ∧ pre ++ way (r at_).toNat at_ = full)
    case atStart => exact ⟨[], a, _, rfl, by simpa using HF2.out, by simpa using HP9.out, by simp [Value.ownBlock], by have := HF.out.below.size; simp at this; simp; omega, h0, by omega, by rw [← HFU.out, if_pos h0]; rfl⟩
    case round =>
      obtain ⟨pre, at_, b9, rfl, hF, h9, hne, hb9, hat0, hatk, hfu⟩ := hrel
      have hatN := hF.lt at_ (by simp)
      have hcb2 := hF.box.cell 0
      have hc9 := h9.cell 0
      simp only [List.getElem?_toArray, List.getElem?_cons_zero] at hcb2 hc9
      have hpl : (pre ++ [at_]).length ≤ 137438953474 := by
        have hfl2 := hfl
        rw [← hfu] at hfl2
        rw [List.length_append] at hfl2 ⊢
        rw [List.length_singleton]; omega
      obtain ⟨n, hn⟩ : ∃ n, (pre ++ [at_]).length = n := ⟨_, rfl⟩
      obtain ⟨A, c, rfl, hc1, hc2⟩ := ownsRow_form hF.opn
      rw [hn] at hF hne hpl hc1 ⊢
      have HN := Lib.hid hn
      clear hn
      have HF3 := Lib.hid hF; have H9 := Lib.hid h9; have HNE := Lib.hid hne; have HFU2 := Lib.hid hfu
      clear hF h9 hne hfu HF HF2 HP9 hcx hcb HFU
      by_cases he : at_ = b
      · go_wp2
        go_ret
        have hfn : full = pre ++ [at_] := by rw [← HFU2.out, he, HEN.out]
        subst hfn
        exact ⟨_, rfl, by rw [List.length_map, ← nats_eq, HN.out]; have := HF3.out.opn; rwa [HN.out] at this, HF3.out.below⟩
      · have heI : ¬ (at_ : Int) = (b : Int) := by omega
        obtain ⟨e, k, hk, hx, hhit, hmiss, hx0, hxn, hlt, hway⟩ := HST.out at_ hat0 he hatN
        obtain ⟨u, hu, ⟨bs, hown⟩, hL⟩ := HNR.out at_ hatN
        obtain ⟨m, hm⟩ : ∃ m, (nr at_).length = m := ⟨_, rfl⟩
        rw [hm] at hown hL
        obtain ⟨q', cq', rfl, _, _, _, hq', hcell⟩ := own_pos2 (own_below hown HF3.out.below) hm (by omega)
        haveI : Inhabited (EndN N) := ⟨⟨(a, 1), ha, Int.le_refl 1, by show (1 : Int) ≤ 1073741824; decide⟩⟩
        have hcon := idxEnd_hit r wr.drew (cq := cq') HF3.out.drew.box HF3.out.drew.row H9.out.drew hatN HB.out (HED.out at_ hatN) hm hL hq' hcell hk hhit hmiss
        have hcg3 := (HF3.out.below.cell (p := ⟨g, 3, none⟩) hgl).trans hcE
        have hcq3 := (HF3.out.below.cell (p := ⟨qE, at_, none⟩) hqE).trans hu
        have hatI : (at_ : Int) < (N : Int) := by omega
        have hkm : (k : Int) < (m : Int) := by omega
        have HCE := Lib.hid hcell; have HWAY := Lib.hid hway; have HX := Lib.hid hx; have HOWN := Lib.hid hown; have HM := Lib.hid hm
        clear hhit hmiss hcell hway hown hu hm
        go_wp2
        refine region_tail 8 (by kernel_rfl) (by kernel_rfl) ?_
        simp only [List.take_succ_cons, List.take_zero, List.drop_succ_cons, List.drop_zero]
        still_step
        still_step
        still_step
        still_step
        still_step
        still_step
        still_step
        still_step
        refine wpStill_nil ?_
        go_wp2_with fail
        refine hcon.mono ?_
        rintro e2 w2 ⟨rfl, hb2⟩
        have hF4 := HF3.out.drew.later hb2
        have h94 := H9.out.drew.below hb2 H9.out.lt
        have hcg4 := (hF4.below.cell (p := ⟨g, 3, none⟩) hgl).trans hcE
        have hcq4 := (hb2.cell (p := ⟨qE, at_, none⟩) (by have := HF3.out.below.size; show qE < wr.heap.size; omega)).trans hcq3
        have hce4 := (hb2.cell (p := ⟨q', k * 2, none⟩) hq').trans (HCE.out k hk).1
        rw [HX.out] at hce4
        have hc94 := h94.cell 0
        simp only [List.getElem?_toArray, List.getElem?_cons_zero] at hc94
        have HF4 := Lib.hid hF4; have H94 := Lib.hid h94
        have hfz := h94.frozen 0
        clear hF4 h94 hcon
        go_wp2
        go_region
        have hF5 := (HF4.out.far hb9 (Blk.ne_ HF4.out.box H94.out (by decide)) (Blk.ne_ HF4.out.row H94.out (by decide)) HNE.out 0 (.int .i64 (e.1 : Int)))
        have h95 := (H94.out.set_ 0 (.int .i64 (e.1 : Int)))
        simp only [List.setIfInBounds_toArray, List.set_cons_zero] at h95
        have hc95 := h95.cell 0
        simp only [List.getElem?_toArray, List.getElem?_cons_zero] at hc95
        have hopn := hF5.opn
        rw [HN.out] at hopn
        have hF6 := hF5.alloc (.cells #[.int .i64 (e.1 : Int)] 3)
        have h96 := Blk.new (w2.setCell ⟨b9, 0, none⟩ (.int .i64 (e.1 : Int))) 3 #[.int .i64 (e.1 : Int)]
        have hrn := reads_new ((w2.setCell ⟨b9, 0, none⟩ (.int .i64 (e.1 : Int))).alloc (.cells #[.int .i64 (e.1 : Int)] 3)) 3 [.int .i64 (e.1 : Int)]
        have hszx : ((w2.setCell ⟨b9, 0, none⟩ (.int .i64 (e.1 : Int))).alloc (.cells #[.int .i64 (e.1 : Int)] 3)).heap.size = w2.heap.size + 1 := by rw [World.size_alloc]; exact congrArg (· + 1) (size_setCell_ _ _ _)
        have hszy : (w2.setCell ⟨b9, 0, none⟩ (.int .i64 (e.1 : Int))).heap.size = w2.heap.size := size_setCell_ _ _ _
        rw [hszx] at hrn
        rw [hszy] at h96
        have hsz4 := HF4.out.below.size
        have HRN := Lib.hid hrn; have HF6 := Lib.hid hF6; have H96 := Lib.hid h96; have HOPN := Lib.hid hopn
        have hal : ∀ g, (Value.slice A n c).ownBlock = some g → g < w2.heap.size := fun g hg => (HF4.out.opn.lt g hg).2
        have HAL := Lib.hid hal
        clear hF5 h95 hrn hF6 h96 hopn hal
        go_wp2_with (at_builtin; refine wpList_append_any _ rfl _ _ 36 rfl w.heap.size 3 i0 (.int .i64 0) 1 8 Tryd.underlying36 hi hz0 hz1 hz2 rfl (by decide) _ _ _ rfl ((HOPN.out.alloc _).alloc _) _ _ _ _ [.int .i64 (e.1 : Int)] rfl (Reads.drew HRN.out) (by simp [Value.oneCell']) (by unfold maxLen; omega) (by omega) (by simp [hszy]; omega) ?_; intro v' w7 hown' hgrow hx7; have HG7 := Lib.hid hgrow; have HO7 := Lib.hid hown'; have HX7 := Lib.hid hx7; clear hgrow hown' hx7)
        go_roundg (gk - 1)
        case measure => omega
        case rel =>
          refine ⟨pre ++ [at_], e.1, w2.heap.size, rfl, ((HF6.out.alloc (.cells #[.int .i64 (e.1 : Int)] 3)).drew).push hxn HG7.out (by rw [HN.out]; exact HO7.out), ((H96.out.alloc (.cells #[.int .i64 (e.1 : Int)] 3)).drew).grown HG7.out (fun h => ?_), ?_, hsz4, hx0, by omega, ?_⟩
          · have := HAL.out _ h.symm; omega
          · rcases HX7.out with h | h
            · intro h'
              have := HAL.out _ (h.symm.trans h'); omega
            · rw [h]
              have h2 : (((w2.setCell ⟨b9, 0, none⟩ (.int .i64 (e.1 : Int))).alloc (.cells #[.int .i64 (e.1 : Int)] 3)).alloc (.cells #[.int .i64 (e.1 : Int)] 3)).drew.heap.size = w2.heap.size + 1 + 1 := by
                show (((w2.setCell ⟨b9, 0, none⟩ (.int .i64 (e.1 : Int))).alloc (.cells #[.int .i64 (e.1 : Int)] 3)).alloc (.cells #[.int .i64 (e.1 : Int)] 3)).heap.size = _
                rw [World.size_alloc, hszx]
              rw [h2]
              intro h'; injection h' with h'; omega
          · rw [← HFU2.out, HWAY.out, List.append_assoc]; rfl
  · go_wp2
    go_ret
    have hfn : full = [] := by rw [← HFU.out, if_neg (by omega)]
    subst hfn
    exact ⟨_, rfl, World.ownsRow_nil _ _ _ _, HF.out.below⟩
set_option maxRecDepth 20000 in
theorem pathP_any (p : Option Addr) (om : Option Pts) (a b : Int) (w : World) (h : MapO w p om) (hG : GoodO om) :
    Calls Tryd.prog 24 #[.pointer p, .int .i64 a, .int .i64 b] w (GivesI w (wayO om a b)) := by
  by_cases ha : inO om a
  · by_cases hb : inO om b
    · obtain ⟨g, M, k, rfl, rfl, hM, hGM, rfl, hk⟩ := inO_open h hG ha
      obtain ⟨j, rfl⟩ : ∃ j : Nat, b = j := ⟨b.toNat, by have := hb.1; omega⟩
      have hj : j < M.names.length := by have := hb.2; have : (j : Int) < (M.names.length : Int) := this; omega
      exact path_in g M k j w hM hGM hk hj
    · have h1 := hasP_yes h ha
      have h2 := hasP_no h hb
      rw [wayO_out (fun h => hb h.2)]
      clear ha hb h hG
      go_enter Tryd.func24, Tryd.ntmps24
      go_wp2_with fail
      refine h1.mono ?_
      rintro e w' ⟨rfl, rfl⟩
      go_wp2_with fail
      refine h2.mono ?_
      rintro e w' ⟨rfl, rfl⟩
      go_wp2
      go_ret
      exact ⟨_, rfl, World.ownsRow_nil _ _ _ _, Below.refl _ _⟩
  · have h1 := hasP_no h ha
    rw [wayO_out (fun h => ha h.1)]
    clear ha h hG
    go_enter Tryd.func24, Tryd.ntmps24
    go_wp2_with fail
    refine h1.mono ?_
    rintro e w' ⟨rfl, rfl⟩
    go_wp2
    go_ret
    exact ⟨_, rfl, World.ownsRow_nil _ _ _ _, Below.refl _ _⟩
end Go.Proofs.YtdelkgfodeilkaaDoor
