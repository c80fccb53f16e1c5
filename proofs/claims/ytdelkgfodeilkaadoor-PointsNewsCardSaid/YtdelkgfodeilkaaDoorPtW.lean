/-
  layer 36: from of the program: the row of distances. Conditions: a map that New made; a point of it.
-/
import Derived.Test.YtdelkgfodeilkaaDoorPtK
import Derived.Test.YtdelkgfodeilkaaDoorPtH
import Derived.Deep.LoopGhost
namespace Go.Proofs.YtdelkgfodeilkaaDoor
open Go.RowKit Go.Lib

/-- What from hands back: the row of distances. -/
def RowPost (w : World) (M : Pts) (a : Nat) (e : Ending) (w' : World) : Prop :=
  ∃ q, e = .returned (.slice (some ⟨q, 0, none⟩) M.names.length M.names.length) ∧ w.heap.size ≤ q ∧ Blk w' q 2 (rowA M.names.length (distM M a)).toArray ∧ Below w.heap.size w w'
set_option maxRecDepth 20000 in
set_option maxHeartbeats 8000000 in
theorem from_any (g : Nat) (M : Pts) (a : Nat) (w : World) (hM : MapAt w g M) (hG : GoodM M) (ha : a < M.names.length) :
    Calls Tryd.prog 49 #[.pointer (some ⟨g, 0, none⟩), .int .i64 a] w (RowPost w M a) := by
  have hlen := lenP_any (some ⟨g, 0, none⟩) (some M) w ⟨g, rfl, hM⟩
  have hlenO : lenO (some M) = M.names.length := rfl
  rw [hlenO] at hlen; clear hlenO
  have hgl := hM.lt
  have hfew := hG.few
  have hdist : ∀ r, DistRow (edgeOf M) a r → ∀ x, r x = distM M a x := fun r hr x => (hG.eq hr x).symm
  have hlens := hG.lens
  have hends := fun u v l (he : edgeOf M u v l) => hG.ends u v l he
  obtain ⟨qE, cE, hcE, hqE, hrows⟩ := near_rows hM hG (by omega)
  have hbndC : ∀ (r : Nat → Int) (at_ : Nat) (cls op : List Nat) (seen : List (Nat × Int)), LoopC (edgeOf M) a at_ M.names.length r cls op seen → ∀ v, -1 ≤ r v ∧ r v ≤ 137438953472 := by
    intro r at_ cls op seen h v
    have hlow := h.st.low v
    by_cases h0 : 0 ≤ r v
    · have h1 := h.st.bound (C := 1073741824) (by decide) hlens ha (fun u v l he => (hends u v l he).1) h0
      have h3 : (M.names.length : Int) * 1073741824 ≤ 128 * 1073741824 := Int.mul_le_mul_of_nonneg_right (by omega) (by decide)
      omega
    · omega
  have hmk := fun W => run_make_row' (P := Tryd.prog) 63 2 (.int .i64 0) 8 Tryd.underlying63 (by kernel_rfl) rfl .i64 .i64 M.names.length (by omega) (by omega) W
  obtain ⟨i0, hi, hz0, hz1, hz2⟩ := info_parts (show (Tryd.prog.info? 3).map (fun i => (i.zero, i.size, i.bytes)) = some (some (.int .i64 0), 1, 8) by kernel_rfl)
  have HD := Lib.hid hdist; have HL := Lib.hid hlens; have HE := Lib.hid hends; have HR := Lib.hid hrows
  unfold RowPost
  clear hM hG hdist hlens hends hrows
  generalize edgeOf M = E at *
  generalize M.near = near at *
  generalize hdm : distM M a = dm at *
  generalize M.names.length = N at *
  have HBC := Lib.hid hbndC
  clear hbndC hdm
  have HS := Lib.hid (FromM.start w N)
  go_enter Tryd.func49, Tryd.ntmps49
  go_wp2_with fail
  refine hlen.mono ?_
  rintro e w' ⟨rfl, rfl⟩
  go_wp2
  go_loopw [18] (fun i wr => ∃ j : Nat, j ≤ N ∧ i = .int .i64 j ∧ FromM w wr (w.heap.size + 1) w.heap.size N (fillF j) [] (.slice none 0 0)) (fun i _ => N - (intOf i).toNat)
  case atStart => exact ⟨0, by omega, rfl, HS.out⟩
  case round =>
    obtain ⟨j, hj, rfl, hF⟩ := hrel
    have HF := Lib.hid hF
    have hcb := hF.box.cell 0
    simp only [List.getElem?_toArray, List.getElem?_cons_zero] at hcb
    clear hF HS
    by_cases hlt : j < N
    · have hcq := HF.out.cell hlt
      have hfz := HF.out.row.frozen j
      go_wp2
      go_roundw
      case rel => exact ⟨j + 1, by omega, by go_num, by rw [← fillF_step]; exact HF.out.dist hlt (-1)⟩
      case measure => simp [intOf]; omega
    · obtain rfl : j = N := by omega
      have hcq := HF.out.cell ha
      have hfz := HF.out.row.frozen a
      have haI : (a : Int) < (j : Int) := by omega
      have hF1 := (HF.out.dist ha 0).congr (r' := setF (fun _ => -1) a 0) (fun x hx => by unfold setF fillF; rw [if_pos hx])
      have hF2 := hF1.first ha
      have HF2 := Lib.hid hF2
      clear hF1 hF2
      go_wp2
      go_loopg [7] j (fun k v wr => ∃ (cls op : List Nat) (r : Nat → Int), k + cls.length = j ∧ FromM w wr (w.heap.size + 1) w.heap.size j r op v ∧ LoopO E a j r cls op)
      case atStart => exact ⟨[], [a], _, by simp, by simpa using HF2.out, LoopO.start (setF_same _ _ _) (fun v hv => setF_other hv)⟩
      case round =>
        clear hcb hcq hfz HF HF2
        obtain ⟨cls, op, r, hk, hF, hO⟩ := hrel
        have HF := Lib.hid hF; have HO := Lib.hid hO; have HK := Lib.hid hk
        have hcb := hF.box.cell 0
        simp only [List.getElem?_toArray, List.getElem?_cons_zero] at hcb
        obtain ⟨A, c, rfl, hc1, hc2⟩ := ownsRow_form hF.opn
        clear hF hO hk
        rcases Nat.eq_zero_or_pos op.length with h0 | h0
        · obtain rfl : op = [] := List.eq_nil_of_length_eq_zero h0
          have hrow := Lib.hid (HF.out.congr (fun x _ => HD.out r (by simpa using HO.out.st.done) x))
          go_wp2
          go_ret
          exact ⟨_, rfl, Nat.le_refl _, hrow.out.row, hrow.out.below⟩
        · have hjN : 0 < j := by omega
          haveI : Inhabited (Fin j) := ⟨⟨a, ha⟩⟩
          obtain ⟨ds, hds, hdl⟩ := fins HF.out.lt
          obtain ⟨o, c', hv, ho, holt⟩ := HF.out.opn.form h0
          injection hv with hv1 _ hv3
          subst hv1 hv3
          have hle := nodup_len j op HO.out.nd HF.out.lt
          have hbo : w.heap.size + 1 ≠ o := fun e => own_blk_ne HF.out.opn HF.out.box (by decide) (by simp [Value.ownBlock, e])
          have hqo : w.heap.size ≠ o := fun e => own_blk_ne HF.out.opn HF.out.row (by decide) (by simp [Value.ownBlock, e])
          have hmin := minOpen_any (c' := c) r wr HF.out.box _ HF.out.row (fun x hx => rowA_get r hx) hbo hqo ds (HF.out.holds rfl hds) holt (by omega) (by omega)
          have hpk := pickBy_min r ds (ds.size - 1) (by omega)
          obtain ⟨pk, hpke⟩ : ∃ pk, Lib.pickBy (fun x m => decide (Lib.compareInt (r x.val) (r m.val) < 0)) ds (ds.size - 1) = pk := ⟨_, rfl⟩
          rw [hpke] at hmin hpk
          obtain ⟨at_, hat⟩ : ∃ at_, pk.val = at_ := ⟨_, rfl⟩
          have hatN : at_ < j := by rw [← hat]; exact pk.isLt
          have henc : encP pk = .int .i64 (at_ : Int) := by unfold encP; rw [hat]
          rw [henc, hdl] at hmin
          have hatop : at_ ∈ op := by rw [← hds, ← hat]; exact List.mem_map.2 ⟨pk, hpk.1, rfl⟩
          have hatmin : ∀ v ∈ op, r at_ ≤ r v := by
            intro v hv
            rw [← hds] at hv
            obtain ⟨y, hy, rfl⟩ := List.mem_map.1 hv
            obtain ⟨jj, hjj, rfl⟩ := List.getElem_of_mem hy
            have hjs : jj < ds.size := by simpa using hjj
            have := hpk.2 jj (by omega)
            rw [getElem!_pos ds jj hjs, hat] at this
            simpa using this
          have HCL := Lib.hid (HO.out.close hatop hatmin)
          have hleft := HO.out.left hatop hatN
          have h0I : (0 : Int) < (op.length : Int) := by omega
          have HDS := Lib.hid hds; have HDL := Lib.hid hdl; have HLT := Lib.hid hleft
          clear hpk hpke hat henc hatmin hds hdl hleft
          go_wp2_with fail
          refine hmin.mono ?_
          rintro e w1 ⟨rfl, n1, os1, hw1⟩
          have hF1 := HF.out.turn rfl (n' := op.length) (k := n1) (os := os1) HDL.out (Nat.le_refl _)
          rw [← hw1, List.take_of_length_le (by rw [Array.length_toList, HDL.out]; exact Nat.le_refl _), HDS.out] at hF1
          have hsz1 : wr.heap.size ≤ w1.heap.size := by rw [hw1]; unfold sortWorld; simp [Go.Sort.grow, Go.Sort.putRow, Go.Sort.mapBlock, Go.Sort.ahead]
          have hpo : w1.heap.size ≠ o := by omega
          have hpb := Blk.new w1 3 #[.int .i64 (at_ : Int)]
          have hF2 := hF1.alloc (.cells #[.int .i64 (at_ : Int)] 3)
          have hdel := delOpen_any (c' := c) hjN _ hpb hpo ds (hF2.holds rfl HDS.out) (by rw [HDL.out]; omega) (by rw [HDL.out]; exact hc1)
          rw [HDL.out] at hdel
          have hfl : (ds.toList.filter fun x => !decide (x.val = at_)).length ≤ op.length := by rw [← HDL.out, ← Array.length_toList]; exact List.length_filter_le _ _
          have hmap : (ds.toList.filter fun x => !decide (x.val = at_)).map Fin.val = op.filter fun x => !(x == at_) := by
            rw [← HDS.out, List.filter_map]; congr 1
          have HFL := Lib.hid hfl; have HMAP := Lib.hid hmap; have HF2 := Lib.hid hF2; have HPB := Lib.hid hpb; have HPO := Lib.hid hpo
          generalize (ds.toList.filter fun x => !decide (x.val = at_)) = flt at *
          clear hfl hmap hF1 hF2 hpb hpo hw1 hmin
          go_wp2_with fail
          refine hdel.mono ?_
          rintro e w3 ⟨rfl, n2, hw3⟩
          have hs3 : w3 = sortWorld encP (w1.alloc (.cells #[.int .i64 (at_ : Int)] 3)) o 0 n2 (flt ++ List.replicate (op.length - flt.length) (⟨0, hjN⟩ : Fin j)).toArray #[] := by unfold sortWorld; rw [Go.Sort.grow_empty]; exact hw3
          have hF3 := HF2.out.turn rfl (n' := flt.length) (k := n2) (os := #[]) (ds := (flt ++ List.replicate (op.length - flt.length) (⟨0, hjN⟩ : Fin j)).toArray) (by have := HFL.out; simp; omega) HFL.out
          have hpb3 := (sortWorld_block encP (w1.alloc (.cells #[.int .i64 (at_ : Int)] 3)) o 0 n2 (flt ++ List.replicate (op.length - flt.length) (⟨0, hjN⟩ : Fin j)).toArray #[] HPB.out.lt HPO.out).trans HPB.out
          rw [← hs3] at hF3 hpb3
          replace hpb3 : Blk w3 w1.heap.size 3 #[.int .i64 (at_ : Int)] := hpb3
          rw [List.take_left, HMAP.out] at hF3
          have hne3 : (Value.slice (some ⟨o, 0, none⟩) flt.length c).ownBlock ≠ some w1.heap.size := by have := HPO.out; simp [Value.ownBlock]; omega
          clear hw3 hs3 hdel
          obtain ⟨u, L, hu, ⟨bs, hown⟩, _, hE, hL⟩ := HR.out at_ hatN
          obtain ⟨Au, cu, rfl, hcu1, hcu2⟩ := ownsRow_form hown
          have hcg3 := (hF3.below.cell (p := ⟨g, 3, none⟩) hgl).trans hcE
          have hcq3 := (hF3.below.cell (p := ⟨qE, at_, none⟩) hqE).trans hu
          have hca3 := hpb3.cell 0
          simp only [List.getElem?_toArray, List.getElem?_cons_zero] at hca3
          have hatI : (at_ : Int) < (j : Int) := by omega
          obtain ⟨m, hm⟩ : ∃ m, L.length = m := ⟨_, rfl⟩
          rw [hm] at hown hL hcu1 hcq3
          have HF3 := Lib.hid hF3; have HPB3 := Lib.hid hpb3; have HNE3 := Lib.hid hne3; have HEL := Lib.hid hE; have HM := Lib.hid hm; have HOWN := Lib.hid hown
          clear hF3 hpb3 hne3 hE hm hown hu
          go_wp2
          go_region
          go_wp2
          go_loopw [7, 48] (fun v i wq => ∃ (jj : Nat) (op2 : List Nat) (r2 : Nat → Int), jj ≤ m ∧ i = .int .i64 jj ∧ FromM w wq (w.heap.size + 1) w.heap.size j r2 op2 v ∧ LoopC E a at_ j r2 cls op2 (L.take jj) ∧ Blk wq w1.heap.size 3 #[.int .i64 (at_ : Int)] ∧ v.ownBlock ≠ some w1.heap.size) (fun _ i _ => m - (intOf i).toNat)
          case atStart => exact ⟨0, _, r, by omega, rfl, HF3.out.drew, HCL.out, HPB3.out.drew, HNE3.out⟩
          case round =>
            obtain ⟨jj, op2, r2, hjj, rfl, hF, hC, hpb, hne⟩ := hrel
            have hbnd := HBC.out r2 at_ cls op2 _ hC
            have hkn := hC.known
            obtain ⟨A2, c2, rfl, hc21, hc22⟩ := ownsRow_form hF.opn
            have HF := Lib.hid hF; have HC := Lib.hid hC; have HPB := Lib.hid hpb; have HNE := Lib.hid hne
            clear hF hC hpb hne HF3 HPB3 HNE3 HCL hcg3 hcq3 hca3 hcb
            by_cases hlt : jj < m
            · have hjl : jj < L.length := by rw [HM.out]; exact hlt
              obtain ⟨q', cq', hA, _, _, _, hq', hcell⟩ := own_pos2 (own_below HOWN.out HF.out.below) HM.out (by omega)
              simp only [Value.slice.injEq, true_and] at hA
              obtain ⟨rfl, rfl⟩ := hA
              obtain ⟨c0, c1⟩ := hcell jj hjl
              have htk := List.take_succ_eq_append_getElem hjl
              have hmem : L[jj] ∈ L := List.getElem_mem hjl
              have hjI : (jj : Int) < (m : Int) := by omega
              generalize L[jj] = x at c0 c1 htk hmem
              obtain ⟨xe, xl⟩ := x
              have hedge := (HEL.out xe xl).2 hmem
              obtain ⟨e1, e2, e3, e4⟩ := HE.out at_ xe xl hedge
              have hb1 := hbnd at_
              have hb2 := hbnd xe
              have hW := (HF.out.alloc (.cells #[.int .i64 (xe : Int), .int .i64 xl] 76)).drew
              have hxb := (Blk.new wr 76 #[.int .i64 (xe : Int), .int .i64 xl]).drew
              have hpbW := (HPB.out.alloc (.cells #[.int .i64 (xe : Int), .int .i64 xl] 76)).drew
              have hcbW := hW.box.cell 0
              have hx0 := hxb.cell 0
              have hx1 := hxb.cell 1
              have hpa := hpbW.cell 0
              simp only [List.getElem?_toArray, List.getElem?_cons_zero, List.getElem?_cons_succ] at hcbW hx0 hx1 hpa
              have hda := hW.cell hatN
              have hdx := hW.cell e1
              have hfz := hW.row.frozen xe
              have hxI : (xe : Int) < (j : Int) := by omega
              have HTK := Lib.hid htk; have HED := Lib.hid hedge; have HW := Lib.hid hW; have HXB := Lib.hid hxb; have HPBW := Lib.hid hpbW; have HNX := Lib.hid e2
              clear htk hmem hedge hW hxb hpbW hbnd hcell e2
              go_wp2
              go_region
              rcases Int.lt_or_le (r2 xe) 0 with hr0 | hr0
              · have hop := nodup_len j op2 HC.out.nd HF.out.lt
                have hrn := reads_new (wr.alloc (.cells #[.int .i64 (xe : Int), .int .i64 xl] 76)).drew 3 [.int .i64 (xe : Int)]
                rw [show (wr.alloc (.cells #[.int .i64 (xe : Int), .int .i64 xl] 76)).drew.heap.size = wr.heap.size + 1 from World.size_alloc _ _] at hrn
                have HRN := Lib.hid hrn
                clear hrn
                have hsz := HF.out.below.size
                have hxW := (HXB.out.alloc (.cells #[.int .i64 (xe : Int)] 3)).cell 0
                simp only [List.getElem?_toArray, List.getElem?_cons_zero] at hxW
                go_wp2_with (at_builtin; refine wpList_append_any _ rfl _ _ 36 rfl w.heap.size 3 i0 (.int .i64 0) 1 8 Tryd.underlying36 hi hz0 hz1 hz2 rfl (by decide) _ _ _ rfl (HW.out.opn.alloc _) _ _ _ _ [.int .i64 (xe : Int)] rfl HRN.out (by simp [Value.oneCell']) (by unfold maxLen; omega) (by omega) (by simp; omega) ?_; intro v' w4 hown' hgrow hx; have hF4 := (HW.out.alloc (.cells #[.int .i64 (xe : Int)] 3)).push e1 hgrow hown'; have hcb4 := hF4.box.cell 0; have hx4 := ((HXB.out.alloc (.cells #[.int .i64 (xe : Int)] 3)).grown hgrow (fun e => absurd (HF.out.opn.lt _ e.symm).2 (Nat.lt_irrefl _))); have hx40 := hx4.cell 0; have hx41 := hx4.cell 1; have hfz4 := hF4.row.frozen xe; have hcx4 := hF4.cell e1; simp only [List.getElem?_toArray, List.getElem?_cons_zero, List.getElem?_cons_succ] at hcb4 hx40 hx41; have HF4 := Lib.hid hF4; have HP4 := Lib.hid ((HPBW.out.alloc (.cells #[.int .i64 (xe : Int)] 3)).grown hgrow (fun e => HNE.out e.symm)); have HN4 := Lib.hid hx; clear hF4 hx4 hx hgrow hown')
                go_roundw
                case rel => exact ⟨jj + 1, op2 ++ [xe], _, by omega, by go_num, HF4.out.dist e1 _, by rw [HTK.out]; exact HC.out.take HL.out HED.out HNX.out hr0, HP4.out.far (p := ⟨w.heap.size, xe, none⟩) (Blk.ne_ HP4.out HF4.out.row (by decide)) _, by
                  have hpl := HPB.out.lt
                  rcases HN4.out with h | h
                  · rw [h]; exact HNE.out
                  · rw [h]; simp; omega⟩
                case measure => simp [intOf]; omega
              · by_cases hle : r2 xe ≤ r2 at_ + xl
                · go_wp2
                  go_roundw
                  case rel => exact ⟨jj + 1, op2, r2, by omega, by go_num, HW.out, by rw [HTK.out]; exact HC.out.skip hr0 hle, HPBW.out, HNE.out⟩
                  case measure => simp [intOf]; omega
                · go_wp2
                  go_roundw
                  case rel => exact ⟨jj + 1, op2, _, by omega, by go_num, HW.out.dist e1 _, by rw [HTK.out]; exact HC.out.less HL.out HED.out HNX.out hr0 (by omega), HPBW.out.far (p := ⟨w.heap.size, xe, none⟩) (Blk.ne_ HPBW.out HW.out.row (by decide)) _, HNE.out⟩
                  case measure => simp [intOf]; omega
            · obtain rfl : jj = m := by omega
              have hcl := HC.out
              rw [List.take_of_length_le (by rw [HM.out]; exact Nat.le_refl _)] at hcl
              have hco := hcl.closed (fun v l he => (HEL.out v l).1 he) hatN
              have HCO := Lib.hid hco
              clear hcl hco
              go_wp2
              go_roundg (gk - 1)
              case measure => have h1 := HK.out; have h2 := HLT.out; omega
              case rel => exact ⟨at_ :: cls, op2, r2, by have h1 := HK.out; have h2 := HLT.out; rw [HCO.out.2]; omega, HF.out, HCO.out.1⟩
end Go.Proofs.YtdelkgfodeilkaaDoor
