/-
  layer 36: from of the program: the row of distances. Conditions: a map that New made; a point of it.
-/
import Derived.Test.YtgimhjkijpcgjaaDoorGae
import Derived.Deep.LoopGhost
import Derived.Test.YtgimhjkijpcgjaaDoorGad
namespace Go.Proofs.YtgimhjkijpcgjaaDoor
open Go.RowKit Go.Lib

/-- What from hands back: the row of distances. -/
def RowPost (w : World) (M : Pts) (a : Nat) (e : Ending) (w' : World) : Prop :=
  ∃ q, e = .returned (.slice (some ⟨q, 0, none⟩) M.names.length M.names.length) ∧ w.heap.size ≤ q ∧ Blk w' q 2 (rowA M.names.length (distM M a)).toArray ∧ Below w.heap.size w w'
set_option maxRecDepth 20000 in
set_option maxHeartbeats 8000000 in
theorem from_any (g : Nat) (M : Pts) (a : Nat) (w : World) (hM : MapAt w g M) (hG : GoodM M) (ha : a < M.names.length) :
    Calls Tryd.prog 70 #[.pointer (some ⟨g, 0, none⟩), .int .i64 a] w (RowPost w M a) := by
  have hlen := lenP_any (some ⟨g, 0, none⟩) (some M) w ⟨g, rfl, hM⟩
  have hlenO : lenO (some M) = M.names.length := rfl
  rw [hlenO] at hlen; clear hlenO
  have hgl := hM.lt
  have hfew := hG.few
  have hdist : ∀ r, DistRow (edgeOf M) a r → ∀ x, r x = distM M a x := fun r hr x => (hG.eq hr x).symm
  have hlens := hG.lens
  have hends := fun u v l (he : edgeOf M u v l) => hG.ends u v l he
  obtain ⟨qE, cE, hcE, hqE, hrows⟩ := near_rows hM hG (by omega)
  have hbndC : ∀ (r : Nat → Int) (at_ : Nat) (cls op : List Nat) (seen : List (Nat × Int)), LoopC (edgeOf M) a at_ M.names.length r cls op seen → ∀ v, -1 ≤ r v ∧ r v ≤ 137438953472 := by
    intro r at_ cls op seen h v
    have hlow := h.st.low v
    by_cases h0 : 0 ≤ r v
    · have h1 := h.st.bound (C := 1073741824) (by decide) hlens ha (fun u v l he => (hends u v l he).1) h0
      have h3 : (M.names.length : Int) * 1073741824 ≤ 128 * 1073741824 := Int.mul_le_mul_of_nonneg_right (by omega) (by decide)
      omega
    · omega
  have hmk := fun W => run_make_row' (P := Tryd.prog) 113 2 (.int .i64 0) 8 Tryd.underlying113 (by kernel_rfl) rfl .i64 .i64 M.names.length (by omega) (by omega) W
  obtain ⟨i0, hi, hz0, hz1, hz2⟩ := info_parts (show (Tryd.prog.info? 3).map (fun i => (i.zero, i.size, i.bytes)) = some (some (.int .i64 0), 1, 8) by kernel_rfl)
  have HD := Lib.hid hdist; have HL := Lib.hid hlens; have HE := Lib.hid hends; have HR := Lib.hid hrows
  unfold RowPost
  clear hM hG hdist hlens hends hrows
  generalize edgeOf M = E at *
  generalize M.near = near at *
  generalize hdm : distM M a = dm at *
  generalize M.names.length = N at *
  have HBC := Lib.hid hbndC
  clear hbndC hdm
  have HS := Lib.hid (FromM.start w N)
  go_enter Tryd.func70, Tryd.ntmps70
  go_wp2_with fail
  refine hlen.mono ?_
  rintro e w' ⟨rfl, rfl⟩
  go_wp2
  go_loopw [18] (fun i wr => ∃ j : Nat, j ≤ N ∧ i = .int .i64 j ∧ FromM w wr (w.heap.size + 1) w.heap.size N (fillF j) [] (.slice none 0 0)) (fun i _ => N - (intOf i).toNat)
  case atStart => exact ⟨0, by omega, rfl, HS.out⟩
  case round =>
    obtain ⟨j, hj, rfl, hF⟩ := hrel
    have HF := Lib.hid hF
    have hcb := hF.box.cell 0
    simp only [List.getElem?_toArray, List.getElem?_cons_zero] at hcb
    clear hF HS
    by_cases hlt : j < N
    · have hcq := HF.out.cell hlt
      have hfz := HF.out.row.frozen j
      go_wp2
      go_roundw
      case rel => exact ⟨j + 1, by omega, by go_num, by rw [← fillF_step]; exact HF.out.dist hlt (-1)⟩
      case measure => simp [intOf]; omega
    · obtain rfl : j = N := by omega
      have hcq := HF.out.cell ha
      have hfz := HF.out.row.frozen a
      have haI : (a : Int) < (j : Int) := by omega
      have hF1 := (HF.out.dist ha 0).congr (r' := setF (fun _ => -1) a 0) (fun x hx => by unfold setF fillF; rw [if_pos hx])
      have hF2 := hF1.first ha
      have HF2 := Lib.hid hF2
      clear hF1 hF2
      go_wp2
      go_loopg [7] j (fun k v wr => ∃ (cls op : List Nat) (r : Nat → Int), k + cls.length = j ∧ FromM w wr (w.heap.size + 1) w.heap.size j r op v ∧ LoopO E a j r cls op)
      case atStart => exact ⟨[], [a], _, by simp, by simpa using HF2.out, LoopO.start (setF_same _ _ _) (fun v hv => setF_other hv)⟩
      case round =>
        clear hcb hcq hfz HF HF2
        obtain ⟨cls, op, r, hk, hF, hO⟩ := hrel
        have HF := Lib.hid hF; have HO := Lib.hid hO; have HK := Lib.hid hk
        have hcb := hF.box.cell 0
        simp only [List.getElem?_toArray, List.getElem?_cons_zero] at hcb
        obtain ⟨A, c, rfl, hc1, hc2⟩ := ownsRow_form hF.opn
        clear hF hO hk
        rcases Nat.eq_zero_or_pos op.length with h0 | h0
        · obtain rfl : op = [] := List.eq_nil_of_length_eq_zero h0
          have hrow := Lib.hid (HF.out.congr (fun x _ => HD.out r (by simpa using HO.out.st.done) x))
          go_wp2
          go_ret
          exact ⟨_, rfl, Nat.le_refl _, hrow.out.row, hrow.out.below⟩
        · have hjN : 0 < j := by omega
          haveI : Inhabited (Fin j) := ⟨⟨a, ha⟩⟩
          obtain ⟨ds, hds, hdl⟩ := fins HF.out.lt
          obtain ⟨o, c', hv, ho, holt⟩ := HF.out.opn.form h0
          injection hv with hv1 _ hv3
          subst hv1 hv3
          have hle := nodup_len j op HO.out.nd HF.out.lt
          have hbo : w.heap.size + 1 ≠ o := fun e => own_blk_ne HF.out.opn HF.out.box (by decide) (by simp [Value.ownBlock, e])
          have hqo : w.heap.size ≠ o := fun e => own_blk_ne HF.out.opn HF.out.row (by decide) (by simp [Value.ownBlock, e])
          have hmin := minOpen_any (c' := c) r wr HF.out.box _ HF.out.row (fun x hx => rowA_get r hx) hbo hqo ds (HF.out.holds rfl hds) holt (by omega) (by omega)
          have hpk := pickBy_min r ds (ds.size - 1) (by omega)
          obtain ⟨pk, hpke⟩ : ∃ pk, Lib.pickBy (fun x m => decide (Lib.compareInt (r x.val) (r m.val) < 0)) ds (ds.size - 1) = pk := ⟨_, rfl⟩
          rw [hpke] at hmin hpk
          obtain ⟨at_, hat⟩ : ∃ at_, pk.val = at_ := ⟨_, rfl⟩
          have hatN : at_ < j := by rw [← hat]; exact pk.isLt
          have henc : encP pk = .int .i64 (at_ : Int) := by unfold encP; rw [hat]
          rw [henc, hdl] at hmin
          have hatop : at_ ∈ op := by rw [← hds, ← hat]; exact List.mem_map.2 ⟨pk, hpk.1, rfl⟩
          have hatmin : ∀ v ∈ op, r at_ ≤ r v := by
            intro v hv
            rw [← hds] at hv
            obtain ⟨y, hy, rfl⟩ := List.mem_map.1 hv
            obtain ⟨jj, hjj, rfl⟩ := List.getElem_of_mem hy
            have hjs : jj < ds.size := by simpa using hjj
            have := hpk.2 jj (by omega)
            rw [getElem!_pos ds jj hjs, hat] at this
            simpa using this
          have HCL := Lib.hid (HO.out.close hatop hatmin)
          have hleft := HO.out.left hatop hatN
          have h0I : (0 : Int) < (op.length : Int) := by omega
          have HDS := Lib.hid hds; have HDL := Lib.hid hdl; have HLT := Lib.hid hleft
          clear hpk hpke hat henc hatmin hds hdl hleft
          go_wp2_with fail
          refine hmin.mono ?_
          rintro e w1 ⟨rfl, n1, os1, hw1⟩
          have hF1 := HF.out.turn rfl (n' := op.length) (k := n1) (os := os1) HDL.out (Nat.le_refl _)
          rw [← hw1, List.take_of_length_le (by rw [Array.length_toList, HDL.out]; exact Nat.le_refl _), HDS.out] at hF1
          have hsz1 : wr.heap.size ≤ w1.heap.size := by rw [hw1]; unfold sortWorld; simp [Go.Sort.grow, Go.Sort.putRow, Go.Sort.mapBlock, Go.Sort.ahead]
          have hpo : w1.heap.size ≠ o := by omega
          have hpb := Blk.new w1 3 #[.int .i64 (at_ : Int)]
          have hF2 := hF1.alloc (.cells #[.int .i64 (at_ : Int)] 3)
          have hdel := delOpen_any (c' := c) hjN _ hpb hpo ds (hF2.holds rfl HDS.out) (by rw [HDL.out]; omega) (by rw [HDL.out]; exact hc1)
          rw [HDL.out] at hdel
          have hfl : (ds.toList.filter fun x => !decide (x.val = at_)).length ≤ op.length := by rw [← HDL.out, ← Array.length_toList]; exact List.length_filter_le _ _
          have hmap : (ds.toList.filter fun x => !decide (x.val = at_)).map Fin.val = op.filter fun x => !(x == at_) := by
            rw [← HDS.out, List.filter_map]; congr 1
          have HFL := Lib.hid hfl; have HMAP := Lib.hid hmap; have HF2 := Lib.hid hF2; have HPB := Lib.hid hpb; have HPO := Lib.hid hpo
          generalize (ds.toList.filter fun x => !decide (x.val = at_)) = flt at *
          clear hfl hmap hF1 hF2 hpb hpo hw1 hmin
          go_wp2_with fail
          refine hdel.mono ?_
          rintro e w3 ⟨rfl, n2, hw3⟩
          have hs3 : w3 = sortWorld encP (w1.alloc (.cells #[.int .i64 (at_ : Int)] 3)) o 0 n2 (flt ++ List.replicate (op.length - flt.length) (⟨0, hjN⟩ : Fin j)).toArray #[] := by unfold sortWorld; rw [Go.Sort.grow_empty]; exact hw3
          have hF3 := HF2.out.turn rfl (n' := flt.length) (k := n2) (os := #[]) (ds := (flt ++ List.replicate (op.length - flt.length) (⟨0, hjN⟩ : Fin j)).toArray) (by have := HFL.out; simp; omega) HFL.out
          have hpb3 := (sortWorld_block encP (w1.alloc (.cells #[.int .i64 (at_ : Int)] 3)) o 0 n2 (flt ++ List.replicate (op.length - flt.length) (⟨0, hjN⟩ : Fin j)).toArray #[] HPB.out.lt HPO.out).trans HPB.out
          rw [← hs3] at hF3 hpb3
          replace hpb3 : Blk w3 w1.heap.size 3 #[.int .i64 (at_ : Int)] := hpb3
          rw [List.take_left, HMAP.out] at hF3
          have hne3 : (Value.slice (some ⟨o, 0, none⟩) flt.length c).ownBlock ≠ some w1.heap.size := by have := HPO.out; simp [Value.ownBlock]; omega
          clear hw3 hs3 hdel
          obtain ⟨u, L, hu, ⟨bs, hown⟩, _, hE, hL⟩ := HR.out at_ hatN
          obtain ⟨Au, cu, rfl, hcu1, hcu2⟩ := ownsRow_form hown
          have hcg3 := (hF3.below.cell (p := ⟨g, 3, none⟩) hgl).trans hcE
          have hcq3 := (hF3.below.cell (p := ⟨qE, at_, none⟩) hqE).trans hu
          have hca3 := hpb3.cell 0
          simp only [List.getElem?_toArray, List.getElem?_cons_zero] at hca3
          have hatI : (at_ : Int) < (j : Int) := by omega
          obtain ⟨m, hm⟩ : ∃ m, L.length = m := ⟨_, rfl⟩
          rw [hm] at hown hL hcu1 hcq3
          have HF3 := Lib.hid hF3; have HPB3 := Lib.hid hpb3; have HNE3 := Lib.hid hne3; have HEL := Lib.hid hE; have HM := Lib.hid hm; have HOWN := Lib.hid hown
          clear hF3 hpb3 hne3 hE hm hown hu
          go_wp2
          go_region
          go_wp2
          go_loopw [7, 48] (fun v i wq => ∃ (jj : Nat) (op2 : List Nat) (r2 : Nat → Int), jj ≤ m ∧ i = .int .i64 jj ∧ FromM w wq (w.heap.size + 1) w.heap.size j r2 op2 v ∧ LoopC E a at_ j r2 cls op2 (L.take jj) ∧ Blk wq w1.heap.size 3 #[.int .i64 (at_ : Int)] ∧ v.ownBlock ≠ some w1.heap.size) (fun _ i _ => m - (intOf i).toNat)
          case atStart => exact ⟨0, _, r, by omega, rfl, HF3.out.drew, HCL.out, HPB3.out.drew, HNE3.out⟩
          case round =>
            obtain ⟨jj, op2, r2, hjj, rfl, hF, hC, hpb, hne⟩ := hrel
            have hbnd := HBC.out r2 at_ cls op2 _ hC
            have hkn := hC.known
            obtain ⟨A2, c2, rfl, hc21, hc22⟩ := ownsRow_form hF.opn
            have HF := Lib.hid hF; have HC := Lib.hid hC; have HPB := Lib.hid hpb; have HNE := Lib.hid hne
            clear hF hC hpb hne HF3 HPB3 HNE3 HCL hcg3 hcq3 hca3 hcb
            by_cases hlt : jj < m
            · have hjl : jj < L.length := by rw [HM.out]; exact hlt
              obtain ⟨q', cq', hA, _, _, _, hq', hcell⟩ := own_pos2 (own_below HOWN.out HF.out.below) HM.out (by omega)
              simp only [Value.slice.injEq, true_and] at hA
              obtain ⟨rfl, rfl⟩ := hA
              obtain ⟨c0, c1⟩ := hcell jj hjl
              have htk := List.take_succ_eq_append_getElem hjl
              have hmem : L[jj] ∈ L := List.getElem_mem hjl
              have hjI : (jj : Int) < (m : Int) := by omega
              generalize L[jj] = x at c0 c1 htk hmem
              obtain ⟨xe, xl⟩ := x
              have hedge := (HEL.out xe xl).2 hmem
              obtain ⟨e1, e2, e3, e4⟩ := HE.out at_ xe xl hedge
              have hb1 := hbnd at_
              have hb2 := hbnd xe
              have hW := (HF.out.alloc (.cells #[.int .i64 (xe : Int), .int .i64 xl] 106)).drew
              have hxb := (Blk.new wr 106 #[.int .i64 (xe : Int), .int .i64 xl]).drew
              have hpbW := (HPB.out.alloc (.cells #[.int .i64 (xe : Int), .int .i64 xl] 106)).drew
              have hcbW := hW.box.cell 0
              have hx0 := hxb.cell 0
              have hx1 := hxb.cell 1
              have hpa := hpbW.cell 0
              simp only [List.getElem?_toArray, List.getElem?_cons_zero, List.getElem?_cons_succ] at hcbW hx0 hx1 hpa
              have hda := hW.cell hatN
              have hdx := hW.cell e1
              have hfz := hW.row.frozen xe
              have hxI : (xe : Int) < (j : Int) := by omega
              have HTK := Lib.hid htk; have HED := Lib.hid hedge; have HW := Lib.hid hW; have HXB := Lib.hid hxb; have HPBW := Lib.hid hpbW; have HNX := Lib.hid e2
              clear htk hmem hedge hW hxb hpbW hbnd hcell e2
              go_wp2
              go_region
              rcases Int.lt_or_le (r2 xe) 0 with hr0 | hr0
              · have hop := nodup_len j op2 HC.out.nd HF.out.lt
                have hrn := reads_new (wr.alloc (.cells #[.int .i64 (xe : Int), .int .i64 xl] 106)).drew 3 [.int .i64 (xe : Int)]
                rw [show (wr.alloc (.cells #[.int .i64 (xe : Int), .int .i64 xl] 106)).drew.heap.size = wr.heap.size + 1 from World.size_alloc _ _] at hrn
                have HRN := Lib.hid hrn
                clear hrn
                have hsz := HF.out.below.size
                have hxW := (HXB.out.alloc (.cells #[.int .i64 (xe : Int)] 3)).cell 0
                simp only [List.getElem?_toArray, List.getElem?_cons_zero] at hxW
                go_wp2_with (at_builtin; refine wpList_append_any _ rfl _ _ 26 rfl w.heap.size 3 i0 (.int .i64 0) 1 8 Tryd.underlying26 hi hz0 hz1 hz2 rfl (by decide) _ _ _ rfl (HW.out.opn.alloc _) _ _ _ _ [.int .i64 (xe : Int)] rfl HRN.out (by simp [Value.oneCell']) (by unfold maxLen; omega) (by omega) (by simp; omega) ?_; intro v' w4 hown' hgrow hx; have hF4 := (HW.out.alloc (.cells #[.int .i64 (xe : Int)] 3)).push e1 hgrow hown'; have hcb4 := hF4.box.cell 0; have hx4 := ((HXB.out.alloc (.cells #[.int .i64 (xe : Int)] 3)).grown hgrow (fun e => absurd (HF.out.opn.lt _ e.symm).2 (Nat.lt_irrefl _))); have hx40 := hx4.cell 0; have hx41 := hx4.cell 1; have hfz4 := hF4.row.frozen xe; have hcx4 := hF4.cell e1; simp only [List.getElem?_toArray, List.getElem?_cons_zero, List.getElem?_cons_succ] at hcb4 hx40 hx41; have HF4 := Lib.hid hF4; have HP4 := Lib.hid ((HPBW.out.alloc (.cells #[.int .i64 (xe : Int)] 3)).grown hgrow (fun e => HNE.out e.symm)); have HN4 := Lib.hid hx; clear hF4 hx4 hx hgrow hown')
                go_roundw
                case rel => exact ⟨jj + 1, op2 ++ [xe], _, by omega, by go_num, HF4.out.dist e1 _, by rw [HTK.out]; exact HC.out.take HL.out HED.out HNX.out hr0, HP4.out.far (p := ⟨w.heap.size, xe, none⟩) (Blk.ne_ HP4.out HF4.out.row (by decide)) _, by
                  have hpl := HPB.out.lt
                  rcases HN4.out with h | h
                  · rw [h]; exact HNE.out
                  · rw [h]; simp; omega⟩
                case measure => simp [intOf]; omega
              · by_cases hle : r2 xe ≤ r2 at_ + xl
                · go_wp2
                  go_roundw
                  case rel => exact ⟨jj + 1, op2, r2, by omega, by go_num, HW.out, by rw [HTK.out]; exact HC.out.skip hr0 hle, HPBW.out, HNE.out⟩
                  case measure => simp [intOf]; omega
                · go_wp2
                  go_roundw
                  case rel => exact ⟨jj + 1, op2, _, by omega, by go_num, HW.out.dist e1 _, by rw [HTK.out]; exact HC.out.less HL.out HED.out HNX.out hr0 (by omega), HPBW.out.far (p := ⟨w.heap.size, xe, none⟩) (Blk.ne_ HPBW.out HW.out.row (by decide)) _, HNE.out⟩
                  case measure => simp [intOf]; omega
            · obtain rfl : jj = m := by omega
              have hcl := HC.out
              rw [List.take_of_length_le (by rw [HM.out]; exact Nat.le_refl _)] at hcl
              have hco := hcl.closed (fun v l he => (HEL.out v l).1 he) hatN
              have HCO := Lib.hid hco
              clear hcl hco
              go_wp2
              go_roundg (gk - 1)
              case measure => have h1 := HK.out; have h2 := HLT.out; omega
              case rel => exact ⟨at_ :: cls, op2, r2, by have h1 := HK.out; have h2 := HLT.out; rw [HCO.out.2]; omega, HF.out, HCO.out.1⟩
end Go.Proofs.YtgimhjkijpcgjaaDoor
namespace Go.Proofs.YtgimhjkijpcgjaaDoor
open Go.RowKit Go.Lib

/-- One entry of a matrix. -/
def setD (D : Nat → Nat → Int) (i j : Nat) (d : Int) : Nat → Nat → Int := fun u v => if u = i ∧ v = j then d else D u v
theorem setD_same (D : Nat → Nat → Int) (i j : Nat) (d : Int) : setD D i j d i j = d := by unfold setD; rw [if_pos ⟨rfl, rfl⟩]
theorem setD_other {D : Nat → Nat → Int} {i j u v : Nat} {d : Int} (h : ¬ (u = i ∧ v = j)) : setD D i j d u v = D u v := by unfold setD; rw [if_neg h]
def zeroD : Nat → Nat → Int := fun u v => if u = v then 0 else -1
def roadD (D : Nat → Nat → Int) (x : Rd) : Nat → Nat → Int := setD (setD D x.1.toNat x.2.1.toNat x.2.2) x.2.1.toNat x.1.toNat x.2.2
def roadsD (roads : List Rd) : Nat → Nat → Int := roads.foldl roadD zeroD
theorem roadsD_snoc (roads : List Rd) (x : Rd) : roadsD (roads ++ [x]) = roadD (roadsD roads) x := by simp [roadsD]
theorem roadsD_get {n : Nat} (roads : List Rd) : (∀ x ∈ roads, Okr n x) → Apart2 roads → ∀ u v, (∀ x ∈ roads, ∀ l, isRoad x u v l → roadsD roads u v = l) ∧ ((∀ x ∈ roads, ∀ l, ¬ isRoad x u v l) → roadsD roads u v = zeroD u v) := by
  refine list_rev_ind (p := fun roads => (∀ x ∈ roads, Okr n x) → Apart2 roads → ∀ u v, (∀ x ∈ roads, ∀ l, isRoad x u v l → roadsD roads u v = l) ∧ ((∀ x ∈ roads, ∀ l, ¬ isRoad x u v l) → roadsD roads u v = zeroD u v)) ?_ ?_ roads
  · intro _ _ u v
    exact ⟨(fun x hx => by cases hx), fun _ => rfl⟩
  · intro roads x ih h hp u v
    have hr : ∀ y ∈ roads, Okr n y := fun y hy => h y (by simp [hy])
    unfold Apart2 at hp
    rw [List.pairwise_append] at hp
    obtain ⟨i1, i2⟩ := ih hr hp.1 u v
    obtain ⟨a0, a1, b0, b1, ne, l0, l1⟩ := h x (by simp)
    rw [roadsD_snoc]
    have hget : roadD (roadsD roads) x u v = if (x.1 = u ∧ x.2.1 = v) ∨ (x.1 = v ∧ x.2.1 = u) then x.2.2 else roadsD roads u v := by
      unfold roadD setD
      by_cases h1 : (x.1 = u ∧ x.2.1 = v) ∨ (x.1 = v ∧ x.2.1 = u)
      · rw [if_pos h1]
        rcases h1 with h1 | h1
        · rw [if_neg (by omega), if_pos (by omega)]
        · rw [if_pos (by omega)]
      · rw [if_neg h1, if_neg (by omega), if_neg (by omega)]
    rw [hget]
    refine ⟨fun y hy l hr' => ?_, fun hno => ?_⟩
    · rcases List.mem_append.1 hy with hy | hy
      · have h1 := hp.2.2 y hy x (by simp)
        unfold sameRoad at h1
        rw [Bool.or_eq_false_iff, Bool.and_eq_false_iff, Bool.and_eq_false_iff, beq_eq_false_iff_ne, beq_eq_false_iff_ne, beq_eq_false_iff_ne, beq_eq_false_iff_ne] at h1
        rw [if_neg, i1 y hy l hr']
        unfold isRoad at hr'
        omega
      · obtain rfl := List.mem_singleton.1 hy
        unfold isRoad at hr'
        rw [if_pos (by omega)]; omega
    · have h1 := hno x (by simp) x.2.2
      unfold isRoad at h1
      rw [if_neg (by simpa using h1)]
      exact i2 fun y hy l hr' => hno y (by simp [hy]) l hr'
/-- Ways over the points below k. -/
def floydD (D0 : Nat → Nat → Int) : Nat → Nat → Nat → Int
  | 0 => D0
  | k + 1 => fun i => better (floydD D0 k) k i
def mixed (D : Nat → Nat → Int) (k i j : Nat) : Nat → Nat → Int := fun u v => if u < i ∨ (u = i ∧ v < j) then better D k u v else D u v
theorem mixed_k1 {D : Nat → Nat → Int} {k : Nat} (h : D k k = 0) (i j u : Nat) : mixed D k i j u k = D u k := by unfold mixed; rw [better_k1 h]; split <;> rfl
theorem mixed_k2 {D : Nat → Nat → Int} {k : Nat} (h : D k k = 0) (i j v : Nat) : mixed D k i j k v = D k v := by unfold mixed; rw [better_k2 h]; split <;> rfl
theorem mixed_here (D : Nat → Nat → Int) (k i j : Nat) : mixed D k i j i j = D i j := by unfold mixed; rw [if_neg (by omega)]
theorem mixed_step (D : Nat → Nat → Int) (k i j : Nat) : setD (mixed D k i j) i j (better D k i j) = mixed D k i (j + 1) := by
  funext u v
  unfold setD
  by_cases h : u = i ∧ v = j
  · obtain ⟨rfl, rfl⟩ := h
    rw [if_pos ⟨rfl, rfl⟩]; unfold mixed; rw [if_pos (by omega)]
  · rw [if_neg h]; unfold mixed
    by_cases h1 : u < i ∨ (u = i ∧ v < j)
    · rw [if_pos h1, if_pos (by omega)]
    · rw [if_neg h1, if_neg (by omega)]
theorem mixed_skip {D : Nat → Nat → Int} {k i j : Nat} (h : better D k i j = D i j) : mixed D k i j = mixed D k i (j + 1) := by
  rw [← mixed_step, h]
  funext u v
  unfold setD
  split
  · rename_i h1; obtain ⟨rfl, rfl⟩ := h1; exact mixed_here D k u v
  · rfl
theorem mixed_row {D : Nat → Nat → Int} {k i n : Nat} (u v : Nat) (hv : v < n) : mixed D k i n u v = mixed D k (i + 1) 0 u v := by
  unfold mixed
  by_cases h : u < i ∨ (u = i ∧ v < n)
  · rw [if_pos h, if_pos (by omega)]
  · rw [if_neg h, if_neg (by omega)]
theorem mixed_zero (D : Nat → Nat → Int) (k : Nat) : mixed D k 0 0 = D := by funext u v; unfold mixed; rw [if_neg (by omega)]
theorem mixed_all {D : Nat → Nat → Int} {k n : Nat} (u v : Nat) (hu : u < n) : mixed D k n 0 u v = better D k u v := by unfold mixed; rw [if_pos (by omega)]
section
variable {names : List ByteArray} {roads : List Rd}
theorem floyd_rows (h : newE names roads = 0) : ∀ k i, DistRow (upTo (edgeOf (newM names roads)) k i) i (floydD (roadsD roads) k i) := by
  have hM := good_new h
  have he := edge_new h
  obtain ⟨_, _, _, hok, hap⟩ := newE_zero h
  intro k
  induction k with
  | zero =>
    refine first_row hM.lens (fun i => ?_) (fun i j l hx => ?_) (fun i j hij hx => ?_)
    · show roadsD roads i i = 0
      rw [(roadsD_get roads hok hap i i).2]
      · unfold zeroD; rw [if_pos rfl]
      · intro x hx l hr
        have := (hok x hx).ne
        unfold isRoad at hr; omega
    · obtain ⟨x, hx, hr⟩ := (he i j l).1 hx
      exact (roadsD_get roads hok hap i j).1 x hx l hr
    · show roadsD roads i j = -1
      rw [(roadsD_get roads hok hap i j).2]
      · unfold zeroD; rw [if_neg hij]
      · exact fun x hx' l hr => hx l ((he i j l).2 ⟨x, hx', hr⟩)
  | succ k ih => exact fun i => better_row hM.lens ih i
theorem floyd_end (h : newE names roads = 0) (i v : Nat) : floydD (roadsD roads) names.length i v = distM (newM names roads) i v :=
  ((good_new h).eq (all_row (fun _ _ _ he => ((good_new h).lt he).1) (floyd_rows h names.length i)) v).symm
theorem floyd_bound (h : newE names roads = 0) (k i v : Nat) (hi : i < names.length) : -1 ≤ floydD (roadsD roads) k i v ∧ floydD (roadsD roads) k i v ≤ 137438953472 := by
  have hM := good_new h
  have hr := floyd_rows h k i
  refine ⟨hr.low v, ?_⟩
  by_cases h0 : 0 ≤ floydD (roadsD roads) k i v
  · have h1 := hr.bound (C := 1073741824) (n := names.length) (by decide) (fun u v l he => hM.lens u v l he.1) hi (fun u v l he => (hM.lt he.1).2) h0
    have h2 := hM.few
    have h3 : (names.length : Int) * 1073741824 ≤ 128 * 1073741824 := Int.mul_le_mul_of_nonneg_right (by show (names.length : Int) ≤ 128; have : names.length ≤ 128 := h2; omega) (by decide)
    omega
  · omega
theorem floyd_self (h : newE names roads = 0) (k i : Nat) : floydD (roadsD roads) k i i = 0 := (floyd_rows h k i).self
end
end Go.Proofs.YtgimhjkijpcgjaaDoor
namespace Go.Proofs.YtgimhjkijpcgjaaDoor
open Go.RowKit Go.Lib

/-- A row of slices, each a block of its own with a row of the square. -/
structure SqM (base : Nat) (wr : World) (vD : Value) (N k : Nat) (us : Nat → Nat) (D : Nat → Nat → Int) : Prop where
  own : wr.ownsRow base 113 1 vD k ((List.range k).map fun i => .slice (some ⟨us i, 0, none⟩) N N)
  rows : ∀ i, i < k → Blk wr (us i) 2 (rowA N (D i)).toArray
  apart : ∀ i j, i < k → j < k → us i = us j → i = j
  hu : ∀ i, i < k → base ≤ us i
section
variable {w' wr : World} {base : Nat} {vD : Value} {N k : Nat} {us : Nat → Nat} {D : Nat → Nat → Int}
theorem SqM.later (h : SqM base wr vD N k us D) (hb : Below wr.heap.size wr w') : SqM base w' vD N k us D :=
  ⟨own_below h.own hb, fun i hi => (h.rows i hi).below hb (h.rows i hi).lt, h.apart, h.hu⟩
theorem SqM.alloc (h : SqM base wr vD N k us D) (o : Obj) : SqM base (wr.alloc o) vD N k us D := h.later ((Below.refl _ _).alloc (Nat.le_refl _) o)
theorem SqM.drew (h : SqM base wr vD N k us D) : SqM base wr.drew vD N k us D := h.later ((Below.refl _ _).drew)
theorem SqM.congr {D' : Nat → Nat → Int} (h : SqM base wr vD N k us D) (e : ∀ i x, i < k → x < N → D i x = D' i x) : SqM base wr vD N k us D' := by
  refine ⟨h.own, fun i hi => ?_, h.apart, h.hu⟩
  have : rowA N (D i) = rowA N (D' i) := by unfold rowA; exact List.map_congr_left fun x hx => by rw [e i x hi (List.mem_range.1 hx)]
  exact this ▸ h.rows i hi
/-- Another block turns. -/
theorem SqM.other {g : Nat} {t : TypeId} {cs : Array Value} (h : SqM base wr vD N k us D) (hg : wr.grownBy w' (some g)) (hb : Blk wr g t cs) (h1 : 113 ≠ t) (h2 : 2 ≠ t) : SqM base w' vD N k us D :=
  ⟨h.own.kept hg (.inr (own_blk_ne h.own hb h1)), fun i hi => (h.rows i hi).grown hg (fun e => Blk.ne_ (h.rows i hi) hb h2 (by injection e)), h.apart, h.hu⟩
theorem SqM.far {p : Addr} {t : TypeId} {cs : Array Value} (h : SqM base wr vD N k us D) (hb : Blk wr p.block t cs) (h1 : 113 ≠ t) (h2 : 2 ≠ t) (u : Value) : SqM base (wr.setCell p u) vD N k us D :=
  h.other (grown_setCell wr p u) hb h1 h2
theorem SqM.set_ (h : SqM base wr vD N k us D) {i j : Nat} (hi : i < k) (hj : j < N) (d : Int) : SqM base (wr.setCell ⟨us i, j, none⟩ (.int .i64 d)) vD N k us (setD D i j d) := by
  refine ⟨h.own.kept (grown_setCell wr ⟨us i, j, none⟩ _) (.inr (own_blk_ne h.own (h.rows i hi) (by decide))), fun x hx => ?_, h.apart, h.hu⟩
  by_cases e : x = i
  · subst e
    have hr : setD D x j d x = setF (D x) j d := by
      funext v
      unfold setD setF
      by_cases hv : v = j
      · rw [if_pos ⟨rfl, hv⟩, if_pos hv]
      · rw [if_neg (fun q => hv q.2), if_neg hv]
    rw [hr, ← rowA_set (D x) hj]
    exact (h.rows x hx).set_ j _
  · have hr : setD D i j d x = D x := by
      funext v
      exact setD_other (fun q => e q.1)
    rw [hr]
    exact (h.rows x hx).far (p := ⟨us i, j, none⟩) (fun q => e (h.apart x i hx hi q)) _
theorem SqM.form (h : SqM base wr vD N k us D) (h0 : 0 < k) : ∃ qD cD, vD = .slice (some ⟨qD, 0, none⟩) k cD ∧ base ≤ qD ∧ qD < wr.heap.size := by
  obtain ⟨A, c, rfl, h1, h2⟩ := ownsRow_form h.own
  rcases h.own.2 with ⟨h', hn⟩ | ⟨q, cap, cur, h', hb, hg, _⟩
  · omega
  · simp only [Value.slice.injEq, true_and] at h'
    obtain ⟨rfl, rfl⟩ := h'
    exact ⟨q, c, rfl, hb, (Array.getElem?_eq_some_iff.1 hg).1⟩
theorem SqM.rowAt {qD cD : Nat} (h : SqM base wr (.slice (some ⟨qD, 0, none⟩) k cD) N k us D) {i : Nat} (hi : i < k) : wr.cell? ⟨qD, i, none⟩ = some (.slice (some ⟨us i, 0, none⟩) N N) := by
  have := h.own.cellAt i (by omega)
  rw [this]
  simp [hi]
theorem SqM.cell (h : SqM base wr vD N k us D) {i j : Nat} (hi : i < k) (hj : j < N) : wr.cell? ⟨us i, j, none⟩ = some (.int .i64 (D i j)) := (Blk.cell (h.rows i hi) j).trans (rowA_get (D i) hj)
/-- One more row. -/
theorem SqM.push (h : SqM base wr vD N k us D) {q : Nat} {r : Nat → Int} (hq : Blk wr q 2 (rowA N r).toArray) (hqb : base ≤ q) (hne : ∀ i, i < k → us i ≠ q) {v' : Value} (hg : wr.grownBy w' vD.ownBlock)
    (ho : w'.ownsRow base 113 1 v' (k + 1) (((List.range k).map fun i => .slice (some ⟨us i, 0, none⟩) N N) ++ [.slice (some ⟨q, 0, none⟩) N N])) :
    SqM base w' v' N (k + 1) (fun i => if i = k then q else us i) (fun i => if i = k then r else D i) := by
  refine ⟨?_, fun i hi => ?_, fun i j hi hj e => ?_, fun i hi => ?_⟩
  · have : ((List.range (k + 1)).map fun i => Value.slice (some ⟨if i = k then q else us i, 0, none⟩) N N) = ((List.range k).map fun i => .slice (some ⟨us i, 0, none⟩) N N) ++ [.slice (some ⟨q, 0, none⟩) N N] := by
      rw [List.range_succ, List.map_append, List.map_singleton, if_pos rfl]
      congr 1
      exact List.map_congr_left fun i hi => by rw [if_neg (by have := List.mem_range.1 hi; omega)]
    rw [this]
    exact ho
  · show Blk w' (if i = k then q else us i) _ (rowA N (if i = k then r else D i)).toArray
    have hne' : ∀ b cs, Blk wr b 2 cs → some b ≠ vD.ownBlock := fun b cs hb e => own_blk_ne h.own hb (by decide) e.symm
    by_cases e : i = k
    · rw [if_pos e, if_pos e]; exact hq.grown hg (hne' _ _ hq)
    · rw [if_neg e, if_neg e]; exact (h.rows i (by omega)).grown hg (hne' _ _ (h.rows i (by omega)))
  · replace e : (if i = k then q else us i) = (if j = k then q else us j) := e
    by_cases e1 : i = k
    · by_cases e2 : j = k
      · rw [e1, e2]
      · rw [if_pos e1, if_neg e2] at e; exact absurd e.symm (hne j (by omega))
    · by_cases e2 : j = k
      · rw [if_neg e1, if_pos e2] at e; exact absurd e (hne i (by omega))
      · rw [if_neg e1, if_neg e2] at e; exact h.apart i j (by omega) (by omega) e
  · show base ≤ if i = k then q else us i
    split
    · exact hqb
    · exact h.hu i (by omega)
end
theorem SqM.start (base : Nat) (wr : World) (N : Nat) : SqM base wr (.slice none 0 0) N 0 (fun _ => 0) (fun _ _ => 0) :=
  ⟨World.ownsRow_nil _ _ _ _, fun i hi => absurd hi (Nat.not_lt_zero i), fun i _ hi => absurd hi (Nat.not_lt_zero i), fun i hi => absurd hi (Nat.not_lt_zero i)⟩
end Go.Proofs.YtgimhjkijpcgjaaDoor
namespace Go.Proofs.YtgimhjkijpcgjaaDoor
open Go.RowKit Go.Lib

noncomputable def distO : Option Pts → Int → Int → Int × Bool
  | none, _, _ => (0, false)
  | some M, a, b => distS M a b
def inO (om : Option Pts) (a : Int) : Prop := 0 ≤ a ∧ a < (lenO om : Nat)
theorem inO_some {M : Pts} {a : Int} : inO (some M) a ↔ inM M a := Iff.rfl
/-- A row of distances at a point. -/
theorem row_cell {w : World} {q N : Nat} {r : Nat → Int} (h : Blk w q 2 (rowA N r).toArray) {x : Nat} (hx : x < N) : w.cell? ⟨q, x, none⟩ = some (.int .i64 (r x)) := (Blk.cell h x).trans (rowA_get r hx)
/-- A map of New, or none. -/
def GoodO (om : Option Pts) : Prop := ∀ M, om = some M → GoodM M
theorem inO_open {w : World} {p : Option Addr} {om : Option Pts} {a : Int} (h : MapO w p om) (hG : GoodO om) (ha : inO om a) : ∃ g M k, p = some ⟨g, 0, none⟩ ∧ om = some M ∧ MapAt w g M ∧ GoodM M ∧ a = (k : Nat) ∧ k < M.names.length := by
  cases om with
  | none => exact absurd ha.2 (by have := ha.1; show ¬ a < ((0 : Nat) : Int); omega)
  | some M =>
    obtain ⟨g, rfl, hM⟩ := h
    have h1 := ha.1
    have h2 : a < (M.names.length : Int) := ha.2
    exact ⟨g, M, a.toNat, rfl, rfl, hM, hG M rfl, by omega, by omega⟩
theorem distO_out {om : Option Pts} {a b : Int} (h : ¬ (inO om a ∧ inO om b)) : distO om a b = (0, false) := by
  cases om with
  | none => rfl
  | some M => show distS M a b = _; unfold distS; exact if_neg h
theorem distO_in {M : Pts} {a b : Nat} (ha : a < M.names.length) (hb : b < M.names.length) : distO (some M) a b = (max (distM M a b) 0, decide (0 ≤ distM M a b)) := by
  show distS M a b = _
  unfold distS
  rw [if_pos ⟨⟨by omega, by show (a : Int) < (M.names.length : Int); omega⟩, ⟨by omega, by show (b : Int) < (M.names.length : Int); omega⟩⟩, Int.toNat_natCast, Int.toNat_natCast]
end Go.Proofs.YtgimhjkijpcgjaaDoor
