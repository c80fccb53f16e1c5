/-
  layer 43: lists, read by the program. Conditions: bytes that can be read. (Printed by pjsome.py.)
-/
import Derived.Test.YtmepaeahchiglaaGreatDoorZbaw
namespace Go.Proofs.YtmepaeahchiglaaGreatDoor
open Go.RowKit Go.Lib

set_option linter.unusedSimpArgs false in
set_option linter.unusedVariables false in
set_option maxRecDepth 20000 in
set_option maxHeartbeats 4000000 in
theorem someL_any (w : World) (g : Nat) (bs : List Nat) (h : Rd w g bs)
    (hget : ∀ (W : World) (b : List Nat), Rd W g b → Chg [g] w W → Calls Tryz.prog 63 #[wptr g] W (ElPost g LawF aggM W (lawR b))) :
    Calls Tryz.prog 163 #[wptr g, .func (.func 63) #[wptr g] #[]] w (LsPost g 18 LawF w (someR lawR bs)) := by
  obtain ⟨i0, hi, hz0, hz1, hz2⟩ := info_parts (show (Tryz.prog.info? 62).map (fun i => (i.zero, i.size, i.bytes)) = some (some (.agg #[.string ⟨#[]⟩, .int .i64 0, .int .u32 0, .int .u32 0, .bool false, .int .i64 0, .int .i64 0, .slice none 0 0, .int .i64 0, .int .u32 0, .int .u32 0, .bool false, .int .i64 0, .int .i64 0, .slice none 0 0, .slice none 0 0, .slice none 0 0, .int .i64 0]), 18, 200) by kernel_rfl)
  have hgl := h.lt
  have HGET := Lib.hid hget
  clear hget
  unfold someR
  cases hr : countR bs with
  | none =>
    have hc := rcount_none h hr
    rw [thenR_none hr]
    clear h hr
    go_enter Tryz.func163, Tryz.ntmps163
    go_wp2_with fail
    refine hc.mono ?_
    rintro e w1 ⟨rfl, h1⟩
    exact ⟨rfl, h1, rfl⟩
  | some q =>
    obtain ⟨n, r⟩ := q
    have hc := rcount_some h hr
    have hn := countR_le hr
    rw [thenR_some hr]
    obtain ⟨o, ho⟩ : ∃ o, manyR lawR n r = o := ⟨_, rfl⟩
    rw [ho]
    have HO := Lib.hid ho
    clear h hr ho
    go_enter Tryz.func163, Tryz.ntmps163
    go_wp2_with fail
    refine hc.mono ?_
    rintro e w1 ⟨rfl, h1, h2⟩
    have hn30 : n ≤ 1073741824 := Nat.le_trans hn h1.bytes
    have H1 := Lib.hid h1; have H2 := Lib.hid h2
    clear h1 h2 hc
    go_wp2
    go_loopw [5, 8] (fun v i wr => ∃ k : Nat, ∃ l : List (Lw), ∃ xs : List Value, ∃ b : List Nat, k ≤ n ∧ i = .int .i64 k ∧ l.length = k ∧ wr.ownsRow w.heap.size 62 18 v k xs ∧ RowsF LawF wr (fun b => w.heap.size ≤ b ∧ b < wr.heap.size ∧ v.ownBlock ≠ some b) l xs ∧ preO l (manyR lawR (n - k) b) = o ∧ Rd wr g b ∧ Chg [g] w wr) (fun _ i _ => n - (Lib.intOf i).toNat)
    case atStart => exact ⟨0, [], [], r, by omega, rfl, rfl, World.ownsRow_nil _ _ _ _, rfl, by rw [preO_nil]; exact HO.out, H1.out, H2.out⟩
    case round =>
      obtain ⟨k, l, xs, b, hk, rfl, hll, hown, hpats, hpre, hr, hch⟩ := hrel
      have HLL := Lib.hid hll; have HOWN := Lib.hid hown; have HPATS := Lib.hid hpats; have HR := Lib.hid hr; have HCH := Lib.hid hch
      have hsz := hch.size
      clear hll hown hpats hr hch
      by_cases hkn : k < n
      · have hkI : (k : Int) < n := by omega
        rw [show n - k = (n - (k + 1)) + 1 by omega] at hpre
        have hcall := HGET.out wr b HR.out HCH.out
        cases hs : lawR b with
        | none =>
          rw [preO_none _ hs] at hpre
          rw [hs] at hcall
          subst hpre
          have HCALL := Lib.hid hcall
          clear hs hcall
          go_wp2_with fail
          refine HCALL.out.mono ?_
          rintro e w2 ⟨hc2, rfl⟩
          exact ⟨rfl, HCH.out.trans hc2, rfl⟩
        | some q =>
          obtain ⟨x, b'⟩ := q
          rw [preO_some _ hs] at hpre
          rw [hs] at hcall
          have HP := Lib.hid hpre; have HCALL := Lib.hid hcall
          clear hs hpre hcall
          go_wp2_with fail
          refine HCALL.out.mono ?_
          rintro e w2 ⟨hc2, cs1, rfl, hpf, hr2⟩
          obtain ⟨q1, q2, A3, c3, A4, c4, rfl, hq1, hq2, -⟩ := id hpf
          obtain ⟨lk, ls, lneg, llo, lhi, lA, ln, lc, rfl⟩ := hq1.form
          obtain ⟨qk, qs, qneg, qlo, qhi, qA, qn, qc, rfl⟩ := hq2.form
          clear hq1 hq2
          have hone : ∀ u ∈ ([.string x.name, .int .i64 lk, .int .u32 ls.1, .int .u32 ls.2, .bool lneg, .int .i64 llo, .int .i64 lhi, .slice lA ln lc, .int .i64 qk, .int .u32 qs.1, .int .u32 qs.2, .bool qneg, .int .i64 qlo, .int .i64 qhi, .slice qA qn qc, .slice A3 x.ifs.length c3, .slice A4 x.outs.length c4, .int .i64 x.mode] : List Value), u.oneCell' = true := by
            intro u hu
            simp only [List.mem_cons, List.not_mem_nil, or_false] at hu
            rcases hu with rfl | rfl | rfl | rfl | rfl | rfl | rfl | rfl | rfl | rfl | rfl | rfl | rfl | rfl | rfl | rfl | rfl | rfl <;> rfl
          have hown2 := own_chg HOWN.out hc2 (fun j hj hm => by
            have := HOWN.out.lt j hj
            simp at hm; omega)
          have hrn := reads_newk w2 62 [.string x.name, .int .i64 lk, .int .u32 ls.1, .int .u32 ls.2, .bool lneg, .int .i64 llo, .int .i64 lhi, .slice lA ln lc, .int .i64 qk, .int .u32 qs.1, .int .u32 qs.2, .bool qneg, .int .i64 qlo, .int .i64 qhi, .slice qA qn qc, .slice A3 x.ifs.length c3, .slice A4 x.outs.length c4, .int .i64 x.mode] 18 1 rfl
          have hsz2 := hc2.size
          have H3 := Lib.hid hr2; have H4 := Lib.hid hc2; have HOWN2 := Lib.hid hown2; have HRN := Lib.hid hrn; have HPF := Lib.hid (show LawF w2 (NewS wr w2) x [.string x.name, .int .i64 lk, .int .u32 ls.1, .int .u32 ls.2, .bool lneg, .int .i64 llo, .int .i64 lhi, .slice lA ln lc, .int .i64 qk, .int .u32 qs.1, .int .u32 qs.2, .bool qneg, .int .i64 qlo, .int .i64 qhi, .slice qA qn qc, .slice A3 x.ifs.length c3, .slice A4 x.outs.length c4, .int .i64 x.mode] from hpf); have HONE := Lib.hid hone
          clear hr2 hc2 hown2 hrn hpf hone
          go_wp2_with (at_builtin; refine wpList_append_any _ rfl _ _ 26 rfl w.heap.size 62 i0 (.agg #[.string ⟨#[]⟩, .int .i64 0, .int .u32 0, .int .u32 0, .bool false, .int .i64 0, .int .i64 0, .slice none 0 0, .int .i64 0, .int .u32 0, .int .u32 0, .bool false, .int .i64 0, .int .i64 0, .slice none 0 0, .slice none 0 0, .slice none 0 0, .int .i64 0]) 18 200 Tryz.underlying26 hi hz0 hz1 hz2 rfl (by decide) _ _ _ rfl (HOWN2.out.alloc _) _ _ _ _ [.string x.name, .int .i64 lk, .int .u32 ls.1, .int .u32 ls.2, .bool lneg, .int .i64 llo, .int .i64 lhi, .slice lA ln lc, .int .i64 qk, .int .u32 qs.1, .int .u32 qs.2, .bool qneg, .int .i64 qlo, .int .i64 qhi, .slice qA qn qc, .slice A3 x.ifs.length c3, .slice A4 x.outs.length c4, .int .i64 x.mode] rfl HRN.out HONE.out (by unfold maxLen; omega) (by omega) (by simp; omega) ?_; intro v' w3 hown' hgrow hx')
          have hc3 : Chg [g] w w3 := ((HCH.out.trans H4.out).alloc _).grown hgrow (fun j hj => (HOWN2.out.lt j hj).1)
          have hr3 : Rd w3 g b' := (H3.out.alloc _).grown hgrow (fun j hj => by have := (HOWN2.out.lt j hj).1; omega)
          have hsz3 := hgrow.size
          replace hx' : v'.ownBlock = u5.ownBlock ∨ v'.ownBlock = some (w2.alloc (.cells ([.string x.name, .int .i64 lk, .int .u32 ls.1, .int .u32 ls.2, .bool lneg, .int .i64 llo, .int .i64 lhi, .slice lA ln lc, .int .i64 qk, .int .u32 qs.1, .int .u32 qs.2, .bool qneg, .int .i64 qlo, .int .i64 qhi, .slice qA qn qc, .slice A3 x.ifs.length c3, .slice A4 x.outs.length c4, .int .i64 x.mode] : List Value).toArray 62)).heap.size := hx'
          replace hgrow : (w2.alloc (.cells ([.string x.name, .int .i64 lk, .int .u32 ls.1, .int .u32 ls.2, .bool lneg, .int .i64 llo, .int .i64 lhi, .slice lA ln lc, .int .i64 qk, .int .u32 qs.1, .int .u32 qs.2, .bool qneg, .int .i64 qlo, .int .i64 qhi, .slice qA qn qc, .slice A3 x.ifs.length c3, .slice A4 x.outs.length c4, .int .i64 x.mode] : List Value).toArray 62)).grownBy w3 u5.ownBlock := hgrow
          have hcell3 : ∀ q : Addr, q.block < w2.heap.size → some q.block ≠ u5.ownBlock → w3.cell? q = w2.cell? q := fun q hq hne => by
            unfold World.cell?
            rw [hgrow.block q.block (by simp; omega) hne, Below.heap_alloc _ _ _ hq]
          have hnew : ∀ c, c < w2.heap.size → u5.ownBlock ≠ some c → v'.ownBlock ≠ some c := fun c hc hne e => by
            rcases hx' with hx' | hx'
            · exact hne (by rw [← hx', e])
            · rw [e] at hx'
              injection hx' with hx'
              simp at hx'; omega
          have hold : RowsF LawF w2 (fun b => w.heap.size ≤ b ∧ b < w2.heap.size ∧ u5.ownBlock ≠ some b) l xs := HPATS.out.imp fun y cy hy => hy.keep (fun c hc => ⟨hc.1, by omega, hc.2.2⟩) (fun q hq => by unfold World.cell?; rw [H4.out.block q.block hq.2.1 (by simp; omega)])
          have hp1 : LawF w2 (fun b => w.heap.size ≤ b ∧ b < w2.heap.size ∧ u5.ownBlock ≠ some b) x [.string x.name, .int .i64 lk, .int .u32 ls.1, .int .u32 ls.2, .bool lneg, .int .i64 llo, .int .i64 lhi, .slice lA ln lc, .int .i64 qk, .int .u32 qs.1, .int .u32 qs.2, .bool qneg, .int .i64 qlo, .int .i64 qhi, .slice qA qn qc, .slice A3 x.ifs.length c3, .slice A4 x.outs.length c4, .int .i64 x.mode] := HPF.out.keep (fun c hc => ⟨by omega, hc.2, fun e => by have := (HOWN.out.lt c e).2; omega⟩) (fun _ _ => rfl)
          have hall : RowsF LawF w3 (fun b => w.heap.size ≤ b ∧ b < w3.heap.size ∧ v'.ownBlock ≠ some b) (l ++ [x]) (xs ++ [.string x.name, .int .i64 lk, .int .u32 ls.1, .int .u32 ls.2, .bool lneg, .int .i64 llo, .int .i64 lhi, .slice lA ln lc, .int .i64 qk, .int .u32 qs.1, .int .u32 qs.2, .bool qneg, .int .i64 qlo, .int .i64 qhi, .slice qA qn qc, .slice A3 x.ifs.length c3, .slice A4 x.outs.length c4, .int .i64 x.mode]) := (RowsF.append hp1 hold).imp fun y cy hy => hy.keep (fun c hc => ⟨hc.1, by simp at hsz3; omega, hnew c hc.2.1 hc.2.2⟩) (fun q hq => hcell3 q hq.2.1 (fun e => hq.2.2 e.symm))
          clear hgrow hx' hcell3 hnew hold hp1
          go_roundw
          case rel => exact ⟨k + 1, l ++ [x], _, b', by omega, by go_num, by rw [List.length_append, HLL.out]; rfl, hown', hall, HP.out, hr3, hc3⟩
          case measure => simp [Lib.intOf]; omega
      · obtain rfl : k = n := by omega
        go_wp2
        go_ret
        rw [Nat.sub_self] at hpre
        have e : o = some (l, b) := by rw [← hpre]; simp [preO, manyR]
        subst e
        have hown := HOWN.out
        rw [← HLL.out] at hown
        exact ⟨HCH.out, _, rfl, slF_own hown (fun b hb => HOWN.out.lt b hb) (HPATS.out.imp fun y cy hy => hy.keep (fun c hc => ⟨hc.1, hc.2.1⟩) (fun _ _ => rfl)), HR.out⟩
end Go.Proofs.YtmepaeahchiglaaGreatDoor
