/-
  layer 43: lists, read by the program. Conditions: bytes that can be read. (Printed by pjsome.py.)
-/
import Derived.Test.YtmepaeahchiglaaGreatDoorZbaw
import Derived.Test.YtmepaeahchiglaaGreatDoorZbPjGc
import Derived.Test.YtmepaeahchiglaaGreatDoorZbPjGb1
import Derived.Test.YtmepaeahchiglaaGreatDoorZbPjGb2
namespace Go.Proofs.YtmepaeahchiglaaGreatDoor
open Go.RowKit Go.Lib

set_option linter.unusedSimpArgs false in
set_option linter.unusedVariables false in
set_option maxRecDepth 20000 in
set_option maxHeartbeats 4000000 in
theorem someF_any (w : World) (g : Nat) (bs : List Nat) (h : Rd w g bs)
    (hget : ∀ (W : World) (b : List Nat), Rd W g b → Chg [g] w W → Calls Tryz.prog 116 #[wptr g] W (ElPost g FormF aggM W (formR b))) :
    Calls Tryz.prog 115 #[wptr g, .func (.func 116) #[wptr g] #[]] w (LsPost g 2 FormF w (someR formR bs)) := by
  obtain ⟨i0, hi, hz0, hz1, hz2⟩ := info_parts (show (Tryz.prog.info? 82).map (fun i => (i.zero, i.size, i.bytes)) = some (some (.agg #[.bool false, .slice none 0 0]), 2, 32) by kernel_rfl)
  have hgl := h.lt
  have HGET := Lib.hid hget
  clear hget
  unfold someR
  cases hr : countR bs with
  | none =>
    have hc := rcount_none h hr
    rw [thenR_none hr]
    clear h hr
    go_enter Tryz.func115, Tryz.ntmps115
    go_wp2_with fail
    refine hc.mono ?_
    rintro e w1 ⟨rfl, h1⟩
    exact ⟨rfl, h1, rfl⟩
  | some q =>
    obtain ⟨n, r⟩ := q
    have hc := rcount_some h hr
    have hn := countR_le hr
    rw [thenR_some hr]
    obtain ⟨o, ho⟩ : ∃ o, manyR formR n r = o := ⟨_, rfl⟩
    rw [ho]
    have HO := Lib.hid ho
    clear h hr ho
    go_enter Tryz.func115, Tryz.ntmps115
    go_wp2_with fail
    refine hc.mono ?_
    rintro e w1 ⟨rfl, h1, h2⟩
    have hn30 : n ≤ 1073741824 := Nat.le_trans hn h1.bytes
    have H1 := Lib.hid h1; have H2 := Lib.hid h2
    clear h1 h2 hc
    go_wp2
    go_loopw [5, 8] (fun v i wr => ∃ k : Nat, ∃ l : List (Fm), ∃ xs : List Value, ∃ b : List Nat, k ≤ n ∧ i = .int .i64 k ∧ l.length = k ∧ wr.ownsRow w.heap.size 82 2 v k xs ∧ RowsF FormF wr (fun b => w.heap.size ≤ b ∧ b < wr.heap.size ∧ v.ownBlock ≠ some b) l xs ∧ preO l (manyR formR (n - k) b) = o ∧ Rd wr g b ∧ Chg [g] w wr) (fun _ i _ => n - (Lib.intOf i).toNat)
    case atStart => exact ⟨0, [], [], r, by omega, rfl, rfl, World.ownsRow_nil _ _ _ _, rfl, by rw [preO_nil]; exact HO.out, H1.out, H2.out⟩
    case round =>
      obtain ⟨k, l, xs, b, hk, rfl, hll, hown, hpats, hpre, hr, hch⟩ := hrel
      have HLL := Lib.hid hll; have HOWN := Lib.hid hown; have HPATS := Lib.hid hpats; have HR := Lib.hid hr; have HCH := Lib.hid hch
      have hsz := hch.size
      clear hll hown hpats hr hch
      by_cases hkn : k < n
      · have hkI : (k : Int) < n := by omega
        rw [show n - k = (n - (k + 1)) + 1 by omega] at hpre
        have hcall := HGET.out wr b HR.out HCH.out
        cases hs : formR b with
        | none =>
          rw [preO_none _ hs] at hpre
          rw [hs] at hcall
          subst hpre
          have HCALL := Lib.hid hcall
          clear hs hcall
          go_wp2_with fail
          refine HCALL.out.mono ?_
          rintro e w2 ⟨hc2, rfl⟩
          exact ⟨rfl, HCH.out.trans hc2, rfl⟩
        | some q =>
          obtain ⟨x, b'⟩ := q
          rw [preO_some _ hs] at hpre
          rw [hs] at hcall
          have HP := Lib.hid hpre; have HCALL := Lib.hid hcall
          clear hs hpre hcall
          go_wp2_with fail
          refine HCALL.out.mono ?_
          rintro e w2 ⟨hc2, cs1, rfl, hpf, hr2⟩
          obtain ⟨v9, rfl, hsl9⟩ := hpf
          obtain ⟨A9, c9, rfl⟩ := hsl9.form
          have hpf : FormF w2 (NewS wr w2) x [.bool x.has, .slice A9 x.w.length c9] := ⟨_, rfl, hsl9⟩
          have hone : ∀ u ∈ ([.bool x.has, .slice A9 x.w.length c9] : List Value), u.oneCell' = true := by
            intro u hu
            simp only [List.mem_cons, List.not_mem_nil, or_false] at hu
            rcases hu with rfl | rfl <;> rfl
          have hown2 := own_chg HOWN.out hc2 (fun j hj hm => by
            have := HOWN.out.lt j hj
            simp at hm; omega)
          have hrn := reads_newk w2 82 [.bool x.has, .slice A9 x.w.length c9] 2 1 rfl
          have hsz2 := hc2.size
          have H3 := Lib.hid hr2; have H4 := Lib.hid hc2; have HOWN2 := Lib.hid hown2; have HRN := Lib.hid hrn; have HPF := Lib.hid (show FormF w2 (NewS wr w2) x [.bool x.has, .slice A9 x.w.length c9] from hpf); have HONE := Lib.hid hone
          clear hr2 hc2 hown2 hrn hpf hsl9 hone
          go_wp2_with (at_builtin; refine wpList_append_any _ rfl _ _ 30 rfl w.heap.size 82 i0 (.agg #[.bool false, .slice none 0 0]) 2 32 Tryz.underlying30 hi hz0 hz1 hz2 rfl (by decide) _ _ _ rfl (HOWN2.out.alloc _) _ _ _ _ [.bool x.has, .slice A9 x.w.length c9] rfl HRN.out HONE.out (by unfold maxLen; omega) (by omega) (by simp; omega) ?_; intro v' w3 hown' hgrow hx')
          have hc3 : Chg [g] w w3 := ((HCH.out.trans H4.out).alloc _).grown hgrow (fun j hj => (HOWN2.out.lt j hj).1)
          have hr3 : Rd w3 g b' := (H3.out.alloc _).grown hgrow (fun j hj => by have := (HOWN2.out.lt j hj).1; omega)
          have hsz3 := hgrow.size
          replace hx' : v'.ownBlock = u5.ownBlock ∨ v'.ownBlock = some (w2.alloc (.cells ([.bool x.has, .slice A9 x.w.length c9] : List Value).toArray 82)).heap.size := hx'
          replace hgrow : (w2.alloc (.cells ([.bool x.has, .slice A9 x.w.length c9] : List Value).toArray 82)).grownBy w3 u5.ownBlock := hgrow
          have hcell3 : ∀ q : Addr, q.block < w2.heap.size → some q.block ≠ u5.ownBlock → w3.cell? q = w2.cell? q := fun q hq hne => by
            unfold World.cell?
            rw [hgrow.block q.block (by simp; omega) hne, Below.heap_alloc _ _ _ hq]
          have hnew : ∀ c, c < w2.heap.size → u5.ownBlock ≠ some c → v'.ownBlock ≠ some c := fun c hc hne e => by
            rcases hx' with hx' | hx'
            · exact hne (by rw [← hx', e])
            · rw [e] at hx'
              injection hx' with hx'
              simp at hx'; omega
          have hold : RowsF FormF w2 (fun b => w.heap.size ≤ b ∧ b < w2.heap.size ∧ u5.ownBlock ≠ some b) l xs := HPATS.out.imp fun y cy hy => hy.keep (fun c hc => ⟨hc.1, by omega, hc.2.2⟩) (fun q hq => by unfold World.cell?; rw [H4.out.block q.block hq.2.1 (by simp; omega)])
          have hp1 : FormF w2 (fun b => w.heap.size ≤ b ∧ b < w2.heap.size ∧ u5.ownBlock ≠ some b) x [.bool x.has, .slice A9 x.w.length c9] := HPF.out.keep (fun c hc => ⟨by omega, hc.2, fun e => by have := (HOWN.out.lt c e).2; omega⟩) (fun _ _ => rfl)
          have hall : RowsF FormF w3 (fun b => w.heap.size ≤ b ∧ b < w3.heap.size ∧ v'.ownBlock ≠ some b) (l ++ [x]) (xs ++ [.bool x.has, .slice A9 x.w.length c9]) := (RowsF.append hp1 hold).imp fun y cy hy => hy.keep (fun c hc => ⟨hc.1, by simp at hsz3; omega, hnew c hc.2.1 hc.2.2⟩) (fun q hq => hcell3 q hq.2.1 (fun e => hq.2.2 e.symm))
          clear hgrow hx' hcell3 hnew hold hp1
          go_roundw
          case rel => exact ⟨k + 1, l ++ [x], _, b', by omega, by go_num, by rw [List.length_append, HLL.out]; rfl, hown', hall, HP.out, hr3, hc3⟩
          case measure => simp [Lib.intOf]; omega
      · obtain rfl : k = n := by omega
        go_wp2
        go_ret
        rw [Nat.sub_self] at hpre
        have e : o = some (l, b) := by rw [← hpre]; simp [preO, manyR]
        subst e
        have hown := HOWN.out
        rw [← HLL.out] at hown
        exact ⟨HCH.out, _, rfl, slF_own hown (fun b hb => HOWN.out.lt b hb) (HPATS.out.imp fun y cy hy => hy.keep (fun c hc => ⟨hc.1, hc.2.1⟩) (fun _ _ => rfl)), HR.out⟩
set_option linter.unusedSimpArgs false in
set_option linter.unusedVariables false in
set_option maxRecDepth 20000 in
set_option maxHeartbeats 4000000 in
theorem someE_any (w : World) (g b2 : Nat) (bs : List Nat) (h : Rd w g bs)
    (hget : ∀ (W : World) (b : List Nat), Rd W g b → Chg [g] w W → Calls Tryz.prog 118 #[wptr b2] W (ElPost g EnF aggM W (enR b))) :
    Calls Tryz.prog 117 #[wptr g, .func (.func 118) #[] #[wptr b2]] w (LsPost g 2 EnF w (someR enR bs)) := by
  obtain ⟨i0, hi, hz0, hz1, hz2⟩ := info_parts (show (Tryz.prog.info? 84).map (fun i => (i.zero, i.size, i.bytes)) = some (some (.agg #[.string ⟨#[]⟩, .slice none 0 0]), 2, 40) by kernel_rfl)
  have hgl := h.lt
  have HGET := Lib.hid hget
  clear hget
  unfold someR
  cases hr : countR bs with
  | none =>
    have hc := rcount_none h hr
    rw [thenR_none hr]
    clear h hr
    go_enter Tryz.func117, Tryz.ntmps117
    go_wp2_with fail
    refine hc.mono ?_
    rintro e w1 ⟨rfl, h1⟩
    exact ⟨rfl, h1, rfl⟩
  | some q =>
    obtain ⟨n, r⟩ := q
    have hc := rcount_some h hr
    have hn := countR_le hr
    rw [thenR_some hr]
    obtain ⟨o, ho⟩ : ∃ o, manyR enR n r = o := ⟨_, rfl⟩
    rw [ho]
    have HO := Lib.hid ho
    clear h hr ho
    go_enter Tryz.func117, Tryz.ntmps117
    go_wp2_with fail
    refine hc.mono ?_
    rintro e w1 ⟨rfl, h1, h2⟩
    have hn30 : n ≤ 1073741824 := Nat.le_trans hn h1.bytes
    have H1 := Lib.hid h1; have H2 := Lib.hid h2
    clear h1 h2 hc
    go_wp2
    go_loopw [5, 8] (fun v i wr => ∃ k : Nat, ∃ l : List (En), ∃ xs : List Value, ∃ b : List Nat, k ≤ n ∧ i = .int .i64 k ∧ l.length = k ∧ wr.ownsRow w.heap.size 84 2 v k xs ∧ RowsF EnF wr (fun b => w.heap.size ≤ b ∧ b < wr.heap.size ∧ v.ownBlock ≠ some b) l xs ∧ preO l (manyR enR (n - k) b) = o ∧ Rd wr g b ∧ Chg [g] w wr) (fun _ i _ => n - (Lib.intOf i).toNat)
    case atStart => exact ⟨0, [], [], r, by omega, rfl, rfl, World.ownsRow_nil _ _ _ _, rfl, by rw [preO_nil]; exact HO.out, H1.out, H2.out⟩
    case round =>
      obtain ⟨k, l, xs, b, hk, rfl, hll, hown, hpats, hpre, hr, hch⟩ := hrel
      have HLL := Lib.hid hll; have HOWN := Lib.hid hown; have HPATS := Lib.hid hpats; have HR := Lib.hid hr; have HCH := Lib.hid hch
      have hsz := hch.size
      clear hll hown hpats hr hch
      by_cases hkn : k < n
      · have hkI : (k : Int) < n := by omega
        rw [show n - k = (n - (k + 1)) + 1 by omega] at hpre
        have hcall := HGET.out wr b HR.out HCH.out
        cases hs : enR b with
        | none =>
          rw [preO_none _ hs] at hpre
          rw [hs] at hcall
          subst hpre
          have HCALL := Lib.hid hcall
          clear hs hcall
          go_wp2_with fail
          refine HCALL.out.mono ?_
          rintro e w2 ⟨hc2, rfl⟩
          exact ⟨rfl, HCH.out.trans hc2, rfl⟩
        | some q =>
          obtain ⟨x, b'⟩ := q
          rw [preO_some _ hs] at hpre
          rw [hs] at hcall
          have HP := Lib.hid hpre; have HCALL := Lib.hid hcall
          clear hs hpre hcall
          go_wp2_with fail
          refine HCALL.out.mono ?_
          rintro e w2 ⟨hc2, cs1, rfl, hpf, hr2⟩
          obtain ⟨v9, rfl, hsl9⟩ := hpf
          obtain ⟨A9, c9, rfl⟩ := hsl9.form
          have hpf : EnF w2 (NewS wr w2) x [.string x.gloss, .slice A9 x.forms.length c9] := ⟨_, rfl, hsl9⟩
          have hone : ∀ u ∈ ([.string x.gloss, .slice A9 x.forms.length c9] : List Value), u.oneCell' = true := by
            intro u hu
            simp only [List.mem_cons, List.not_mem_nil, or_false] at hu
            rcases hu with rfl | rfl <;> rfl
          have hown2 := own_chg HOWN.out hc2 (fun j hj hm => by
            have := HOWN.out.lt j hj
            simp at hm; omega)
          have hrn := reads_newk w2 84 [.string x.gloss, .slice A9 x.forms.length c9] 2 1 rfl
          have hsz2 := hc2.size
          have H3 := Lib.hid hr2; have H4 := Lib.hid hc2; have HOWN2 := Lib.hid hown2; have HRN := Lib.hid hrn; have HPF := Lib.hid (show EnF w2 (NewS wr w2) x [.string x.gloss, .slice A9 x.forms.length c9] from hpf); have HONE := Lib.hid hone
          clear hr2 hc2 hown2 hrn hpf hsl9 hone
          go_wp2_with (at_builtin; refine wpList_append_any _ rfl _ _ 31 rfl w.heap.size 84 i0 (.agg #[.string ⟨#[]⟩, .slice none 0 0]) 2 40 Tryz.underlying31 hi hz0 hz1 hz2 rfl (by decide) _ _ _ rfl (HOWN2.out.alloc _) _ _ _ _ [.string x.gloss, .slice A9 x.forms.length c9] rfl HRN.out HONE.out (by unfold maxLen; omega) (by omega) (by simp; omega) ?_; intro v' w3 hown' hgrow hx')
          have hc3 : Chg [g] w w3 := ((HCH.out.trans H4.out).alloc _).grown hgrow (fun j hj => (HOWN2.out.lt j hj).1)
          have hr3 : Rd w3 g b' := (H3.out.alloc _).grown hgrow (fun j hj => by have := (HOWN2.out.lt j hj).1; omega)
          have hsz3 := hgrow.size
          replace hx' : v'.ownBlock = u5.ownBlock ∨ v'.ownBlock = some (w2.alloc (.cells ([.string x.gloss, .slice A9 x.forms.length c9] : List Value).toArray 84)).heap.size := hx'
          replace hgrow : (w2.alloc (.cells ([.string x.gloss, .slice A9 x.forms.length c9] : List Value).toArray 84)).grownBy w3 u5.ownBlock := hgrow
          have hcell3 : ∀ q : Addr, q.block < w2.heap.size → some q.block ≠ u5.ownBlock → w3.cell? q = w2.cell? q := fun q hq hne => by
            unfold World.cell?
            rw [hgrow.block q.block (by simp; omega) hne, Below.heap_alloc _ _ _ hq]
          have hnew : ∀ c, c < w2.heap.size → u5.ownBlock ≠ some c → v'.ownBlock ≠ some c := fun c hc hne e => by
            rcases hx' with hx' | hx'
            · exact hne (by rw [← hx', e])
            · rw [e] at hx'
              injection hx' with hx'
              simp at hx'; omega
          have hold : RowsF EnF w2 (fun b => w.heap.size ≤ b ∧ b < w2.heap.size ∧ u5.ownBlock ≠ some b) l xs := HPATS.out.imp fun y cy hy => hy.keep (fun c hc => ⟨hc.1, by omega, hc.2.2⟩) (fun q hq => by unfold World.cell?; rw [H4.out.block q.block hq.2.1 (by simp; omega)])
          have hp1 : EnF w2 (fun b => w.heap.size ≤ b ∧ b < w2.heap.size ∧ u5.ownBlock ≠ some b) x [.string x.gloss, .slice A9 x.forms.length c9] := HPF.out.keep (fun c hc => ⟨by omega, hc.2, fun e => by have := (HOWN.out.lt c e).2; omega⟩) (fun _ _ => rfl)
          have hall : RowsF EnF w3 (fun b => w.heap.size ≤ b ∧ b < w3.heap.size ∧ v'.ownBlock ≠ some b) (l ++ [x]) (xs ++ [.string x.gloss, .slice A9 x.forms.length c9]) := (RowsF.append hp1 hold).imp fun y cy hy => hy.keep (fun c hc => ⟨hc.1, by simp at hsz3; omega, hnew c hc.2.1 hc.2.2⟩) (fun q hq => hcell3 q hq.2.1 (fun e => hq.2.2 e.symm))
          clear hgrow hx' hcell3 hnew hold hp1
          go_roundw
          case rel => exact ⟨k + 1, l ++ [x], _, b', by omega, by go_num, by rw [List.length_append, HLL.out]; rfl, hown', hall, HP.out, hr3, hc3⟩
          case measure => simp [Lib.intOf]; omega
      · obtain rfl : k = n := by omega
        go_wp2
        go_ret
        rw [Nat.sub_self] at hpre
        have e : o = some (l, b) := by rw [← hpre]; simp [preO, manyR]
        subst e
        have hown := HOWN.out
        rw [← HLL.out] at hown
        exact ⟨HCH.out, _, rfl, slF_own hown (fun b hb => HOWN.out.lt b hb) (HPATS.out.imp fun y cy hy => hy.keep (fun c hc => ⟨hc.1, hc.2.1⟩) (fun _ _ => rfl)), HR.out⟩
end Go.Proofs.YtmepaeahchiglaaGreatDoor
namespace Go.Proofs.YtmepaeahchiglaaGreatDoor
open Go.RowKit Go.Lib

theorem someForm_ls (w : World) (g : Nat) (bs : List Nat) (h : Rd w g bs) :
    Calls Tryz.prog 115 #[wptr g, .func (.func 116) #[wptr g] #[]] w (LsPost g 2 FormF w (someR formR bs)) :=
  someF_any w g bs h fun W b hW _ => form_el W g b hW
set_option linter.unusedSimpArgs false in
set_option maxRecDepth 20000 in
set_option maxHeartbeats 2000000 in
theorem entry_el (w : World) (g b2 : Nat) (bs : List Nat) (h : Rd w g bs) (h2 : Blk w b2 104 #[wptr g]) :
    Calls Tryz.prog 118 #[wptr b2] w (ElPost g EnF aggM w (enR bs)) := by
  have hs := CSt.start h h2 84 #[.string ⟨#[]⟩, .slice none 0 0]
  have hp := hs.ptr
  obtain ⟨o, ho⟩ : ∃ o, enR bs = o := ⟨_, rfl⟩
  rw [ho]
  unfold enR at ho
  have HS := Lib.hid hs
  clear hs h h2
  go_enter Tryz.func118, Tryz.ntmps118
  go_wp2_with fail
  cases hr0 : textR bs with
  | none =>
    rw [thenR_none hr0] at ho
    subst ho
    refine (rtext_none HS.out.rd hr0).mono ?_
    rintro e w1 ⟨rfl, h1⟩
    exact ⟨rfl, HS.out.ch.trans h1, rfl⟩
  | some q =>
    obtain ⟨s, r0⟩ := q
    rw [thenR_some hr0] at ho
    have hc := rtext_some HS.out.rd hr0
    clear hr0
    refine hc.mono ?_
    rintro e w1 ⟨rfl, h1, h2⟩
    have hs1 := HS.out.chg h2 h1
    have hp1 := hs1.ptr
    have hcall := someForm_ls w1 g r0 hs1.rd
    have HS1 := Lib.hid hs1
    clear h1 h2 hs1 hp HS hc
    cases hr1 : someR formR r0 with
    | none =>
      rw [hr1] at hcall
      rw [thenR_none hr1] at ho
      subst ho
      have HCALL := Lib.hid hcall
      clear hcall hr1
      go_wp2_with fail
      refine HCALL.out.mono ?_
      rintro e w2 ⟨h1, rfl⟩
      exact ⟨rfl, HS1.out.ch.trans h1, rfl⟩
    | some q =>
      obtain ⟨l, r1⟩ := q
      rw [hr1] at hcall
      rw [thenR_some hr1] at ho
      have HCALL := Lib.hid hcall; have HO := Lib.hid ho
      clear hcall hr1 ho
      go_wp2_with fail
      refine HCALL.out.mono ?_
      rintro e w2 ⟨h1, v, rfl, h2, h3⟩
      obtain ⟨A, c, rfl⟩ := h2.form
      have hsw := HS1.out.rs.lt
      have hs2 := HS1.out.chg h1 h3
      obtain ⟨⟨c0, c1⟩, f0, f1⟩ := hs2.two
      have hf := ((hs2.set_ 0 (.string s)).set_ 1 (.slice A l.length c))
      simp only [List.setIfInBounds_toArray, List.set_cons_zero, List.set_cons_succ] at hf
      have hcc : Chg [w.heap.size] w2 ((w2.setCell ⟨w.heap.size, 0, none⟩ (.string s)).setCell ⟨w.heap.size, 1, none⟩ (.slice A l.length c)) := ((Chg.refl _ _).setCell (.inl (by simp)) _).setCell (.inl (by simp)) _
      have hsc := hcc.size
      have hcell : ∀ q : Addr, NewS w1 w2 q.block → ((w2.setCell ⟨w.heap.size, 0, none⟩ (.string s)).setCell ⟨w.heap.size, 1, none⟩ (.slice A l.length c)).cell? q = w2.cell? q := fun q hq => by
        unfold World.cell?
        rw [hcc.block q.block hq.2 (by have := hq.1; simp; omega)]
      have hnew : ∀ b, NewS w1 w2 b → NewS w ((w2.setCell ⟨w.heap.size, 0, none⟩ (.string s)).setCell ⟨w.heap.size, 1, none⟩ (.slice A l.length c)) b := fun b hb => ⟨by have := hb.1; omega, by have := hb.2; omega⟩
      have hfin : ElPost g EnF aggM w (some ((⟨s, l⟩ : En), r1)) (.returned (aggM [.string s, .slice A l.length c])) ((w2.setCell ⟨w.heap.size, 0, none⟩ (.string s)).setCell ⟨w.heap.size, 1, none⟩ (.slice A l.length c)) :=
        ⟨hf.ch, _, rfl, ⟨_, rfl, h2.imp hnew hcell fun _ _ hy => hy.keep hnew hcell⟩, hf.rd⟩
      have HF := Lib.hid hf; have HFIN := Lib.hid hfin
      clear h1 h2 h3 hs2 hp1 HS1 hf hcc hsc hcell hnew hfin
      go_wp2
      obtain ⟨⟨d0, d1⟩, -⟩ := HF.out.two
      have ho := HO.out
      subst ho
      exact bodyPost_ret (by simp [results, Tryz.results118, go_sem, d0, d1]) rfl HFIN.out
/-! A thing of several fields: the block of the reader's pointer, the result's block, the thing's. -/
structure PjSt (w W : World) (g : Nat) (r : List Nat) (t : TypeId) (zs cs : Array Value) : Prop where
  ch : Chg [g] w W
  rd : Rd W g r
  cb : Blk W w.heap.size 104 #[wptr g]
  rs : Blk W (w.heap.size + 1) t zs
  bx : Blk W (w.heap.size + 1 + 1) t cs
  gw : g < w.heap.size
abbrev New3 (w W : World) : Nat → Prop := fun b => w.heap.size + 3 ≤ b ∧ b < W.heap.size
section
variable {w W W' : World} {g : Nat} {r r' : List Nat} {t : TypeId} {zs cs : Array Value}
theorem PjSt.start (h : Rd w g r) (t : TypeId) (zs : Array Value) : PjSt w (((w.alloc (.cells #[wptr g] 104)).alloc (.cells zs t)).alloc (.cells zs t)) g r t zs zs := by
  have x1 := Blk.new (w.alloc (.cells #[wptr g] 104)) t zs
  have x2 := Blk.new ((w.alloc (.cells #[wptr g] 104)).alloc (.cells zs t)) t zs
  rw [World.size_alloc] at x1 x2
  rw [World.size_alloc] at x2
  exact ⟨(((Chg.refl _ w).alloc _).alloc _).alloc _, ((h.alloc _).alloc _).alloc _, ((Blk.new w _ _).alloc _).alloc _, x1.alloc _, x2, h.lt⟩
theorem PjSt.chg (h : PjSt w W g r t zs cs) (hc : Chg [g] W W') (hr : Rd W' g r') : PjSt w W' g r' t zs cs := by
  have h1 := h.gw
  exact ⟨h.ch.trans hc, hr, h.cb.chg hc (by simp; omega), h.rs.chg hc (by simp; omega), h.bx.chg hc (by simp; omega), h1⟩
theorem PjSt.set_ (h : PjSt w W g r t zs cs) (i : Nat) (u : Value) : PjSt w (W.setCell ⟨w.heap.size + 1 + 1, i, none⟩ u) g r t zs (cs.setIfInBounds i u) := by
  have h1 := h.gw
  have hc : Chg [w.heap.size + 1 + 1] W (W.setCell ⟨w.heap.size + 1 + 1, i, none⟩ u) := (Chg.refl _ _).setCell (.inl (by simp)) u
  exact ⟨h.ch.new hc (fun j hj => .inr (by simp at hj; omega)), h.rd.chg hc (by simp; omega), h.cb.chg hc (by simp only [List.mem_singleton]; omega), h.rs.chg hc (by simp only [List.mem_singleton]; omega), h.bx.set_ i u, h1⟩
theorem PjSt.setr (h : PjSt w W g r t zs cs) (i : Nat) (u : Value) : PjSt w (W.setCell ⟨w.heap.size + 1, i, none⟩ u) g r t (zs.setIfInBounds i u) cs := by
  have h1 := h.gw
  have hc : Chg [w.heap.size + 1] W (W.setCell ⟨w.heap.size + 1, i, none⟩ u) := (Chg.refl _ _).setCell (.inl (by simp)) u
  exact ⟨h.ch.new hc (fun j hj => .inr (by simp at hj; omega)), h.rd.chg hc (by simp; omega), h.cb.chg hc (by simp only [List.mem_singleton]; omega), h.rs.set_ i u, h.bx.chg hc (by simp only [List.mem_singleton]; omega), h1⟩
theorem PjSt.drew (h : PjSt w W g r t zs cs) : PjSt w W.drew g r t zs cs := ⟨h.ch.drew, h.rd, h.cb, h.rs, h.bx, h.gw⟩
theorem PjSt.alloc (h : PjSt w W g r t zs cs) (o : Obj) : PjSt w (W.alloc o) g r t zs cs := ⟨h.ch.alloc o, h.rd.alloc o, h.cb.alloc o, h.rs.alloc o, h.bx.alloc o, h.gw⟩
theorem PjSt.grown {row : Option Nat} {B : Nat} (h : PjSt w W g r t zs cs) (hg : W.grownBy W' row) (hr : ∀ k, row = some k → B ≤ k) (hB : w.heap.size + 3 ≤ B) : PjSt w W' g r t zs cs := by
  have h1 := h.gw
  have hne : ∀ i, i < w.heap.size + 3 → some i ≠ row := fun i hi e => by have := hr i e.symm; omega
  exact ⟨h.ch.grown hg fun k hk => by have := hr k hk; omega, h.rd.grown hg fun k hk => by have := hr k hk; omega, h.cb.grown hg (hne _ (by omega)), h.rs.grown hg (hne _ (by omega)), h.bx.grown hg (hne _ (by omega)), h1⟩
theorem PjSt.ptr (h : PjSt w W g r t zs cs) : W.cell? ⟨w.heap.size, 0, none⟩ = some (wptr g) := by simpa using h.cb.cell 0
theorem PjSt.size (h : PjSt w W g r t zs cs) : w.heap.size + 3 ≤ W.heap.size := by have := h.bx.lt; omega
end
theorem someR_len {α : Type} {g : Rdr α} {b r : List Nat} {l : List α} (h : someR g b = some (l, r)) (hb : ∀ c ∈ b, c < 256) : l.length ≤ b.length := by
  obtain ⟨n, s, e1, e2⟩ := thenR_out (show thenR countR (fun n => manyR g n) b = some (l, r) from h)
  have h1 := (sure_count b n s hb e1).1
  have h2 : ∀ (n : Nat) (b : List Nat) (l : List α) (r : List Nat), manyR g n b = some (l, r) → l.length = n := by
    intro n
    induction n with
    | zero =>
      intro b l r h
      injection h with h
      obtain ⟨rfl, -⟩ := Prod.mk.inj h
      rfl
    | succ n ih =>
      intro b l r h
      obtain ⟨x, s, -, h⟩ := thenR_out (show thenR g (fun x => thenR (manyR g n) fun l r => some (x :: l, r)) b = some (l, r) from h)
      obtain ⟨l2, t, e2, h⟩ := thenR_out h
      injection h with h
      obtain ⟨rfl, -⟩ := Prod.mk.inj h
      rw [List.length_cons, ih _ _ _ e2]
  rw [h2 n s l r e2]
  exact h1
/-- What holds of cells holds later. -/
def KeepF {α : Type} (F : World → (Nat → Prop) → α → List Value → Prop) : Prop := ∀ (w w' : World) (S S' : Nat → Prop) (x : α) (cs : List Value), (∀ b, S b → S' b) → (∀ q : Addr, S q.block → w'.cell? q = w.cell? q) → F w S x cs → F w' S' x cs
theorem keep_plain {α : Type} (f : α → List Value) : KeepF (PlainF f) := fun _ _ _ _ _ _ _ _ h => h
theorem keep_law : KeepF LawF := fun _ _ _ _ _ _ hs hk h => h.keep hs hk
theorem keep_on : KeepF OnF := fun _ _ _ _ _ _ hs hk h => OnF.keep hs hk h
theorem keep_form : KeepF FormF := fun _ _ _ _ _ _ hs hk h => FormF.keep hs hk h
theorem keep_en : KeepF EnF := fun _ _ _ _ _ _ hs hk h => EnF.keep hs hk h
section
variable {α : Type} {F : World → (Nat → Prop) → α → List Value → Prop} {w w1 W W' : World} {T : List Nat} {k : Nat} {l : List α} {v : Value} {x : α} {cs : List Value}
theorem KeepF.later (hF : KeepF F) (h : F W (New3 w W) x cs) (hc : Chg T W W') (ht : ∀ i ∈ T, i < w.heap.size + 3) : F W' (New3 w W') x cs :=
  hF _ _ _ _ _ _ (fun b hb => ⟨hb.1, Nat.lt_of_lt_of_le hb.2 hc.size⟩) (fun q hq => by
    unfold World.cell?
    rw [hc.block q.block hq.2 (fun hm => by have := ht _ hm; have := hq.1; omega)]) h
theorem SlF.later3 (hF : KeepF F) (h : SlF F k W (New3 w W) l v) (hc : Chg T W W') (ht : ∀ i ∈ T, i < w.heap.size + 3) : SlF F k W' (New3 w W') l v := by
  have h1 : ∀ b, New3 w W b → New3 w W' b := fun b hb => ⟨hb.1, Nat.lt_of_lt_of_le hb.2 hc.size⟩
  have h2 : ∀ q : Addr, New3 w W q.block → W'.cell? q = W.cell? q := fun q hq => by
    unfold World.cell?
    rw [hc.block q.block hq.2 (fun hm => by have := ht _ hm; have := hq.1; omega)]
  exact h.imp h1 h2 fun _ _ hy => hF _ _ _ _ _ _ h1 h2 hy
theorem SlF.new3 (hF : KeepF F) (h : SlF F k W (NewS w1 W) l v) (hs : w.heap.size + 3 ≤ w1.heap.size) : SlF F k W (New3 w W) l v := by
  have h1 : ∀ b, NewS w1 W b → New3 w W b := fun b hb => ⟨by have := hb.1; omega, hb.2⟩
  exact h.imp h1 (fun _ _ => rfl) fun _ _ hy => hF _ _ _ _ _ _ h1 (fun _ _ => rfl) hy
end
theorem SlF.toNew {α : Type} {F : World → (Nat → Prop) → α → List Value → Prop} {w W : World} {k : Nat} {l : List α} {v : Value} (hF : KeepF F) (h : SlF F k W (New3 w W) l v) : SlF F k W (NewS w W) l v := by
  have h1 : ∀ b, New3 w W b → NewS w W b := fun b hb => ⟨by have := hb.1; omega, hb.2⟩
  exact h.imp h1 (fun _ _ => rfl) fun _ _ hy => hF _ _ _ _ _ _ h1 (fun _ _ => rfl) hy
end Go.Proofs.YtmepaeahchiglaaGreatDoor
