/-
 layer 43: the reference's reader of projects: forms, lists of forms. Conditions: bytes that can be read.
-/
import Derived.Test.YtmepaeahchiglaaGreatDoorZdam
import Derived.Test.YtmepaeahchiglaaGreatDoorZdaq
set_option maxRecDepth 20000
set_option maxHeartbeats 4000000
set_option linter.unusedSimpArgs false
set_option linter.unusedVariables false
namespace Go.Proofs.YtmepaeahchiglaaGreatDoor
open Go.RowKit Go.Lib
def wh {α : Type} (F : World → (Nat → Prop) → α → List Value → Prop) (mk : List Value → Value) (g : Nat) (all : List Nat) (bad : Bool) (w : World) (o : Option (α × List Nat)) (e : Ending) (w' : World) : Prop :=
 ∃ x cs at' aO, e = .returned (mk cs) ∧ F w' (dW w w') x cs ∧ av [g] w w' ∧ RS w' g all at' aO ∧ (bad = true → aO = true) ∧ (bad = false → eT x aO (all.drop at') o)
def KE {α : Type} (F : World → (Nat → Prop) → α → List Value → Prop) (k : Nat) (g : Nat) (all : List Nat) (bad : Bool) (w : World) (o : Option (List α × List Nat)) (e : Ending) (w' : World) : Prop :=
 ∃ l v at' aO, e = .returned v ∧ dw F k w' (dW w w') l v ∧ av [g] w w' ∧ RS w' g all at' aO ∧ (bad = true → aO = true) ∧ (bad = false → eT l aO (all.drop at') o)
theorem dO {α : Type} {x : α} {b : Bool} {r : List Nat} (hb : b = false) : eT x b r (some (x, r)) := ⟨rfl, hb, rfl⟩
def nS {α : Type} (get : Rdr α) (n at0 : Nat) (all : List Nat) (b0 b' : Bool) (l : List α) (j at' : Nat) : Prop := (b0 = true → b' = true) ∧ (b0 = false → (b' = true → manyR get n (all.drop at0) = none) ∧ (b' = false → jO l (manyR get (n - j) (all.drop at')) = manyR get n (all.drop at0)))
section
variable {α : Type} {get : Rdr α} {n at0 at' at5 j : Nat} {all : List Nat} {b0 b' b5 : Bool} {l : List α} {x : α}
theorem nS.start (get : Rdr α) (n at0 : Nat) (all : List Nat) (b0 : Bool) : nS get n at0 all b0 b0 [] 0 at0 :=
 ⟨id, fun hb => ⟨fun h => (by rw [hb] at h; cases h), fun _ => by rw [jD]; rfl⟩⟩
theorem nS.next (h : nS get n at0 all b0 false l j at') (hj : j < n) (hg : eT x b5 (all.drop at5) (get (all.drop at'))) : nS get n at0 all b0 b5 (l ++ [x]) (j + 1) at5 := by
 refine ⟨fun hb => (by have := h.1 hb; cases this), fun hb => ?_⟩
 have h1 := (h.2 hb).2 rfl
 rw [show n - j = (n - (j + 1)) + 1 by omega] at h1
 cases hx : get (all.drop at') with
 | none =>
   rw [hx] at hg
   rw [iB _ hx] at h1
   exact ⟨(fun _ => h1.symm), (fun h => by have hg' : b5 = true := hg; rw [hg'] at h; cases h)⟩
 | some y =>
   obtain ⟨y, r⟩ := y
   rw [hx] at hg
   obtain ⟨rfl, hb5, rfl⟩ := hg
   rw [iA _ hx] at h1
   exact ⟨(fun h => by rw [hb5] at h; cases h), (fun _ => h1)⟩
theorem nS.last (h : nS get n at0 all b0 b' l j at') (hj : j = n ∨ b' = true) (hb : b0 = false) : eT l b' (all.drop at') (manyR get n (all.drop at0)) := by
 obtain ⟨i1, i2⟩ := h.2 hb
 cases bE : b' with
 | true => rw [i1 bE]; rfl
 | false =>
   have hjn : j = n := by
    rcases hj with h | h
    ·exact h
    ·rw [bE] at h; cases h
   have := i2 bE
   rw [hjn, Nat.sub_self] at this
   have e : manyR get n (all.drop at0) = some (l, all.drop at') := by rw [← this]; simp [jO, manyR]
   rw [e]
   exact ⟨rfl, rfl, rfl⟩
end
theorem vN {α : Type} {get : Rdr α} {n at1 at' j : Nat} {all : List Nat} {bad bad1 b' : Bool} {l : List α} {at0 : Nat} (hm : bad = false → match countR (all.drop at0) with
 | some (m, r) => n = m ∧ bad1 = false ∧ all.drop at1 = r
 | none => bad1 = true) (hi : nS get n at1 all bad1 b' l j at') (hj : j = n ∨ b' = true) (hb : bad = false) : eT l b' (all.drop at') (someR get (all.drop at0)) := by
 have h := hm hb
 unfold someR
 cases hc : countR (all.drop at0) with
 | none =>
   rw [hc] at h
   rw [thenR_none hc]
   exact hi.1 h
 | some q =>
   obtain ⟨m, r⟩ := q
   rw [hc] at h
   obtain ⟨rfl, hb1, rfl⟩ := h
   rw [thenR_some hc]
   exact hi.last hj hb1
theorem Gi (w : World) (g at_ : Nat) (all : List Nat) (bad : Bool) (h : RS w g all at_ bad) :
 Calls Tryz.prog 122 #[af g] w (wh bP fo g all bad w (gG (all.drop at_))) := by
 have hrs := Blk.new w 82 #[.bool false, .slice none 0 0]
 have bQ := (av.refl [g] w).alloc (.cells #[.bool false, .slice none 0 0] 82)
 have hc := xQ _ g at_ all bad (h.alloc (.cells #[.bool false, .slice none 0 0] 82))
 have hgw := h.lt
 obtain ⟨o, ho⟩ : ∃ o, gG (all.drop at_) = o := ⟨_, rfl⟩
 rw [ho]
 have zT := qh hrs; have bz := qh bQ; have HO := qh ho; have HC := qh hc
 clear hrs bQ h ho hc
 go_enter Tryz.func122, Tryz.ntmps122
 go_wp2_with fail
 refine HC.out.mono ?_
 rintro e w1 ⟨fl, at1, b1, rfl, -, hc1, hr1, m1, g1⟩
 have hb1 := zT.out.aB hc1 (by simp; omega)
 have hch1 := bz.out.trans hc1
 have c0 := hb1.cell 0; have c1 := hb1.cell 1; have f0 := hb1.frozen 0; have f1 := hb1.frozen 1
 simp only [gq2] at c0 c1
 have JK : w.heap.size < w1.heap.size := hb1.lt
 have hg1 : bad = false → eT fl b1 (all.drop at1) (jZ (all.drop at_)) := g1
 have HB := qh hb1; have ow := qh hch1; have HR1 := qh hr1; have M1 := qh m1; have G1 := qh hg1
 clear hc1 hr1 m1 g1 hg1 hb1 hch1 HC zT bz
 cases fl with
 | false =>
   have hf := (HB.out.set_ 0 (.bool false)).set_ 1 (.slice none 0 0)
   simp only [gq1] at hf
   have aC : av [w.heap.size] w1 ((w1.setCell ⟨w.heap.size, 0, none⟩ (.bool false)).setCell ⟨w.heap.size, 1, none⟩ (.slice none 0 0)) := ((av.refl _ _).setCell (.inl (by simp)) _).setCell (.inl (by simp)) _
   have ay : wh bP fo g all bad w o (.returned (fo [.bool false, .slice none 0 0])) ((w1.setCell ⟨w.heap.size, 0, none⟩ (.bool false)).setCell ⟨w.heap.size, 1, none⟩ (.slice none 0 0)) :=
    ⟨⟨false, []⟩, _, at1, b1, rfl, ⟨_, rfl, iJ _ _ _ _⟩, ow.out.new aC (fun i hi => .inr (by simp at hi; omega)), HR1.out.aB aC (by simp; omega), M1.out, fun hb => by
      rw [← HO.out]
      exact ak (G1.out hb) id fun k => by
       simp only [Bool.false_eq_true, if_false]
       exact dO k⟩
   have HF := qh hf; have aD := qh ay
   clear hf aC ay
   go_wp2
   have d0 := HF.out.cell 0; have d1 := HF.out.cell 1
   simp only [gq2] at d0 d1
   exact bodyPost_ret (by simp [results, Tryz.results122, go_sem, d0, d1]) rfl aD.out
 | true =>
   have ae := xJ w1 g at1 all b1 HR1.out
   have aj := qh ae
   clear ae
   go_wp2_with fail
   refine aj.out.mono ?_
   rintro e w2 ⟨x, v, at2, b2, rfl, hown, -, hc2, hr2, m2, g2⟩
   have hsl : dw Pe 2 w2 (dW w1 w2) x v := nz hown (fun b hb => World.ownsRow.lt hown b hb) (oO x)
   obtain ⟨A, c, rfl⟩ := hsl.form
   have hg2 : b1 = false → eT x b2 (all.drop at2) (wordR (all.drop at1)) := fun hb => zZ (g2 hb)
   have hb2 := HB.out.aB hc2 (by simp; omega)
   have hch2 := ow.out.trans hc2
   have hsz2 := hc2.size
   have e0 := hb2.cell 0; have e1 := hb2.cell 1; have g0 := hb2.frozen 0; have g1 := hb2.frozen 1
   simp only [gq2] at e0 e1
   have hf := (hb2.set_ 0 (.bool true)).set_ 1 (.slice A x.length c)
   simp only [gq1] at hf
   have aC : av [w.heap.size] w2 ((w2.setCell ⟨w.heap.size, 0, none⟩ (.bool true)).setCell ⟨w.heap.size, 1, none⟩ (.slice A x.length c)) := ((av.refl _ _).setCell (.inl (by simp)) _).setCell (.inl (by simp)) _
   have dI := aC.size
   have ay : wh bP fo g all bad w o (.returned (fo [.bool true, .slice A x.length c])) ((w2.setCell ⟨w.heap.size, 0, none⟩ (.bool true)).setCell ⟨w.heap.size, 1, none⟩ (.slice A x.length c)) :=
    ⟨⟨true, x⟩, _, at2, b2, rfl, ⟨_, rfl, dw.plain (S := dW w1 w2) (fun b hb => ⟨by have := hb.1; omega, by have := hb.2; omega⟩) (fun q hq => by unfold World.cell?; rw [aC.block q.block hq.2 (by have := hq.1; simp; omega)]) hsl⟩, hch2.new aC (fun i hi => .inr (by simp at hi; omega)), hr2.aB aC (by simp; omega), fun hb => m2 (M1.out hb), fun hb => by
      rw [← HO.out]
      exact ak (G1.out hb) m2 fun k => by
       simp only [if_true]
       exact ak (hg2 k) id fun k2 => dO k2⟩
   have HF := qh hf; have aD := qh ay
   clear hf aC ay hown hsl hc2 hr2 m2 g2 hg2 hb2 hch2 c0 c1 f0 f1
   go_wp2
   have d0 := HF.out.cell 0; have d1 := HF.out.cell 1
   simp only [gq2] at d0 d1
   exact bodyPost_ret (by simp [results, Tryz.results122, go_sem, d0, d1]) rfl aD.out
theorem uk (w : World) (g at_ : Nat) (all : List Nat) (bad : Bool) (h : RS w g all at_ bad) :
 Calls Tryz.prog 50 #[af g] w (KE bP 2 g all bad w (someR gG (all.drop at_))) := by
 obtain ⟨i0, hi, hz0, hz1, hz2⟩ := info_parts (show (Tryz.prog.info? 82).map (fun i => (i.zero, i.size, i.bytes)) = some (some (.agg #[.bool false, .slice none 0 0]), 2, 32) by kernel_rfl)
 have hgl := h.lt
 have hc := bZ w g at_ all bad h
 have HC := qh hc
 clear h hc
 go_enter Tryz.func50, Tryz.ntmps50
 go_wp2_with fail
 refine HC.out.mono ?_
 rintro e w1 ⟨n, at1, bad1, rfl, hn, hn0, bQ, hr, hb1, hm⟩
 obtain ⟨h7, h8, h9⟩ := hr.all
 have HR1 := qh hr; have PZ := qh bQ; have HM := qh hm; have HB1 := qh hb1; have Ye := qh hn0
 have hn30 : n ≤ 1073741824 := by omega
 clear hr bQ hm hb1 h7 hn0 hn h8 h9 HC
 go_wp2
 go_loopw [4, 5] (fun v i wr => ∃ k at' : Nat, ∃ aO : Bool, ∃ l : List Fm, ∃ xs : List Value, k ≤ n ∧ i = .int .i64 k ∧ l.length = k ∧ wr.ownsRow w.heap.size 82 2 v k xs ∧ cK bP wr (fun b => w.heap.size ≤ b ∧ b < wr.heap.size ∧ v.ownBlock ≠ some b) l xs ∧ RS wr g all at' aO ∧ av [g] w wr ∧ nS gG n at1 all bad1 aO l k at') (fun _ i _ => n - (Lib.intOf i).toNat)
 case atStart => exact ⟨0, at1, bad1, [], [], by omega, rfl, rfl, World.ownsRow_nil _ _ _ _, rfl, HR1.out, PZ.out, nS.start _ _ _ _ _⟩
 case round =>
  obtain ⟨k, at', aO, l, xs, hk, rfl, hll, hown, ic, hr, bQ, hinv⟩ := hrel
  obtain ⟨A, c, ⟨c0, c1, c2⟩, ⟨f0, f1, f2⟩, -, -, -⟩ := hr.cells
  have zU := qh hll; have bD := qh hown; have kZ := qh ic; have HR := qh hr; have bz := qh bQ; have iW := qh hinv
  have hsz := bQ.size
  clear hll hown ic hr bQ hinv
  have ay : (k = n ∨ aO = true) → KE bP 2 g all bad w (someR gG (all.drop at_)) (.returned u4) wr := fun hj => by
   have hown := bD.out
   rw [← zU.out] at hown
   exact ⟨l, u4, at', aO, rfl, nz hown (fun b hb => bD.out.lt b hb) (kZ.out.imp fun y cy hy => bP.keep (fun c hc => ⟨hc.1, hc.2.1⟩) (fun _ _ => rfl) hy), bz.out, HR.out, fun hb => iW.out.1 (HB1.out hb), fun hb => vN HM.out iW.out hj hb⟩
  by_cases hlt : k < n
  ·have cB : (k : Int) < n := by omega
   cases aO with
   | true =>
     have aD := qh (ay (.inr rfl))
     clear ay
     go_wp2
     go_ret
     exact aD.out
   | false =>
     have ae := Gi wr g at' all false HR.out
     have aj := qh ae
     clear ae ay
     go_wp2_with fail
     refine aj.out.mono ?_
     rintro e w2 ⟨x, cs1, at2, b2, rfl, bV, hc2, hr2, m2, g2⟩
     obtain ⟨v9, rfl, hsl9⟩ := bV
     obtain ⟨A9, c9, rfl⟩ := hsl9.form
     have bV : bP w2 (dW wr w2) x [.bool x.has, .slice A9 x.w.length c9] := ⟨_, rfl, hsl9⟩
     have gQ : ∀ u ∈ ([.bool x.has, .slice A9 x.w.length c9] : List Value), u.oneCell' = true := by
      intro u hu
      simp only [List.mem_cons, List.not_mem_nil, or_false] at hu
      rcases hu with rfl | rfl <;> rfl
     have hown2 := bY bD.out hc2 (fun j hj hm => by
      have := bD.out.lt j hj
      simp at hm; omega)
     have hrn := az w2 82 [.bool x.has, .slice A9 x.w.length c9] 2 1 rfl
     have hsz2 := hc2.size
     have H3 := qh hr2; have H4 := qh hc2; have aL := qh hown2; have dR := qh hrn; have nT := qh bV; have jR := qh gQ; have ou := qh (iW.out.next hlt (g2 rfl))
     clear hr2 hc2 hown2 hrn bV hsl9 gQ m2 g2 c0 c1 c2 f0 f1 f2
     go_wp2_with (at_builtin; refine wpList_append_any _ rfl _ _ 30 rfl w.heap.size 82 i0 (.agg #[.bool false, .slice none 0 0]) 2 32 Tryz.underlying30 hi hz0 hz1 hz2 rfl (by decide) _ _ _ rfl (aL.out.alloc _) _ _ _ _ [.bool x.has, .slice A9 x.w.length c9] rfl dR.out jR.out (by unfold maxLen; omega) (by omega) (by simp; omega) ?_; intro v' w3 ai ag bK)
     have hc3 : av [g] w w3 := ((bz.out.trans H4.out).alloc _).grown ag (fun j hj => (aL.out.lt j hj).1)
     have hr3 : RS w3 g all at2 b2 := (H3.out.alloc _).grown ag (fun j hj => by have := (aL.out.lt j hj).1; omega)
     have hsz3 := ag.size
     replace bK : v'.ownBlock = u4.ownBlock ∨ v'.ownBlock = some (w2.alloc (.cells ([.bool x.has, .slice A9 x.w.length c9] : List Value).toArray 82)).heap.size := bK
     replace ag : (w2.alloc (.cells ([.bool x.has, .slice A9 x.w.length c9] : List Value).toArray 82)).grownBy w3 u4.ownBlock := ag
     have hcell3 : ∀ q : Addr, q.block < w2.heap.size → some q.block ≠ u4.ownBlock → w3.cell? q = w2.cell? q := fun q hq hne => by
      unfold World.cell?
      rw [ag.block q.block (by simp; omega) hne, Below.heap_alloc _ _ _ hq]
     have gJ : ∀ c, c < w2.heap.size → u4.ownBlock ≠ some c → v'.ownBlock ≠ some c := fun c hc hne e => by
      rcases bK with bK | bK
      ·exact hne (by rw [← bK, e])
      ·rw [e] at bK
       injection bK with bK
       simp at bK; omega
     have hold : cK bP w2 (fun b => w.heap.size ≤ b ∧ b < w2.heap.size ∧ u4.ownBlock ≠ some b) l xs := kZ.out.imp fun y cy hy => bP.keep (fun c hc => ⟨hc.1, by omega, hc.2.2⟩) (fun q hq => by unfold World.cell?; rw [H4.out.block q.block hq.2.1 (by simp; omega)]) hy
     have hp1 : bP w2 (fun b => w.heap.size ≤ b ∧ b < w2.heap.size ∧ u4.ownBlock ≠ some b) x [.bool x.has, .slice A9 x.w.length c9] := bP.keep (fun c hc => ⟨by omega, hc.2, fun e => by have := (bD.out.lt c e).2; omega⟩) (fun _ _ => rfl) nT.out
     have aI : cK bP w3 (fun b => w.heap.size ≤ b ∧ b < w3.heap.size ∧ v'.ownBlock ≠ some b) (l ++ [x]) (xs ++ [.bool x.has, .slice A9 x.w.length c9]) := (cK.append hp1 hold).imp fun y cy hy => bP.keep (fun c hc => ⟨hc.1, by simp at hsz3; omega, gJ c hc.2.1 hc.2.2⟩) (fun q hq => hcell3 q hq.2.1 (fun e => hq.2.2 e.symm)) hy
     clear ag bK hcell3 gJ hold hp1
     go_roundw
     case rel => exact ⟨k + 1, at2, b2, l ++ [x], _, by omega, by go_num, by rw [List.length_append, zU.out]; rfl, ai, aI, hr3, hc3, ou.out⟩
     case measure => simp [Lib.intOf]; omega
  ·obtain rfl : k = n := by omega
   have aD := qh (ay (.inl rfl))
   clear ay
   go_wp2
   go_ret
   exact aD.out
theorem LK (w : World) (g : Nat) (bs : List Nat) (h : Rd w g bs) : Calls Tryz.prog 108 #[af g] w (dn g xm Mh w (bg bs)) := by
 refine (qM w g bs h).mono fun e w' ⟨h1, h2⟩ => ⟨h1, ?_⟩
 cases ho : bg bs with
 | none => rw [ho] at h2; exact h2
 | some q =>
   obtain ⟨s, r⟩ := q
   rw [ho] at h2
   obtain ⟨v, rfl, rfl, h3⟩ := h2
   exact ⟨_, rfl, rfl, h3⟩
theorem Oz (w : World) (g : Nat) (bs : List Nat) (h : Rd w g bs) : Calls Tryz.prog 138 #[af g] w (dn g xu Mh w (lG bs)) := by
 refine (uE w g bs h).mono fun e w' ⟨h1, h2⟩ => ⟨h1, ?_⟩
 unfold lG
 cases ho : readN bs with
 | none => rw [ho] at h2; rw [thenR_none ho]; exact h2
 | some q =>
   obtain ⟨s, r⟩ := q
   rw [ho] at h2
   rw [thenR_some ho]
   obtain ⟨v, rfl, rfl, h3⟩ := h2
   exact ⟨_, rfl, rfl, h3⟩
theorem Ox (w : World) (g : Nat) (bs : List Nat) (h : Rd w g bs) : Calls Tryz.prog 63 #[af g] w (dn g iH fo w (jH bs)) := by
 refine (I7 w g bs h).mono fun e w' ⟨h1, h2⟩ => ⟨h1, ?_⟩
 cases ho : jH bs with
 | none => rw [ho] at h2; exact h2
 | some q =>
   obtain ⟨s, r⟩ := q
   rw [ho] at h2
   obtain ⟨cs, rfl, h3, h4, _⟩ := h2
   exact ⟨cs, rfl, h3, h4⟩
structure wM (w W : World) (g b2 : Nat) (r : List Nat) (t : TypeId) (zs : Array Value) : Prop where
 ch : av [g] w W
 rd : Rd W g r
 rs : Blk W w.heap.size t zs
 cb : Blk W b2 104 #[af g]
 gw : g < w.heap.size
 bw : b2 < w.heap.size
 ne : b2 ≠ g
section
variable {w W W' : World} {g b2 : Nat} {r r' : List Nat} {t : TypeId} {zs : Array Value}
theorem Rd.ne {b : Nat} (h : Rd w g r) (h2 : Blk w b 104 #[af g]) : b ≠ g := by
 obtain ⟨A, c, hb, _⟩ := h
 exact h2.ne_ hb (by decide)
theorem wM.start (h : Rd w g r) (h2 : Blk w b2 104 #[af g]) (t : TypeId) (zs : Array Value) : wM w (w.alloc (.cells zs t)) g b2 r t zs :=
 ⟨(av.refl _ w).alloc _, h.alloc _, Blk.new w _ _, h2.alloc _, h.lt, h2.lt, h.ne h2⟩
theorem wM.aB (h : wM w W g b2 r t zs) (hc : av [g] W W') (hr : Rd W' g r') : wM w W' g b2 r' t zs := by
 have h1 := h.gw; have h2 := h.ne
 exact ⟨h.ch.trans hc, hr, h.rs.aB hc (by simp; omega), h.cb.aB hc (by simpa using h2), h1, h.bw, h2⟩
theorem wM.alloc (h : wM w W g b2 r t zs) (o : Obj) : wM w (W.alloc o) g b2 r t zs :=
 ⟨h.ch.alloc o, h.rd.alloc o, h.rs.alloc o, h.cb.alloc o, h.gw, h.bw, h.ne⟩
theorem wM.set_ (h : wM w W g b2 r t zs) (i : Nat) (u : Value) : wM w (W.setCell ⟨w.heap.size, i, none⟩ u) g b2 r t (zs.setIfInBounds i u) := by
 have h1 := h.gw; have h2 := h.bw
 have hc : av [w.heap.size] W (W.setCell ⟨w.heap.size, i, none⟩ u) := (av.refl _ _).setCell (.inl (by simp)) u
 exact ⟨h.ch.new hc (fun j hj => .inr (by simp at hj; omega)), h.rd.aB hc (by simp; omega), h.rs.set_ i u, h.cb.aB hc (by simp; omega), h1, h2, h.ne⟩
theorem wM.ptr (h : wM w W g b2 r t zs) : W.cell? ⟨b2, 0, none⟩ = some (af g) := by simpa using h.cb.cell 0
theorem wM.two {a b : Value} (h : wM w W g b2 r t #[a, b]) : (W.cell? ⟨w.heap.size, 0, none⟩ = some a ∧ W.cell? ⟨w.heap.size, 1, none⟩ = some b) ∧ W.frozen? ⟨w.heap.size, 0, none⟩ = false ∧ W.frozen? ⟨w.heap.size, 1, none⟩ = false :=
 ⟨⟨by simpa using h.rs.cell 0, by simpa using h.rs.cell 1⟩, h.rs.frozen 0, h.rs.frozen 1⟩
theorem wM.three {a b c : Value} (h : wM w W g b2 r t #[a, b, c]) : (W.cell? ⟨w.heap.size, 0, none⟩ = some a ∧ W.cell? ⟨w.heap.size, 1, none⟩ = some b ∧ W.cell? ⟨w.heap.size, 2, none⟩ = some c) ∧ W.frozen? ⟨w.heap.size, 0, none⟩ = false ∧ W.frozen? ⟨w.heap.size, 1, none⟩ = false ∧ W.frozen? ⟨w.heap.size, 2, none⟩ = false :=
 ⟨⟨by simpa using h.rs.cell 0, by simpa using h.rs.cell 1, by simpa using h.rs.cell 2⟩, h.rs.frozen 0, h.rs.frozen 1, h.rs.frozen 2⟩
end
theorem Jm (w : World) (g b2 : Nat) (bs : List Nat) (h : Rd w g bs) (h2 : Blk w b2 104 #[af g]) :
 Calls Tryz.prog 110 #[af b2] w (dn g xn fo w (lC bs)) := by
 have hs := wM.start h h2 74 #[.string ⟨#[]⟩, .int .u32 0, .int .u32 0]
 have hp := hs.ptr
 obtain ⟨o, ho⟩ : ∃ o, lC bs = o := ⟨_, rfl⟩
 rw [ho]
 unfold lC at ho
 have HS := qh hs
 clear hs h h2
 go_enter Tryz.func110, Tryz.ntmps110
 go_wp2_with fail
 cases hr0 : bg bs with
 | none =>
   rw [thenR_none hr0] at ho
   subst ho
   refine (jB HS.out.rd hr0).mono ?_
   rintro e w1 ⟨rfl, h1⟩
   exact ⟨rfl, HS.out.ch.trans h1, rfl⟩
 | some q =>
   obtain ⟨s, r0⟩ := q
   rw [thenR_some hr0] at ho
   have hc := jA HS.out.rd hr0
   clear hr0
   refine hc.mono ?_
   rintro e w1 ⟨rfl, h1, h2⟩
   have hs1 := HS.out.aB h2 h1
   have hp1 := hs1.ptr
   have iZ := qh hs1
   clear h1 h2 hs1 hp HS hc
   go_wp2_with fail
   cases hr1 : sndR r0 with
   | none =>
     rw [thenR_none hr1] at ho
     subst ho
     refine (kL iZ.out.rd hr1).mono ?_
     rintro e w2 ⟨rfl, h1⟩
     exact ⟨rfl, iZ.out.ch.trans h1, rfl⟩
   | some q =>
     obtain ⟨x, r1⟩ := q
     rw [thenR_some hr1] at ho
     have hc := kK iZ.out.rd hr1
     clear hr1
     refine hc.mono ?_
     rintro e w2 ⟨rfl, h1, h2⟩
     have hs2 := iZ.out.aB h2 h1
     obtain ⟨⟨c0, c1, c2⟩, f0, f1, f2⟩ := hs2.three
     have hf := (((hs2.set_ 0 (.string s)).set_ 1 (.int .u32 x.1)).set_ 2 (.int .u32 x.2))
     simp only [gq1] at hf
     have HF := qh hf
     have HO := qh ho
     clear h1 h2 hs2 hp1 iZ hc hf ho
     go_wp2
     obtain ⟨⟨d0, d1, d2⟩, -⟩ := HF.out.three
     have ho := HO.out
     subst ho
     exact bodyPost_ret (v := .agg #[.string s, .int .u32 x.1, .int .u32 x.2]) (by simp [results, Tryz.results110, go_sem, d0, d1, d2]) rfl ⟨HF.out.ch, _, rfl, rfl, HF.out.rd⟩
theorem Mi (w : World) (g b2 : Nat) (bs : List Nat) (h : Rd w g bs) (h2 : Blk w b2 104 #[af g]) :
 Calls Tryz.prog 162 #[af b2] w (dn g LC fo w (CF bs)) := by
 have hs := wM.start h h2 78 #[.int .i64 0, .string ⟨#[]⟩]
 have hp := hs.ptr
 obtain ⟨o, ho⟩ : ∃ o, CF bs = o := ⟨_, rfl⟩
 rw [ho]
 unfold CF at ho
 have HS := qh hs
 clear hs h h2
 go_enter Tryz.func162, Tryz.ntmps162
 go_wp2_with fail
 cases hr0 : readN bs with
 | none =>
   rw [thenR_none hr0] at ho
   subst ho
   refine (il HS.out.rd hr0).mono ?_
   rintro e w1 ⟨rfl, h1⟩
   exact ⟨rfl, HS.out.ch.trans h1, rfl⟩
 | some q =>
   obtain ⟨k, r0⟩ := q
   rw [thenR_some hr0] at ho
   have hk32 : k < 4294967296 := fJ hr0 HS.out.rd.all
   have hc := ik HS.out.rd hr0
   clear hr0
   refine hc.mono ?_
   rintro e w1 ⟨rfl, h1, h2⟩
   have hs1 := HS.out.aB h2 h1
   have hp1 := hs1.ptr
   have iZ := qh hs1
   clear h1 h2 hs1 hp HS hc
   go_wp2_with fail
   cases hr1 : bg r0 with
   | none =>
     rw [thenR_none hr1] at ho
     subst ho
     refine (jB iZ.out.rd hr1).mono ?_
     rintro e w2 ⟨rfl, h1⟩
     exact ⟨rfl, iZ.out.ch.trans h1, rfl⟩
   | some q =>
     obtain ⟨s, r1⟩ := q
     rw [thenR_some hr1] at ho
     have hc := jA iZ.out.rd hr1
     clear hr1
     refine hc.mono ?_
     rintro e w2 ⟨rfl, h1, h2⟩
     have hs2 := iZ.out.aB h2 h1
     obtain ⟨⟨c0, c1⟩, f0, f1⟩ := hs2.two
     have hf := ((hs2.set_ 0 (.int .i64 ((k : Int) - 1))).set_ 1 (.string s))
     simp only [gq1] at hf
     have HF := qh hf
     have HO := qh ho
     clear h1 h2 hs2 hp1 iZ hc hf ho
     go_wp2
     obtain ⟨⟨d0, d1⟩, -⟩ := HF.out.two
     have ho := HO.out
     subst ho
     exact bodyPost_ret (v := .agg #[.int .i64 ((k : Int) - 1), .string s]) (by simp [results, Tryz.results162, go_sem, d0, d1]) rfl ⟨HF.out.ch, _, rfl, rfl, HF.out.rd⟩
theorem Ml (w : World) (g b2 : Nat) (bs : List Nat) (h : Rd w g bs) (h2 : Blk w b2 104 #[af g]) :
 Calls Tryz.prog 112 #[af b2] w (dn g wC fo w (lX bs)) := by
 have hs := wM.start h h2 76 #[.string ⟨#[]⟩, .int .u32 0, .int .u32 0, .int .u32 0]
 have hp := hs.ptr
 obtain ⟨o, ho⟩ : ∃ o, lX bs = o := ⟨_, rfl⟩
 rw [ho]
 unfold lX at ho
 have HS := qh hs
 clear hs h h2
 go_enter Tryz.func112, Tryz.ntmps112
 go_wp2_with fail
 cases hr0 : bg bs with
 | none =>
   rw [thenR_none hr0] at ho
   subst ho
   refine (jB HS.out.rd hr0).mono ?_
   rintro e w1 ⟨rfl, h1⟩
   exact ⟨rfl, HS.out.ch.trans h1, rfl⟩
 | some q =>
   obtain ⟨s, r0⟩ := q
   rw [thenR_some hr0] at ho
   have hc := jA HS.out.rd hr0
   clear hr0
   refine hc.mono ?_
   rintro e w1 ⟨rfl, h1, h2⟩
   have hsz1 : w.heap.size < w1.heap.size := Nat.lt_of_lt_of_le (by simp) h2.size
   have hs2 := (HS.out.aB h2 h1).alloc (.cells #[.string s, .int .u32 0, .int .u32 0, .int .u32 0] 76)
   have hB2 := Blk.new w1 76 #[.string s, .int .u32 0, .int .u32 0, .int .u32 0]
   have hgw := HS.out.gw; have hbw := HS.out.bw; have hne := HS.out.ne
   have hp1 := hs2.ptr
   obtain ⟨W, hW⟩ : ∃ W, w1.alloc (.cells #[.string s, .int .u32 0, .int .u32 0, .int .u32 0] 76) = W := ⟨_, rfl⟩
   rw [hW] at hs2 hB2
   have iZ := qh hs2; have HB := qh hB2; have HW := qh hW
   clear h1 h2 hs2 hp HS hc hB2 hW
   go_wp2_with fail
   rw [HW.out]
   clear hp1
   have hp1 := iZ.out.ptr
   clear HW
   cases hr1 : readN r0 with
   | none =>
     rw [thenR_none hr1] at ho
     subst ho
     refine (gB iZ.out.rd hr1).mono ?_
     rintro e w2 ⟨rfl, h1⟩
     exact ⟨rfl, iZ.out.ch.trans h1, rfl⟩
   | some q =>
     obtain ⟨k, r1⟩ := q
     rw [thenR_some hr1] at ho
     have hk32 : k < 4294967296 := fJ hr1 iZ.out.rd.all
     have hc := gz iZ.out.rd hr1
     clear hr1
     refine hc.mono ?_
     rintro e w2 ⟨rfl, h1, h2⟩
     have hs2 := iZ.out.aB h2 h1
     have hb2 := HB.out.aB h2 (by simp; omega)
     have k1 := hb2.cell 1; have m1 := hb2.frozen 1
     simp only [gq2] at k1
     have aC : av [w1.heap.size] w2 (w2.setCell ⟨w1.heap.size, 1, none⟩ (.int .u32 k)) := (av.refl _ _).setCell (.inl (by simp)) _
     have hb3 := hb2.set_ 1 (.int .u32 k)
     simp only [gq1] at hb3
     have hs3 : wM w (w2.setCell ⟨w1.heap.size, 1, none⟩ (.int .u32 k)) g b2 r1 76 #[.string ⟨#[]⟩, .int .u32 0, .int .u32 0, .int .u32 0] :=
      ⟨hs2.ch.new aC (fun i hi => .inr (by simp at hi; omega)), hs2.rd.aB aC (by simp; omega), hs2.rs.aB aC (by simp; omega), hs2.cb.aB aC (by simp; omega), hgw, hbw, hne⟩
     obtain ⟨W2, hW⟩ : ∃ W, w2.setCell ⟨w1.heap.size, 1, none⟩ (.int .u32 k) = W := ⟨_, rfl⟩
     have hpx := hs3.ptr
     rw [hW] at hs3 hb3
     have hp2 := hs3.ptr
     have HS2 := qh hs3; have HB2 := qh hb3; have HW := qh hW
     clear h1 h2 hs2 hs3 hp1 iZ hc hb2 hb3 aC hW HB
     go_wp2_with fail
     rw [HW.out]
     clear HW k1 m1 hpx
     cases hr2 : sndR r1 with
     | none =>
       rw [thenR_none hr2] at ho
       subst ho
       refine (kL HS2.out.rd hr2).mono ?_
       rintro e w3 ⟨rfl, h1⟩
       exact ⟨rfl, HS2.out.ch.trans h1, rfl⟩
     | some q =>
       obtain ⟨x, r2⟩ := q
       rw [thenR_some hr2] at ho
       have hc := kK HS2.out.rd hr2
       clear hr2
       refine hc.mono ?_
       rintro e w3 ⟨rfl, h1, h2⟩
       have hs2 := HS2.out.aB h2 h1
       have hb2 := HB2.out.aB h2 (by simp; omega)
       have k2 := hb2.cell 2; have k3 := hb2.cell 3; have m2 := hb2.frozen 2; have m3 := hb2.frozen 3
       have aC : av [w1.heap.size] w3 ((w3.setCell ⟨w1.heap.size, 2, none⟩ (.int .u32 x.1)).setCell ⟨w1.heap.size, 3, none⟩ (.int .u32 x.2)) := ((av.refl _ _).setCell (.inl (by simp)) _).setCell (.inl (by simp)) _
       have hb3 := (hb2.set_ 2 (.int .u32 x.1)).set_ 3 (.int .u32 x.2)
       simp only [gq1] at hb3
       have hs3 : wM w ((w3.setCell ⟨w1.heap.size, 2, none⟩ (.int .u32 x.1)).setCell ⟨w1.heap.size, 3, none⟩ (.int .u32 x.2)) g b2 r2 76 #[.string ⟨#[]⟩, .int .u32 0, .int .u32 0, .int .u32 0] :=
        ⟨hs2.ch.new aC (fun i hi => .inr (by simp at hi; omega)), hs2.rd.aB aC (by simp; omega), hs2.rs.aB aC (by simp; omega), hs2.cb.aB aC (by simp; omega), hgw, hbw, hne⟩
       have q0 := hb3.cell 0; have q1 := hb3.cell 1; have q2 := hb3.cell 2; have q3 := hb3.cell 3
       have p0 := hs3.rs.cell 0; have p1 := hs3.rs.cell 1; have p2 := hs3.rs.cell 2; have p3 := hs3.rs.cell 3
       have z0 := hs3.rs.frozen 0; have z1 := hs3.rs.frozen 1; have z2 := hs3.rs.frozen 2; have z3 := hs3.rs.frozen 3
       simp only [gq2] at q0 q1 q2 q3 p0 p1 p2 p3 k2 k3
       have hf := (((hs3.set_ 0 (.string s)).set_ 1 (.int .u32 k)).set_ 2 (.int .u32 x.1)).set_ 3 (.int .u32 x.2)
       simp only [gq1] at hf
       have HF := qh hf
       have HO := qh ho
       clear h1 h2 hs2 hs3 hp2 HS2 hc hb2 hb3 aC HB2 hf ho
       go_wp2
       have d0 := HF.out.rs.cell 0; have d1 := HF.out.rs.cell 1; have d2 := HF.out.rs.cell 2; have d3 := HF.out.rs.cell 3
       simp only [gq2] at d0 d1 d2 d3
       have ho := HO.out
       subst ho
       exact bodyPost_ret (v := .agg #[.string s, .int .u32 k, .int .u32 x.1, .int .u32 x.2]) (by simp [results, Tryz.results112, go_sem, d0, d1, d2, d3]) rfl ⟨HF.out.ch, _, rfl, rfl, HF.out.rd⟩
theorem I5 (w : World) (g : Nat) (bs : List Nat) (h : Rd w g bs) :
 Calls Tryz.prog 75 #[af g, .func (.func 76) #[af g] #[]] w (fu g 2 Pe w (wordR bs)) := by
 refine (nA w g bs h).mono fun e w' ⟨h1, h2⟩ => ⟨h1, ?_⟩
 cases ho : wordR bs with
 | none => rw [ho] at h2; exact h2
 | some q =>
   obtain ⟨s, r⟩ := q
   rw [ho] at h2
   obtain ⟨v, rfl, h3, h4⟩ := h2
   exact ⟨v, rfl, nz h3 (fun b hb => World.ownsRow.lt h3 b hb) (oO s), h4⟩
theorem MI (w : World) (g : Nat) (bs : List Nat) (h : Rd w g bs) :
 Calls Tryz.prog 116 #[af g] w (dn g bP fo w (gG bs)) := by
 have hrs := Blk.new w 82 #[.bool false, .slice none 0 0]
 have bQ := (av.refl [g] w).alloc (.cells #[.bool false, .slice none 0 0] 82)
 have hrd := h.alloc (.cells #[.bool false, .slice none 0 0] 82)
 have hgw := h.lt
 obtain ⟨o, ho⟩ : ∃ o, gG bs = o := ⟨_, rfl⟩
 rw [ho]
 unfold gG at ho
 have zT := qh hrs; have bz := qh bQ
 clear hrs bQ h
 cases hr0 : jZ bs with
 | none =>
   have hc := uH hrd hr0
   rw [thenR_none hr0] at ho
   subst ho
   clear hrd hr0
   go_enter Tryz.func116, Tryz.ntmps116
   go_wp2_with fail
   refine hc.mono ?_
   rintro e w1 ⟨rfl, h1⟩
   exact ⟨rfl, bz.out.trans h1, rfl⟩
 | some q =>
   obtain ⟨fl, r0⟩ := q
   have hc := uG hrd hr0
   rw [thenR_some hr0] at ho
   have HO := qh ho
   clear hrd hr0 ho
   go_enter Tryz.func116, Tryz.ntmps116
   go_wp2_with fail
   refine hc.mono ?_
   rintro e w1 ⟨rfl, h1, h2⟩
   have hb1 := zT.out.aB h2 (by simp; omega)
   have hch1 := bz.out.trans h2
   have c0 := hb1.cell 0; have c1 := hb1.cell 1; have f0 := hb1.frozen 0; have f1 := hb1.frozen 1
   simp only [gq2] at c0 c1
   have HB := qh hb1; have ow := qh hch1; have HR1 := qh h1
   have JK : w.heap.size < w1.heap.size := hb1.lt
   clear h1 h2 hb1 hch1 hc bz zT
   cases fl with
   | false =>
     have hf := (HB.out.set_ 0 (.bool false)).set_ 1 (.slice none 0 0)
     simp only [gq1] at hf
     have aC : av [w.heap.size] w1 ((w1.setCell ⟨w.heap.size, 0, none⟩ (.bool false)).setCell ⟨w.heap.size, 1, none⟩ (.slice none 0 0)) := ((av.refl _ _).setCell (.inl (by simp)) _).setCell (.inl (by simp)) _
     have ay : dn g bP fo w (some ((⟨false, []⟩ : Fm), r0)) (.returned (fo [.bool false, .slice none 0 0])) ((w1.setCell ⟨w.heap.size, 0, none⟩ (.bool false)).setCell ⟨w.heap.size, 1, none⟩ (.slice none 0 0)) :=
      ⟨ow.out.new aC (fun i hi => .inr (by simp at hi; omega)), _, rfl, ⟨_, rfl, iJ _ _ _ _⟩, HR1.out.aB aC (by simp; omega)⟩
     have HF := qh hf; have aD := qh ay
     clear hf aC ay
     go_wp2
     have d0 := HF.out.cell 0; have d1 := HF.out.cell 1
     simp only [gq2] at d0 d1
     have ho := HO.out
     simp only [Bool.false_eq_true, if_false] at ho
     subst ho
     exact bodyPost_ret (by simp [results, Tryz.results116, go_sem, d0, d1]) rfl aD.out
   | true =>
     have ho := HO.out
     simp only [if_true] at ho
     have ae := I5 w1 g r0 HR1.out
     cases hr1 : wordR r0 with
     | none =>
       rw [hr1] at ae
       rw [thenR_none hr1] at ho
       subst ho
       have aj := qh ae
       clear ae hr1
       go_wp2_with fail
       refine aj.out.mono ?_
       rintro e w2 ⟨h1, rfl⟩
       exact ⟨rfl, ow.out.trans h1, rfl⟩
     | some q =>
       obtain ⟨x, r1⟩ := q
       rw [hr1] at ae
       rw [thenR_some hr1] at ho
       have aj := qh ae; have jf := qh ho
       clear ae hr1 ho
       go_wp2_with fail
       refine aj.out.mono ?_
       rintro e w2 ⟨h1, v, rfl, h2, h3⟩
       obtain ⟨A, c, rfl⟩ := h2.form
       have hb2 := HB.out.aB h1 (by simp; omega)
       have hch2 := ow.out.trans h1
       have e0 := hb2.cell 0; have e1 := hb2.cell 1; have g0 := hb2.frozen 0; have g1 := hb2.frozen 1
       simp only [gq2] at e0 e1
       have hf := (hb2.set_ 0 (.bool true)).set_ 1 (.slice A x.length c)
       simp only [gq1] at hf
       have aC : av [w.heap.size] w2 ((w2.setCell ⟨w.heap.size, 0, none⟩ (.bool true)).setCell ⟨w.heap.size, 1, none⟩ (.slice A x.length c)) := ((av.refl _ _).setCell (.inl (by simp)) _).setCell (.inl (by simp)) _
       have dI := aC.size
       have ay : dn g bP fo w (some ((⟨true, x⟩ : Fm), r1)) (.returned (fo [.bool true, .slice A x.length c])) ((w2.setCell ⟨w.heap.size, 0, none⟩ (.bool true)).setCell ⟨w.heap.size, 1, none⟩ (.slice A x.length c)) :=
        ⟨hch2.new aC (fun i hi => .inr (by simp at hi; omega)), _, rfl, ⟨_, rfl, dw.plain (S := dW w1 w2) (fun b hb => ⟨by have := hb.1; omega, by have := hb.2; omega⟩) (fun q hq => by unfold World.cell?; rw [aC.block q.block hq.2 (by have := hq.1; simp; omega)]) h2⟩, h3.aB aC (by simp; omega)⟩
       have HF := qh hf; have aD := qh ay
       clear hf aC ay h1 h2 h3 hb2 hch2 c0 c1 f0 f1
       go_wp2
       have d0 := HF.out.cell 0; have d1 := HF.out.cell 1
       simp only [gq2] at d0 d1
       have ho := jf.out
       subst ho
       exact bodyPost_ret (by simp [results, Tryz.results116, go_sem, d0, d1]) rfl aD.out
def yK {α : Type} (F : World → (Nat → Prop) → α → List Value → Prop) : Prop := ∀ (w w' : World) (S S' : Nat → Prop) (x : α) (cs : List Value), (∀ b, S b → S' b) → (∀ q : Addr, S q.block → w'.cell? q = w.cell? q) → F w S x cs → F w' S' x cs
theorem ed {α : Type} (f : α → List Value) : yK (jN f) := fun _ _ _ _ _ _ _ _ h => h
theorem Fb : yK iH := fun _ _ _ _ _ _ hs hk h => h.keep hs hk
theorem BG : yK bP := fun _ _ _ _ _ _ hs hk h => bP.keep hs hk h
theorem JC : yK xB := fun _ _ _ _ _ _ hs hk h => xB.keep hs hk h
structure fq {α : Type} (F : World → (Nat → Prop) → α → List Value → Prop) (kF : Nat) (te : TypeId) (get : Rdr α) (w wr : World) (g n k : Nat) (o : Option (List α × List Nat)) (l : List α) (v : Value) (xs : List Value) (b : List Nat) : Prop where
 gw : g < w.heap.size
 hk : k ≤ n
 hl : l.length = k
 own : wr.ownsRow w.heap.size te kF v k xs
 rows : cK F wr (fun b => w.heap.size ≤ b ∧ b < wr.heap.size ∧ v.ownBlock ≠ some b) l xs
 pre : jO l (manyR get (n - k) b) = o
 rd : Rd wr g b
 ch : av [g] w wr
section
variable {α : Type} {F : World → (Nat → Prop) → α → List Value → Prop} {kF : Nat} {te : TypeId} {get : Rdr α} {w wr w2 w3 : World} {g n k : Nat} {o : Option (List α × List Nat)} {l : List α} {v v' : Value} {xs ys : List Value} {b b' : List Nat} {x : α}
theorem fq.start (hg : g < w.heap.size) (h : Rd wr g b) (hc : av [g] w wr) (ho : manyR get n b = o) : fq F kF te get w wr g n 0 o [] (.slice none 0 0) [] b :=
 ⟨hg, Nat.zero_le _, rfl, World.ownsRow_nil _ _ _ _, rfl, by rw [jD]; exact ho, h, hc⟩
theorem fq.none (h : fq F kF te get w wr g n k o l v xs b) (hk : k < n) (hs : get b = none) : o = none := by
 have h1 := h.pre
 rw [show n - k = (n - (k + 1)) + 1 by omega, iB _ hs] at h1
 exact h1.symm
theorem fq.fin (hF : yK F) (h : fq F kF te get w wr g n n o l v xs b) : o = some (l, b) ∧ dw F kF wr (dW w wr) l v := by
 have h1 := h.pre
 rw [Nat.sub_self] at h1
 have ho := h.own
 rw [← h.hl] at ho
 exact ⟨by rw [← h1]; simp [jO, manyR], nz ho (fun c hc => World.ownsRow.lt ho c hc) (h.rows.imp fun _ _ hy => hF _ _ _ _ _ _ (fun _ hc => ⟨hc.1, hc.2.1⟩) (fun _ _ => rfl) hy)⟩
theorem fq.own2 (h : fq F kF te get w wr g n k o l v xs b) (hc : av [g] wr w2) : w2.ownsRow w.heap.size te kF v k xs :=
 bY h.own hc fun i hi hm => by
  have h1 := (h.own.lt i hi).1
  have h2 := h.gw
  simp only [List.mem_singleton] at hm
  omega
theorem fq.next (hF : yK F) (h : fq F kF te get w wr g n k o l v xs b) (hk : k < n) (hs : get b = some (x, b')) (hc : av [g] wr w2) (hr : Rd w2 g b') (hx : F w2 (dW wr w2) x ys)
 (ai : w3.ownsRow w.heap.size te kF v' (k + 1) (xs ++ ys)) (ag : (w2.alloc (.cells ys.toArray te)).grownBy w3 v.ownBlock) (hv : v'.ownBlock = v.ownBlock ∨ v'.ownBlock = some (w2.alloc (.cells ys.toArray te)).heap.size) :
 fq F kF te get w w3 g n (k + 1) o (l ++ [x]) v' (xs ++ ys) b' := by
 have hsz0 := h.ch.size
 have hsz2 := hc.size
 have hsz3 := ag.size
 simp only [World.size_alloc] at hsz3 hv
 have hgw := h.gw
 have hown2 := h.own2 hc
 have h1 := h.pre
 rw [show n - k = (n - (k + 1)) + 1 by omega, iA _ hs] at h1
 have hcell3 : ∀ q : Addr, q.block < w2.heap.size → some q.block ≠ v.ownBlock → w3.cell? q = w2.cell? q := fun q hq hne => by
  unfold World.cell?
  rw [ag.block q.block (by rw [World.size_alloc]; omega) hne, Below.heap_alloc _ _ _ hq]
 have gJ : ∀ c, c < w2.heap.size → v.ownBlock ≠ some c → v'.ownBlock ≠ some c := fun c hc hne e => by
  rcases hv with hv | hv
  ·exact hne (by rw [← hv, e])
  ·rw [e] at hv
   injection hv with hv
   omega
 have hold : cK F w2 (fun b => w.heap.size ≤ b ∧ b < w2.heap.size ∧ v.ownBlock ≠ some b) l xs := h.rows.imp fun y cy hy => hF _ _ _ _ _ _ (fun c hc => ⟨hc.1, by have := hc.2.1; omega, hc.2.2⟩) (fun q hq => by
  unfold World.cell?
  rw [hc.block q.block hq.2.1 (by simp only [List.mem_singleton]; have := hq.1; omega)]) hy
 have hp1 : F w2 (fun b => w.heap.size ≤ b ∧ b < w2.heap.size ∧ v.ownBlock ≠ some b) x ys := hF _ _ _ _ _ _ (fun c hc => by
  have h0 : wr.heap.size ≤ c := hc.1
  exact ⟨by omega, hc.2, fun e => by have := (h.own.lt c e).2; omega⟩) (fun _ _ => rfl) hx
 refine ⟨hgw, hk, ?_, ai, (cK.append hp1 hold).imp fun y cy hy => hF _ _ _ _ _ _ (fun c hc => ⟨hc.1, by have := hc.2.1; omega, gJ c hc.2.1 hc.2.2⟩) (fun q hq => hcell3 q hq.2.1 (fun e => hq.2.2 e.symm)) hy, h1, (hr.alloc _).grown ag (fun i hi => by have := (hown2.lt i hi).1; omega), ((h.ch.trans hc).alloc _).grown ag (fun i hi => (hown2.lt i hi).1)⟩
 rw [List.length_append, h.hl]
 rfl
end
end Go.Proofs.YtmepaeahchiglaaGreatDoor
