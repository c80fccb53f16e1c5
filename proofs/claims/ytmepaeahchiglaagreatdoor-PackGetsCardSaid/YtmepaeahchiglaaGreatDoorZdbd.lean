/-
 layer 4: notations in memory, and New. Conditions: an inventory in memory, marks that can be read.
-/
import Derived.Test.YtmepaeahchiglaaGreatDoorZdbc
set_option maxRecDepth 20000
set_option maxHeartbeats 4000000
set_option linter.unusedSimpArgs false
namespace Go.Proofs.YtmepaeahchiglaaGreatDoor
open Go.RowKit Go.Lib
def Jg (m : Mk) : Prop := is32 m.clear ∧ ok32 m.set ∧ m.text.size ≤ maxLen
def XF (w : World) (S : Nat → Prop) (g : Nat) (fs : List ByteArray) (L : List fw) (ms : List Mk) (N : Nat) : Prop := ∃ gi A c bm n f,
 (Blk w g 238 #[af gi, .slice A ms.length c, .map (some bm)] ∧ S g) ∧ gU w (fun b => S b ∧ b ≠ bm) gi fs L ∧
 (w.ownsRow 0 76 4 (.slice A ms.length c) ms.length (ms.flatMap ib) ∧ ∀ b, (Value.slice A ms.length c).ownBlock = some b → S b) ∧
 (wD w bm n f ∧ S bm ∧ ∀ s t, f s = some t → bs t = TH L ms s) ∧ n ≤ N ∧ (∀ m ∈ ms, Jg m) ∧ jd fs.length ms = 0
def wz (w : World) (fs : List ByteArray) (L : List fw) (ms : List Mk) (e : Ending) (w' : World) : Prop :=
 Below w.heap.size w w' ∧ ((jd fs.length ms = 0 ∧ ∃ g, e = .returned (.tuple #[af g, .int .i64 0]) ∧ XF w' (ni w w') g fs L ms 0) ∨ (jd fs.length ms ≠ 0 ∧ e = .returned (.tuple #[.pointer none, .int .i64 (jd fs.length ms)])))
theorem jW {w w' : World} {fs : List ByteArray} {L : List fw} {ms : List Mk} (x : Int) (hb : Below w.heap.size w w') (h : jd fs.length ms = x) (hx : x ≠ 0) : wz w fs L ms (.returned (.tuple #[.pointer none, .int .i64 x])) w' :=
 ⟨hb, .inr ⟨by rw [h]; exact hx, by rw [h]⟩⟩
abbrev good (n : Nat) (ms : List Mk) (k : Nat) : Prop := ∀ i m, i < k → ms[i]? = some m → gF n (ms.take i) m = 0
theorem Bw {n : Nat} {ms : List Mk} {k : Nat} (hk : k ≤ ms.length) (hg : good n ms k) : notE n [] ms = notE n (ms.take k) (ms.drop k) := by
 induction k with
 | zero => rfl
 | succ k ih =>
   have hlt : k < ms.length := by omega
   rw [ih (by omega) (fun i m h => hg i m (by omega)), List.drop_eq_getElem_cons hlt]
   show (if gF n (ms.take k) ms[k] = 0 then notE n (ms.take k ++ [ms[k]]) (ms.drop (k + 1)) else gF n (ms.take k) ms[k]) = _
   rw [if_pos (hg k _ (by omega) (List.getElem?_eq_getElem hlt)), List.take_succ_eq_append_getElem hlt]
theorem EX {n : Nat} {ms : List Mk} {k : Nat} (hk : k < ms.length) (hg : good n ms k) (h : gF n (ms.take k) ms[k] ≠ 0) : notE n [] ms = gF n (ms.take k) ms[k] := by
 rw [Bw (by omega) hg, List.drop_eq_getElem_cons hk]
 show (if gF n (ms.take k) ms[k] = 0 then notE n (ms.take k ++ [ms[k]]) (ms.drop (k + 1)) else gF n (ms.take k) ms[k]) = _
 rw [if_neg h]
theorem Bz {n : Nat} {ms : List Mk} (hg : good n ms ms.length) : notE n [] ms = 0 := by
 rw [Bw (Nat.le_refl _) hg, List.drop_length]; rfl
theorem yA {n : Nat} {ms : List Mk} {k : Nat} (hk : k < ms.length) (hg : good n ms k) (h : gF n (ms.take k) ms[k] = 0) : good n ms (k + 1) := by
 intro i m hi hm
 by_cases e : i = k
 ·subst e
  rw [List.getElem?_eq_getElem hk] at hm
  injection hm with hm
  rw [← hm]; exact h
 ·exact hg i m (by omega) hm
theorem CS {α : Type} (f : α → List Value) (c : Nat) (hc : ∀ x, (f x).length = c) (l : List α) (k : Nat) : (l.flatMap f).take (k * c) = (l.take k).flatMap f := by
 induction l generalizing k with
 | nil => simp
 | cons x l ih =>
   cases k with
   | zero => simp
   | succ k =>
     rw [List.flatMap_cons, List.take_succ_cons, List.flatMap_cons, show (k + 1) * c = (f x).length + k * c by rw [hc, Nat.succ_mul, Nat.add_comm], List.take_length_add_append, ih]
theorem not32 {m : Nat} (h : m < 4294967296) : bits .xor .u32 IntKind.u32.max (m : Int) = ((4294967295 - m : Nat) : Int) := by
 have e : IntKind.u32.max = ((4294967295 : Nat) : Int) := by decide
 rw [e, u32_xor_nat _ _ (by decide) h]
 have : 4294967295 ^^^ m = 4294967295 - m := by
  refine Nat.eq_of_testBit_eq fun i => ?_
  have e1 : 4294967295 - m = 2 ^ 32 - (m + 1) := by omega
  have e2 : (4294967295 : Nat) = 2 ^ 32 - 1 := by decide
  rw [e1, Nat.testBit_two_pow_sub_succ h, Nat.testBit_xor, e2, Nat.testBit_two_pow_sub_one]
  by_cases hi : i < 32
  ·simp [hi]
  ·have hb : m.testBit i = false := Nat.testBit_lt_two_pow (Nat.lt_of_lt_of_le h (Nat.pow_le_pow_right (n := 2) (by decide) (show 32 ≤ i by omega)))
   simp [hi, hb]
 rw [this]
theorem Jj (A : Option Addr) (n c B : Nat) (ms : List Mk) {w : World} {S : Nat → Prop} {g : Nat} {fs : List ByteArray} {L : List fw} (h : gU w S g fs L) (hr : Reads w B 4 A n (ms.flatMap ib)) (hB : B ≤ w.heap.size) (hn : n ≤ c) (hm : ∀ m ∈ ms, Jg m) :
 Calls Tryz.prog 128 #[af g, .slice A n c] w (wz w fs L ms) := by
 have hfl := hr.iD (fun _ => rfl) (by decide)
 subst hfl
 have hcp := Kn h
 have hf24 := h.ok.f24
 have zM := qh hcp; have HR := qh hr; have HM := qh hm
 clear hcp hr hm h
 have hmm := @run_makeMap Tryz.prog
 by_cases h24 : 32 < ms.length
 ·have vL : (32 : Int) < (ms.length : Int) := by omega
  have hE : jd fs.length ms = 12 := by unfold jd; rw [if_pos h24]
  have HE := qh hE
  clear h24 hE
  go_enter Tryz.func128, Tryz.ntmps128
  go_wp2_with fail
  refine zM.out.mono ?_
  rintro e w1 ⟨gi, rfl, -, hb⟩
  have HB := qh hb
  clear hb
  go_wp2
  go_ret2
  exact jW 12 HB.out HE.out (by decide)
 have vL : ¬ (32 : Int) < (ms.length : Int) := by omega
 have hp := zf hf24
 have hm : 2 ^ fs.length - 1 < 4294967296 := by have := Nat.pow_le_pow_right (n := 2) (by decide) hf24; omega
 have Cz := qh hm
 clear hm
 go_enter Tryz.func128, Tryz.ntmps128
 go_wp2_with fail
 refine zM.out.mono ?_
 rintro e w1 ⟨gi, rfl, hi, hb⟩
 have HI := qh hi; have HB := qh hb
 clear hi hb
 go_wp2_with fail
 refine (GN HI.out).mono ?_
 rintro e w2 ⟨v, rfl, ho, hb2⟩
 obtain ⟨A3, c3, rfl, -, -⟩ := ownsRow_form ho
 have hw12 := hb2.size
 have HB2 := qh (HB.out.trans (hb2.mono HB.out.size)); have HI2 := qh (HI.out.below hb2)
 clear ho hb2 HI HB
 have hM := fun o (ho : o < 4294967296) => mask0 (o := o) (n := fs.length) ho (by omega)
 have hE : ∀ x, notE fs.length [] ms = x → jd fs.length ms = x := fun x h => by unfold jd; rw [if_neg h24]; exact h
 have hnot := not32 Cz.out
 have Xg : 4294967295 - (2 ^ fs.length - 1) < 4294967296 := by omega
 obtain ⟨M, hMe⟩ : ∃ M, 4294967295 - (2 ^ fs.length - 1) = M := ⟨_, rfl⟩
 rw [hMe] at hM hnot Xg
 have HE := qh hE; have VL := qh hM; have Qp := qh Xg
 have hR2 := HR.out.below (HB2.out.mono hB)
 have xe : B ≤ w2.heap.size := Nat.le_trans hB HB2.out.size
 have HR2 := qh hR2
 clear hE hM Xg hMe hR2 Cz h24
 go_wp2
 clear hnot hp
 go_loopw [26] (fun i wr => ∃ k : Nat, k ≤ ms.length ∧ i = .int .i64 k ∧ good fs.length ms k ∧ Below w2.heap.size w2 wr) (fun i _ => ms.length - (RowKit.intOf i).toNat)
 case atStart => exact ⟨0, by omega, rfl, fun i m h => absurd h (by omega), Below.refl _ _⟩
 case round =>
  obtain ⟨k, hk, rfl, hgo, hbw⟩ := hrel
  have zV := qh hgo; have aQ := qh hbw
  clear hgo hbw
  by_cases hlt : k < ms.length
  ·have cB : (k : Int) < (ms.length : Int) := by omega
   obtain ⟨ad, rfl, had, e0, e1, e2, e3⟩ := lD (HR2.out.below (aQ.out.mono xe)) hlt
   have aS : ∀ x, gF fs.length (ms.take k) ms[k] = x → x ≠ 0 → jd fs.length ms = x := fun x h hx => HE.out x (by rw [EX hlt zV.out (by rw [h]; exact hx)]; exact h)
   have eu := yA hlt zV.out
   have dM := (HR2.out.below (aQ.out.mono xe)).pre (Nat.le_of_lt hlt)
   rw [CS ib 4 (fun _ => rfl)] at dM
   obtain ⟨hc32, hs32, hsz⟩ := HM.out _ (List.getElem_mem hlt)
   generalize ms[k] = y at *
   obtain ⟨text, clear_, set1, set2⟩ := y
   simp only [] at *
   have BM := fun (h : gP text = false) => aS 15 (by unfold gF; rw [if_neg (by rw [h]; decide)]) (by decide)
   have Qw := qh BM
   have JR : gP text = true → ∀ b1 b2 b3 b4 : Bool, decide (clear_ ||| hasB (set1, set2) < 2 ^ fs.length) = b1 → decide (clear_ &&& hasB (set1, set2) = 0) = b2 → ax (set1, set2) = b3 → ((ms.take k).any fun y => decide (bs y.text = bs text)) = b4 → gF fs.length (ms.take k) ⟨text, clear_, (set1, set2)⟩ = if (b1 && b2 && b3) = true then (if b4 = true then 6 else 0) else 2 := by
    intro h b1 b2 b3 b4 h1 h2 h3 h4
    unfold gF
    simp only []
    rw [if_pos h, h4, h3]
    subst h1; subst h2
    simp only [Bool.and_eq_true, decide_eq_true_eq]
    by_cases h1 : clear_ ||| hasB (set1, set2) < 2 ^ fs.length <;> by_cases h2 : clear_ &&& hasB (set1, set2) = 0 <;> cases b3 <;> simp [h1, h2]
   have Ik := qh JR; have cu := qh aS; have wF := qh eu; have Cx := qh dM; have HS := qh hs32
   clear BM JR aS eu dM zV HM HR HR2 HE
   have hq := Fh text
   have NB := fun W => wP text W hsz
   have HT := qh NB
   clear NB
   by_cases hz : text.size = 0
   ·have hbz : bs text = [] := List.eq_nil_of_length_eq_zero (by rw [fT]; exact hz)
    rw [hbz] at hq
    have hE := Qw.out (by unfold gP gT; rw [decide_eq_false (by omega)]; rfl)
    have qx := qh hE
    clear hE hbz
    go_wp2
    go_ret2
    exact jW 15 (HB2.out.trans ((aQ.out.alloc (by have := aQ.out.size; omega) _).mono HB2.out.size)) qx.out (by decide)
   have hbz : ¬ bs text = [] := fun e => hz (by rw [← fT, e]; rfl)
   rw [decide_eq_false hbz] at hq
   clear hbz
   by_cases h3 : 3 < text.size
   ·have RU : (3 : Int) < (text.size : Int) := by omega
    have hE := Qw.out (by unfold gP gT; rw [decide_eq_false (show ¬ text.size ≤ 3 by omega)]; simp)
    have qx := qh hE
    clear hE
    go_wp2
    go_ret2
    exact jW 15 (HB2.out.trans ((aQ.out.alloc (by have := aQ.out.size; omega) _).mono HB2.out.size)) qx.out (by decide)
   have RU : ¬ (3 : Int) < (text.size : Int) := by omega
   have zu : gP text = (bs text).all kH := by unfold gP gT; rw [decide_eq_true (show 1 ≤ text.size by omega), decide_eq_true (show text.size ≤ 3 by omega)]; rfl
   have UI := qh zu
   clear zu h3 hz
   go_wp2_with fail
   have gp := Blk.new wr 76 #[.string text, .int .u32 clear_, .int .u32 set1, .int .u32 set2]
   have hsz1 : (wr.alloc (.cells #[.string text, .int .u32 clear_, .int .u32 set1, .int .u32 set2] 76)).heap.size = wr.heap.size + 1 := World.size_alloc _ _
   have hbw1 := aQ.out.alloc (by have := aQ.out.size; omega) (.cells #[.string text, .int .u32 clear_, .int .u32 set1, .int .u32 set2] 76)
   have hpre1 := Cx.out.below (((Below.refl _ wr).alloc (Nat.le_refl _) (.cells #[.string text, .int .u32 clear_, .int .u32 set1, .int .u32 set2] 76)).mono (Nat.le_trans xe aQ.out.size))
   generalize wr.alloc (.cells #[.string text, .int .u32 clear_, .int .u32 set1, .int .u32 set2] 76) = wm at *
   have NW := qh hpre1; have zN := qh hbw1
   refine (HT.out _).mono ?_
   rintro e w3 ⟨t, rfl, ht, hb3⟩
   have hbk3 := gp.below hb3 (by omega)
   have nX := qh hbk3; have rE := qh (zN.out.trans (hb3.mono zN.out.size)); have NV := qh (NW.out.below (hb3.mono (by have := aQ.out.size; omega)))
   have YT := Fh t
   have hsz3 : wr.heap.size < w3.heap.size := by have := hb3.size; omega
   clear gp hb3 hpre1 hbw1 e0 e1 e2 e3 hsz1 hq
   have c0 := hbk3.cell 0; have c1 := hbk3.cell 1; have c2 := hbk3.cell 2; have c3' := hbk3.cell 3
   simp only [gq2] at c0 c1 c2 c3'
   clear hbk3
   cases aI : (bs text).all kH with
   | false =>
     have hE := Qw.out (by rw [UI.out, aI])
     have hbz : ¬ bs t = [] := fun h => by rw [ht.1 h] at aI; cases aI
     rw [decide_eq_false hbz] at YT
     have qx := qh hE
     clear hE hbz ht aI
     go_wp2
     go_ret2
     exact jW 15 (HB2.out.trans (rE.out.mono HB2.out.size)) qx.out (by decide)
   | true =>
     rw [decide_eq_true (ht.2 aI)] at YT
     have hok : gP text = true := by rw [UI.out, aI]
     have hmk := Ik.out hok
     have OZ : set1 < 4294967296 := HS.out.1
     have OY : set2 < 4294967296 := HS.out.2
     have f1 := u32_or_nat set1 set2 OZ OY
     have hol : set1 ||| set2 < 4294967296 := Nat.or_lt_two_pow (n := 32) OZ OY
     have bW : clear_ < 4294967296 := hc32
     have f2 := u32_or_nat clear_ (set1 ||| set2) bW hol
     have hpl : clear_ ||| (set1 ||| set2) < 4294967296 := Nat.or_lt_two_pow (n := 32) bW hol
     have f3 := u32_and_nat (clear_ ||| (set1 ||| set2)) M hpl Qp.out
     have f4 := u32_and_nat clear_ (set1 ||| set2) bW hol
     have hmm2 := VL.out _ hpl
     have YY : hasB (set1, set2) = set1 ||| set2 := rfl
     rw [YY] at hmk
     have hmk2 := hmk (decide ((clear_ ||| (set1 ||| set2)) &&& M = 0)) _ _ _ (decide_eq_decide.2 hmm2.symm) rfl rfl rfl
     clear hmk hmm2 ht aI hok hol hpl OZ OY bW hc32 YY
     have hval := fun W => oN (set1, set2) W HS.out
     have HV := qh hval
     clear hval
     generalize (clear_ ||| (set1 ||| set2)) &&& M = q at *
     generalize clear_ &&& (set1 ||| set2) = r at *
     generalize clear_ ||| (set1 ||| set2) = p at *
     generalize set1 ||| set2 = o at *
     generalize ax (set1, set2) = v at *
     by_cases hq0 : q = 0
     case neg =>
      have WB : ((q : Int) == 0) = false := by rw [beq_eq_false_iff_ne]; omega
      have hE := cu.out 2 (by rw [hmk2, decide_eq_false hq0]; rfl) (by decide)
      have qx := qh hE
      clear hE hmk2
      go_wp2
      go_ret2
      exact jW 2 (HB2.out.trans (rE.out.mono HB2.out.size)) qx.out (by decide)
     subst hq0
     by_cases hr0 : r = 0
     case neg =>
      have ZV : ((r : Int) == 0) = false := by rw [beq_eq_false_iff_ne]; omega
      have hE := cu.out 2 (by rw [hmk2, decide_eq_false hr0]; rfl) (by decide)
      have qx := qh hE
      clear hE hmk2
      go_wp2
      go_ret2
      exact jW 2 (HB2.out.trans (rE.out.mono HB2.out.size)) qx.out (by decide)
     subst hr0
     cases v with
     | false =>
       have hE := cu.out 2 (by rw [hmk2]; rfl) (by decide)
       have qx := qh hE
       clear hE hmk2
       go_wp2_with fail
       refine (HV.out _).mono ?_
       rintro e w4 ⟨rfl, hb4⟩
       have jS := qh (rE.out.trans (hb4.mono rE.out.size))
       clear hb4
       go_wp2
       go_ret2
       exact jW 2 (HB2.out.trans (jS.out.mono HB2.out.size)) qx.out (by decide)
     | true =>
       have hmk3 : gF fs.length (ms.take k) ⟨text, clear_, (set1, set2)⟩ = if ((ms.take k).any fun y => decide (bs y.text = bs text)) = true then 6 else 0 := hmk2
       clear hmk2
       go_wp2_with fail
       refine (HV.out _).mono ?_
       rintro e w4 ⟨rfl, hb4⟩
       have hbk4 := nX.out.below hb4 hsz3
       have hpre4 := NV.out.below (hb4.mono (by have := aQ.out.size; omega))
       have hcont := BP (some ad) k c B (ms.take k) w4 wr.heap.size ⟨text, clear_, (set1, set2)⟩ hpre4 (by have := aQ.out.size; have := hb4.size; omega) (by unfold maxLen; omega) hbk4
       have jS := qh (rE.out.trans (hb4.mono rE.out.size)); have HC := qh hcont
       have hkc : (k : Int) ≤ (c : Int) := by omega
       have d0 := hbk4.cell 0
       simp only [gq2] at d0
       clear hb4 hbk4 hpre4 hcont Cx NW NV
       cases hd : (ms.take k).any fun y => decide (bs y.text = bs text) with
       | true =>
         have hE := cu.out 6 (by rw [hmk3, hd]; rfl) (by decide)
         have hC := HC.out
         simp only [hd] at hC
         have qx := qh hE; have ig := qh hC
         clear hE hmk3 hd hC HC
         go_wp2_with fail
         refine ig.out.mono ?_
         rintro e w5 ⟨rfl, hb5⟩
         have wK := qh (jS.out.trans (hb5.mono jS.out.size))
         clear hb5
         go_wp2
         go_ret2
         exact jW 6 (HB2.out.trans (wK.out.mono HB2.out.size)) qx.out (by decide)
       | false =>
         have hE := wF.out (by rw [hmk3, hd]; rfl)
         have hC := HC.out
         simp only [hd] at hC
         have qx := qh hE; have ig := qh hC
         clear hE hmk3 hd hC HC
         go_wp2_with fail
         refine ig.out.mono ?_
         rintro e w5 ⟨rfl, hb5⟩
         have wK := qh (jS.out.trans (hb5.mono jS.out.size))
         clear hb5
         go_wp2
         go_roundw
         case rel => exact ⟨k + 1, by omega, by go_num, qx.out, wK.out⟩
         case measure => simp [RowKit.intOf]; omega
  ·obtain rfl : k = ms.length := by omega
   have hE0 := HE.out 0 (Bz zV.out)
   have qy := qh hE0
   have hir := HI2.out.below aQ.out
   have hrr := HR2.out.below (aQ.out.mono xe)
   have bW := fun W (hb : Below wr.heap.size wr W) => Ep A ms.length c (ms.flatMap ib) W B (hrr.below (hb.mono (Nat.le_trans xe aQ.out.size))) (yt ms) (Nat.le_trans (Nat.le_trans xe aQ.out.size) hb.size) (by omega)
   have Yl := qh hir; have Ip := qh bW
   clear hir hrr bW hE0 hlt
   go_wp2_with fail
   refine (Ip.out _ (Below.refl _ _)).mono ?_
   rintro e w3 ⟨v, rfl, ho, hb3⟩
   obtain ⟨A4, c4, rfl, hc4, -⟩ := ownsRow_form ho
   have hz1 : (w3.alloc (.map #[] 0)).heap.size = w3.heap.size + 1 := World.size_alloc _ _
   have lH := ((Below.refl _ w3).alloc (Nat.le_refl _) (.map #[] 0)).alloc (by omega) (.cells #[af gi, .slice A4 ms.length c4, .map (some w3.heap.size)] 238)
   have hblk := Blk.new (w3.alloc (.map #[] 0)) 238 #[af gi, .slice A4 ms.length c4, .map (some w3.heap.size)]
   have hmap := (wD.made w3).dQ (bA.of_below (S := fun _ => False) ((Below.refl (w3.alloc (.map #[] 0)).heap.size _).alloc (Nat.le_refl _) (.cells #[af gi, .slice A4 ms.length c4, .map (some w3.heap.size)] 238))) (fun h => h)
   have hz2 : ((w3.alloc (.map #[] 0)).alloc (.cells #[af gi, .slice A4 ms.length c4, .map (some w3.heap.size)] 238)).heap.size = w3.heap.size + 2 := by rw [World.size_alloc, hz1]
   rw [hz1] at hblk
   have ay : wz w fs L ms (.returned (.tuple #[af (w3.heap.size + 1), .int .i64 0])) ((w3.alloc (.map #[] 0)).alloc (.cells #[af gi, .slice A4 ms.length c4, .map (some w3.heap.size)] 238)) := by
    generalize (w3.alloc (.map #[] 0)).alloc (.cells #[af gi, .slice A4 ms.length c4, .map (some w3.heap.size)] 238) = W at *
    have s1 := HB2.out.size
    have s2 := aQ.out.size
    have s3 := hb3.size
    have hbW := hb3.trans (lH.mono s3)
    have how := bH (S := fun _ => False) ho (.of_below lH) (fun _ _ h => h)
    refine ⟨HB2.out.trans ((aQ.out.trans (hbW.mono s2)).mono s1), .inl ⟨qy.out, _, rfl, ?_⟩⟩
    refine ⟨gi, A4, c4, w3.heap.size, 0, _, ⟨hblk, by omega, by omega⟩, (Yl.out.below hbW).mono (fun b hb => ⟨⟨hb.1, by have := hb.2; omega⟩, by have := hb.2; omega⟩), ⟨dh how (Nat.zero_le _), fun b hb => ?_⟩, ⟨hmap, ⟨by omega, by omega⟩, fun s t h => by cases h⟩, Nat.le_refl _, HM.out, qy.out⟩
    have := how.lt b hb
    exact ⟨by omega, by omega⟩
   have aD := qh ay
   clear ho hb3 Ip hz1 lH hblk hmap hz2 ay
   go_wp2
   go_ret2
   exact aD.out
def oL (p : Pj) : Int := if eO p.aK = 0 then jL p.aK.length [] p.aG else eO p.aK
theorem xG (p : Pj) : ku p = if oL p = 0 then jd p.aK.length p.marks else oL p := by
 unfold ku oL
 by_cases h : eO p.aK = 0
 ·rw [if_pos h, if_pos h]
 ·rw [if_neg h, if_neg h, if_neg h]
theorem vY {n k : Nat} {l : List fw} (hk : k < l.length) (h : jL n [] l = jL n (l.take k) (l.drop k)) :
 (gX n (l.take k) l[k].1 l[k].2 = 0 → jL n [] l = jL n (l.take (k + 1)) (l.drop (k + 1))) ∧ (gX n (l.take k) l[k].1 l[k].2 ≠ 0 → jL n [] l = gX n (l.take k) l[k].1 l[k].2) := by
 rw [List.drop_eq_getElem_cons hk] at h
 constructor
 ·intro e
  rw [h, List.take_succ_eq_append_getElem hk]
  show (if _ then _ else _) = _
  rw [if_pos e]
 ·intro e
  rw [h]
  show (if _ then _ else _) = _
  rw [if_neg e]
structure Ct (p : Pj) : Prop where
 o1 : ∀ s ∈ p.aK, s.size ≤ maxLen
 o2 : ∀ x ∈ p.aG, x.1.size ≤ maxLen ∧ ok32 x.2
 o3 : ∀ m ∈ p.marks, Jg m
 o4 : ∀ x ∈ p.tree, x.2.size ≤ maxLen
 o5 : ∀ l ∈ p.au, l.name.size ≤ maxLen
 o6 : ∀ l ∈ p.on, l.length ≤ 1000000000
 o7 : ∀ f ∈ p.aA, ∀ s ∈ f.w, ok32 s
 o8 : ∀ x ∈ p.entries, x.bX.size ≤ maxLen ∧ ∀ f ∈ x.bU, ∀ s ∈ f.w, ok32 s
def tJ (w : World) (p : Pj) (e : Ending) (w' : World) : Prop :=
 Below w.heap.size w w' ∧ ((oL p = 0 ∧ ∃ g, e = .returned (.tuple #[af g, .int .i64 0]) ∧ gU w' (ni w w') g p.aK p.aG) ∨ (oL p ≠ 0 ∧ e = .returned (.tuple #[.pointer none, .int .i64 (oL p)])))
theorem wW (w : World) (B : Nat) (p : Pj) (cs : List Value) (hp : dx w B p cs) (hB : B ≤ w.heap.size) (hr : Ct p) :
 Calls Tryz.prog 127 #[.agg cs.toArray] w (tJ w p) := by
 obtain ⟨v1, v2, v3, v4, v5, v6, v7, v8, rfl, q1, q2, q3, q4, q5, q6, q7, q8⟩ := hp
 obtain ⟨A3, m3, c3, rfl, -⟩ := q3.form
 obtain ⟨A4, m4, c4, rfl, -⟩ := q4.form
 obtain ⟨A5, m5, c5, rfl, -⟩ := q5.form
 obtain ⟨A6, m6, c6, rfl, -⟩ := q6.form
 obtain ⟨A7, m7, c7, rfl, -⟩ := q7.form
 obtain ⟨A8, m8, c8, rfl, -⟩ := q8.form
 obtain ⟨A1, c1, rfl, ⟨h11, h12⟩, r1⟩ := q1.flat
 obtain ⟨A2, c2, rfl, ⟨h21, h22⟩, r2⟩ := q2.flat
 rw [flatMap_one] at r1
 unfold maxLen at h12 h22
 obtain ⟨o, ho⟩ : ∃ o, Obj.cells #[.slice A1 p.aK.length c1, .slice A2 p.aG.length c2, .slice A3 m3 c3, .slice A4 m4 c4, .slice A5 m5 c5, .slice A6 m6 c6, .slice A7 m7 c7, .slice A8 m8 c8] 33 = o := ⟨_, rfl⟩
 have hb0 := (Below.refl w.heap.size w).alloc (Nat.le_refl _) o
 have hk0 := Blk.new w 33 #[.slice A1 p.aK.length c1, .slice A2 p.aG.length c2, .slice A3 m3 c3, .slice A4 m4 c4, .slice A5 m5 c5, .slice A6 m6 c6, .slice A7 m7 c7, .slice A8 m8 c8]
 rw [ho] at hk0
 have gJ := Jk A1 p.aK.length c1 B p.aK (w.alloc o) (Reads.below r1 (hb0.mono hB)) (by rw [World.size_alloc]; omega) h11 hr.o1
 have JO := fun (W : World) (hW : Below w.heap.size w W) => Reads.below r2 (hW.mono hB)
 have hle1 : w.heap.size ≤ (w.alloc o).heap.size := by rw [World.size_alloc]; omega
 have hlt1 : w.heap.size < (w.alloc o).heap.size := by rw [World.size_alloc]; omega
 have hie : oL p = if eO p.aK = 0 then jL p.aK.length [] p.aG else eO p.aK := rfl
 have HO := qh ho; have HB0 := qh hb0; have jg := qh hk0; have wI := qh gJ; have MU := qh JO; have HR := qh hr; have U8 := qh hie
 have g0 := hk0.cell 0
 simp only [gq2] at g0
 obtain ⟨n, hn⟩ : ∃ n, p.aG.length = n := ⟨_, rfl⟩
 have hk0' := hk0
 rw [hn] at h21 hk0'
 have jg := qh hk0'
 rw [hn]
 rw [hn] at ho
 have HO := qh ho
 have HN := qh hn
 clear q1 q2 q3 q4 q5 q6 q7 q8 r1 r2 ho hb0 hk0 hk0' gJ JO hr hie hn
 go_enter Tryz.func127, Tryz.ntmps127
 go_wp2_with (rw [HO.out])
 refine wI.out.mono ?_
 rintro e w1 ⟨hb1, hcase⟩
 have HB1 := qh (HB0.out.trans (hb1.mono hle1)); have jr := qh (jg.out.below hb1 hlt1)
 have hs1 : w.heap.size < w1.heap.size := Nat.lt_of_lt_of_le hlt1 hb1.size
 clear hb1 g0 wI
 rcases hcase with ⟨hz, gi, rfl, hm⟩ | ⟨hz, rfl⟩
 ·have hie := U8.out
  rw [if_pos hz] at hie
  have KX := qh hie
  have HM := qh (hm.mono (T := fun b => w.heap.size ≤ b ∧ b < w1.heap.size) fun b hb => ⟨Nat.le_trans hle1 hb.1, hb.2⟩)
  have g1 := jr.out.cell 1
  simp only [gq2] at g1
  clear hz hm hie
  go_wp2
  go_loopw [21] (fun i wr => ∃ k : Nat, k ≤ n ∧ i = .int .i64 k ∧ jL p.aK.length [] p.aG = jL p.aK.length (p.aG.take k) (p.aG.drop k) ∧ gU wr (fun b => w.heap.size ≤ b ∧ b < wr.heap.size) gi p.aK (p.aG.take k) ∧ Below w.heap.size w wr) (fun i _ => n - (RowKit.intOf i).toNat)
  case atStart => exact ⟨0, by omega, rfl, by rw [List.take_zero, List.drop_zero], by rw [List.take_zero]; exact HM.out, HB1.out⟩
  case round =>
   obtain ⟨k, hk, rfl, aS, him, hb⟩ := hrel
   have cu := qh aS; have U7 := qh him; have HB := qh hb
   clear aS him hb
   by_cases hlt : k < n
   ·have bB : k < p.aG.length := by have := HN.out; omega
    have cB : (k : Int) < (n : Int) := by omega
    have hk0 : (0 : Int) ≤ (k : Int) := by omega
    obtain ⟨ad, rfl, had, e0, e1, e2⟩ := kS (MU.out wr HB.out) bB
    obtain ⟨aF, aY⟩ := vY bB cu.out
    have hox := HR.out.o2 _ (List.getElem_mem bB)
    have htk : p.aG.take (k + 1) = p.aG.take k ++ [p.aG[k]] := List.take_succ_eq_append_getElem bB
    generalize p.aG[k] = x at *
    obtain ⟨sy, sv, sa⟩ := x
    simp only [] at *
    have lH := HB.out.alloc HB.out.size (.cells #[.string sy, .int .u32 sv, .int .u32 sa] 74)
    have hbl := (Below.refl wr.heap.size wr).alloc (Nat.le_refl _) (.cells #[.string sy, .int .u32 sv, .int .u32 sa] 74)
    have hadd := MP (w := wr.alloc (.cells #[.string sy, .int .u32 sv, .int .u32 sa] 74)) sy (sv, sa) (U7.out.below hbl) (fun b hb => Nat.lt_of_lt_of_le hb.2 hbl.size) hox.2 hox.1
    obtain ⟨a, ha⟩ : ∃ a, gX p.aK.length (p.aG.take k) sy (sv, sa) = a := ⟨_, rfl⟩
    unfold tO sO at hadd
    simp only [] at hadd
    rw [ha] at aF aY hadd
    have Ih := qh hadd; have bL := qh aF; have dX := qh aY; have fZ := qh lH; have oU := qh hbl; have FD := qh htk
    clear hadd aF aY lH hbl hox htk ha
    go_wp2_with fail
    refine Ih.out.mono ?_
    rintro e w2 ⟨rfl, him2, bQ⟩
    have HB2 := qh (fZ.out.trans (bQ.below (B := w.heap.size) (fun i hi => hi.1) fZ.out.size))
    have hs2 := bQ.size
    have PR := qh (him2.mono (T := fun b => w.heap.size ≤ b ∧ b < w2.heap.size) fun b hb => by
     have h1 := oU.out.size
     have h2 := fZ.out.size
     rcases hb with hb | hb
     ·exact ⟨hb.1, by omega⟩
     ·exact ⟨by have := hb.1; omega, hb.2⟩)
    clear him2 bQ
    by_cases hz : a = 0
    ·have vE : (a != (0 : Int)) = false := by rw [hz]; rfl
     have him := PR.out
     rw [if_pos hz, ← FD.out] at him
     have PQ := qh him
     have dz := qh (bL.out hz)
     clear hz him
     go_wp2
     go_roundw
     case rel => exact ⟨k + 1, by omega, by go_num, dz.out, PQ.out, HB2.out⟩
     case measure => simp [RowKit.intOf]; omega
    ·have vE : (a != (0 : Int)) = true := by rw [bne_iff_ne]; exact hz
     have hie := KX.out.trans (dX.out hz)
     have ay : tJ w p (.returned (.tuple #[.pointer none, .int .i64 a])) w2 := ⟨HB2.out, .inr ⟨by rw [hie]; exact hz, by rw [hie]⟩⟩
     have HF := qh ay
     clear hz hie ay
     go_wp2
     go_ret2
     exact HF.out
   ·obtain rfl : k = n := by omega
    have aS := cu.out
    have him := U7.out
    rw [List.drop_of_length_le (by have := HN.out; omega)] at aS
    rw [List.take_of_length_le (by have := HN.out; omega)] at him
    have hie : oL p = 0 := KX.out.trans aS
    have ay : tJ w p (.returned (.tuple #[af gi, .int .i64 0])) wr := ⟨HB.out, .inl ⟨hie, gi, rfl, him.mono fun b hb => hb⟩⟩
    have HF := qh ay
    clear aS him hie ay
    go_wp2
    go_ret2
    exact HF.out
 ·have hie := U8.out
  rw [if_neg hz] at hie
  have vE : (eO p.aK != (0 : Int)) = true := by rw [bne_iff_ne]; exact hz
  have ay : tJ w p (.returned (.tuple #[.pointer none, .int .i64 (eO p.aK)])) w1 := ⟨HB1.out, .inr ⟨by rw [hie]; exact hz, by rw [hie]⟩⟩
  have HF := qh ay
  clear hz hie ay
  go_wp2
  go_ret2
  exact HF.out
theorem FT (w : World) (B : Nat) (p : Pj) (cs : List Value) (hp : dx w B p cs) (hB : B ≤ w.heap.size) (hr : Ct p) :
 Calls Tryz.prog 60 #[.agg cs.toArray] w fun e w' => (∃ a b, e = .returned (.tuple #[a, b, .int .i64 (ku p)])) ∧ Below w.heap.size w w' := by
 obtain ⟨v1, v2, v3, v4, v5, v6, v7, v8, rfl, q1, q2, q3, q4, q5, q6, q7, q8⟩ := hp
 have hp : dx w B p [v1, v2, v3, v4, v5, v6, v7, v8] := ⟨_, _, _, _, _, _, _, _, rfl, q1, q2, q3, q4, q5, q6, q7, q8⟩
 obtain ⟨A1, m1, c1, rfl, -⟩ := q1.form
 obtain ⟨A2, m2, c2, rfl, -⟩ := q2.form
 obtain ⟨A4, m4, c4, rfl, -⟩ := q4.form
 obtain ⟨A5, m5, c5, rfl, -⟩ := q5.form
 obtain ⟨A6, m6, c6, rfl, -⟩ := q6.form
 obtain ⟨A7, m7, c7, rfl, -⟩ := q7.form
 obtain ⟨A8, m8, c8, rfl, -⟩ := q8.form
 obtain ⟨A3, c3, rfl, ⟨h31, h32⟩, r3⟩ := q3.flat
 obtain ⟨n, hn⟩ : ∃ n, p.marks.length = n := ⟨_, rfl⟩
 rw [hn] at h31 hp r3 ⊢
 obtain ⟨o, ho⟩ : ∃ o, Obj.cells #[.slice A1 m1 c1, .slice A2 m2 c2, .slice A3 n c3, .slice A4 m4 c4, .slice A5 m5 c5, .slice A6 m6 c6, .slice A7 m7 c7, .slice A8 m8 c8] 33 = o := ⟨_, rfl⟩
 have hb0 := (Below.refl w.heap.size w).alloc (Nat.le_refl _) o
 have hk0 := Blk.new w 33 #[.slice A1 m1 c1, .slice A2 m2 c2, .slice A3 n c3, .slice A4 m4 c4, .slice A5 m5 c5, .slice A6 m6 c6, .slice A7 m7 c7, .slice A8 m8 c8]
 rw [ho] at hk0
 have hle1 : w.heap.size ≤ (w.alloc o).heap.size := by rw [World.size_alloc]; omega
 have hlt1 : w.heap.size < (w.alloc o).heap.size := by rw [World.size_alloc]; omega
 have dP : ∀ q : Addr, q.block < B → (w.alloc o).cell? q = w.cell? q := fun q hq => hb0.cell (Nat.lt_of_lt_of_le hq hB)
 have hinv := wW (w.alloc o) B p _ (dx.keep dP hp) (Nat.le_trans hB hle1) hr
 have hmk := fun (W : World) (hW : Below w.heap.size w W) => Reads.below r3 (hW.mono hB)
 have hle := fun (W : World) (hW : Below w.heap.size w W) => Nat.le_trans hB hW.size
 have hte := xG p
 obtain ⟨r, hr'⟩ : ∃ r, ku p = r := ⟨_, rfl⟩
 rw [hr'] at hte ⊢
 have g0 := hk0.cell 0
 have g1 := hk0.cell 1
 have g2 := hk0.cell 2
 have g3 := hk0.cell 3
 have g4 := hk0.cell 4
 have g5 := hk0.cell 5
 have g6 := hk0.cell 6
 have g7 := hk0.cell 7
 simp only [gq2] at g0 g1 g2 g3 g4 g5 g6 g7
 have HO := qh ho; have HB0 := qh hb0; have jg := qh hk0; have iW := qh hinv; have Ik := qh hmk; have U0 := qh hle; have T9 := qh hte; have Yf := qh hr.o3; have YJ := qh h31
 clear q1 q2 q3 q4 q5 q6 q7 q8 r3 ho hb0 hk0 hinv hmk hle hte dP hn hp hr hr' h31
 go_enter Tryz.func60, Tryz.ntmps60
 go_wp2_with (rw [HO.out])
 refine iW.out.mono ?_
 rintro e w1 ⟨hb1, hcase⟩
 have HB1 := qh (HB0.out.trans (hb1.mono hle1)); have jr := qh (jg.out.below hb1 hlt1)
 clear hb1 g0 g1 g2 g3 g4 g5 g6 g7 iW
 rcases hcase with ⟨hz, gi, rfl, hm⟩ | ⟨hz, rfl⟩
 ·have hte := T9.out
  rw [if_pos hz] at hte
  have KN := qh hte
  have gJ := Jj A3 n c3 B p.marks hm (Ik.out w1 HB1.out) (U0.out w1 HB1.out) YJ.out Yf.out
  have wI := qh gJ
  have g2 := jr.out.cell 2
  simp only [gq2] at g2
  clear hz hm gJ hte
  go_wp2_with fail
  refine wI.out.mono ?_
  rintro e w2 ⟨hb2, hcase⟩
  have HB2 := qh (HB1.out.trans (hb2.mono HB1.out.size))
  clear hb2 wI
  rcases hcase with ⟨hz, gn, rfl, hm⟩ | ⟨hz, rfl⟩
  ·obtain rfl : r = 0 := KN.out.trans hz
   clear hz hm
   go_wp2
   go_ret3
   exact ⟨⟨_, _, rfl⟩, HB2.out⟩
  ·obtain ⟨a, ha⟩ : ∃ a, jd p.aK.length p.marks = a := ⟨_, rfl⟩
   rw [ha] at hz ⊢
   obtain rfl : r = a := KN.out.trans ha
   have vE : (r != (0 : Int)) = true := by rw [bne_iff_ne]; exact hz
   clear hz
   go_wp2
   go_ret3
   exact ⟨⟨_, _, rfl⟩, HB2.out⟩
 ·obtain ⟨a, ha⟩ : ∃ a, oL p = a := ⟨_, rfl⟩
  have hte := T9.out
  rw [ha] at hz hte ⊢
  rw [if_neg hz] at hte
  obtain rfl : r = a := hte
  have vE : (r != (0 : Int)) = true := by rw [bne_iff_ne]; exact hz
  clear hz
  go_wp2
  go_ret3
  exact ⟨⟨_, _, rfl⟩, HB1.out⟩
theorem G8 (w : World) (B : Nat) (p : Pj) (cs : List Value) (hp : dx w B p cs) (hB : B ≤ w.heap.size) (hr : Ct p) :
 Calls Tryz.prog 20 #[.agg cs.toArray] w fun e w' => e = .returned (.int .i64 (iX p)) ∧ Below w.heap.size w w' := by
 obtain ⟨v1, v2, v3, v4, v5, v6, v7, v8, rfl, q1, q2, q3, q4, q5, q6, q7, q8⟩ := hp
 have hp : dx w B p [v1, v2, v3, v4, v5, v6, v7, v8] := ⟨_, _, _, _, _, _, _, _, rfl, q1, q2, q3, q4, q5, q6, q7, q8⟩
 obtain ⟨A1, m1, c1, rfl, -⟩ := q1.form
 obtain ⟨A2, m2, c2, rfl, -⟩ := q2.form
 obtain ⟨A3, m3, c3, rfl, -⟩ := q3.form
 obtain ⟨A4, m4, c4, rfl, -⟩ := q4.form
 obtain ⟨A5, m5, c5, rfl, -⟩ := q5.form
 obtain ⟨A6, m6, c6, rfl, -⟩ := q6.form
 obtain ⟨A7, m7, c7, rfl, -⟩ := q7.form
 obtain ⟨A8, m8, c8, rfl, -⟩ := q8.form
 obtain ⟨o, ho⟩ : ∃ o, Obj.cells #[.slice A1 m1 c1, .slice A2 m2 c2, .slice A3 m3 c3, .slice A4 m4 c4, .slice A5 m5 c5, .slice A6 m6 c6, .slice A7 m7 c7, .slice A8 m8 c8] 33 = o := ⟨_, rfl⟩
 have hb0 := (Below.refl w.heap.size w).alloc (Nat.le_refl _) o
 have hk0 := Blk.new w 33 #[.slice A1 m1 c1, .slice A2 m2 c2, .slice A3 m3 c3, .slice A4 m4 c4, .slice A5 m5 c5, .slice A6 m6 c6, .slice A7 m7 c7, .slice A8 m8 c8]
 rw [ho] at hk0
 have hle1 : w.heap.size ≤ (w.alloc o).heap.size := by rw [World.size_alloc]; omega
 have hlt1 : w.heap.size < (w.alloc o).heap.size := by rw [World.size_alloc]; omega
 have dP := fun (W : World) (hW : Below w.heap.size w W) => fun (q : Addr) (hq : q.block < B) => hW.cell (p := q) (Nat.lt_of_lt_of_le hq hB)
 have hle := fun (W : World) (hW : Below w.heap.size w W) => Nat.le_trans hB hW.size
 have htl := FT (w.alloc o) B p _ (dx.keep (dP _ hb0) hp) (Nat.le_trans hB hle1) hr
 have hat := fun (W : World) (hW : Below w.heap.size w W) => Ew _ _ _ _ _ B p.tree p.au p.on p.aA p.entries W (aP.plain (dP W hW) q4 (fun _ _ h => h)) (aP.plain (dP W hW) q5 (fun _ _ h => h.keep (dP W hW))) (aP.plain (dP W hW) q6 (fun _ _ h => si.keep (dP W hW) h)) (aP.plain (dP W hW) q7 (fun _ _ h => bn.keep (dP W hW) h)) (aP.plain (dP W hW) q8 (fun _ _ h => tN.keep (dP W hW) h)) (hle W hW) hr.o4 hr.o5 hr.o6 (fun x hx => (hr.o8 x hx).1) hr.o7 (fun x hx => (hr.o8 x hx).2)
 obtain ⟨r, aU⟩ : ∃ r, iX p = r := ⟨_, rfl⟩
 rw [aU]
 unfold iX at aU
 have g0 := hk0.cell 0
 have g1 := hk0.cell 1
 have g2 := hk0.cell 2
 have g3 := hk0.cell 3
 have g4 := hk0.cell 4
 have g5 := hk0.cell 5
 have g6 := hk0.cell 6
 have g7 := hk0.cell 7
 simp only [gq2] at g0 g1 g2 g3 g4 g5 g6 g7
 have HO := qh ho; have HB0 := qh hb0; have jg := qh hk0; have TZ := qh htl; have HAT := qh hat; have dA := qh aU
 clear q1 q2 q3 q4 q5 q6 q7 q8 ho hb0 hk0 htl hat aU dP hle hp hr
 go_enter Tryz.func20, Tryz.ntmps20
 go_wp2_with (rw [HO.out])
 refine TZ.out.mono ?_
 rintro e w1 ⟨⟨a, b, rfl⟩, hb1⟩
 have HB1 := qh (HB0.out.trans (hb1.mono hle1)); have jr := qh (jg.out.below hb1 hlt1)
 clear hb1 g0 g1 g2 g3 g4 g5 g6 g7 TZ
 obtain ⟨x, hx⟩ : ∃ x, ku p = x := ⟨_, rfl⟩
 have aU := dA.out
 rw [hx] at aU ⊢
 have dA := qh aU
 clear hx aU
 by_cases hz : x = 0
 ·have vE : (x != (0 : Int)) = false := by rw [hz]; rfl
  have aU := dA.out
  rw [if_pos hz] at aU
  have EL := HAT.out w1 HB1.out
  rw [aU] at EL
  have P9 := qh EL
  have g3 := jr.out.cell 3
  have g4 := jr.out.cell 4
  have g5 := jr.out.cell 5
  have g6 := jr.out.cell 6
  have g7 := jr.out.cell 7
  simp only [gq2] at g3 g4 g5 g6 g7
  clear hz aU EL dA
  go_wp2_with fail
  refine P9.out.mono ?_
  rintro e w2 ⟨rfl, hb2⟩
  have HB2 := qh (HB1.out.trans (hb2.mono HB1.out.size))
  clear hb2
  go_wp2
  go_ret
  exact ⟨rfl, HB2.out⟩
 ·have vE : (x != (0 : Int)) = true := by rw [bne_iff_ne]; exact hz
  obtain rfl : r = x := by rw [← dA.out, if_neg hz]
  clear hz
  go_wp2
  go_ret
  exact ⟨rfl, HB1.out⟩
def O1 (bs : List Nat) : List Snd × Nat × Int := match wordR bs with
 | none => ([], 0, 10)
 | some (ws, r) => if bF ws = 0 then (ws, bs.length - r.length, 0) else ([], 0, bF ws)
def Ll (w : World) (x : List Snd × Nat × Int) (e : Ending) (w' : World) : Prop := ∃ v, e = .returned (.tuple #[v, .int .i64 x.2.1, .int .i64 x.2.2]) ∧ Aa w.heap.size x.1 w' v ∧ Below w.heap.size w w'
theorem Iu {bs r : List Nat} {ws : List Snd} (hb : ∀ b ∈ bs, b < 256) (h : wordR bs = some (ws, r)) : r.length ≤ bs.length ∧ ∀ s ∈ ws, ok32 s := by
 obtain ⟨e, h1, h2⟩ := canon_word bs ws r hb h
 refine ⟨?_, h2⟩
 rw [e, List.length_append]; omega
theorem BQ (w : World) (A : Option Addr) (n c B : Nat) (bs : List Nat) (hr : Reads w B 1 A n (bs.map bv)) (hB : B ≤ w.heap.size) (hn : n ≤ c) (hc : c ≤ maxLen) (hs : n ≤ 1073741824) (hb : ∀ b ∈ bs, b < 256) :
 Calls Tryz.prog 24 #[.slice A n c] w (Ll w (O1 bs)) := by
 have hrd := Gu w A n c B bs hr hB hn hc hs hb
 have hbl : bs.length = n := by have := hr.1; simpa using this
 unfold O1
 cases hw : wordR bs with
 | none =>
   rw [hw] at hrd
   clear hr hb
   go_enter Tryz.func24, Tryz.ntmps24
   go_wp2_with fail
   refine hrd.mono ?_
   rintro e w1 ⟨h1, rfl⟩
   have H1 := qh h1
   clear h1
   go_wp2
   go_ret3
   exact ⟨_, rfl, World.ownsRow_nil _ _ _ _, H1.out⟩
 | some q =>
   obtain ⟨ws, r⟩ := q
   rw [hw] at hrd
   obtain ⟨hle, hok⟩ := Iu hb hw
   have hrn : r.length ≤ n := by omega
   show Calls _ _ _ _ (Ll w (if bF ws = 0 then (ws, bs.length - r.length, 0) else ([], 0, bF ws)))
   rw [hbl]
   have gW := qh hok
   clear hr hb hw hok hbl hle
   by_cases h0 : bF ws = 0
   ·rw [if_pos h0]
    have hsub : (n : Int) - (r.length : Int) = ((n - r.length : Nat) : Int) := by omega
    have Pp := qh hsub; have H0 := qh h0
    clear hsub h0
    go_enter Tryz.func24, Tryz.ntmps24
    go_wp2_with fail
    refine hrd.mono ?_
    rintro e w1 ⟨h1, v, rfl, h2⟩
    obtain ⟨A2, c2, rfl, h3, h4⟩ := ownsRow_form h2
    have hck := iI A2 ws.length c2 w1.heap.size ws w1 (Reads.of_own h2) (Nat.le_refl _) (by omega) gW.out
    rw [H0.out] at hck
    have H1 := qh h1; have H2 := qh h2
    clear h1 h2
    go_wp2_with fail
    refine hck.mono ?_
    rintro e w2 ⟨rfl, h5⟩
    have H5 := qh h5
    clear h5
    unfold maxLen at hc
    go_wp2
    go_ret3
    refine ⟨_, by rw [← Pp.out]; rfl, ?_, H1.out.trans (H5.out.mono H1.out.size)⟩
    exact own_below' H2.out H5.out
   ·rw [if_neg h0]
    have hne : (bF ws != 0) = true := by simpa using h0
    clear h0
    go_enter Tryz.func24, Tryz.ntmps24
    go_wp2_with fail
    refine hrd.mono ?_
    rintro e w1 ⟨h1, v, rfl, h2⟩
    obtain ⟨A2, c2, rfl, h3, h4⟩ := ownsRow_form h2
    have hck := iI A2 ws.length c2 w1.heap.size ws w1 (Reads.of_own h2) (Nat.le_refl _) (by omega) gW.out
    have H1 := qh h1; have H2 := qh h2
    clear h1 h2 gW
    generalize bF ws = x at *
    go_wp2_with fail
    refine hck.mono ?_
    rintro e w2 ⟨rfl, h5⟩
    have H5 := qh h5
    clear h5
    go_wp2
    go_ret3
    exact ⟨_, rfl, World.ownsRow_nil _ _ _ _, H1.out.trans (H5.out.mono H1.out.size)⟩
end Go.Proofs.YtmepaeahchiglaaGreatDoor
namespace Go.Proofs.YtmepaeahchiglaaGreatDoor
def ML : Nat := 3988292384
def jK (r : Nat) : Nat := if r % 2 = 1 then (r / 2) ^^^ ML else r / 2
def fV : Nat → Nat → Nat
 | 0, r => r
 | k + 1, r => fV k (jK r)
def nN (r c : Nat) : Nat := fV 8 (r ^^^ c)
def eD (r : Nat) (b : List Nat) : Nat := b.foldl nN r
def ones : Nat := 4294967295
def oD (b : List Nat) : Nat := ones ^^^ eD ones b
theorem GY {r : Nat} (h : r < 4294967296) : jK r < 4294967296 := by
 unfold jK ML
 split
 ·exact Nat.xor_lt_two_pow (n := 32) (by omega) (by decide)
 ·omega
theorem lM : ∀ (k : Nat) {r : Nat}, r < 4294967296 → fV k r < 4294967296
 | 0, _, h => h
 | k + 1, _, h => lM k (GY h)
theorem El {r c : Nat} (h : r < 4294967296) (hc : c < 256) : nN r c < 4294967296 := lM 8 (Nat.xor_lt_two_pow (n := 32) h (by omega))
theorem jo : ∀ (b : List Nat) {r : Nat}, r < 4294967296 → (∀ c ∈ b, c < 256) → eD r b < 4294967296
 | [], _, h, _ => h
 | c :: b, _, h, hb => jo b (El h (hb c (List.mem_cons_self ..))) (fun x hx => hb x (List.mem_cons_of_mem _ hx))
def eH (n : Nat) : List Nat := [n % 256, n / 256 % 256, n / 65536 % 256, n / 16777216 % 256]
end Go.Proofs.YtmepaeahchiglaaGreatDoor
