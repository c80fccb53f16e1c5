/-
 layer 4: the reference's notations in memory, and New. Conditions: an inventory in memory, marks that can be read.
-/
import Derived.Test.YtmepaeahchiglaaGreatDoorZdbj
import Derived.Test.YtmepaeahchiglaaGreatDoorZdbd
set_option maxRecDepth 20000
set_option maxHeartbeats 4000000
set_option linter.unusedSimpArgs false
namespace Go.Proofs.YtmepaeahchiglaaGreatDoor
open Go.RowKit Go.Lib
def Xz (w : World) (S : Nat → Prop) (g : Nat) (fs : List ByteArray) (L : List fw) (ms : List Mk) : Prop := ∃ gi A c,
 (Blk w g 258 #[.bool true, af gi, .slice A ms.length c] ∧ S g) ∧ RInv w S gi fs L ∧
 (w.ownsRow 0 76 4 (.slice A ms.length c) ms.length (ms.flatMap ib) ∧ ∀ b, (Value.slice A ms.length c).ownBlock = some b → S b) ∧
 (∀ m ∈ ms, Jg m) ∧ jd fs.length ms = 0
def yJ (w : World) (fs : List ByteArray) (L : List fw) (ms : List Mk) (e : Ending) (w' : World) : Prop :=
 Below w.heap.size w w' ∧ ((jd fs.length ms = 0 ∧ ∃ g, e = .returned (.tuple #[af g, .int .i64 0]) ∧ Xz w' (ni w w') g fs L ms) ∨ (jd fs.length ms ≠ 0 ∧ e = .returned (.tuple #[.pointer none, .int .i64 (jd fs.length ms)])))
theorem jC {w w' : World} {fs : List ByteArray} {L : List fw} {ms : List Mk} (x : Int) (hb : Below w.heap.size w w') (h : jd fs.length ms = x) (hx : x ≠ 0) : yJ w fs L ms (.returned (.tuple #[.pointer none, .int .i64 x])) w' :=
 ⟨hb, .inr ⟨by rw [h]; exact hx, by rw [h]⟩⟩
theorem GA {a b n : Nat} : a ||| b < 2 ^ n ↔ a < 2 ^ n ∧ b < 2 ^ n :=
 ⟨fun h => ⟨Nat.lt_of_le_of_lt Nat.left_le_or h, Nat.lt_of_le_of_lt Nat.right_le_or h⟩, fun h => Nat.or_lt_two_pow h.1 h.2⟩
theorem Ko (A A' B : Prop) [Decidable A] [Decidable A'] [Decidable B] (b : Bool) (x y : Int) : (if (A ∧ A') ∧ B ∧ b = true then x else y) = if (decide A && b && decide A' && decide B) = true then x else y := by
 by_cases h1 : A <;> by_cases h2 : A' <;> by_cases h3 : B <;> cases b <;> simp [h1, h2, h3]
theorem Kv {B : Nat} {w w' : World} (h : Below B w w') (n : Nat) : Below B w (w'.drewN n) := ⟨h.os, h.tape, h.output, h.size, h.block⟩
theorem Gr (A : Option Addr) (n c B : Nat) (ms : List Mk) {w : World} {S : Nat → Prop} {g : Nat} {fs : List ByteArray} {L : List fw} (h : RInv w S g fs L) (hr : Reads w B 4 A n (ms.flatMap ib)) (hB : B ≤ w.heap.size) (hn : n ≤ c) (hm : ∀ m ∈ ms, Jg m) :
 Calls Tryz.prog 153 #[af g, .slice A n c] w (yJ w fs L ms) := by
 obtain ⟨i0, hi, hz0, hz1, hz2⟩ := info_parts (show (Tryz.prog.info? 76).map (fun i => (i.zero, i.size, i.bytes)) = some (some (.agg #[.string ByteArray.empty, .int .u32 0, .int .u32 0, .int .u32 0]), 4, 32) by kernel_rfl)
 have hfl := hr.iD (fun _ => rfl) (by decide)
 subst hfl
 have hcp := fun (w' : World) (hb : Below w.heap.size w w') => Gw (h.below hb)
 have hft := uI h
 have hf24 := h.ok.f24
 have hg0 : w.cell? ⟨g, 0, none⟩ = some (.bool true) := by obtain ⟨A1, c1, v, ⟨h1, -⟩, -⟩ := h; exact h1.cell 0
 have zM := qh hcp; have PU := qh hft; have HR := qh hr; have HM := qh hm
 clear hcp hft hr hm h
 by_cases h24 : 32 < ms.length
 ·have vL : (32 : Int) < (ms.length : Int) := by omega
  have hE : jd fs.length ms = 12 := by unfold jd; rw [if_pos h24]
  have HE := qh hE
  clear h24 hE
  go_enter Tryz.func153, Tryz.ntmps153
  go_wp2
  go_ret2
  exact jC 12 (Below.refl _ _) HE.out (by decide)
 have vL : ¬ (32 : Int) < (ms.length : Int) := by omega
 have hp : ((2 : Int) ^ fs.length % 4294967296 - 1) % 4294967296 = ((2 ^ fs.length - 1 : Nat) : Int) := by rw [Int.emod_sub_emod]; exact zf hf24
 have hm : 2 ^ fs.length - 1 < 4294967296 := by have := Nat.pow_le_pow_right (n := 2) (by decide) hf24; omega
 have Cz := qh hm
 clear hm
 go_enter Tryz.func153, Tryz.ntmps153
 go_wp2_with fail
 refine PU.out.mono ?_
 rintro e w2 ⟨v, rfl, ho, hb⟩
 obtain ⟨A3, c3, rfl, -, -⟩ := ownsRow_form ho
 have HB2 := qh hb
 clear ho hb hg0 PU
 have hE : ∀ x, notE fs.length [] ms = x → jd fs.length ms = x := fun x h => by unfold jd; rw [if_neg h24]; exact h
 have HE := qh hE
 have hR2 := HR.out.below (HB2.out.mono hB)
 have xe : B ≤ w2.heap.size := Nat.le_trans hB HB2.out.size
 have HR2 := qh hR2
 clear hE hR2 h24
 go_wp2
 rw [hp]
 clear hp
 go_loopw [7] (fun i wr => ∃ k : Nat, k ≤ ms.length ∧ i = .int .i64 k ∧ good fs.length ms k ∧ Below w2.heap.size w2 wr) (fun i _ => ms.length - (RowKit.intOf i).toNat)
 case atStart => exact ⟨0, by omega, rfl, fun i m h => absurd h (by omega), Below.refl _ _⟩
 case round =>
  obtain ⟨k, hk, rfl, hgo, hbw⟩ := hrel
  have zV := qh hgo; have aQ := qh hbw
  clear hgo hbw
  by_cases hlt : k < ms.length
  ·have cB : (k : Int) < (ms.length : Int) := by omega
   have hk0 : (0 : Int) ≤ (k : Int) := by omega
   obtain ⟨ad, rfl, had, e0, e1, e2, e3⟩ := lD (HR2.out.below (aQ.out.mono xe)) hlt
   have aS : ∀ x, gF fs.length (ms.take k) ms[k] = x → x ≠ 0 → jd fs.length ms = x := fun x h hx => HE.out x (by rw [EX hlt zV.out (by rw [h]; exact hx)]; exact h)
   have eu := yA hlt zV.out
   obtain ⟨hc32, hs32, hsz⟩ := HM.out _ (List.getElem_mem hlt)
   generalize ms[k] = y at *
   obtain ⟨text, clear_, set1, set2⟩ := y
   simp only [] at *
   have BM := fun (h : gP text = false) => aS 15 (by unfold gF; rw [if_neg (by rw [h]; decide)]) (by decide)
   have Qw := qh BM
   have JR : gP text = true → ∀ b1 b1' b2 b3 b4 : Bool, decide (clear_ < 2 ^ fs.length) = b1 → decide (set1 ||| set2 < 2 ^ fs.length) = b1' → decide (clear_ &&& (set1 ||| set2) = 0) = b2 → ax (set1, set2) = b3 → ((ms.take k).any fun y => decide (bs y.text = bs text)) = b4 → gF fs.length (ms.take k) ⟨text, clear_, (set1, set2)⟩ = if (b1 && b3 && b1' && b2) = true then (if b4 = true then 6 else 0) else 2 := by
    intro h b1 b1' b2 b3 b4 h1 h1' h2 h3 h4
    unfold gF hasB
    simp only []
    have e := propext (GA (a := clear_) (b := set1 ||| set2) (n := fs.length))
    simp only [e]
    rw [if_pos h, h4, h3]
    subst h1; subst h2; subst h1'
    exact Ko (clear_ < 2 ^ fs.length) (set1 ||| set2 < 2 ^ fs.length) (clear_ &&& (set1 ||| set2) = 0) b3 _ _
   have Ik := qh JR; have cu := qh aS; have wF := qh eu; have HS := qh hs32
   clear BM JR aS eu zV HM HR HE
   have HT := qh (fun W => zm text W hsz)
   go_wp2_with fail
   have gp := Blk.new wr 76 #[.string text, .int .u32 clear_, .int .u32 set1, .int .u32 set2]
   have hsz1 : (wr.alloc (.cells #[.string text, .int .u32 clear_, .int .u32 set1, .int .u32 set2] 76)).heap.size = wr.heap.size + 1 := World.size_alloc _ _
   have hbw1 := aQ.out.alloc (by have := aQ.out.size; omega) (.cells #[.string text, .int .u32 clear_, .int .u32 set1, .int .u32 set2] 76)
   generalize wr.alloc (.cells #[.string text, .int .u32 clear_, .int .u32 set1, .int .u32 set2] 76) = wm at *
   have zN := qh hbw1
   have nX := qh gp
   clear gp hbw1 e0 e1 e2 e3
   have hsz2 := aQ.out.size
   cases zu : gP text with
   | false =>
     have hC := HT.out wm
     rw [zu] at hC
     have HC := qh hC; have qx := qh (Qw.out zu)
     clear hC zu
     refine HC.out.mono ?_
     rintro e w3 ⟨rfl, rfl⟩
     go_wp2
     go_ret2
     exact jC 15 (HB2.out.trans (zN.out.mono HB2.out.size)) qx.out (by decide)
   | true =>
     have hC := HT.out wm
     rw [zu] at hC
     have HC := qh hC; have hmk := Ik.out zu
     clear hC zu Ik
     refine HC.out.mono ?_
     rintro e w3 ⟨rfl, rfl⟩
     have OZ : set1 < 4294967296 := HS.out.1
     have OY : set2 < 4294967296 := HS.out.2
     have f1 := u32_or_nat set1 set2 OZ OY
     have hol : set1 ||| set2 < 4294967296 := Nat.or_lt_two_pow (n := 32) OZ OY
     have bW : clear_ < 4294967296 := hc32
     have f2 := u32_andNot_nat clear_ (2 ^ fs.length - 1) bW Cz.out
     have f3 := u32_andNot_nat (set1 ||| set2) (2 ^ fs.length - 1) hol Cz.out
     have f4 := u32_and_nat clear_ (set1 ||| set2) bW hol
     have m1 := mask0 (o := clear_) (n := fs.length) bW (by omega)
     have m2 := mask0 (o := set1 ||| set2) (n := fs.length) hol (by omega)
     have hmk2 := hmk (decide (clear_ &&& (4294967295 - (2 ^ fs.length - 1)) = 0)) (decide ((set1 ||| set2) &&& (4294967295 - (2 ^ fs.length - 1)) = 0)) _ _ _ (decide_eq_decide.2 m1.symm) (decide_eq_decide.2 m2.symm) rfl rfl rfl
     have hval := fun W => gy (set1, set2) W HS.out
     have HV := qh hval
     clear hmk hol OZ OY bW hc32 m1 m2 hval
     change _ = (((clear_ &&& (4294967295 - (2 ^ fs.length - 1)) : Nat)) : Int) at f2
     change _ = ((((set1 ||| set2) &&& (4294967295 - (2 ^ fs.length - 1)) : Nat)) : Int) at f3
     generalize clear_ &&& (4294967295 - (2 ^ fs.length - 1)) = q1 at *
     generalize (set1 ||| set2) &&& (4294967295 - (2 ^ fs.length - 1)) = q2 at *
     generalize clear_ &&& (set1 ||| set2) = r at *
     generalize set1 ||| set2 = o at *
     generalize ax (set1, set2) = v at *
     have c0 := nX.out.cell 0; have c1 := nX.out.cell 1; have c2 := nX.out.cell 2; have c3' := nX.out.cell 3
     simp only [gq2] at c0 c1 c2 c3'
     by_cases hq0 : q1 = 0
     case neg =>
      have WB : ((q1 : Int) == 0) = false := by rw [beq_eq_false_iff_ne]; omega
      have hE := cu.out 2 (by rw [hmk2, decide_eq_false hq0]; rfl) (by decide)
      have qx := qh hE
      clear hE hmk2
      go_wp2
      go_ret2
      exact jC 2 (HB2.out.trans (zN.out.mono HB2.out.size)) qx.out (by decide)
     subst hq0
     cases v with
     | false =>
       have hE := cu.out 2 (by rw [hmk2]; rfl) (by decide)
       have qx := qh hE
       clear hE hmk2
       go_wp2_with fail
       refine (HV.out _).mono ?_
       rintro e w4 ⟨rfl, hb4⟩
       have jS := qh (zN.out.trans (hb4.mono zN.out.size))
       clear hb4
       go_wp2
       go_ret2
       exact jC 2 (HB2.out.trans (jS.out.mono HB2.out.size)) qx.out (by decide)
     | true =>
       go_wp2_with fail
       refine (HV.out _).mono ?_
       rintro e w4 ⟨rfl, hb4⟩
       have hbk4 := nX.out.below hb4 (by omega)
       clear c0 c1 c2 c3'
       have c0 := hbk4.cell 0; have c1 := hbk4.cell 1
       simp only [gq2] at c0 c1
       have hs4 := hb4.size
       have jS := qh (zN.out.trans (hb4.mono zN.out.size)); have EI := qh hbk4
       clear hb4 hbk4 nX HV HT HC Qw
       by_cases hq2 : q2 = 0
       case neg =>
        have WB : ((q2 : Int) == 0) = false := by rw [beq_eq_false_iff_ne]; omega
        have hE := cu.out 2 (by rw [hmk2, decide_eq_false hq2]; rfl) (by decide)
        have qx := qh hE
        clear hE hmk2
        go_wp2
        go_ret2
        exact jC 2 (HB2.out.trans (jS.out.mono HB2.out.size)) qx.out (by decide)
       subst hq2
       by_cases hr0 : r = 0
       case neg =>
        have ZV : ((r : Int) == 0) = false := by rw [beq_eq_false_iff_ne]; omega
        have hE := cu.out 2 (by rw [hmk2, decide_eq_false hr0]; rfl) (by decide)
        have qx := qh hE
        clear hE hmk2
        go_wp2
        go_ret2
        exact jC 2 (HB2.out.trans (jS.out.mono HB2.out.size)) qx.out (by decide)
       subst hr0
       have hmk3 : gF fs.length (ms.take k) ⟨text, clear_, (set1, set2)⟩ = if ((ms.take k).any fun y => decide (bs y.text = bs text)) = true then 6 else 0 := hmk2
       have Hr := qh hmk3
       clear hmk2 hmk3
       go_wp2
       clear c1 f1 f2 f3 f4
       go_loopw [10] (fun j wq => ∃ m : Nat, m ≤ k ∧ j = .int .i64 m ∧ ((ms.take m).any fun y => decide (bs y.text = bs text)) = false ∧ Below w4.heap.size w4 wq) (fun j _ => k - (RowKit.intOf j).toNat)
       case atStart => exact ⟨0, by omega, rfl, rfl, Below.refl _ _⟩
       case round =>
        rename_i wq _
        obtain ⟨m, hm, rfl, hany, hb5⟩ := hrel
        have Qv := qh hany; have mh := qh hb5
        have hbk5 := EI.out.below hb5 (by omega)
        clear c0
        have c0 := hbk5.cell 0
        simp only [gq2] at c0
        clear hany hbk5 hb5
        by_cases hmk : m < k
        ·have Qg : (m : Int) < (k : Int) := by omega
         have hm0 : (0 : Int) ≤ (m : Int) := by omega
         have Ms : m < ms.length := by omega
         have WJ : (m : Int) < (ms.length : Int) := by omega
         obtain ⟨ad2, e2, -, d0, -, -, -⟩ := lD (HR2.out.below ((jS.out.trans (mh.out.mono jS.out.size)).mono xe)) Ms
         obtain rfl := Option.some.inj e2
         have dU : ((ms.take (m + 1)).any fun y => decide (bs y.text = bs text)) = decide (bs ms[m].text = bs text) := by rw [List.take_succ_eq_append_getElem Ms, List.any_append, Qv.out]; simp
         have eu : bs ms[m].text = bs text → ((ms.take k).any fun y => decide (bs y.text = bs text)) = true := fun h => List.any_eq_true.2 ⟨ms[m], List.mem_take_iff_getElem.2 ⟨m, by omega, rfl⟩, decide_eq_true h⟩
         have hbeq := oQ ms[m].text text
         generalize ms[m].text = t2 at *
         by_cases hsm : bs t2 = bs text
         ·have hE := cu.out 6 (by rw [Hr.out, eu hsm]; rfl) (by decide)
          rw [decide_eq_true hsm] at hbeq
          have HE := qh hE
          clear dU eu hsm hE
          go_wp2
          go_quiet (fail)
          go_wp2
          go_ret2
          exact jC 6 (HB2.out.trans ((jS.out.trans ((Kv mh.out _).mono jS.out.size)).mono HB2.out.size)) HE.out (by decide)
         ·rw [decide_eq_false hsm] at hbeq dU
          have ou := qh dU
          clear dU eu hsm
          go_wp2
          go_quiet (fail)
          go_wp2
          go_roundw
          case rel => exact ⟨m + 1, by omega, by go_num, ou.out, Kv mh.out _⟩
          case measure => simp [RowKit.intOf]; omega
        ·obtain rfl : m = k := by omega
         have hE := wF.out (by rw [Hr.out, Qv.out]; rfl)
         have qx := qh hE
         clear hE hmk
         go_wp2
         go_roundw
         case rel => exact ⟨m + 1, by omega, by go_num, qx.out, jS.out.trans (mh.out.mono jS.out.size)⟩
         case measure => simp [RowKit.intOf]; omega
  ·obtain rfl : k = ms.length := by omega
   have hE0 := HE.out 0 (Bz zV.out)
   have hir := zM.out _ (HB2.out.trans (aQ.out.mono HB2.out.size))
   have Yl := qh hir; have qy := qh hE0
   clear hir hE0 hlt HE zM
   go_wp2_with fail
   refine Yl.out.mono ?_
   rintro e w3 ⟨gi, rfl, hi3, hb3⟩
   have s1 := HB2.out.size
   have s2 := aQ.out.size
   have s3 := hb3.size
   have hrr := HR2.out.below ((aQ.out.trans (hb3.mono s2)).mono xe)
   have hown := eZ w3 76 4
   have hr' := hrr.alloc (show B ≤ w3.heap.size by omega) (.cells #[] 76)
   have HI3 := qh hi3; have HB3 := qh (HB2.out.trans ((aQ.out.trans (hb3.mono s2)).mono s1)); have bD := qh hown; have yM := qh hr'
   clear hi3 hb3 hrr hown hr' HR2 HR
   go_wp2_with (at_builtin; refine wpList_append_any _ rfl _ _ _ rfl w3.heap.size 76 i0 (.agg #[.string ByteArray.empty, .int .u32 0, .int .u32 0, .int .u32 0]) 4 32 Tryz.underlying24 hi hz0 hz1 hz2 rfl (by decide) _ _ _ rfl bD.out B _ _ _ (ms.flatMap ib) rfl yM.out (yt ms) (by unfold maxLen; omega) (by omega) (by simp) ?_; intro v' w4 ai ag hx; have tK := qh (((Below.refl _ w3).alloc (Nat.le_refl _) (.cells #[] 76)).grown ag (by simp) (fun g hg => (bD.out.lt g hg).1)); obtain ⟨A4, c4, rfl, -, -⟩ := ownsRow_form ai; have HO := qh ai; clear ag hx ai)
   go_ret2
   have hb4 := tK.out
   have ho := HO.out
   have s4 := hb4.size
   simp only [Nat.zero_add, List.nil_append] at ho ⊢
   refine ⟨(HB3.out.trans (hb4.mono (by omega))).trans ((Below.refl _ w4).alloc (by omega) _), .inl ⟨qy.out, _, rfl, gi, A4, c4, ⟨Blk.new _ _ _, ⟨by omega, by rw [World.size_alloc]; omega⟩⟩, ?_, ⟨dh (ho.alloc _) (Nat.zero_le _), (fun b hb => by have := ho.lt b hb; refine ⟨by omega, ?_⟩; rw [World.size_alloc]; omega)⟩, HM.out, qy.out⟩⟩
   exact ((HI3.out.below hb4).below ((Below.refl _ w4).alloc (Nat.le_refl _) _)).mono fun b hb => ⟨by have := hb.1; omega, by have := hb.2; rw [World.size_alloc]; omega⟩
def qo (w : World) (S : Nat → Prop) (g : Nat) (fs : List ByteArray) (L : List fw) (sym : ByteArray) (s : Snd) (e : Ending) (w' : World) : Prop :=
 e = .returned (.int .i64 (gX fs.length L sym s)) ∧ RInv w' (fun b => S b ∨ ni w w' b) g fs (sO fs.length L (sym, s)) ∧ bA S w w'
theorem L6 {w w' : World} {S : Nat → Prop} {g : Nat} {fs : List ByteArray} {L : List fw} {sym : ByteArray} {s : Snd} (x : Int) (h : RInv w S g fs L) (hb : Below w.heap.size w w') (hx : gX fs.length L sym s = x) (h0 : x ≠ 0) : qo w S g fs L sym s (.returned (.int .i64 x)) w' := by
 refine ⟨by rw [hx], ?_, .of_below hb⟩
 have e : sO fs.length L (sym, s) = L := by unfold sO; rw [if_neg (by rw [hx]; exact h0)]
 rw [e]
 exact (h.below hb).mono fun b hb => .inl hb
theorem below_drewN {B : Nat} {w w' : World} (h : Below B w w') (n : Nat) : Below B w (w'.drewN n) := ⟨h.os, h.tape, h.output, h.size, h.block⟩
def iV (sym : ByteArray) (s : Snd) (x : fw) : Bool := decide (bs x.1 = bs sym) || decide (x.2 = s)
theorem qC {L : List fw} {sym : ByteArray} {s : Snd} : L.any (iV sym s) = (fH L (bs sym) || lI L s) := by
 unfold iV fH lI
 induction L with
 | nil => rfl
 | cons x L ih =>
   simp only [List.any_cons, ih]
   cases decide (bs x.1 = bs sym) <;> cases decide (x.2 = s) <;> simp
theorem I8 {w : World} {S : Nat → Prop} {g : Nat} {fs : List ByteArray} {L : List fw} (sym : ByteArray) (s : Snd) (h : RInv w S g fs L) (hS : ∀ b, S b → b < w.heap.size) (hs : ok32 s) (hsy : sym.size ≤ maxLen) :
 Calls Tryz.prog 194 #[af g, .string sym, jy s] w (qo w S g fs L sym s) := by
 obtain ⟨i0, hi, hz0, hz1, hz2⟩ := info_parts (show (Tryz.prog.info? 74).map (fun i => (i.zero, i.size, i.bytes)) = some (some (.agg #[.string ByteArray.empty, .int .u32 0, .int .u32 0]), 3, 24) by kernel_rfl)
 have hb0 := (Below.refl w.heap.size w).alloc (Nat.le_refl _) (.cells #[.int .u32 s.1, .int .u32 s.2] 55)
 have hx0 := Blk.new w 55 #[.int .u32 s.1, .int .u32 s.2]
 have h1 := h.below hb0
 have hmd := nC h1
 have hcs := zq sym (w.alloc (.cells #[.int .u32 s.1, .int .u32 s.2] 55)) hsy
 have hbg := zb h1 s hs
 have aS := fun x (w' : World) hb hx h0 => L6 (w' := w') (sym := sym) (s := s) x h hb hx h0
 have hE1 : iO sym = false → gX fs.length L sym s = 15 := fun h => by unfold gX; rw [h]; rfl
 have hE2 : iO sym = true → dJ fs.length s = false → gX fs.length L sym s = 14 := fun h h2 => by unfold gX; rw [h, h2]; rfl
 have RN : iO sym = true → dJ fs.length s = true → L.any (iV sym s) = true → gX fs.length L sym s = 6 := fun h h2 h3 => by unfold gX; rw [h, h2, ← qC, h3]; rfl
 have RL : iO sym = true → dJ fs.length s = true → L.any (iV sym s) = false → gX fs.length L sym s = if L.length = 256 then 4 else 0 := fun h h2 h3 => by unfold gX; rw [h, h2, ← qC, h3]; rfl
 obtain ⟨W0, hW0⟩ : ∃ W, w.alloc (.cells #[.int .u32 s.1, .int .u32 s.2] 55) = W := ⟨_, rfl⟩
 have hsz0 : W0.heap.size = w.heap.size + 1 := by rw [← hW0]; simp
 rw [hW0] at hb0 hx0 h1 hmd hcs hbg
 have HW0 := qh hW0; have HB0 := qh hb0; have HX0 := qh hx0; have H1 := qh h1; have EF := qh hmd; have nW := qh hcs; have Li := qh hbg; have cu := qh aS; have rD := qh hE1; have HE2 := qh hE2; have nV := qh RN; have sj := qh RL; have HH := qh h; have HS := qh hS
 have hl256 := h.ok.l256
 clear hW0 hb0 hx0 h1 hmd hcs hbg aS hE1 hE2 RN RL h hS
 unfold maxLen at hsy
 cases gI : iO sym with
 | false =>
   rw [gI] at nW
   have HE := qh (rD.out gI)
   clear gI
   go_enter Tryz.func194, Tryz.ntmps194
   go_wp2_with fail
   rw [HW0.out]
   go_wp2_with (first | (go_at_call 223; refine EF.out.mono ?_; rintro e w' ⟨rfl, rfl⟩) | (go_at_call 224; refine nW.out.mono ?_; rintro e w' ⟨rfl, rfl⟩))
   go_ret
   exact cu.out 15 _ HB0.out HE.out (by decide)
 | true =>
   rw [gI] at nW
   cases dV : dJ fs.length s with
   | false =>
     have HE := qh (HE2.out gI dV)
     rw [dV] at Li
     clear gI dV
     go_enter Tryz.func194, Tryz.ntmps194
     go_wp2_with fail
     rw [HW0.out]
     have c0 := HX0.out.cell 0
     have c1 := HX0.out.cell 1
     simp only [gq2] at c0 c1
     go_wp2_with (first | (go_at_call 223; refine EF.out.mono ?_; rintro e w' ⟨rfl, rfl⟩) | (go_at_call 224; refine nW.out.mono ?_; rintro e w' ⟨rfl, rfl⟩))
     refine Li.out.mono ?_
     rintro e w2 ⟨rfl, hb2⟩
     have HB2 := qh (HB0.out.trans (hb2.mono (by omega)))
     clear hb2 c0 c1
     go_wp2
     go_ret
     exact cu.out 14 _ HB2.out HE.out (by decide)
   | true =>
     rw [dV] at Li
     have Ng := qh (nV.out gI dV); have PY := qh (sj.out gI dV); have sV := qh gI; have P7 := qh dV
     clear gI dV rD HE2 nV sj
     go_enter Tryz.func194, Tryz.ntmps194
     go_wp2_with fail
     rw [HW0.out]
     have c0 := HX0.out.cell 0
     have c1 := HX0.out.cell 1
     simp only [gq2] at c0 c1
     go_wp2_with (first | (go_at_call 223; refine EF.out.mono ?_; rintro e w' ⟨rfl, rfl⟩) | (go_at_call 224; refine nW.out.mono ?_; rintro e w' ⟨rfl, rfl⟩))
     refine Li.out.mono ?_
     rintro e w2 ⟨rfl, hb2⟩
     clear c0 c1
     have h2 := H1.out.below hb2
     have hx2 := HX0.out.below hb2 (by omega)
     have hbb2 := HB0.out.trans (hb2.mono (by omega))
     have hs2 := hb2.size
     obtain ⟨A, c, v, ⟨k1, k2⟩, ⟨k3, k4⟩, ⟨k5, k6⟩, k16⟩ := h2
     obtain ⟨A2, c2, rfl, e1, e2⟩ := ownsRow_form k5
     have hsz2 : W0.heap.size ≤ w2.heap.size := hs2
     have HB2 := qh hbb2; have wO := qh hx2
     have K1 := qh k1; have K3 := qh k3; have K5 := qh k5; have K6 := qh k6; have MR := qh k16; have K2 := qh k2
     clear hb2 hbb2 hx2 hs2 k1 k2 k3 k5 k6 k16 Li nW EF HX0 H1
     go_wp2
     go_loopw [7] (fun i wr => ∃ k : Nat, k ≤ L.length ∧ i = .int .i64 k ∧ (L.take k).any (iV sym s) = false ∧ Below w2.heap.size w2 wr) (fun i _ => L.length - (RowKit.intOf i).toNat)
     case atStart => exact ⟨0, by omega, rfl, rfl, Below.refl _ _⟩
     case round =>
      obtain ⟨k, hk, rfl, aI, hb⟩ := hrel
      obtain ⟨W, rfl⟩ : ∃ W, W = wr := ⟨_, rfl⟩
      have bf := qh aI; have aQ := qh hb
      have cc := wO.out.below hb (by omega)
      have d0 := cc.cell 0
      have d1 := cc.cell 1
      have gg := K1.out.below hb K1.out.lt
      have g2 := gg.cell 2
      simp only [gq2] at d0 d1 g2
      have hsz := hb.size
      by_cases hlt : k < L.length
      ·have cB : (k : Int) < (L.length : Int) := by omega
       have hk0 : (0 : Int) ≤ (k : Int) := by omega
       have hrr : Reads w2 w2.heap.size 3 A2 L.length (L.flatMap eP) := Reads.of_own K5.out
       obtain ⟨ad, rfl, had, e0, Zb, e2'⟩ := kS (Reads.below hrr hb) hlt
       have dU : (L.take (k + 1)).any (iV sym s) = iV sym s L[k] := by rw [List.take_succ_eq_append_getElem hlt, List.any_append, bf.out]; simp
       have eu : iV sym s L[k] = true → L.any (iV sym s) = true := fun h => List.any_eq_true.2 ⟨_, List.getElem_mem hlt, h⟩
       have hth : iV sym s L[k] = (decide (bs L[k].1 = bs sym) || decide (L[k].2 = s)) := rfl
       rw [← oQ, ← LX] at hth
       generalize L[k] = x at *
       obtain ⟨x1, x2, x3⟩ := x
       have hth : iV sym s (x1, x2, x3) = ((x1.toList == sym.toList) || (((x2 : Int) == (s.1 : Int)) && ((x3 : Int) == (s.2 : Int)))) := hth
       have PX := qh (fun h => Ng.out (eu h)); have ou := qh dU
       clear aI hb cc gg hrr dU eu
       cases q1 : (x1.toList == sym.toList) with
       | true =>
         have HE := qh (PX.out (by rw [hth, q1]; rfl))
         clear hth
         go_wp2
         go_quiet (fail)
         go_wp2
         go_ret
         exact cu.out 6 _ (HB2.out.trans ((below_drewN aQ.out _).mono (by omega))) HE.out (by decide)
       | false =>
         cases q2 : ((x2 : Int) == (s.1 : Int)) <;> cases q3 : ((x3 : Int) == (s.2 : Int))
         case true.true =>
          have HE := qh (PX.out (by rw [hth, q1, q2, q3]; rfl))
          clear hth
          go_wp2
          go_quiet (fail)
          go_wp2
          go_ret
          exact cu.out 6 _ (HB2.out.trans ((below_drewN aQ.out _).mono (by omega))) HE.out (by decide)
         all_goals
          have HTH : Hid ((L.take (k + 1)).any (iV sym s) = false) := qh (ou.out.trans (by simp [hth, q1, q2, q3]))
          clear hth
          go_wp2
          go_quiet (fail)
          go_wp2
          go_roundw
          case rel => exact ⟨k + 1, by omega, by go_num, HTH.out, below_drewN aQ.out _⟩
          case measure => simp [RowKit.intOf]; omega
      ·obtain rfl : k = L.length := by omega
       have aI := bf.out
       rw [List.take_length] at aI
       have hE := PY.out aI
       have MV := qh (Bool.or_eq_false_iff.1 (qC.symm.trans aI))
       clear hlt aI bf
       by_cases h256 : L.length = 256
       ·have vK : (256 : Int) ≤ (L.length : Int) := by omega
        rw [if_pos h256] at hE
        have HE := qh hE
        clear hE h256
        go_wp2
        go_ret
        exact cu.out 4 _ (HB2.out.trans (aQ.out.mono (by omega))) HE.out (by decide)
       ·have vK : ¬ (256 : Int) ≤ (L.length : Int) := by omega
        rw [if_neg h256] at hE
        have HE := qh hE
        have M8 := qh (own_below K5.out hb); have Oa := qh gg; have yL := qh cc
        have Le := qh (bA.of_below (S := fun _ => False) hb)
        have hrn := az W 74 (eP (sym, s)) 3 1 rfl
        have dR := qh hrn
        clear hE hb cc gg hrn
        go_wp2
        refine wp_region_held_drew (S := (fun W => W.cell? ⟨w.heap.size, 0, none⟩ = some (.int .u32 s.1) ∧ W.cell? ⟨w.heap.size, 1, none⟩ = some (.int .u32 s.2))) (by kernel_rfl) ?_ (fun ah => ?_)
        ·exact ⟨d0, d1⟩
        have hx6 : Blk W.drew w.heap.size 55 #[.int .u32 s.1, .int .u32 s.2] := yL.out
        have hg6 : Blk W.drew g 255 #[.bool true, .slice A fs.length c, .slice A2 L.length c2] := Oa.out
        have ho6 : W.drew.ownsRow 0 74 3 (.slice A2 L.length c2) L.length (L.flatMap eP) := M8.out
        have hgx : g ≠ w.heap.size := fun e => by have := HS.out _ K2.out; omega
        have hkeep : ∀ W', bA (fun b => b = g ∨ (Value.slice A2 L.length c2).ownBlock = some b) W.drew W' → W'.cell? ⟨w.heap.size, 0, none⟩ = some (.int .u32 s.1) ∧ W'.cell? ⟨w.heap.size, 1, none⟩ = some (.int .u32 s.2) := fun W' hc => by
         have hxo := own_blk_ne ho6 hx6 (by decide)
         have Qd := hx6.dQ hc (fun e => by
          rcases e with e | e
          ·exact hgx e.symm
          ·exact hxo e)
         have d0 := Qd.cell 0
         have d1 := Qd.cell 1
         simp only [gq2] at d0 d1
         exact ⟨d0, d1⟩
        have hc6 : bA (fun _ => False) w2 W.drew := Le.out.drewN 1
        have bR := qh hkeep; have CE := qh hg6; have UK := qh ho6; have Vf := qh hc6
        clear hx6 hg6 hkeep ho6 hc6 d0 d1 Oa yL Le M8 g2
        obtain ⟨w6, hw6⟩ : ∃ W', W.drew = W' := ⟨_, rfl⟩
        have ZZ := dR.out
        rw [hw6] at UK bR ah CE Vf ⊢
        have dR := qh (az w6 74 (eP (sym, s)) 3 1 rfl)
        clear ZZ
        have g2 := CE.out.cell 2
        have fr2 := CE.out.frozen 2
        simp only [gq2] at g2
        have C0 := qh (bA.refl (fun b => b = g ∨ (Value.slice A2 L.length c2).ownBlock = some b) w6)
        have C1 := qh (C0.out.alloc (.cells #[.string sym, .int .u32 s.1, .int .u32 s.2] 74))
        have hsz6 := Vf.out.size
        have hgl6 : g < w6.heap.size := CE.out.lt
        clear hw6
        iterate 4
         refine tkH 0 (v := ?_) rfl (fun _ _ _ h => h) ?_ ?_
         rotate_left
         ·intro w hSw; (try dsimp only at hSw); (try simp only [tkN, gq3, gq1]); go_simp <;> with_reducible rfl
         try simp only [tkN, Act.put, gq3, gq1]
        iterate 3
         refine tkH 5 (v := ?_) rfl (fun _ _ _ h => h) ?_ ?_
         rotate_left
         ·intro w hSw; (try dsimp only at hSw); (try simp only [tkN, gq3, gq1]); go_simp <;> with_reducible rfl
         try simp only [tkN, Act.put, gq3, gq1]
        have iQ : ∀ (w7 : World) (v7 : Value) (w8 : World), w7.ownsRow 0 74 3 v7 (L.length + 1) (L.flatMap eP ++ eP (sym, s)) → (v7.ownBlock = (Value.slice A2 L.length c2).ownBlock ∨ v7.ownBlock = some (w6.heap.size + 1)) → Blk w7 g 255 #[.bool true, .slice A fs.length c, .slice A2 L.length c2] →
         w7.setCell ⟨g, 2, none⟩ v7 = w8 → bA (fun b => b = g ∨ (Value.slice A2 L.length c2).ownBlock = some b) w6 w8 → qo w S g fs L sym s (.returned (.int .i64 0)) w8 := fun w7 v7 w8 ho7 hor hg7 he hc8 => by
         have hsz8 := hc8.size
         have hadd : sO fs.length L (sym, s) = L ++ [(sym, s)] := by unfold sO; rw [if_pos HE.out]
         have hfl : (L ++ [(sym, s)]).length = L.length + 1 := by simp
         have hT : bA (fun b => b = g ∨ (Value.slice A2 L.length c2).ownBlock = some b) w2 w8 := (Vf.out.mono (fun _ _ h => h.elim)).new hc8 (fun i _ h => h)
         have hv7 : v7.ownBlock ≠ some g := own_blk_ne ho7 hg7 (by decide)
         have ho8 : w8.ownsRow 0 74 3 v7 (L.length + 1) ((L ++ [(sym, s)]).flatMap eP) := by
          rw [← he, List.flatMap_append]
          have e : [(sym, s)].flatMap eP = eP (sym, s) := by simp
          rw [e]
          exact bH ho7 ((bA.refl (fun b => b = g) w7).setCell (p := ⟨g, 2, none⟩) (.inl rfl) v7) (fun k hk e => hv7 (e ▸ hk))
         have hg8 : Blk w8 g 255 #[.bool true, .slice A fs.length c, v7] := by
          rw [← he]; simpa using hg7.set_ 2 v7
         have hl8 : ∀ b, v7.ownBlock = some b → b < w8.heap.size := fun b hb => (ho8.lt b hb).2
         have J5 := uS K3.out K5.out (by decide)
         refine ⟨by rw [HE.out], ?_, ?_⟩
         ·rw [hadd]
          refine ⟨A, c, v7, ⟨hg8, .inl K2.out⟩, ⟨bH K3.out hT (fun k hk h => ?_), fun b hb => .inl (k4 b hb)⟩, ⟨by rw [hfl]; exact ho8, fun b hb => ?_⟩, ⟨MR.out.f24, MR.out.O3, by rw [hfl]; omega, fun x hx => ?_, yn MR.out.nd MV.out.1⟩⟩
          ·rcases h with h | h
           ·exact own_blk_ne K3.out K1.out (by decide) (h ▸ hk)
           ·rcases J5 with e | e
            ·rw [e] at hk; cases hk
            ·exact e (hk.trans h.symm)
          ·rcases hor with e | e
           ·exact .inl (K6.out b (by rw [← e]; exact hb))
           ·rw [hb] at e
            injection e with e
            exact .inr ⟨by omega, hl8 b hb⟩
          ·rcases List.mem_append.1 hx with hx | hx
           ·exact MR.out.sym x hx
           ·rw [List.mem_singleton.1 hx]; exact ⟨sV.out, P7.out, hs⟩
         ·refine (bA.of_below HB2.out).new hT (fun i _ h => ?_)
          rcases h with h | h
          ·rw [h]; exact K2.out
          ·exact K6.out _ h
        have kE := qh iQ
        clear iQ
        refine rdJ 4 8 (fun K hK => ?_) fun K hK => ?_
        ·go_simp
         refine hK.out _ _ ?_ (fun aJ => ?_)
         ·(try dsimp only)
          exact bR.out _ (by first | exact C0.out | exact C1.out | exact C2.out | exact C3.out)
         clear hK K ah; rename _ => ah
         refine rdH 8 fun K hK => ?_
         go_simp
         refine hK.out _ _ ?_ (fun aJ => ?_)
         ·(try dsimp only)
          exact bR.out _ (by first | exact C0.out | exact C1.out | exact C2.out | exact C3.out)
         clear hK K ah; rename _ => ah
         refine rdH 9 fun K hK => ?_
         refine step_append_any _ rfl _ _ 23 rfl 0 74 i0 (.agg #[.string ByteArray.empty, .int .u32 0, .int .u32 0]) 3 24 Tryz.underlying23 hi hz0 hz1 hz2 rfl (by decide) _ _ _ rfl (UK.out.alloc _) _ _ _ _ (eP (sym, s)) rfl dR.out (by simp [Value.oneCell']) (by unfold maxLen; omega) (by omega) (by omega) ?_
         intro v7 w7 hown7 hgrow7 hor7
         have C2 := qh (C1.out.grown hgrow7 (fun k hk => .inl (.inr hk)))
         refine hK.out _ _ ?_ (fun aJ => ?_)
         ·(try dsimp only)
          exact bR.out _ (by first | exact C0.out | exact C1.out | exact C2.out | exact C3.out)
         clear hK K ah; rename _ => ah
         obtain ⟨A7, c7, rfl, e71, e72⟩ := ownsRow_form hown7
         have hg7 := (CE.out.alloc (.cells #[.string sym, .int .u32 s.1, .int .u32 s.2] 74)).grown hgrow7 (fun e => by have := own_blk_ne UK.out CE.out (by decide); exact this e.symm)
         have g27 := hg7.cell 2
         have fr27 := hg7.frozen 2
         simp only [gq2] at g27
         have C3 := qh (C2.out.setCell (p := ⟨g, 2, none⟩) (.inl (.inl rfl)) (.slice A7 (L.length + 1) c7))
         have ay := kE.out _ _ _ hown7 (hor7.imp id (fun e => e.trans (by rw [World.size_alloc]))) hg7 rfl C3.out
         have aD := qh ay
         clear hown7 hgrow7 hg7 hor7 ay
         iterate 2
          refine tkH 10 (v := ?_) rfl (fun _ _ _ h => h) ?_ ?_
          rotate_left
          ·intro w hSw; (try dsimp only at hSw); (try simp only [tkN, gq3, gq1]); go_simp <;> with_reducible rfl
          try simp only [tkN, Act.put, gq3, gq1]
         refine rdH 12 fun K hK => ?_
         go_simp
         refine hK.out _ _ ?_ (fun aJ => ?_)
         ·(try dsimp only)
          exact bR.out _ (by first | exact C0.out | exact C1.out | exact C2.out | exact C3.out)
         clear hK K ah; rename _ => ah
         refine wpAnyH_done (by kernel_rfl) ?_ _
         clear ah g27 fr27
         go_wp2
         go_ret
         exact aD.out
        ·go_simp
         refine hK.out _ _ ?_ (fun aJ => ?_)
         ·(try dsimp only)
          exact bR.out _ (by first | exact C0.out | exact C1.out | exact C2.out | exact C3.out)
         clear hK K ah; rename _ => ah
         refine rdH 4 fun K hK => ?_
         go_simp
         refine hK.out _ _ ?_ (fun aJ => ?_)
         ·(try dsimp only)
          exact bR.out _ (by first | exact C0.out | exact C1.out | exact C2.out | exact C3.out)
         clear hK K ah; rename _ => ah
         refine rdH 9 fun K hK => ?_
         refine step_append_any _ rfl _ _ 23 rfl 0 74 i0 (.agg #[.string ByteArray.empty, .int .u32 0, .int .u32 0]) 3 24 Tryz.underlying23 hi hz0 hz1 hz2 rfl (by decide) _ _ _ rfl (UK.out.alloc _) _ _ _ _ (eP (sym, s)) rfl dR.out (by simp [Value.oneCell']) (by unfold maxLen; omega) (by omega) (by omega) ?_
         intro v7 w7 hown7 hgrow7 hor7
         have C2 := qh (C1.out.grown hgrow7 (fun k hk => .inl (.inr hk)))
         refine hK.out _ _ ?_ (fun aJ => ?_)
         ·(try dsimp only)
          exact bR.out _ (by first | exact C0.out | exact C1.out | exact C2.out | exact C3.out)
         clear hK K ah; rename _ => ah
         obtain ⟨A7, c7, rfl, e71, e72⟩ := ownsRow_form hown7
         have hg7 := (CE.out.alloc (.cells #[.string sym, .int .u32 s.1, .int .u32 s.2] 74)).grown hgrow7 (fun e => by have := own_blk_ne UK.out CE.out (by decide); exact this e.symm)
         have g27 := hg7.cell 2
         have fr27 := hg7.frozen 2
         simp only [gq2] at g27
         have C3 := qh (C2.out.setCell (p := ⟨g, 2, none⟩) (.inl (.inl rfl)) (.slice A7 (L.length + 1) c7))
         have ay := kE.out _ _ _ hown7 (hor7.imp id (fun e => e.trans (by rw [World.size_alloc]))) hg7 rfl C3.out
         have aD := qh ay
         clear hown7 hgrow7 hg7 hor7 ay
         iterate 2
          refine tkH 10 (v := ?_) rfl (fun _ _ _ h => h) ?_ ?_
          rotate_left
          ·intro w hSw; (try dsimp only at hSw); (try simp only [tkN, gq3, gq1]); go_simp <;> with_reducible rfl
          try simp only [tkN, Act.put, gq3, gq1]
         refine rdH 12 fun K hK => ?_
         go_simp
         refine hK.out _ _ ?_ (fun aJ => ?_)
         ·(try dsimp only)
          exact bR.out _ (by first | exact C0.out | exact C1.out | exact C2.out | exact C3.out)
         clear hK K ah; rename _ => ah
         refine wpAnyH_done (by kernel_rfl) ?_ _
         clear ah g27 fr27
         go_wp2
         go_ret
         exact aD.out
end Go.Proofs.YtmepaeahchiglaaGreatDoor
