/-
  layer 4: the reference's notations in memory, and New. Conditions: an inventory in memory, marks that can be read.
-/
import Derived.Test.YtmepaeahchiglaaGreatDoorZabc
import Derived.Deep.QuietTactic
import Derived.BigQuiet
namespace Go.Proofs.YtmepaeahchiglaaGreatDoor
open Go.RowKit Go.Lib

/-- The reference's notation in memory, in blocks of S. -/
def RNot (w : World) (S : Nat → Prop) (g : Nat) (fs : List ByteArray) (L : List Nam) (ms : List Mk) : Prop := ∃ gi A c,
  (Blk w g 258 #[.bool true, wptr gi, .slice A ms.length c] ∧ S g) ∧ RInv w S gi fs L ∧
  (w.ownsRow 0 76 4 (.slice A ms.length c) ms.length (ms.flatMap markC) ∧ ∀ b, (Value.slice A ms.length c).ownBlock = some b → S b) ∧
  (∀ m ∈ ms, okMk m) ∧ notK fs.length ms = 0
def RNewNPost (w : World) (fs : List ByteArray) (L : List Nam) (ms : List Mk) (e : Ending) (w' : World) : Prop :=
  Below w.heap.size w w' ∧ ((notK fs.length ms = 0 ∧ ∃ g, e = .returned (.tuple #[wptr g, .int .i64 0]) ∧ RNot w' (NewB4 w w') g fs L ms) ∨ (notK fs.length ms ≠ 0 ∧ e = .returned (.tuple #[.pointer none, .int .i64 (notK fs.length ms)])))
theorem rnewN_no {w w' : World} {fs : List ByteArray} {L : List Nam} {ms : List Mk} (x : Int) (hb : Below w.heap.size w w') (h : notK fs.length ms = x) (hx : x ≠ 0) : RNewNPost w fs L ms (.returned (.tuple #[.pointer none, .int .i64 x])) w' :=
  ⟨hb, .inr ⟨by rw [h]; exact hx, by rw [h]⟩⟩
theorem or_lt_two {a b n : Nat} : a ||| b < 2 ^ n ↔ a < 2 ^ n ∧ b < 2 ^ n :=
  ⟨fun h => ⟨Nat.lt_of_le_of_lt Nat.left_le_or h, Nat.lt_of_le_of_lt Nat.right_le_or h⟩, fun h => Nat.or_lt_two_pow h.1 h.2⟩
theorem cond_lem (A A' B : Prop) [Decidable A] [Decidable A'] [Decidable B] (b : Bool) (x y : Int) : (if (A ∧ A') ∧ B ∧ b = true then x else y) = if (decide A && b && decide A' && decide B) = true then x else y := by
  by_cases h1 : A <;> by_cases h2 : A' <;> by_cases h3 : B <;> cases b <;> simp [h1, h2, h3]
theorem bdrewN {B : Nat} {w w' : World} (h : Below B w w') (n : Nat) : Below B w (w'.drewN n) := ⟨h.os, h.tape, h.output, h.size, h.block⟩
set_option maxRecDepth 20000 in
set_option maxHeartbeats 4000000 in
theorem rnewN_any (A : Option Addr) (n c B : Nat) (ms : List Mk) {w : World} {S : Nat → Prop} {g : Nat} {fs : List ByteArray} {L : List Nam} (h : RInv w S g fs L) (hr : Reads w B 4 A n (ms.flatMap markC)) (hB : B ≤ w.heap.size) (hn : n ≤ c) (hm : ∀ m ∈ ms, okMk m) :
    Calls Tryz.prog 153 #[wptr g, .slice A n c] w (RNewNPost w fs L ms) := by
  obtain ⟨i0, hi, hz0, hz1, hz2⟩ := info_parts (show (Tryz.prog.info? 76).map (fun i => (i.zero, i.size, i.bytes)) = some (some (.agg #[.string ByteArray.empty, .int .u32 0, .int .u32 0, .int .u32 0]), 4, 32) by kernel_rfl)
  have hfl := hr.len_of (fun _ => rfl) (by decide)
  subst hfl
  have hcp := fun (w' : World) (hb : Below w.heap.size w w') => rcopy_any (h.below hb)
  have hft := rfeats_any h
  have hf24 := h.ok.f24
  have hg0 : w.cell? ⟨g, 0, none⟩ = some (.bool true) := by obtain ⟨A1, c1, v, ⟨h1, -⟩, -⟩ := h; exact h1.cell 0
  have HCP := Lib.hid hcp; have HFT := Lib.hid hft; have HR := Lib.hid hr; have HM := Lib.hid hm
  clear hcp hft hr hm h
  by_cases h24 : 32 < ms.length
  · have h24I : (32 : Int) < (ms.length : Int) := by omega
    have hE : notK fs.length ms = 12 := by unfold notK; rw [if_pos h24]
    have HE := Lib.hid hE
    clear h24 hE
    go_enter Tryz.func153, Tryz.ntmps153
    go_wp2
    go_ret2
    exact rnewN_no 12 (Below.refl _ _) HE.out (by decide)
  have h24I : ¬ (32 : Int) < (ms.length : Int) := by omega
  have hp : ((2 : Int) ^ fs.length % 4294967296 - 1) % 4294967296 = ((2 ^ fs.length - 1 : Nat) : Int) := by rw [Int.emod_sub_emod]; exact pow_int hf24
  have hm : 2 ^ fs.length - 1 < 4294967296 := by have := Nat.pow_le_pow_right (n := 2) (by decide) hf24; omega
  have HMASK := Lib.hid hm
  clear hm
  go_enter Tryz.func153, Tryz.ntmps153
  go_wp2_with fail
  refine HFT.out.mono ?_
  rintro e w2 ⟨v, rfl, ho, hb⟩
  obtain ⟨A3, c3, rfl, -, -⟩ := ownsRow_form ho
  have HB2 := Lib.hid hb
  clear ho hb hg0 HFT
  have hE : ∀ x, notE fs.length [] ms = x → notK fs.length ms = x := fun x h => by unfold notK; rw [if_neg h24]; exact h
  have HE := Lib.hid hE
  have hR2 := HR.out.below (HB2.out.mono hB)
  have hB2s : B ≤ w2.heap.size := Nat.le_trans hB HB2.out.size
  have HR2 := Lib.hid hR2
  clear hE hR2 h24
  go_wp2
  rw [hp]
  clear hp
  go_loopw [7] (fun i wr => ∃ k : Nat, k ≤ ms.length ∧ i = .int .i64 k ∧ good fs.length ms k ∧ Below w2.heap.size w2 wr) (fun i _ => ms.length - (RowKit.intOf i).toNat)
  case atStart => exact ⟨0, by omega, rfl, fun i m h => absurd h (by omega), Below.refl _ _⟩
  case round =>
    obtain ⟨k, hk, rfl, hgo, hbw⟩ := hrel
    have HGO := Lib.hid hgo; have HBW := Lib.hid hbw
    clear hgo hbw
    by_cases hlt : k < ms.length
    · have hkI : (k : Int) < (ms.length : Int) := by omega
      have hk0 : (0 : Int) ≤ (k : Int) := by omega
      obtain ⟨ad, rfl, had, e0, e1, e2, e3⟩ := mark_cells (HR2.out.below (HBW.out.mono hB2s)) hlt
      have hno : ∀ x, markE fs.length (ms.take k) ms[k] = x → x ≠ 0 → notK fs.length ms = x := fun x h hx => HE.out x (by rw [notE_at hlt HGO.out (by rw [h]; exact hx)]; exact h)
      have hyes := good_next hlt HGO.out
      obtain ⟨hc32, hs32, hsz⟩ := HM.out _ (List.getElem_mem hlt)
      generalize ms[k] = y at *
      obtain ⟨text, clear_, set1, set2⟩ := y
      simp only [] at *
      have hmark := fun (h : okMark text = false) => hno 15 (by unfold markE; rw [if_neg (by rw [h]; decide)]) (by decide)
      have H15 := Lib.hid hmark
      have hmkE : okMark text = true → ∀ b1 b1' b2 b3 b4 : Bool, decide (clear_ < 2 ^ fs.length) = b1 → decide (set1 ||| set2 < 2 ^ fs.length) = b1' → decide (clear_ &&& (set1 ||| set2) = 0) = b2 → validS (set1, set2) = b3 → ((ms.take k).any fun y => decide (bs y.text = bs text)) = b4 → markE fs.length (ms.take k) ⟨text, clear_, (set1, set2)⟩ = if (b1 && b3 && b1' && b2) = true then (if b4 = true then 6 else 0) else 2 := by
        intro h b1 b1' b2 b3 b4 h1 h1' h2 h3 h4
        unfold markE hasB
        simp only []
        have e := propext (or_lt_two (a := clear_) (b := set1 ||| set2) (n := fs.length))
        simp only [e]
        rw [if_pos h, h4, h3]
        subst h1; subst h2; subst h1'
        exact cond_lem (clear_ < 2 ^ fs.length) (set1 ||| set2 < 2 ^ fs.length) (clear_ &&& (set1 ||| set2) = 0) b3 _ _
      have HMK := Lib.hid hmkE; have HNO := Lib.hid hno; have HYES := Lib.hid hyes; have HS := Lib.hid hs32
      clear hmark hmkE hno hyes HGO HM HR HE
      have HT := Lib.hid (fun W => markText_any text W hsz)
      go_wp2_with fail
      have hbk := Blk.new wr 76 #[.string text, .int .u32 clear_, .int .u32 set1, .int .u32 set2]
      have hsz1 : (wr.alloc (.cells #[.string text, .int .u32 clear_, .int .u32 set1, .int .u32 set2] 76)).heap.size = wr.heap.size + 1 := World.size_alloc _ _
      have hbw1 := HBW.out.alloc (by have := HBW.out.size; omega) (.cells #[.string text, .int .u32 clear_, .int .u32 set1, .int .u32 set2] 76)
      generalize wr.alloc (.cells #[.string text, .int .u32 clear_, .int .u32 set1, .int .u32 set2] 76) = wm at *
      have HBW1 := Lib.hid hbw1
      have HBK := Lib.hid hbk
      clear hbk hbw1 e0 e1 e2 e3
      have hsz2 := HBW.out.size
      cases hokm : okMark text with
      | false =>
        have hC := HT.out wm
        rw [hokm] at hC
        have HC := Lib.hid hC; have HEE := Lib.hid (H15.out hokm)
        clear hC hokm
        refine HC.out.mono ?_
        rintro e w3 ⟨rfl, rfl⟩
        go_wp2
        go_ret2
        exact rnewN_no 15 (HB2.out.trans (HBW1.out.mono HB2.out.size)) HEE.out (by decide)
      | true =>
        have hC := HT.out wm
        rw [hokm] at hC
        have HC := Lib.hid hC; have hmk := HMK.out hokm
        clear hC hokm HMK
        refine HC.out.mono ?_
        rintro e w3 ⟨rfl, rfl⟩
        have h1l : set1 < 4294967296 := HS.out.1
        have h2l : set2 < 4294967296 := HS.out.2
        have f1 := u32_or_nat set1 set2 h1l h2l
        have hol : set1 ||| set2 < 4294967296 := Nat.or_lt_two_pow (n := 32) h1l h2l
        have hcl : clear_ < 4294967296 := hc32
        have f2 := u32_andNot_nat clear_ (2 ^ fs.length - 1) hcl HMASK.out
        have f3 := u32_andNot_nat (set1 ||| set2) (2 ^ fs.length - 1) hol HMASK.out
        have f4 := u32_and_nat clear_ (set1 ||| set2) hcl hol
        have m1 := mask0 (o := clear_) (n := fs.length) hcl (by omega)
        have m2 := mask0 (o := set1 ||| set2) (n := fs.length) hol (by omega)
        have hmk2 := hmk (decide (clear_ &&& (4294967295 - (2 ^ fs.length - 1)) = 0)) (decide ((set1 ||| set2) &&& (4294967295 - (2 ^ fs.length - 1)) = 0)) _ _ _ (decide_eq_decide.2 m1.symm) (decide_eq_decide.2 m2.symm) rfl rfl rfl
        have hval := fun W => rvalid1_any (set1, set2) W HS.out
        have HV := Lib.hid hval
        clear hmk hol h1l h2l hcl hc32 m1 m2 hval
        change _ = (((clear_ &&& (4294967295 - (2 ^ fs.length - 1)) : Nat)) : Int) at f2
        change _ = ((((set1 ||| set2) &&& (4294967295 - (2 ^ fs.length - 1)) : Nat)) : Int) at f3
        generalize clear_ &&& (4294967295 - (2 ^ fs.length - 1)) = q1 at *
        generalize (set1 ||| set2) &&& (4294967295 - (2 ^ fs.length - 1)) = q2 at *
        generalize clear_ &&& (set1 ||| set2) = r at *
        generalize set1 ||| set2 = o at *
        generalize validS (set1, set2) = v at *
        have c0 := HBK.out.cell 0; have c1 := HBK.out.cell 1; have c2 := HBK.out.cell 2; have c3' := HBK.out.cell 3
        simp only [List.getElem?_toArray, List.getElem?_cons_zero, List.getElem?_cons_succ] at c0 c1 c2 c3'
        by_cases hq0 : q1 = 0
        case neg =>
          have hqI : ((q1 : Int) == 0) = false := by rw [beq_eq_false_iff_ne]; omega
          have hE := HNO.out 2 (by rw [hmk2, decide_eq_false hq0]; rfl) (by decide)
          have HEE := Lib.hid hE
          clear hE hmk2
          go_wp2
          go_ret2
          exact rnewN_no 2 (HB2.out.trans (HBW1.out.mono HB2.out.size)) HEE.out (by decide)
        subst hq0
        cases v with
        | false =>
          have hE := HNO.out 2 (by rw [hmk2]; rfl) (by decide)
          have HEE := Lib.hid hE
          clear hE hmk2
          go_wp2_with fail
          refine (HV.out _).mono ?_
          rintro e w4 ⟨rfl, hb4⟩
          have HBW4 := Lib.hid (HBW1.out.trans (hb4.mono HBW1.out.size))
          clear hb4
          go_wp2
          go_ret2
          exact rnewN_no 2 (HB2.out.trans (HBW4.out.mono HB2.out.size)) HEE.out (by decide)
        | true =>
          go_wp2_with fail
          refine (HV.out _).mono ?_
          rintro e w4 ⟨rfl, hb4⟩
          have hbk4 := HBK.out.below hb4 (by omega)
          clear c0 c1 c2 c3'
          have c0 := hbk4.cell 0; have c1 := hbk4.cell 1
          simp only [List.getElem?_toArray, List.getElem?_cons_zero, List.getElem?_cons_succ] at c0 c1
          have hs4 := hb4.size
          have HBW4 := Lib.hid (HBW1.out.trans (hb4.mono HBW1.out.size)); have HBK4 := Lib.hid hbk4
          clear hb4 hbk4 HBK HV HT HC H15
          by_cases hq2 : q2 = 0
          case neg =>
            have hqI : ((q2 : Int) == 0) = false := by rw [beq_eq_false_iff_ne]; omega
            have hE := HNO.out 2 (by rw [hmk2, decide_eq_false hq2]; rfl) (by decide)
            have HEE := Lib.hid hE
            clear hE hmk2
            go_wp2
            go_ret2
            exact rnewN_no 2 (HB2.out.trans (HBW4.out.mono HB2.out.size)) HEE.out (by decide)
          subst hq2
          by_cases hr0 : r = 0
          case neg =>
            have hrI : ((r : Int) == 0) = false := by rw [beq_eq_false_iff_ne]; omega
            have hE := HNO.out 2 (by rw [hmk2, decide_eq_false hr0]; rfl) (by decide)
            have HEE := Lib.hid hE
            clear hE hmk2
            go_wp2
            go_ret2
            exact rnewN_no 2 (HB2.out.trans (HBW4.out.mono HB2.out.size)) HEE.out (by decide)
          subst hr0
          have hmk3 : markE fs.length (ms.take k) ⟨text, clear_, (set1, set2)⟩ = if ((ms.take k).any fun y => decide (bs y.text = bs text)) = true then 6 else 0 := hmk2
          have HMK3 := Lib.hid hmk3
          clear hmk2 hmk3
          go_wp2
          clear c1 f1 f2 f3 f4
          go_loopw [10] (fun j wq => ∃ m : Nat, m ≤ k ∧ j = .int .i64 m ∧ ((ms.take m).any fun y => decide (bs y.text = bs text)) = false ∧ Below w4.heap.size w4 wq) (fun j _ => k - (RowKit.intOf j).toNat)
          case atStart => exact ⟨0, by omega, rfl, rfl, Below.refl _ _⟩
          case round =>
            rename_i wq _
            obtain ⟨m, hm, rfl, hany, hb5⟩ := hrel
            have HAN := Lib.hid hany; have HB5 := Lib.hid hb5
            have hbk5 := HBK4.out.below hb5 (by omega)
            clear c0
            have c0 := hbk5.cell 0
            simp only [List.getElem?_toArray, List.getElem?_cons_zero] at c0
            clear hany hbk5 hb5
            by_cases hmk : m < k
            · have hmI : (m : Int) < (k : Int) := by omega
              have hm0 : (0 : Int) ≤ (m : Int) := by omega
              have hmf : m < ms.length := by omega
              have hmI2 : (m : Int) < (ms.length : Int) := by omega
              obtain ⟨ad2, e2, -, d0, -, -, -⟩ := mark_cells (HR2.out.below ((HBW4.out.trans (HB5.out.mono HBW4.out.size)).mono hB2s)) hmf
              obtain rfl := Option.some.inj e2
              have hnx : ((ms.take (m + 1)).any fun y => decide (bs y.text = bs text)) = decide (bs ms[m].text = bs text) := by rw [List.take_succ_eq_append_getElem hmf, List.any_append, HAN.out]; simp
              have hyes : bs ms[m].text = bs text → ((ms.take k).any fun y => decide (bs y.text = bs text)) = true := fun h => List.any_eq_true.2 ⟨ms[m], List.mem_take_iff_getElem.2 ⟨m, by omega, rfl⟩, decide_eq_true h⟩
              have hbeq := beq_bs ms[m].text text
              generalize ms[m].text = t2 at *
              by_cases hsm : bs t2 = bs text
              · have hE := HNO.out 6 (by rw [HMK3.out, hyes hsm]; rfl) (by decide)
                rw [decide_eq_true hsm] at hbeq
                have HE := Lib.hid hE
                clear hnx hyes hsm hE
                go_wp2
                go_quiet (fail)
                go_wp2
                go_ret2
                exact rnewN_no 6 (HB2.out.trans ((HBW4.out.trans ((bdrewN HB5.out _).mono HBW4.out.size)).mono HB2.out.size)) HE.out (by decide)
              · rw [decide_eq_false hsm] at hbeq hnx
                have HNX := Lib.hid hnx
                clear hnx hyes hsm
                go_wp2
                go_quiet (fail)
                go_wp2
                go_roundw
                case rel => exact ⟨m + 1, by omega, by go_num, HNX.out, bdrewN HB5.out _⟩
                case measure => simp [RowKit.intOf]; omega
            · obtain rfl : m = k := by omega
              have hE := HYES.out (by rw [HMK3.out, HAN.out]; rfl)
              have HEE := Lib.hid hE
              clear hE hmk
              go_wp2
              go_roundw
              case rel => exact ⟨m + 1, by omega, by go_num, HEE.out, HBW4.out.trans (HB5.out.mono HBW4.out.size)⟩
              case measure => simp [RowKit.intOf]; omega
    · obtain rfl : k = ms.length := by omega
      have hE0 := HE.out 0 (notE_all HGO.out)
      have hir := HCP.out _ (HB2.out.trans (HBW.out.mono HB2.out.size))
      have HIR := Lib.hid hir; have HE0 := Lib.hid hE0
      clear hir hE0 hlt HE HCP
      go_wp2_with fail
      refine HIR.out.mono ?_
      rintro e w3 ⟨gi, rfl, hi3, hb3⟩
      have s1 := HB2.out.size
      have s2 := HBW.out.size
      have s3 := hb3.size
      have hrr := HR2.out.below ((HBW.out.trans (hb3.mono s2)).mono hB2s)
      have hown := own_empty04 w3 76 4
      have hr' := hrr.alloc (show B ≤ w3.heap.size by omega) (.cells #[] 76)
      have HI3 := Lib.hid hi3; have HB3 := Lib.hid (HB2.out.trans ((HBW.out.trans (hb3.mono s2)).mono s1)); have HOWN := Lib.hid hown; have HRD := Lib.hid hr'
      clear hi3 hb3 hrr hown hr' HR2 HR
      go_wp2_with (at_builtin; refine wpList_append_any _ rfl _ _ _ rfl w3.heap.size 76 i0 (.agg #[.string ByteArray.empty, .int .u32 0, .int .u32 0, .int .u32 0]) 4 32 Tryz.underlying24 hi hz0 hz1 hz2 rfl (by decide) _ _ _ rfl HOWN.out B _ _ _ (ms.flatMap markC) rfl HRD.out (markC_one ms) (by unfold maxLen; omega) (by omega) (by simp) ?_; intro v' w4 hown' hgrow hx; have HB4 := Lib.hid (((Below.refl _ w3).alloc (Nat.le_refl _) (.cells #[] 76)).grown hgrow (by simp) (fun g hg => (HOWN.out.lt g hg).1)); obtain ⟨A4, c4, rfl, -, -⟩ := ownsRow_form hown'; have HO := Lib.hid hown'; clear hgrow hx hown')
      go_ret2
      have hb4 := HB4.out
      have ho := HO.out
      have s4 := hb4.size
      simp only [Nat.zero_add, List.nil_append] at ho ⊢
      refine ⟨(HB3.out.trans (hb4.mono (by omega))).trans ((Below.refl _ w4).alloc (by omega) _), .inl ⟨HE0.out, _, rfl, gi, A4, c4, ⟨Blk.new _ _ _, ⟨by omega, by rw [World.size_alloc]; omega⟩⟩, ?_, ⟨own_mono (ho.alloc _) (Nat.zero_le _), (fun b hb => by have := ho.lt b hb; refine ⟨by omega, ?_⟩; rw [World.size_alloc]; omega)⟩, HM.out, HE0.out⟩⟩
      exact ((HI3.out.below hb4).below ((Below.refl _ w4).alloc (Nat.le_refl _) _)).mono fun b hb => ⟨by have := hb.1; omega, by have := hb.2; rw [World.size_alloc]; omega⟩
end Go.Proofs.YtmepaeahchiglaaGreatDoor
