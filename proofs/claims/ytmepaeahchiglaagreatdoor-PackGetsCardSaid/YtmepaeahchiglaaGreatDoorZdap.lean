/-
 layer 43: the reference's reader: number, count, flag, sound. Conditions: bytes that can be read.
-/
import Derived.Test.YtmepaeahchiglaaGreatDoorZdak
set_option maxRecDepth 20000
set_option maxHeartbeats 4000000
namespace Go.Proofs.YtmepaeahchiglaaGreatDoor
open Go.RowKit Go.Lib
def RS (w : World) (g : Nat) (all : List Nat) (at_ : Nat) (bad : Bool) : Prop :=
 ∃ A c, Blk w g 107 #[.slice A all.length c, .int .i64 at_, .bool bad] ∧ Reads w g 1 A all.length (all.map bv) ∧ at_ ≤ all.length ∧ all.length ≤ c ∧ c ≤ maxLen ∧ all.length ≤ 1073741824 ∧ ∀ b ∈ all, b < 256
theorem RS.lt {w : World} {g at_ : Nat} {all : List Nat} {bad : Bool} (h : RS w g all at_ bad) : g < w.heap.size := by
 obtain ⟨A, c, h, _⟩ := h; exact h.lt
theorem RS.alloc {w : World} {g at_ : Nat} {all : List Nat} {bad : Bool} (h : RS w g all at_ bad) (o : Obj) : RS (w.alloc o) g all at_ bad := by
 obtain ⟨A, c, h1, h2, h3⟩ := h
 exact ⟨A, c, h1.alloc o, h2.alloc (Nat.le_of_lt h1.lt) o, h3⟩
theorem RS.aB {w w' : World} {g at_ : Nat} {all : List Nat} {bad : Bool} {S : List Nat} (h : RS w g all at_ bad) (hc : av S w w') (hs : ∀ k ∈ S, g < k) : RS w' g all at_ bad := by
 obtain ⟨A, c, h1, h2, h3⟩ := h
 have hl := h1.lt
 exact ⟨A, c, h1.aB hc (fun hm => Nat.lt_irrefl _ (hs g hm)), h2.below (hc.below (fun i hi => Nat.le_of_lt (hs i hi)) (by omega)), h3⟩
theorem RS.grown {w w' : World} {g at_ : Nat} {all : List Nat} {bad : Bool} {row : Option Nat} (h : RS w g all at_ bad) (hg : w.grownBy w' row) (hr : ∀ k, row = some k → g < k) : RS w' g all at_ bad := by
 cases row with
 | none => exact h.aB (S := []) ⟨hg.os, hg.tape, hg.output, hg.size, fun k hk _ => hg.block k hk (by simp)⟩ (by simp)
 | some j => exact h.aB (S := [j]) ⟨hg.os, hg.tape, hg.output, hg.size, fun k hk hs => hg.block k hk (by simpa using hs)⟩ (by simpa using hr j rfl)
theorem RS.all {w : World} {g at_ : Nat} {all : List Nat} {bad : Bool} (h : RS w g all at_ bad) : (∀ b ∈ all, b < 256) ∧ at_ ≤ all.length ∧ all.length ≤ 1073741824 := by
 obtain ⟨A, c, h1, h2, h3, h4, h5, h6, h7⟩ := h
 exact ⟨h7, h3, h6⟩
theorem RS.mI {w : World} {g at_ : Nat} {all : List Nat} {bad : Bool} (h : RS w g all at_ bad) : RS (w.setCell ⟨g, 2, none⟩ (.bool true)) g all at_ true := by
 obtain ⟨A, c, h1, h2, h3⟩ := h
 exact ⟨A, c, by simpa using h1.set_ 2 (.bool true), h2.setCell (Nat.le_refl _) _, h3⟩
theorem RS.setAt {w : World} {g at_ : Nat} {all : List Nat} {bad : Bool} (h : RS w g all at_ bad) (k : Nat) (hk : k ≤ all.length) : RS (w.setCell ⟨g, 1, none⟩ (.int .i64 k)) g all k bad := by
 obtain ⟨A, c, h1, h2, _, h3⟩ := h
 exact ⟨A, c, by simpa using h1.set_ 1 (.int .i64 k), h2.setCell (Nat.le_refl _) _, hk, h3⟩
theorem RS.cells {w : World} {g at_ : Nat} {all : List Nat} {bad : Bool} (h : RS w g all at_ bad) : ∃ A c, (w.cell? ⟨g, 0, none⟩ = some (.slice A all.length c) ∧ w.cell? ⟨g, 1, none⟩ = some (.int .i64 at_) ∧ w.cell? ⟨g, 2, none⟩ = some (.bool bad)) ∧
 (w.frozen? ⟨g, 0, none⟩ = false ∧ w.frozen? ⟨g, 1, none⟩ = false ∧ w.frozen? ⟨g, 2, none⟩ = false) ∧ Reads w g 1 A all.length (all.map bv) ∧ all.length ≤ c ∧ c ≤ maxLen := by
 obtain ⟨A, c, h1, h2, h3, h4, h5, h6⟩ := h
 exact ⟨A, c, ⟨h1.cell 0, h1.cell 1, h1.cell 2⟩, ⟨h1.frozen 0, h1.frozen 1, h1.frozen 2⟩, h2, h4, h5⟩
def NumPost (g : Nat) (all : List Nat) (bad : Bool) (w : World) (o : Option (Nat × List Nat)) (e : Ending) (w' : World) : Prop :=
 ∃ v at' aO, e = .returned (.int .u32 (v : Nat)) ∧ v < 4294967296 ∧ av [g] w w' ∧ RS w' g all at' aO ∧ match o with
  | some (n, r) => v = n ∧ aO = bad ∧ all.drop at' = r
  | none => aO = true
theorem Au (w : World) (g at_ : Nat) (all : List Nat) (bad : Bool) (h : RS w g all at_ bad) :
 Calls Tryz.prog 120 #[af g] w (NumPost g all bad w (readN (all.drop at_))) := by
 have HH := qh h
 clear h
 obtain ⟨o, ho⟩ : ∃ o, readN (all.drop at_) = o := ⟨_, rfl⟩
 rw [ho]
 have HO := qh ho
 clear ho
 go_enter Tryz.func120, Tryz.ntmps120
 go_wp2
 go_loopw [3, 4, 5] (fun a b i wr => ∃ k acc at' : Nat, k ≤ 5 ∧ i = .int .i64 k ∧ a = .int .u64 acc ∧ b = .int .u64 (128 ^ k : Nat) ∧ acc < 128 ^ k ∧ readK (5 - k) k acc (all.drop at') = o ∧ RS wr g all at' bad ∧ av [g] w wr) (fun _ _ i _ => 5 - (RowKit.intOf i).toNat)
 case atStart => exact ⟨0, 0, at_, by omega, rfl, rfl, by simp, by decide, HO.out, HH.out, av.refl _ _⟩
 case round =>
  obtain ⟨k, acc, at', hk, rfl, rfl, rfl, hacc, hrd, hr, bQ⟩ := hrel
  obtain ⟨A, c, ⟨c0, c1, c2⟩, ⟨f0, f1, f2⟩, h2, h3, h4⟩ := hr.cells
  obtain ⟨h7, h8, h9⟩ := hr.all
  have hgl := hr.lt
  have yM := qh hrd; have HR := qh hr; have bz := qh bQ; have Nq := qh hacc; have H2 := qh h2; have H7 := qh h7
  clear hrd hr bQ hacc h2 h7
  unfold maxLen at h4
  obtain ⟨MN, hby⟩ : ∃ p : Nat, 128 ^ k = p := ⟨_, rfl⟩
  have WV : MN ≤ 34359738368 := by
   rw [← hby]
   exact Nat.pow_le_pow_right (by decide) hk
  have VV := qh hby
  rw [hby]
  by_cases hlt : k < 5
  ·have cB : (k : Int) < 5 := by omega
   clear hby
   by_cases hat : at' < all.length
   ·have WZ : ¬ (all.length : Int) ≤ (at' : Int) := by omega
    obtain ⟨b, hb⟩ : ∃ b, all[at'] = b := ⟨_, rfl⟩
    have hbb := H7.out b (by rw [← hb]; exact List.getElem_mem hat)
    have hbv : (all.map bv)[at']? = some (bv b) := by rw [List.getElem?_map, List.getElem?_eq_getElem hat, hb]; rfl
    have e := yM.out
    rw [List.drop_eq_getElem_cons hat, hb, uK hlt, VV.out] at e
    obtain ⟨p, hp⟩ : ∃ p : Nat, MN * (b % 128) = p := ⟨_, rfl⟩
    have hpl : p ≤ MN * 127 := by rw [← hp]; exact Nat.mul_le_mul_left _ (by omega)
    have hby4 : MN ≤ 268435456 := by
     rw [← VV.out]
     exact Nat.le_trans (Nat.pow_le_pow_right (by decide) (show k ≤ 4 by omega)) (by decide)
    have Q7 : (MN : Int) * ((b : Int) % 128) = (p : Int) := by rw [← hp]; simp
    have hps : b < 128 → MN * b = p := fun h => by rw [← hp, Nat.mod_eq_of_lt h]
    rw [hp] at e
    have hacc' : acc < MN := by have := Nq.out; rwa [VV.out] at this
    have hby1 : 128 ^ (k + 1) = MN * 128 := by rw [Nat.pow_succ, VV.out]
    have hT : acc + p < MN * 128 := by omega
    have Vi := qh hby1; have HT := qh hT; have MW := qh hps; have LF := qh hbv
    clear hby1 hb yM WV hp hps hbv
    go_wp2
    go_quiet (fail)
    have hrx : RS (wr.drewN nq) g all at' bad := HR.out
    have hcx : av [g] w (wr.drewN nq) := ⟨bz.out.os, bz.out.tape, bz.out.output, bz.out.size, bz.out.block⟩
    obtain ⟨w1, hw⟩ : ∃ W, wr.drewN nq = W := ⟨_, rfl⟩
    rw [hw] at hrx hcx ⊢
    clear hw HR bz
    obtain ⟨A, c, ⟨c0, c1, c2⟩, ⟨f0, f1, f2⟩, h2, h3, h4⟩ := hrx.cells
    have HR := qh hrx; have bz := qh hcx; have H2 := qh h2
    clear hrx hcx h2
    unfold maxLen at h4
    obtain ⟨ad, rfl, had, hcell⟩ := H2.out.2 (by omega)
    have hcb := hcell at' (bv b) LF.out
    clear hcell
    go_wp2
    go_quiet (fail)
    have hrx : RS (w1.drewN nq) g all at' bad := HR.out
    have hcx : av [g] w (w1.drewN nq) := ⟨bz.out.os, bz.out.tape, bz.out.output, bz.out.size, bz.out.block⟩
    obtain ⟨w2, hw⟩ : ∃ W, w1.drewN nq = W := ⟨_, rfl⟩
    rw [hw] at hrx hcx ⊢
    clear hw HR bz
    obtain ⟨A, c, ⟨c0, c1, c2⟩, ⟨f0, f1, f2⟩, h2, h3, h4⟩ := hrx.cells
    have HR := qh hrx; have bz := qh hcx; have H2 := qh h2
    clear hrx hcx h2
    unfold maxLen at h4
    have hs1 := HR.out.setAt (at' + 1) (by omega)
    have hc1 := bz.out.setCell (p := ⟨g, 1, none⟩) (.inl (by simp)) (.int .i64 ((at' + 1 : Nat) : Int))
    rw [Int.natCast_add, Int.cast_ofNat_Int] at hs1 hc1
    have iZ := qh hs1; have ow := qh hc1
    clear hs1 hc1 hcb
    by_cases h128 : 128 ≤ b
    ·have Kc : ¬ (b : Int) < 128 := by omega
     rw [if_pos h128] at e
     have HE := qh e
     clear e h128
     go_wp2
     go_roundw
     case rel => exact ⟨k + 1, acc + p, at' + 1, by omega, by go_num, by go_num, by rw [Vi.out]; go_num, by rw [Vi.out]; exact HT.out, HE.out, iZ.out, ow.out⟩
     case measure => simp [RowKit.intOf]; omega
    ·have Kc : (b : Int) < 128 := by omega
     rw [if_neg h128, MW.out (by omega)] at e
     have hTI : acc + p < 34359738368 := by have := HT.out; omega
     by_cases hbig : 4294967296 ≤ acc + p
     ·have RD : (4294967296 : Int) ≤ (acc : Int) + (p : Int) := by omega
      rw [if_pos (.inr hbig)] at e
      clear hbig
      subst e
      have HB := qh iZ.out.mI
      have Ib := qh (ow.out.setCell (p := ⟨g, 2, none⟩) (.inl (by simp)) (.bool true))
      clear h128
      go_wp2
      go_ret
      exact ⟨0, at' + 1, true, rfl, by decide, Ib.out, HB.out, rfl⟩
     ·have RD : ¬ (4294967296 : Int) ≤ (acc : Int) + (p : Int) := by omega
      by_cases hb0 : b = 0
      ·have WY : ((b : Int) == 0) = true := by rw [beq_iff_eq]; omega
       by_cases hk0 : 0 < k
       ·have WT : (0 : Int) < (k : Int) := by omega
        rw [if_pos (.inl ⟨hb0, hk0⟩)] at e
        clear hb0 hk0 hbig
        subst e
        have HB := qh iZ.out.mI
        have Ib := qh (ow.out.setCell (p := ⟨g, 2, none⟩) (.inl (by simp)) (.bool true))
        clear h128
        go_wp2
        go_ret
        exact ⟨0, at' + 1, true, rfl, by decide, Ib.out, HB.out, rfl⟩
       ·have WT : ¬ (0 : Int) < (k : Int) := by omega
        rw [if_neg (by omega)] at e
        clear hb0 hk0 hbig
        subst e
        clear h128
        go_wp2
        go_ret
        exact ⟨acc + p, at' + 1, bad, by go_num, by omega, ow.out, iZ.out, rfl, rfl, rfl⟩
      ·have WY : ((b : Int) == 0) = false := by rw [beq_eq_false_iff_ne]; omega
       rw [if_neg (by omega)] at e
       clear hb0 hbig
       subst e
       clear h128
       go_wp2
       go_ret
       exact ⟨acc + p, at' + 1, bad, by go_num, by omega, ow.out, iZ.out, rfl, rfl, rfl⟩
   ·have WZ : (all.length : Int) ≤ (at' : Int) := by omega
    have e := yM.out
    rw [List.drop_eq_nil_of_le (by omega), xY hlt] at e
    subst e
    clear hat
    go_wp2
    go_quiet (fail)
    have hrx : RS (wr.drewN nq) g all at' bad := HR.out
    have hcx : av [g] w (wr.drewN nq) := ⟨bz.out.os, bz.out.tape, bz.out.output, bz.out.size, bz.out.block⟩
    obtain ⟨w1, hw⟩ : ∃ W, wr.drewN nq = W := ⟨_, rfl⟩
    rw [hw] at hrx hcx ⊢
    clear hw HR bz
    obtain ⟨A, c, ⟨c0, c1, c2⟩, ⟨f0, f1, f2⟩, h2, h3, h4⟩ := hrx.cells
    have HR := qh hrx; have bz := qh hcx; have H2 := qh h2
    clear hrx hcx h2
    unfold maxLen at h4
    have HB := qh HR.out.mI
    have Ib := qh (bz.out.setCell (p := ⟨g, 2, none⟩) (.inl (by simp)) (.bool true))
    go_wp2
    go_ret
    exact ⟨0, at', true, rfl, by decide, Ib.out, HB.out, rfl⟩
  ·obtain rfl : k = 5 := by omega
   have e := yM.out
   rw [Nat.sub_self, Dh] at e
   subst e
   have HB := qh HR.out.mI
   have Ib := qh (bz.out.setCell (p := ⟨g, 2, none⟩) (.inl (by simp)) (.bool true))
   clear hby hlt
   go_wp2
   go_ret
   exact ⟨0, at', true, rfl, by decide, Ib.out, HB.out, rfl⟩
def Nr (g : Nat) (all : List Nat) (bad : Bool) (w : World) (o : Option (Nat × List Nat)) (e : Ending) (w' : World) : Prop :=
 ∃ n at' aO, e = .returned (.int .i64 (n : Nat)) ∧ at' + n ≤ all.length ∧ (aO = true → n = 0) ∧ av [g] w w' ∧ RS w' g all at' aO ∧ (bad = true → aO = true) ∧ (bad = false → match o with
  | some (m, r) => n = m ∧ aO = false ∧ all.drop at' = r
  | none => aO = true)
theorem bZ (w : World) (g at_ : Nat) (all : List Nat) (bad : Bool) (h : RS w g all at_ bad) :
 Calls Tryz.prog 51 #[af g] w (Nr g all bad w (countR (all.drop at_))) := by
 have hc := Au w g at_ all bad h
 unfold countR
 obtain ⟨o, ho⟩ : ∃ o, readN (all.drop at_) = o := ⟨_, rfl⟩
 rw [ho] at hc
 obtain ⟨q, hq⟩ : ∃ q, thenR readN (fun n r => if n ≤ r.length then some (n, r) else none) (all.drop at_) = q := ⟨_, rfl⟩
 rw [hq]
 have hq2 : q = o.bind fun x => if x.1 ≤ x.2.length then some (x.1, x.2) else none := by
  rw [← hq]
  cases o with
  | none => rw [thenR_none ho]; rfl
  | some x => obtain ⟨n, r⟩ := x; rw [thenR_some ho]; rfl
 have Cw := qh hq2
 clear h hq ho hq2
 go_enter Tryz.func51, Tryz.ntmps51
 go_wp2_with fail
 refine hc.mono ?_
 rintro e w1 ⟨v, at', aO, rfl, hv, bQ, hr, hm⟩
 obtain ⟨A, c, ⟨c0, c1, c2⟩, ⟨f0, f1, f2⟩, h2, h3, h4⟩ := hr.cells
 obtain ⟨h7, h8, h9⟩ := hr.all
 have HR := qh hr; have bz := qh bQ; have HM := qh hm
 clear hr bQ hm hc h2 h7
 unfold maxLen at h4
 cases aO with
 | true =>
   go_wp2
   go_quiet (fail)
   have hrx : RS (w1.drewN nq) g all at' true := HR.out
   have hcx : av [g] w (w1.drewN nq) := ⟨bz.out.os, bz.out.tape, bz.out.output, bz.out.size, bz.out.block⟩
   obtain ⟨w2, hw⟩ : ∃ W, w1.drewN nq = W := ⟨_, rfl⟩
   rw [hw] at hrx hcx ⊢
   clear hw HR bz
   obtain ⟨A, c, ⟨c0, c1, c2⟩, ⟨f0, f1, f2⟩, h2, h3, h4⟩ := hrx.cells
   have HR := qh hrx; have bz := qh hcx
   clear hrx hcx h2
   unfold maxLen at h4
   have HB := qh HR.out.mI
   have Ib := qh (bz.out.setCell (p := ⟨g, 2, none⟩) (.inl (by simp)) (.bool true))
   go_wp2
   go_ret
   refine ⟨0, at', true, rfl, by omega, fun _ => rfl, Ib.out, HB.out, fun _ => rfl, fun hb => ?_⟩
   have hq := Cw.out
   have hm := HM.out
   subst hb
   cases o with
   | none => rw [hq]; rfl
   | some x => exact absurd hm.2.1 (by decide)
 | false =>
   by_cases hle : v ≤ all.length - at'
   ·have WQ : ¬ ((all.length : Int) - (at' : Int)) < (v : Int) := by omega
    go_wp2
    go_quiet (fail)
    have hrx : RS (w1.drewN nq) g all at' false := HR.out
    have hcx : av [g] w (w1.drewN nq) := ⟨bz.out.os, bz.out.tape, bz.out.output, bz.out.size, bz.out.block⟩
    obtain ⟨w2, hw⟩ : ∃ W, w1.drewN nq = W := ⟨_, rfl⟩
    rw [hw] at hrx hcx ⊢
    clear hw HR bz
    obtain ⟨A, c, ⟨c0, c1, c2⟩, ⟨f0, f1, f2⟩, h2, h3, h4⟩ := hrx.cells
    have HR := qh hrx; have bz := qh hcx
    clear hrx hcx h2
    unfold maxLen at h4
    go_wp2
    go_ret
    refine ⟨v, at', false, rfl, by omega, (fun h => by cases h), bz.out, HR.out, fun hb => ?_, fun hb => ?_⟩
    ·have hm := HM.out
     subst hb
     cases o with
     | none => cases hm
     | some x => exact absurd hm.2.1 (by decide)
    ·have hq := Cw.out
     have hm := HM.out
     subst hb
     cases o with
     | none => cases hm
     | some x =>
       obtain ⟨n, r⟩ := x
       obtain ⟨rfl, -, hr⟩ := hm
       have hlen : r.length = all.length - at' := by rw [← hr, List.length_drop]
       have hq' : q = some (v, r) := by rw [hq]; show (if v ≤ r.length then some (v, r) else none) = _; rw [if_pos (by omega)]
       rw [hq']
       exact ⟨rfl, rfl, hr⟩
   ·have WQ : ((all.length : Int) - (at' : Int)) < (v : Int) := by omega
    go_wp2
    go_quiet (fail)
    have hrx : RS (w1.drewN nq) g all at' false := HR.out
    have hcx : av [g] w (w1.drewN nq) := ⟨bz.out.os, bz.out.tape, bz.out.output, bz.out.size, bz.out.block⟩
    obtain ⟨w2, hw⟩ : ∃ W, w1.drewN nq = W := ⟨_, rfl⟩
    rw [hw] at hrx hcx ⊢
    clear hw HR bz
    obtain ⟨A, c, ⟨c0, c1, c2⟩, ⟨f0, f1, f2⟩, h2, h3, h4⟩ := hrx.cells
    have HR := qh hrx; have bz := qh hcx
    clear hrx hcx h2
    unfold maxLen at h4
    have HB := qh HR.out.mI
    have Ib := qh (bz.out.setCell (p := ⟨g, 2, none⟩) (.inl (by simp)) (.bool true))
    go_wp2
    go_ret
    refine ⟨0, at', true, rfl, by omega, fun _ => rfl, Ib.out, HB.out, fun _ => rfl, fun hb => ?_⟩
    have hq := Cw.out
    have hm := HM.out
    subst hb
    cases o with
    | none => rw [hq]; rfl
    | some x =>
      obtain ⟨n, r⟩ := x
      obtain ⟨rfl, -, hr⟩ := hm
      have hlen : r.length = all.length - at' := by rw [← hr, List.length_drop]
      have hq' : q = none := by rw [hq]; show (if v ≤ r.length then some (v, r) else none) = _; rw [if_neg (by omega)]
      rw [hq']
def VPost {α : Type} (mk : α → Value) (ok : α → Prop) (g : Nat) (all : List Nat) (bad : Bool) (w : World) (o : Option (α × List Nat)) (e : Ending) (w' : World) : Prop :=
 ∃ x at' aO, e = .returned (mk x) ∧ ok x ∧ av [g] w w' ∧ RS w' g all at' aO ∧ (bad = true → aO = true) ∧ (bad = false → match o with
  | some (y, r) => x = y ∧ aO = false ∧ all.drop at' = r
  | none => aO = true)
def oz (n : Nat) : Value := .int .u32 n
theorem jv (w : World) (g at_ : Nat) (all : List Nat) (bad : Bool) (h : RS w g all at_ bad) :
 Calls Tryz.prog 120 #[af g] w (VPost oz is32 g all bad w (readN (all.drop at_))) := by
 refine (Au w g at_ all bad h).mono fun e w' ⟨v, at', aO, h1, h2, h3, h4, h5⟩ => ⟨v, at', aO, h1, h2, h3, h4, fun hb => ?_, fun hb => ?_⟩
 ·subst hb
  cases ho : readN (all.drop at_) with
  | none => rw [ho] at h5; exact h5
  | some q => obtain ⟨n, r⟩ := q; rw [ho] at h5; exact h5.2.1
 ·subst hb
  cases ho : readN (all.drop at_) with
  | none => rw [ho] at h5; exact h5
  | some q => obtain ⟨n, r⟩ := q; rw [ho] at h5; exact h5
theorem xQ (w : World) (g at_ : Nat) (all : List Nat) (bad : Bool) (h : RS w g all at_ bad) :
 Calls Tryz.prog 168 #[af g] w (VPost Value.bool (fun _ => True) g all bad w (jZ (all.drop at_))) := by
 have hc := jv w g at_ all bad h
 obtain ⟨o, ho⟩ : ∃ o, readN (all.drop at_) = o := ⟨_, rfl⟩
 rw [ho] at hc
 obtain ⟨q, hq⟩ : ∃ q, jZ (all.drop at_) = q := ⟨_, rfl⟩
 rw [hq]
 have hq2 : q = o.bind fun x => if 1 < x.1 then none else some (decide (x.1 = 1), x.2) := by
  rw [← hq]
  unfold jZ
  cases o with
  | none => rw [thenR_none ho]; rfl
  | some x => obtain ⟨n, r⟩ := x; rw [thenR_some ho]; rfl
 have Cw := qh hq2
 clear h hq ho hq2
 unfold oz at hc
 go_enter Tryz.func168, Tryz.ntmps168
 go_wp2_with fail
 refine hc.mono ?_
 rintro e w1 ⟨v, at', aO, rfl, hv, bQ, hr, hb1, hm⟩
 obtain ⟨A, c, ⟨c0, c1, c2⟩, ⟨f0, f1, f2⟩, h2, h3, h4⟩ := hr.cells
 have HR := qh hr; have bz := qh bQ; have HM := qh hm; have HB1 := qh hb1; have HV := qh hv
 clear hr bQ hm hc h2 hb1 hv
 by_cases h1 : 1 < v
 ·have yz : (1 : Int) < (v : Int) := by omega
  have vJ : ((v : Int) == 1) = false := by rw [beq_eq_false_iff_ne]; omega
  have HB := qh HR.out.mI
  have Ib := qh (bz.out.setCell (p := ⟨g, 2, none⟩) (.inl (by simp)) (.bool true))
  have H1 := qh h1
  clear h1
  go_wp2
  go_ret
  refine ⟨false, at', true, rfl, trivial, Ib.out, HB.out, fun _ => rfl, fun hb => ?_⟩
  have hq := Cw.out
  have hm := HM.out hb
  cases o with
  | none => rw [hq]; rfl
  | some x =>
    obtain ⟨n, r⟩ := x
    obtain ⟨rfl, -, hr⟩ := hm
    have hq' : q = none := by rw [hq]; show (if 1 < v then none else some (decide (v = 1), r)) = _; rw [if_pos H1.out]
    rw [hq']
 ·have yz : ¬ (1 : Int) < (v : Int) := by omega
  have ay : ∀ b : Bool, b = decide (v = 1) → VPost Value.bool (fun _ => True) g all bad w q (.returned (.bool b)) w1 := fun b hb0 => by
   refine ⟨b, at', aO, rfl, trivial, bz.out, HR.out, HB1.out, fun hb => ?_⟩
   have hq := Cw.out
   have hm := HM.out hb
   cases o with
   | none => rw [hq]; exact hm
   | some x =>
     obtain ⟨n, r⟩ := x
     obtain ⟨rfl, hb', hr⟩ := hm
     have hq' : q = some (decide (v = 1), r) := by rw [hq]; show (if 1 < v then none else some (decide (v = 1), r)) = _; rw [if_neg h1]
     rw [hq']
     exact ⟨hb0, hb', hr⟩
  have aD := qh ay
  clear ay
  by_cases h2' : v = 1
  ·have vJ : ((v : Int) == 1) = true := by rw [beq_iff_eq]; omega
   have h3' := aD.out true (by rw [decide_eq_true h2'])
   have H3 := qh h3'
   clear h1 h2' h3'
   go_wp2
   go_ret
   exact H3.out
  ·have vJ : ((v : Int) == 1) = false := by rw [beq_eq_false_iff_ne]; omega
   have h3' := aD.out false (by rw [decide_eq_false h2'])
   have H3 := qh h3'
   clear h1 h2' h3'
   go_wp2
   go_ret
   exact H3.out
theorem mF (w : World) (g at_ : Nat) (all : List Nat) (bad : Bool) (h : RS w g all at_ bad) :
 Calls Tryz.prog 119 #[af g] w (VPost jy ok32 g all bad w (sndR (all.drop at_))) := by
 have hgl := h.lt
 have h0 := h.alloc (.cells #[.int .u32 0, .int .u32 0] 55)
 have hB := Blk.new w 55 #[.int .u32 0, .int .u32 0]
 have bQ := (av.refl [g] w).alloc (.cells #[.int .u32 0, .int .u32 0] 55)
 have hc := jv _ g at_ all bad h0
 have hc2 := fun W at' aO (hW : RS W g all at' aO) => jv W g at' all aO hW
 unfold oz at hc hc2
 have HB := qh hB; have bz := qh bQ; have ig := qh hc2
 clear h h0 hB bQ hc2
 go_enter Tryz.func119, Tryz.ntmps119
 go_wp2_with fail
 refine hc.mono ?_
 rintro e w1 ⟨v1, at1, bad1, rfl, hv1, hch1, hr1, hb1, hm1⟩
 have H1 := qh hch1; have HR1 := qh hr1; have HB1 := qh hb1; have UU := qh hm1; have VE := qh hv1
 clear hch1 hr1 hb1 hm1 hv1 hc
 go_wp2_with fail
 refine (ig.out _ _ _ HR1.out).mono ?_
 rintro e w2 ⟨v2, at2, bad2, rfl, hv2, hch2, hr2, hb2, hm2⟩
 have hB2 := (HB.out.aB H1.out (by simp; omega)).aB hch2 (by simp; omega)
 have hx0 := hB2.cell 0
 have hx1 := hB2.cell 1
 have hf0 := hB2.frozen 0
 have hf1 := hB2.frozen 1
 simp only [gq2] at hx0 hx1
 have hB3 := (hB2.set_ 0 (.int .u32 v1)).set_ 1 (.int .u32 v2)
 have hy0 := hB3.cell 0
 have hy1 := hB3.cell 1
 simp only [gq1, gq2] at hy0 hy1
 have XI := qh hy0; have Qj := qh hy1; have H2 := qh hch2; have HR2 := qh hr2; have HB2 := qh hb2; have N9 := qh hm2; have VD := qh hv2
 clear hch2 hr2 hb2 hm2 hB2 hB3 hy0 hy1 ig hv2
 go_wp2
 refine bodyPost_ret (v := jy (v1, v2)) (by simp [results, Tryz.results119, go_sem, XI.out, Qj.out]) rfl ⟨(v1, v2), at2, bad2, rfl, ⟨VE.out, VD.out⟩, ?_, ?_, fun hb => HB2.out (HB1.out hb), fun hb => ?_⟩
 ·exact (((bz.out.trans H1.out).trans H2.out).setCell (.inr (by simp)) _).setCell (.inr (by simp)) _
 ·exact (HR2.out.aB ((av.refl [w.heap.size] w2).setCell (.inl (by simp)) _) (by simpa using hgl)).aB ((av.refl [w.heap.size] _).setCell (.inl (by simp)) _) (by simpa using hgl)
 ·have m1 := UU.out hb
  unfold sndR pairR
  cases ho : readN (all.drop at_) with
  | none => rw [ho] at m1; rw [thenR_none ho]; exact HB2.out m1
  | some x =>
    obtain ⟨n, r⟩ := x
    rw [ho] at m1
    obtain ⟨rfl, hb1, rfl⟩ := m1
    rw [thenR_some ho]
    have m2 := N9.out hb1
    cases ho2 : readN (all.drop at1) with
    | none => rw [ho2] at m2; rw [thenR_none ho2]; exact m2
    | some x2 =>
      obtain ⟨n2, r2⟩ := x2
      rw [ho2] at m2
      obtain ⟨rfl, hb2, rfl⟩ := m2
      rw [thenR_some ho2]
      exact ⟨rfl, hb2, rfl⟩
theorem ji (w : World) (g at_ : Nat) (all : List Nat) (bad : Bool) (h : RS w g all at_ bad) :
 Calls Tryz.prog 52 #[af g] w (VPost Value.string (fun s => s.size ≤ 1073741824) g all bad w (bg (all.drop at_))) := by
 have hc := bZ w g at_ all bad h
 obtain ⟨o, ho⟩ : ∃ o, countR (all.drop at_) = o := ⟨_, rfl⟩
 rw [ho] at hc
 obtain ⟨q, hq⟩ : ∃ q, bg (all.drop at_) = q := ⟨_, rfl⟩
 rw [hq]
 have hq2 : q = o.bind fun x => some (gH (x.2.take x.1), x.2.drop x.1) := by
  rw [← hq]
  unfold bg
  cases o with
  | none => rw [thenR_none ho]; rfl
  | some x => obtain ⟨n, r⟩ := x; rw [thenR_some ho]; rfl
 have Cw := qh hq2
 clear h hq ho hq2
 go_enter Tryz.func52, Tryz.ntmps52
 go_wp2_with fail
 refine hc.mono ?_
 rintro e w1 ⟨n, at', aO, rfl, hn, hn0, bQ, hr, hb1, hm⟩
 obtain ⟨A, c, ⟨c0, c1, c2⟩, ⟨f0, f1, f2⟩, h2, h3, h4⟩ := hr.cells
 obtain ⟨h7, h8, h9⟩ := hr.all
 obtain ⟨A1, q1, q2⟩ := Km A all.length c at' (at' + n) (by omega) (by omega) h3
 have hcv : ∀ W : World, Reads W g 1 A all.length (all.map bv) → (convert 36 9 (.slice A1 (at' + n - at') (c - at'))).run Tryz.prog W = .ok (.string (gH ((all.drop at').take (at' + n - at')))) W := fun W hW =>
  eX (by have := q2 W g _ hW; rwa [← List.map_drop, ← List.map_take] at this) (fun b hb => h7 b (List.mem_of_mem_drop (List.mem_of_mem_take hb)))
 have hcv1 := fun k => hcv (w1.drewN k) h2
 rw [Nat.add_sub_cancel_left] at q1 hcv1
 simp only [Int.natCast_add] at q1
 unfold maxLen at h4
 have HR := qh hr; have bz := qh bQ; have HM := qh hm; have HB1 := qh hb1; have HN := qh hn; have Ye := qh hn0
 clear hr bQ hm hc h2 hb1 q2 hcv h7 hn0
 go_wp2
 go_quiet (fail)
 have hrx : RS (w1.drewN nq) g all at' aO := HR.out
 have hcx : av [g] w (w1.drewN nq) := ⟨bz.out.os, bz.out.tape, bz.out.output, bz.out.size, bz.out.block⟩
 obtain ⟨w2, hw⟩ : ∃ W, w1.drewN nq = W := ⟨_, rfl⟩
 rw [hw] at hrx hcx ⊢
 clear hw HR bz
 obtain ⟨A, c, ⟨c0, c1, c2⟩, ⟨f0, f1, f2⟩, h2, h3, h4⟩ := hrx.cells
 have HR := qh hrx; have bz := qh hcx; have H2 := qh h2
 clear hrx hcx h2
 unfold maxLen at h4
 have hs1 := HR.out.setAt (at' + n) HN.out
 have hc1 := bz.out.setCell (p := ⟨g, 1, none⟩) (.inl (by simp)) (.int .i64 ((at' + n : Nat) : Int))
 rw [Int.natCast_add] at hs1 hc1
 have iZ := qh hs1; have ow := qh hc1
 clear hs1 hc1 hcv1 q1
 go_wp2
 go_ret
 refine ⟨gH ((all.drop at').take n), at' + n, aO, rfl, ?_, ow.out, iZ.out, HB1.out, fun hb => ?_⟩
 ·show (gH ((all.drop at').take n)).size ≤ 1073741824
  have e : (gH ((all.drop at').take n)).size = ((all.drop at').take n).length := by
   show (((all.drop at').take n).map UInt8.ofNat).toArray.size = _
   simp
  rw [e, List.length_take, List.length_drop]; omega
 ·have hq := Cw.out
  have hm := HM.out hb
  cases o with
  | none => rw [hq]; exact hm
  | some x =>
    obtain ⟨m, r⟩ := x
    obtain ⟨rfl, hb', hr⟩ := hm
    have hq' : q = some (gH (r.take n), r.drop n) := hq
    rw [hq', ← hr]
    exact ⟨rfl, hb', by rw [List.drop_drop]⟩
def TM (g : Nat) (all : List Nat) (bad : Bool) (w : World) (o : Option (List Snd × List Nat)) (e : Ending) (w' : World) : Prop :=
 ∃ ws v at' aO, e = .returned v ∧ Aa w.heap.size ws w' v ∧ (∀ s ∈ ws, ok32 s) ∧ av [g] w w' ∧ RS w' g all at' aO ∧ (bad = true → aO = true) ∧ (bad = false → match o with
  | some (y, r) => ws = y ∧ aO = false ∧ all.drop at' = r
  | none => aO = true)
def TL (ws : List Snd) : Prop := ∀ s ∈ ws, ok32 s
theorem xJ (w : World) (g at_ : Nat) (all : List Nat) (bad : Bool) (h : RS w g all at_ bad) :
 Calls Tryz.prog 167 #[af g] w (TM g all bad w (wordR (all.drop at_))) := by
 obtain ⟨i0, hi, hz0, hz1, hz2⟩ := info_parts (show (Tryz.prog.info? 55).map (fun i => (i.zero, i.size, i.bytes)) = some (some (.agg #[.int .u32 0, .int .u32 0]), 2, 8) by kernel_rfl)
 have hgl := h.lt
 have hc := bZ w g at_ all bad h
 obtain ⟨o, ho⟩ : ∃ o, countR (all.drop at_) = o := ⟨_, rfl⟩
 rw [ho] at hc
 obtain ⟨q, hq⟩ : ∃ q, wordR (all.drop at_) = q := ⟨_, rfl⟩
 rw [hq]
 have hq2 : q = o.bind fun x => manyR sndR x.1 x.2 := by
  rw [← hq]
  unfold wordR someR
  cases o with
  | none => rw [thenR_none ho]; rfl
  | some x => obtain ⟨n, r⟩ := x; rw [thenR_some ho]; rfl
 have Cw := qh hq2
 clear h hq ho hq2
 go_enter Tryz.func167, Tryz.ntmps167
 go_wp2_with fail
 refine hc.mono ?_
 rintro e w1 ⟨n, at1, bad1, rfl, hn, hn0, bQ, hr, hb1, hm⟩
 obtain ⟨h7, h8, h9⟩ := hr.all
 have HR1 := qh hr; have PZ := qh bQ; have HM := qh hm; have HB1 := qh hb1; have Ye := qh hn0
 have hn30 : n ≤ 1073741824 := by omega
 clear hr bQ hm hc hb1 h7 hn0 hn h8 h9
 go_wp2
 go_loopw [4, 5] (fun v i wr => ∃ k at' : Nat, ∃ aO : Bool, ∃ xs : List Snd, k ≤ n ∧ i = .int .i64 k ∧ xs.length = k ∧ wr.ownsRow w.heap.size 55 2 v k (xs.flatMap gL) ∧ TL xs ∧ RS wr g all at' aO ∧ av [g] w wr ∧ (bad1 = true → aO = true) ∧ (bad1 = false → (aO = true → manyR sndR n (all.drop at1) = none) ∧ (aO = false → jO xs (manyR sndR (n - k) (all.drop at')) = manyR sndR n (all.drop at1)))) (fun _ i _ => n - (Lib.intOf i).toNat)
 case atStart => exact ⟨0, at1, bad1, [], by omega, rfl, rfl, World.ownsRow_nil _ _ _ _, (fun s hs => by cases hs), HR1.out, PZ.out, id, fun hb => ⟨(fun hb' => by rw [hb] at hb'; cases hb'), (fun _ => by rw [jD]; rfl)⟩⟩
 case round =>
  obtain ⟨k, at', aO, xs, hk, rfl, hxl, hown, gI, hr, bQ, hbb, hinv⟩ := hrel
  obtain ⟨A, c, ⟨c0, c1, c2⟩, ⟨f0, f1, f2⟩, -, -, -⟩ := hr.cells
  have FB := qh hxl; have bD := qh hown; have HR := qh hr; have bz := qh bQ; have sV := qh gI; have EJ := qh hbb; have iW := qh hinv
  clear hxl hown hr bQ gI hbb hinv
  by_cases hlt : k < n
  ·have cB : (k : Int) < n := by omega
   cases aO with
   | true =>
     go_wp2
     go_ret
     have hb0 : bad1 = false := by
      cases bE : bad1 with
      | false => rfl
      | true => have := Ye.out bE; omega
     refine ⟨xs, _, at', true, rfl, by show World.ownsRow _ _ _ _ _ xs.length _; rw [FB.out]; exact bD.out, sV.out, bz.out, HR.out, fun _ => rfl, fun hb => ?_⟩
     have hq := Cw.out
     have hm := HM.out hb
     cases o with
     | none => rw [hq]; rfl
     | some x =>
       obtain ⟨m, r⟩ := x
       obtain ⟨rfl, -, rfl⟩ := hm
       have hq' : q = manyR sndR n (all.drop at1) := hq
       rw [hq', (iW.out hb0).1 (by first | trivial | rfl)]
   | false =>
     have ae := mF wr g at' all false HR.out
     have aj := qh ae
     clear ae
     go_wp2_with fail
     refine aj.out.mono ?_
     rintro e w2 ⟨s, at2, bad2, rfl, hok, hc2, hr2, hb2, hm2⟩
     have hown2 := bY bD.out hc2 (fun j hj hm => by
      have := bD.out.lt j hj
      simp at hm; omega)
     have hrn := az w2 55 (gL s) 2 1 rfl
     have HR2 := qh hr2; have ig := qh hc2; have aL := qh hown2; have dR := qh hrn; have N9 := qh hm2; have gW := qh hok
     have hsz := bz.out.size
     have hsz2 := hc2.size
     clear hr2 hc2 hown2 hrn hm2 hb2 hok
     go_wp2_with (at_builtin; refine wpList_append_any _ rfl _ _ 59 rfl w.heap.size 55 i0 (.agg #[.int .u32 0, .int .u32 0]) 2 8 Tryz.underlying59 hi hz0 hz1 hz2 rfl (by decide) _ _ _ rfl (aL.out.alloc _) _ _ _ _ (gL s) rfl dR.out (by simp [Value.oneCell']) (by unfold maxLen; omega) (by omega) (by simp; omega) ?_; intro v' w3 ai ag bK; clear bK)
     have hc3 : av [g] w w3 := ((bz.out.trans ig.out).alloc _).grown ag (fun j hj => (aL.out.lt j hj).1)
     have hr3 : RS w3 g all at2 bad2 := (HR2.out.alloc _).grown ag (fun j hj => by have := (aL.out.lt j hj).1; omega)
     clear ag
     have hinv : bad1 = false → (bad2 = true → manyR sndR n (all.drop at1) = none) ∧ (bad2 = false → jO (xs ++ [s]) (manyR sndR (n - (k + 1)) (all.drop at2)) = manyR sndR n (all.drop at1)) := fun hb => by
      have h1 := (iW.out hb).2 (by first | trivial | rfl)
      have hm := N9.out (by first | trivial | rfl)
      rw [show n - k = (n - (k + 1)) + 1 by omega] at h1
      cases hs : sndR (all.drop at') with
      | none =>
        rw [hs] at hm
        rw [iB _ hs] at h1
        exact ⟨fun _ => h1.symm, fun h => by rw [hm] at h; cases h⟩
      | some x =>
        obtain ⟨s2, r2⟩ := x
        rw [hs] at hm
        obtain ⟨rfl, hb2, rfl⟩ := hm
        rw [iA _ hs] at h1
        exact ⟨(fun h => by rw [hb2] at h; cases h), fun _ => h1⟩
     have hbb : bad1 = true → bad2 = true := fun hb => by have := EJ.out hb; cases this
     have HI := qh hinv; have YG := qh hbb
     clear hinv hbb
     go_roundw
     case rel => exact ⟨k + 1, at2, bad2, xs ++ [s], by omega, by go_num, by rw [List.length_append, FB.out]; rfl, by rw [List.flatMap_append]; simpa using ai, (fun x hx => by rcases List.mem_append.1 hx with hx | hx; exact sV.out x hx; rw [List.mem_singleton.1 hx]; exact gW.out), hr3, hc3, YG.out, HI.out⟩
     case measure => simp [Lib.intOf]; omega
  ·obtain rfl : k = n := by omega
   go_wp2
   go_ret
   refine ⟨xs, _, at', aO, rfl, by show World.ownsRow _ _ _ _ _ xs.length _; rw [FB.out]; exact bD.out, sV.out, bz.out, HR.out, fun hb => EJ.out (HB1.out hb), fun hb => ?_⟩
   have hq := Cw.out
   have hm := HM.out hb
   cases o with
   | none => rw [hq]; exact EJ.out hm
   | some x =>
     obtain ⟨m, r⟩ := x
     obtain ⟨rfl, hb1, rfl⟩ := hm
     have hq' : q = manyR sndR k (all.drop at1) := hq
     obtain ⟨i1, i2⟩ := iW.out hb1
     cases bE : aO with
     | true => rw [hq', i1 bE]
     | false =>
       have := i2 bE
       rw [Nat.sub_self] at this
       have e : q = some (xs, all.drop at') := by rw [hq', ← this]; simp [jO, manyR]
       rw [e]
       exact ⟨rfl, rfl, rfl⟩
end Go.Proofs.YtmepaeahchiglaaGreatDoor
