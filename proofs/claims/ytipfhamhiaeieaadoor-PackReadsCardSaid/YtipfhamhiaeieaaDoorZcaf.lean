/-
  layer 43: the reference's reader: number, count, flag, sound. Conditions: bytes that can be read.
-/
import Derived.Test.YtipfhamhiaeieaaDoorZcPkRe
import Derived.Deep.QuietTactic
import Derived.BigQuiet
import Derived.Test.YtipfhamhiaeieaaDoorZcad
import Derived.Test.YtipfhamhiaeieaaDoorZcae
namespace Go.Proofs.YtipfhamhiaeieaaDoor
open Go.RowKit Go.Lib

/-- The reference's reader behind a pointer: all bytes, the place, whether they are bad. -/
def RS (w : World) (g : Nat) (all : List Nat) (at_ : Nat) (bad : Bool) : Prop :=
  ∃ A c, Blk w g 82 #[.slice A all.length c, .int .i64 at_, .bool bad] ∧ Reads w g 1 A all.length (all.map bv) ∧ at_ ≤ all.length ∧ all.length ≤ c ∧ c ≤ maxLen ∧ all.length ≤ 1073741824 ∧ ∀ b ∈ all, b < 256
theorem RS.lt {w : World} {g at_ : Nat} {all : List Nat} {bad : Bool} (h : RS w g all at_ bad) : g < w.heap.size := by
  obtain ⟨A, c, h, _⟩ := h; exact h.lt
theorem RS.alloc {w : World} {g at_ : Nat} {all : List Nat} {bad : Bool} (h : RS w g all at_ bad) (o : Obj) : RS (w.alloc o) g all at_ bad := by
  obtain ⟨A, c, h1, h2, h3⟩ := h
  exact ⟨A, c, h1.alloc o, h2.alloc (Nat.le_of_lt h1.lt) o, h3⟩
theorem RS.drew {w : World} {g at_ : Nat} {all : List Nat} {bad : Bool} (h : RS w g all at_ bad) : RS w.drew g all at_ bad := h
theorem RS.chg {w w' : World} {g at_ : Nat} {all : List Nat} {bad : Bool} {S : List Nat} (h : RS w g all at_ bad) (hc : Chg S w w') (hs : ∀ k ∈ S, g < k) : RS w' g all at_ bad := by
  obtain ⟨A, c, h1, h2, h3⟩ := h
  have hl := h1.lt
  exact ⟨A, c, h1.chg hc (fun hm => Nat.lt_irrefl _ (hs g hm)), h2.below (hc.below (fun i hi => Nat.le_of_lt (hs i hi)) (by omega)), h3⟩
theorem RS.grown {w w' : World} {g at_ : Nat} {all : List Nat} {bad : Bool} {row : Option Nat} (h : RS w g all at_ bad) (hg : w.grownBy w' row) (hr : ∀ k, row = some k → g < k) : RS w' g all at_ bad := by
  cases row with
  | none => exact h.chg (S := []) ⟨hg.os, hg.tape, hg.output, hg.size, fun k hk _ => hg.block k hk (by simp)⟩ (by simp)
  | some j => exact h.chg (S := [j]) ⟨hg.os, hg.tape, hg.output, hg.size, fun k hk hs => hg.block k hk (by simpa using hs)⟩ (by simpa using hr j rfl)
theorem RS.all {w : World} {g at_ : Nat} {all : List Nat} {bad : Bool} (h : RS w g all at_ bad) : (∀ b ∈ all, b < 256) ∧ at_ ≤ all.length ∧ all.length ≤ 1073741824 := by
  obtain ⟨A, c, h1, h2, h3, h4, h5, h6, h7⟩ := h
  exact ⟨h7, h3, h6⟩
/-- It is bad now. -/
theorem RS.setBad {w : World} {g at_ : Nat} {all : List Nat} {bad : Bool} (h : RS w g all at_ bad) : RS (w.setCell ⟨g, 2, none⟩ (.bool true)) g all at_ true := by
  obtain ⟨A, c, h1, h2, h3⟩ := h
  exact ⟨A, c, by simpa using h1.set_ 2 (.bool true), h2.setCell (Nat.le_refl _) _, h3⟩
theorem RS.setAt {w : World} {g at_ : Nat} {all : List Nat} {bad : Bool} (h : RS w g all at_ bad) (k : Nat) (hk : k ≤ all.length) : RS (w.setCell ⟨g, 1, none⟩ (.int .i64 k)) g all k bad := by
  obtain ⟨A, c, h1, h2, _, h3⟩ := h
  exact ⟨A, c, by simpa using h1.set_ 1 (.int .i64 k), h2.setCell (Nat.le_refl _) _, hk, h3⟩
/-- The cells, and that they can be written. -/
theorem RS.cells {w : World} {g at_ : Nat} {all : List Nat} {bad : Bool} (h : RS w g all at_ bad) : ∃ A c, (w.cell? ⟨g, 0, none⟩ = some (.slice A all.length c) ∧ w.cell? ⟨g, 1, none⟩ = some (.int .i64 at_) ∧ w.cell? ⟨g, 2, none⟩ = some (.bool bad)) ∧
    (w.frozen? ⟨g, 0, none⟩ = false ∧ w.frozen? ⟨g, 1, none⟩ = false ∧ w.frozen? ⟨g, 2, none⟩ = false) ∧ Reads w g 1 A all.length (all.map bv) ∧ all.length ≤ c ∧ c ≤ maxLen := by
  obtain ⟨A, c, h1, h2, h3, h4, h5, h6⟩ := h
  exact ⟨A, c, ⟨h1.cell 0, h1.cell 1, h1.cell 2⟩, ⟨h1.frozen 0, h1.frozen 1, h1.frozen 2⟩, h2, h4, h5⟩
/-- What the reference's reading of numbers ends in. -/
def NumPost (g : Nat) (all : List Nat) (bad : Bool) (w : World) (o : Option (Nat × List Nat)) (e : Ending) (w' : World) : Prop :=
  ∃ v at' bad', e = .returned (.int .u32 (v : Nat)) ∧ v < 4294967296 ∧ Chg [g] w w' ∧ RS w' g all at' bad' ∧ match o with
    | some (n, r) => v = n ∧ bad' = bad ∧ all.drop at' = r
    | none => bad' = true
set_option maxRecDepth 20000 in
set_option maxHeartbeats 4000000 in
theorem snum_any (w : World) (g at_ : Nat) (all : List Nat) (bad : Bool) (h : RS w g all at_ bad) :
    Calls Tryd.prog 86 #[wptr g] w (NumPost g all bad w (readN (all.drop at_))) := by
  have HH := Lib.hid h
  clear h
  obtain ⟨o, ho⟩ : ∃ o, readN (all.drop at_) = o := ⟨_, rfl⟩
  rw [ho]
  have HO := Lib.hid ho
  clear ho
  go_enter Tryd.func86, Tryd.ntmps86
  go_wp2
  go_loopw [3, 4, 5] (fun a b i wr => ∃ k acc at' : Nat, k ≤ 5 ∧ i = .int .i64 k ∧ a = .int .u64 acc ∧ b = .int .u64 (128 ^ k : Nat) ∧ acc < 128 ^ k ∧ readK (5 - k) k acc (all.drop at') = o ∧ RS wr g all at' bad ∧ Chg [g] w wr) (fun _ _ i _ => 5 - (RowKit.intOf i).toNat)
  case atStart => exact ⟨0, 0, at_, by omega, rfl, rfl, by simp, by decide, HO.out, HH.out, Chg.refl _ _⟩
  case round =>
    obtain ⟨k, acc, at', hk, rfl, rfl, rfl, hacc, hrd, hr, hch⟩ := hrel
    obtain ⟨A, c, ⟨c0, c1, c2⟩, ⟨f0, f1, f2⟩, h2, h3, h4⟩ := hr.cells
    obtain ⟨h7, h8, h9⟩ := hr.all
    have hgl := hr.lt
    have HRD := Lib.hid hrd; have HR := Lib.hid hr; have HCH := Lib.hid hch; have HACC := Lib.hid hacc; have H2 := Lib.hid h2; have H7 := Lib.hid h7
    clear hrd hr hch hacc h2 h7
    unfold maxLen at h4
    obtain ⟨by_, hby⟩ : ∃ p : Nat, 128 ^ k = p := ⟨_, rfl⟩
    have hbyl : by_ ≤ 34359738368 := by
      rw [← hby]
      exact Nat.pow_le_pow_right (by decide) hk
    have HBY := Lib.hid hby
    rw [hby]
    by_cases hlt : k < 5
    · have hkI : (k : Int) < 5 := by omega
      clear hby
      by_cases hat : at' < all.length
      · have hatI : ¬ (all.length : Int) ≤ (at' : Int) := by omega
        obtain ⟨b, hb⟩ : ∃ b, all[at'] = b := ⟨_, rfl⟩
        have hbb := H7.out b (by rw [← hb]; exact List.getElem_mem hat)
        have hbv : (all.map bv)[at']? = some (bv b) := by rw [List.getElem?_map, List.getElem?_eq_getElem hat, hb]; rfl
        have e := HRD.out
        rw [List.drop_eq_getElem_cons hat, hb, readK_cons hlt, HBY.out] at e
        obtain ⟨p, hp⟩ : ∃ p : Nat, by_ * (b % 128) = p := ⟨_, rfl⟩
        have hpl : p ≤ by_ * 127 := by rw [← hp]; exact Nat.mul_le_mul_left _ (by omega)
        have hby4 : by_ ≤ 268435456 := by
          rw [← HBY.out]
          exact Nat.le_trans (Nat.pow_le_pow_right (by decide) (show k ≤ 4 by omega)) (by decide)
        have hpI : (by_ : Int) * ((b : Int) % 128) = (p : Int) := by rw [← hp]; simp
        have hps : b < 128 → by_ * b = p := fun h => by rw [← hp, Nat.mod_eq_of_lt h]
        rw [hp] at e
        have hacc' : acc < by_ := by have := HACC.out; rwa [HBY.out] at this
        have hby1 : 128 ^ (k + 1) = by_ * 128 := by rw [Nat.pow_succ, HBY.out]
        have hT : acc + p < by_ * 128 := by omega
        have HBY1 := Lib.hid hby1; have HT := Lib.hid hT; have HPS := Lib.hid hps; have HBV := Lib.hid hbv
        clear hby1 hb HRD hbyl hp hps hbv
        go_wp2
        go_quiet (fail)
        have hrx : RS (wr.drewN nq) g all at' bad := HR.out
        have hcx : Chg [g] w (wr.drewN nq) := ⟨HCH.out.os, HCH.out.tape, HCH.out.output, HCH.out.size, HCH.out.block⟩
        obtain ⟨w1, hw⟩ : ∃ W, wr.drewN nq = W := ⟨_, rfl⟩
        rw [hw] at hrx hcx ⊢
        clear hw HR HCH
        obtain ⟨A, c, ⟨c0, c1, c2⟩, ⟨f0, f1, f2⟩, h2, h3, h4⟩ := hrx.cells
        have HR := Lib.hid hrx; have HCH := Lib.hid hcx; have H2 := Lib.hid h2
        clear hrx hcx h2
        unfold maxLen at h4
        obtain ⟨ad, rfl, had, hcell⟩ := H2.out.2 (by omega)
        have hcb := hcell at' (bv b) HBV.out
        clear hcell
        go_wp2
        go_quiet (fail)
        have hrx : RS (w1.drewN nq) g all at' bad := HR.out
        have hcx : Chg [g] w (w1.drewN nq) := ⟨HCH.out.os, HCH.out.tape, HCH.out.output, HCH.out.size, HCH.out.block⟩
        obtain ⟨w2, hw⟩ : ∃ W, w1.drewN nq = W := ⟨_, rfl⟩
        rw [hw] at hrx hcx ⊢
        clear hw HR HCH
        obtain ⟨A, c, ⟨c0, c1, c2⟩, ⟨f0, f1, f2⟩, h2, h3, h4⟩ := hrx.cells
        have HR := Lib.hid hrx; have HCH := Lib.hid hcx; have H2 := Lib.hid h2
        clear hrx hcx h2
        unfold maxLen at h4
        have hs1 := HR.out.setAt (at' + 1) (by omega)
        have hc1 := HCH.out.setCell (p := ⟨g, 1, none⟩) (.inl (by simp)) (.int .i64 ((at' + 1 : Nat) : Int))
        rw [Int.natCast_add, Int.cast_ofNat_Int] at hs1 hc1
        have HS1 := Lib.hid hs1; have HC1 := Lib.hid hc1
        clear hs1 hc1 hcb
        by_cases h128 : 128 ≤ b
        · have h128I : ¬ (b : Int) < 128 := by omega
          rw [if_pos h128] at e
          have HE := Lib.hid e
          clear e h128
          go_wp2
          go_roundw
          case rel => exact ⟨k + 1, acc + p, at' + 1, by omega, by go_num, by go_num, by rw [HBY1.out]; go_num, by rw [HBY1.out]; exact HT.out, HE.out, HS1.out, HC1.out⟩
          case measure => simp [RowKit.intOf]; omega
        · have h128I : (b : Int) < 128 := by omega
          rw [if_neg h128, HPS.out (by omega)] at e
          have hTI : acc + p < 34359738368 := by have := HT.out; omega
          by_cases hbig : 4294967296 ≤ acc + p
          · have hbigI : (4294967296 : Int) ≤ (acc : Int) + (p : Int) := by omega
            rw [if_pos (.inr hbig)] at e
            clear hbig
            subst e
            have HB := Lib.hid HS1.out.setBad
            have HCB := Lib.hid (HC1.out.setCell (p := ⟨g, 2, none⟩) (.inl (by simp)) (.bool true))
            clear h128
            go_wp2
            go_ret
            exact ⟨0, at' + 1, true, rfl, by decide, HCB.out, HB.out, rfl⟩
          · have hbigI : ¬ (4294967296 : Int) ≤ (acc : Int) + (p : Int) := by omega
            by_cases hb0 : b = 0
            · have hb0I : ((b : Int) == 0) = true := by rw [beq_iff_eq]; omega
              by_cases hk0 : 0 < k
              · have hk0I : (0 : Int) < (k : Int) := by omega
                rw [if_pos (.inl ⟨hb0, hk0⟩)] at e
                clear hb0 hk0 hbig
                subst e
                have HB := Lib.hid HS1.out.setBad
                have HCB := Lib.hid (HC1.out.setCell (p := ⟨g, 2, none⟩) (.inl (by simp)) (.bool true))
                clear h128
                go_wp2
                go_ret
                exact ⟨0, at' + 1, true, rfl, by decide, HCB.out, HB.out, rfl⟩
              · have hk0I : ¬ (0 : Int) < (k : Int) := by omega
                rw [if_neg (by omega)] at e
                clear hb0 hk0 hbig
                subst e
                clear h128
                go_wp2
                go_ret
                exact ⟨acc + p, at' + 1, bad, by go_num, by omega, HC1.out, HS1.out, rfl, rfl, rfl⟩
            · have hb0I : ((b : Int) == 0) = false := by rw [beq_eq_false_iff_ne]; omega
              rw [if_neg (by omega)] at e
              clear hb0 hbig
              subst e
              clear h128
              go_wp2
              go_ret
              exact ⟨acc + p, at' + 1, bad, by go_num, by omega, HC1.out, HS1.out, rfl, rfl, rfl⟩
      · have hatI : (all.length : Int) ≤ (at' : Int) := by omega
        have e := HRD.out
        rw [List.drop_eq_nil_of_le (by omega), readK_nil hlt] at e
        subst e
        clear hat
        go_wp2
        go_quiet (fail)
        have hrx : RS (wr.drewN nq) g all at' bad := HR.out
        have hcx : Chg [g] w (wr.drewN nq) := ⟨HCH.out.os, HCH.out.tape, HCH.out.output, HCH.out.size, HCH.out.block⟩
        obtain ⟨w1, hw⟩ : ∃ W, wr.drewN nq = W := ⟨_, rfl⟩
        rw [hw] at hrx hcx ⊢
        clear hw HR HCH
        obtain ⟨A, c, ⟨c0, c1, c2⟩, ⟨f0, f1, f2⟩, h2, h3, h4⟩ := hrx.cells
        have HR := Lib.hid hrx; have HCH := Lib.hid hcx; have H2 := Lib.hid h2
        clear hrx hcx h2
        unfold maxLen at h4
        have HB := Lib.hid HR.out.setBad
        have HCB := Lib.hid (HCH.out.setCell (p := ⟨g, 2, none⟩) (.inl (by simp)) (.bool true))
        go_wp2
        go_ret
        exact ⟨0, at', true, rfl, by decide, HCB.out, HB.out, rfl⟩
    · obtain rfl : k = 5 := by omega
      have e := HRD.out
      rw [Nat.sub_self, readK_zero] at e
      subst e
      have HB := Lib.hid HR.out.setBad
      have HCB := Lib.hid (HCH.out.setCell (p := ⟨g, 2, none⟩) (.inl (by simp)) (.bool true))
      clear hby hlt
      go_wp2
      go_ret
      exact ⟨0, at', true, rfl, by decide, HCB.out, HB.out, rfl⟩
/-- What the reference's counting ends in. -/
def CntPost (g : Nat) (all : List Nat) (bad : Bool) (w : World) (o : Option (Nat × List Nat)) (e : Ending) (w' : World) : Prop :=
  ∃ n at' bad', e = .returned (.int .i64 (n : Nat)) ∧ at' + n ≤ all.length ∧ (bad' = true → n = 0) ∧ Chg [g] w w' ∧ RS w' g all at' bad' ∧ (bad = true → bad' = true) ∧ (bad = false → match o with
    | some (m, r) => n = m ∧ bad' = false ∧ all.drop at' = r
    | none => bad' = true)
set_option maxRecDepth 20000 in
set_option maxHeartbeats 2000000 in
theorem scount_any (w : World) (g at_ : Nat) (all : List Nat) (bad : Bool) (h : RS w g all at_ bad) :
    Calls Tryd.prog 85 #[wptr g] w (CntPost g all bad w (countR (all.drop at_))) := by
  have hc := snum_any w g at_ all bad h
  unfold countR
  obtain ⟨o, ho⟩ : ∃ o, readN (all.drop at_) = o := ⟨_, rfl⟩
  rw [ho] at hc
  obtain ⟨q, hq⟩ : ∃ q, thenR readN (fun n r => if n ≤ r.length then some (n, r) else none) (all.drop at_) = q := ⟨_, rfl⟩
  rw [hq]
  have hq2 : q = o.bind fun x => if x.1 ≤ x.2.length then some (x.1, x.2) else none := by
    rw [← hq]
    cases o with
    | none => rw [thenR_none ho]; rfl
    | some x => obtain ⟨n, r⟩ := x; rw [thenR_some ho]; rfl
  have HQ2 := Lib.hid hq2
  clear h hq ho hq2
  go_enter Tryd.func85, Tryd.ntmps85
  go_wp2_with fail
  refine hc.mono ?_
  rintro e w1 ⟨v, at', bad', rfl, hv, hch, hr, hm⟩
  obtain ⟨A, c, ⟨c0, c1, c2⟩, ⟨f0, f1, f2⟩, h2, h3, h4⟩ := hr.cells
  obtain ⟨h7, h8, h9⟩ := hr.all
  have HR := Lib.hid hr; have HCH := Lib.hid hch; have HM := Lib.hid hm
  clear hr hch hm hc h2 h7
  unfold maxLen at h4
  cases bad' with
  | true =>
    go_wp2
    go_quiet (fail)
    have hrx : RS (w1.drewN nq) g all at' true := HR.out
    have hcx : Chg [g] w (w1.drewN nq) := ⟨HCH.out.os, HCH.out.tape, HCH.out.output, HCH.out.size, HCH.out.block⟩
    obtain ⟨w2, hw⟩ : ∃ W, w1.drewN nq = W := ⟨_, rfl⟩
    rw [hw] at hrx hcx ⊢
    clear hw HR HCH
    obtain ⟨A, c, ⟨c0, c1, c2⟩, ⟨f0, f1, f2⟩, h2, h3, h4⟩ := hrx.cells
    have HR := Lib.hid hrx; have HCH := Lib.hid hcx
    clear hrx hcx h2
    unfold maxLen at h4
    have HB := Lib.hid HR.out.setBad
    have HCB := Lib.hid (HCH.out.setCell (p := ⟨g, 2, none⟩) (.inl (by simp)) (.bool true))
    go_wp2
    go_ret
    refine ⟨0, at', true, rfl, by omega, fun _ => rfl, HCB.out, HB.out, fun _ => rfl, fun hb => ?_⟩
    have hq := HQ2.out
    have hm := HM.out
    subst hb
    cases o with
    | none => rw [hq]; rfl
    | some x => exact absurd hm.2.1 (by decide)
  | false =>
    by_cases hle : v ≤ all.length - at'
    · have hleI : ¬ ((all.length : Int) - (at' : Int)) < (v : Int) := by omega
      go_wp2
      go_quiet (fail)
      have hrx : RS (w1.drewN nq) g all at' false := HR.out
      have hcx : Chg [g] w (w1.drewN nq) := ⟨HCH.out.os, HCH.out.tape, HCH.out.output, HCH.out.size, HCH.out.block⟩
      obtain ⟨w2, hw⟩ : ∃ W, w1.drewN nq = W := ⟨_, rfl⟩
      rw [hw] at hrx hcx ⊢
      clear hw HR HCH
      obtain ⟨A, c, ⟨c0, c1, c2⟩, ⟨f0, f1, f2⟩, h2, h3, h4⟩ := hrx.cells
      have HR := Lib.hid hrx; have HCH := Lib.hid hcx
      clear hrx hcx h2
      unfold maxLen at h4
      go_wp2
      go_ret
      refine ⟨v, at', false, rfl, by omega, (fun h => by cases h), HCH.out, HR.out, fun hb => ?_, fun hb => ?_⟩
      · have hm := HM.out
        subst hb
        cases o with
        | none => cases hm
        | some x => exact absurd hm.2.1 (by decide)
      · have hq := HQ2.out
        have hm := HM.out
        subst hb
        cases o with
        | none => cases hm
        | some x =>
          obtain ⟨n, r⟩ := x
          obtain ⟨rfl, -, hr⟩ := hm
          have hlen : r.length = all.length - at' := by rw [← hr, List.length_drop]
          have hq' : q = some (v, r) := by rw [hq]; show (if v ≤ r.length then some (v, r) else none) = _; rw [if_pos (by omega)]
          rw [hq']
          exact ⟨rfl, rfl, hr⟩
    · have hleI : ((all.length : Int) - (at' : Int)) < (v : Int) := by omega
      go_wp2
      go_quiet (fail)
      have hrx : RS (w1.drewN nq) g all at' false := HR.out
      have hcx : Chg [g] w (w1.drewN nq) := ⟨HCH.out.os, HCH.out.tape, HCH.out.output, HCH.out.size, HCH.out.block⟩
      obtain ⟨w2, hw⟩ : ∃ W, w1.drewN nq = W := ⟨_, rfl⟩
      rw [hw] at hrx hcx ⊢
      clear hw HR HCH
      obtain ⟨A, c, ⟨c0, c1, c2⟩, ⟨f0, f1, f2⟩, h2, h3, h4⟩ := hrx.cells
      have HR := Lib.hid hrx; have HCH := Lib.hid hcx
      clear hrx hcx h2
      unfold maxLen at h4
      have HB := Lib.hid HR.out.setBad
      have HCB := Lib.hid (HCH.out.setCell (p := ⟨g, 2, none⟩) (.inl (by simp)) (.bool true))
      go_wp2
      go_ret
      refine ⟨0, at', true, rfl, by omega, fun _ => rfl, HCB.out, HB.out, fun _ => rfl, fun hb => ?_⟩
      have hq := HQ2.out
      have hm := HM.out
      subst hb
      cases o with
      | none => rw [hq]; rfl
      | some x =>
        obtain ⟨n, r⟩ := x
        obtain ⟨rfl, -, hr⟩ := hm
        have hlen : r.length = all.length - at' := by rw [← hr, List.length_drop]
        have hq' : q = none := by rw [hq]; show (if v ≤ r.length then some (v, r) else none) = _; rw [if_neg (by omega)]
        rw [hq']
end Go.Proofs.YtipfhamhiaeieaaDoor
namespace Go.Proofs.YtipfhamhiaeieaaDoor

/-- A pattern: Kind, Is, Not, Min, Max, L. -/
inductive Pt where
  | mk (k : Int) (s : Snd) (neg : Bool) (lo hi : Int) (l : List Pt)
mutual
def ptSize : Pt → Nat
  | .mk _ _ _ _ _ l => 1 + ptSizes l
def ptSizes : List Pt → Nat
  | [] => 0
  | p :: l => ptSize p + ptSizes l
end
theorem ptSize_mk (k : Int) (s : Snd) (neg : Bool) (lo hi : Int) (l : List Pt) : ptSize (.mk k s neg lo hi l) = 1 + ptSizes l := by rw [ptSize]
theorem ptSizes_nil : ptSizes [] = 0 := by rw [ptSizes]
theorem ptSizes_cons (p : Pt) (l : List Pt) : ptSizes (p :: l) = ptSize p + ptSizes l := by rw [ptSizes]
theorem ptSize_pos (p : Pt) : 0 < ptSize p := by
  obtain ⟨k, s, neg, lo, hi, l⟩ := p
  rw [ptSize_mk]; omega
theorem ptSizes_append (a b : List Pt) : ptSizes (a ++ b) = ptSizes a + ptSizes b := by
  induction a with
  | nil => rw [List.nil_append, ptSizes_nil, Nat.zero_add]
  | cons p l ih => rw [List.cons_append, ptSizes_cons, ptSizes_cons, ih, Nat.add_assoc]
theorem ptSizes_len (l : List Pt) : l.length ≤ ptSizes l := by
  induction l with
  | nil => exact Nat.zero_le _
  | cons p l ih => rw [ptSizes_cons, List.length_cons]; have := ptSize_pos p; omega
theorem ptSize_mem {p : Pt} {l : List Pt} (h : p ∈ l) : ptSize p ≤ ptSizes l := by
  induction l with
  | nil => cases h
  | cons q l ih =>
    rw [ptSizes_cons]
    rcases List.mem_cons.1 h with rfl | h
    · omega
    · have := ih h; omega
theorem ptSizes_take (l : List Pt) (k : Nat) : ptSizes (l.take k) ≤ ptSizes l := by
  have := ptSizes_append (l.take k) (l.drop k)
  rw [List.take_append_drop] at this
  omega
/-- Whether a node is allowed, apart from the nodes below it. -/
def nodeOk (k : Int) (s : Snd) (neg : Bool) (lo hi : Int) (n : Nat) : Bool :=
  if k = 1 then decide (lo = 0 ∧ hi = 0 ∧ n = 0) && validS s
  else decide (s = (0, 0)) && !neg && (if k = 0 ∨ k = 2 ∨ k = 6 then decide (lo = 0 ∧ hi = 0 ∧ n = 0) else if k = 3 ∨ k = 4 then decide (lo = 0 ∧ hi = 0) else if k = 5 then decide (n = 1 ∧ 0 ≤ lo ∧ lo ≤ 32 ∧ (hi = -1 ∨ (lo ≤ hi ∧ hi ≤ 32))) else false)
mutual
def ptOk : Pt → Bool
  | .mk k s neg lo hi l => nodeOk k s neg lo hi l.length && ptsOk l
def ptsOk : List Pt → Bool
  | [] => true
  | p :: l => ptOk p && ptsOk l
end
theorem ptOk_mk (k : Int) (s : Snd) (neg : Bool) (lo hi : Int) (l : List Pt) : ptOk (.mk k s neg lo hi l) = (nodeOk k s neg lo hi l.length && ptsOk l) := by rw [ptOk]
theorem ptsOk_nil : ptsOk [] = true := by rw [ptsOk]
theorem ptsOk_cons (p : Pt) (l : List Pt) : ptsOk (p :: l) = (ptOk p && ptsOk l) := by rw [ptsOk]
theorem ptsOk_append (a b : List Pt) : ptsOk (a ++ b) = (ptsOk a && ptsOk b) := by
  induction a with
  | nil => rw [List.nil_append, ptsOk_nil, Bool.true_and]
  | cons p l ih => rw [List.cons_append, ptsOk_cons, ptsOk_cons, ih, Bool.and_assoc]
theorem ptsOk_mem {p : Pt} {l : List Pt} (h : p ∈ l) (hl : ptsOk l = true) : ptOk p = true := by
  induction l with
  | nil => cases h
  | cons q l ih =>
    rw [ptsOk_cons, Bool.and_eq_true] at hl
    rcases List.mem_cons.1 h with rfl | h
    · exact hl.1
    · exact ih h hl.2
/-- Whether a pattern is valid. -/
def patOk (p : Pt) : Bool := ptOk p && decide (ptSize p ≤ 40)
/-! Patterns as bytes. -/
mutual
def patB : Pt → List Nat
  | .mk k s neg lo hi l => numB k.toNat ++ (if k = 1 then sndB s ++ numB (if neg then 1 else 0) else if k = 3 ∨ k = 4 then numB l.length ++ patsB l else if k = 5 then numB lo.toNat ++ (numB (hi + 1).toNat ++ patsB l) else [])
def patsB : List Pt → List Nat
  | [] => []
  | p :: l => patB p ++ patsB l
end
theorem patB_mk (k : Int) (s : Snd) (neg : Bool) (lo hi : Int) (l : List Pt) :
    patB (.mk k s neg lo hi l) = numB k.toNat ++ (if k = 1 then sndB s ++ numB (if neg then 1 else 0) else if k = 3 ∨ k = 4 then numB l.length ++ patsB l else if k = 5 then numB lo.toNat ++ (numB (hi + 1).toNat ++ patsB l) else []) := by rw [patB]
theorem patsB_nil : patsB [] = [] := by rw [patsB]
theorem patsB_cons (p : Pt) (l : List Pt) : patsB (p :: l) = patB p ++ patsB l := by rw [patsB]
theorem patsB_flat (l : List Pt) : patsB l = l.flatMap patB := by
  induction l with
  | nil => rw [patsB_nil]; rfl
  | cons p l ih => rw [patsB_cons, ih]; rfl
/-- What the nodes of a valid pattern are like. -/
theorem nodeOk_cases {k : Int} {s : Snd} {neg : Bool} {lo hi : Int} {n : Nat} (h : nodeOk k s neg lo hi n = true) :
    (k = 1 ∧ lo = 0 ∧ hi = 0 ∧ n = 0) ∨ ((k = 0 ∨ k = 2 ∨ k = 6) ∧ n = 0) ∨ (k = 3 ∨ k = 4) ∨ (k = 5 ∧ n = 1 ∧ 0 ≤ lo ∧ lo ≤ 32 ∧ -1 ≤ hi ∧ hi ≤ 32) := by
  unfold nodeOk at h
  by_cases h1 : k = 1
  · rw [if_pos h1, Bool.and_eq_true, decide_eq_true_iff] at h
    exact .inl ⟨h1, h.1⟩
  · rw [if_neg h1, Bool.and_eq_true, Bool.and_eq_true] at h
    obtain ⟨_, h⟩ := h
    by_cases h2 : k = 0 ∨ k = 2 ∨ k = 6
    · rw [if_pos h2, decide_eq_true_iff] at h
      exact .inr (.inl ⟨h2, h.2.2⟩)
    · rw [if_neg h2] at h
      by_cases h3 : k = 3 ∨ k = 4
      · exact .inr (.inr (.inl h3))
      · rw [if_neg h3] at h
        by_cases h5 : k = 5
        · rw [if_pos h5, decide_eq_true_iff] at h
          refine .inr (.inr (.inr ⟨h5, h.1, h.2.1, h.2.2.1, ?_⟩))
          rcases h.2.2.2 with h | h <;> omega
        · rw [if_neg h5] at h; cases h
mutual
theorem patB_len : ∀ p : Pt, (patB p).length ≤ 20 * ptSize p
  | .mk k s neg lo hi l => by
    rw [patB_mk, ptSize_mk, List.length_append]
    have h1 := patsB_len l
    have n1 : ∀ n, (numB n).length ≤ 5 := fun n => numK_len 5 n
    have h2 := n1 k.toNat
    have hs : (sndB s).length ≤ 10 := by
      show (numB s.1 ++ numB s.2).length ≤ 10
      rw [List.length_append]
      have := n1 s.1
      have := n1 s.2
      omega
    split
    · rw [List.length_append]
      have := n1 (if neg then 1 else 0)
      omega
    · split
      · rw [List.length_append]
        have := n1 l.length
        omega
      · split
        · rw [List.length_append, List.length_append]
          have := n1 lo.toNat
          have := n1 (hi + 1).toNat
          omega
        · rw [List.length_nil]; omega
theorem patsB_len : ∀ l : List Pt, (patsB l).length ≤ 20 * ptSizes l
  | [] => by rw [patsB_nil]; exact Nat.zero_le _
  | p :: l => by
    rw [patsB_cons, ptSizes_cons, List.length_append]
    have := patB_len p
    have := patsB_len l
    omega
end
end Go.Proofs.YtipfhamhiaeieaaDoor
namespace Go.Proofs.YtipfhamhiaeieaaDoor
open Go.RowKit Go.Lib

theorem wordB_len (ws : List Snd) : (wordB ws).length ≤ 5 + 10 * ws.length := by
  show (numB ws.length ++ ws.flatMap sndB).length ≤ _
  rw [List.length_append]
  have := numB_len ws.length
  have := flatB_len sndB_len ws
  omega
set_option maxRecDepth 20000 in
set_option maxHeartbeats 1000000 in
theorem putWord_any (A : Option Addr) (n c B : Nat) (ws : List Snd) (w : World) (hr : Reads w B 2 A n (ws.flatMap sndC)) (hB : B ≤ w.heap.size) (hn : n ≤ maxLen) (hok : ∀ s ∈ ws, ok32 s) :
    Calls Tryd.prog 17 #[.slice A n c] w (GivesBE w (putW ws) (wordE ws)) := by
  have hwl := hr.len_of (fun _ => rfl) (by decide)
  have hc := wordCheck_any A n c B ws w hr hB hn hok
  unfold GivesBE
  by_cases h0 : wordE ws = 0
  · have hp : putW ws = wordB ws := if_pos h0
    have h32 := wordE_len h0
    rw [hp, h0]
    rw [h0] at hc
    have hb := fun W (hW : Below w.heap.size w W) => allSnd_any (W.alloc (.cells #[.slice none 0 0] 62)) W.heap.size W.heap.size B A n c ws [] (own_none rfl) ((hr.below (hW.mono hB)).alloc (by have := hW.size; omega) _) (by have := hW.size; omega) (by omega) hok (by unfold CAP; simp; omega)
    rw [List.nil_append] at hb
    have HB := Lib.hid hb
    clear hr hok hb hp h0 hwl
    generalize wordB ws = bs at *
    go_enter Tryd.func17, Tryd.ntmps17
    go_wp2_with fail
    refine hc.mono ?_
    rintro e w1 ⟨rfl, hb1⟩
    have HB1 := Lib.hid hb1
    clear hb1
    go_wp2_with fail
    refine (HB.out _ HB1.out).mono ?_
    rintro e w2 ⟨rfl, h1, h2⟩
    have hw0 := own_none (w := w1) rfl
    have hbl := h2.below hw0
    obtain ⟨v, b1, b2, b3⟩ := h1
    have hc0 := b1.cell 0
    simp only [List.getElem?_toArray, List.getElem?_cons_zero] at hc0
    have hB2 : Below w.heap.size w w2 := (HB1.out.alloc HB1.out.size _).trans (hbl.mono HB1.out.size)
    have HB2 := Lib.hid hB2; have HO := Lib.hid b3
    clear hbl hw0 h2 b1 b2 b3 hB2
    go_wp2
    go_ret2
    exact ⟨_, rfl, own_mono HO.out HB1.out.size, HB2.out⟩
  · have hp : putW ws = [] := if_neg h0
    rw [hp]
    have hne : (wordE ws != 0) = true := by simpa using h0
    generalize wordE ws = x at *
    clear hr hok hp h0
    go_enter Tryd.func17, Tryd.ntmps17
    go_wp2_with fail
    refine hc.mono ?_
    rintro e w1 ⟨rfl, hb1⟩
    have HB1 := Lib.hid hb1
    clear hb1
    go_wp2
    go_ret2
    exact ⟨_, rfl, World.ownsRow_nil _ _ _ _, HB1.out⟩
end Go.Proofs.YtipfhamhiaeieaaDoor
