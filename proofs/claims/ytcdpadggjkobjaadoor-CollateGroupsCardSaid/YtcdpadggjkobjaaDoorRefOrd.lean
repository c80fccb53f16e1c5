/-
  layer 39: Order and Same of the reference. Conditions: an alphabet of New, or none; texts of at most maxLen bytes.
-/
import Derived.Test.YtcdpadggjkobjaaDoorTwo
import Derived.WalkLawsBesides
namespace Go.Proofs.YtcdpadggjkobjaaDoor
open Go.RowKit

theorem cmpB_range (a b : List UInt8) : Lib.compareBytes a b = -1 ∨ Lib.compareBytes a b = 0 ∨ Lib.compareBytes a b = 1 := by
  induction a generalizing b with
  | nil => cases b <;> simp [Lib.compareBytes]
  | cons x a ih =>
    cases b with
    | nil => simp [Lib.compareBytes]
    | cons y b =>
      rw [Lib.compareBytes]
      split
      · simp
      · split
        · simp
        · exact ih b
theorem cmpB_less (a b : List UInt8) : Op.bytesLess a b = decide (Lib.compareBytes a b = -1) := by
  induction a generalizing b with
  | nil => cases b <;> simp [Lib.compareBytes, Op.bytesLess]
  | cons x a ih =>
    cases b with
    | nil => simp [Lib.compareBytes, Op.bytesLess]
    | cons y b =>
      rw [Lib.compareBytes, Op.bytesLess, ih b]
      by_cases h : x < y
      · rw [if_pos h]; simp [h]
      · rw [if_neg h]
        by_cases h' : y < x
        · have : x ≠ y := fun e => by subst e; exact h h'
          rw [if_pos h']; simp [h, this]
        · have : x = y := UInt8.le_antisymm (UInt8.not_lt.1 h') (UInt8.not_lt.1 h)
          rw [if_neg h']; simp [this]
theorem cmpB_eq (a b : List UInt8) : Lib.compareBytes a b = 0 ↔ a = b := by
  induction a generalizing b with
  | nil => cases b <;> simp [Lib.compareBytes]
  | cons x a ih =>
    cases b with
    | nil => simp [Lib.compareBytes]
    | cons y b =>
      rw [Lib.compareBytes]
      by_cases h : x < y
      · have : x ≠ y := fun e => by subst e; exact absurd h (UInt8.lt_irrefl _)
        rw [if_pos h]; simp [this]
      · rw [if_neg h]
        by_cases h' : y < x
        · have : x ≠ y := fun e => by subst e; exact h h'
          rw [if_pos h']; simp [this]
        · have : x = y := UInt8.le_antisymm (UInt8.not_lt.1 h') (UInt8.not_lt.1 h)
          rw [if_neg h', ih b]; simp [this]
theorem cmpL_eq (a b : List Int) : cmpL a b = 0 ↔ a = b := by
  induction a generalizing b with
  | nil => cases b <;> simp [cmpL]
  | cons x a ih =>
    cases b with
    | nil => simp [cmpL]
    | cons y b =>
      rw [cmpL]
      by_cases h : cmpI x y = 0
      · rw [if_pos h, ih b, cmpI_zero h]; simp
      · have : x ≠ y := fun e => h (by rw [e, cmpI_self])
        rw [if_neg h]; simp [h, this]
theorem beforeV_eq (xs ys : List Int) (s t : ByteArray) : beforeV xs ys s t = if cmpL xs ys = 0 then Lib.compareBytes (bl s) (bl t) else cmpL xs ys := by
  unfold beforeV
  simp only [orL]
  split
  · split
    · rename_i h; exact h.symm
    · rfl
  · rfl
def orderRes (r1 r2 : Res) (s t : ByteArray) : Int × Int := if errTwo r1 r2 = 0 then (beforeV (keyS r1.2) (keyS r2.2) s t, 0) else (0, errTwo r1 r2)
def sameRes (r1 r2 : Res) : Bool := decide (errTwo r1 r2 = 0) && decide (keyS r1.2 = keyS r2.2)
def OrderPost (w : World) (v : Int × Int) (e : Ending) (w' : World) : Prop := e = .returned (.tuple #[.int .i64 v.1, .int .i64 v.2]) ∧ Below w.heap.size w w'
def SamePost (w : World) (b : Bool) (e : Ending) (w' : World) : Prop := e = .returned (.bool b) ∧ Below w.heap.size w w'
theorem below_drewN {B : Nat} {a w : World} (h : Below B a w) (n : Nat) : Below B a (w.drewN n) := ⟨h.os, h.tape, h.output, h.size, h.block⟩

set_option maxRecDepth 20000 in
set_option maxHeartbeats 2000000 in
theorem refOrder_any (p : Option Addr) (og : Option (List (List ByteArray))) (s t : ByteArray) (w : World) (hA : RefO w p og) (hG : SmallO og) (hs : s.size ≤ maxLen) (ht : t.size ≤ maxLen) :
    Calls Tryd.prog 23 #[.pointer p, .string s, .string t] w (OrderPost w (orderRes (readResO og s) (readResO og t) s t)) := by
  have k1 := (refKeyO_any p og s w hA hG hs).mono fun _ _ h => h.form
  have k2 := fun W (hb : Below w.heap.size w W) => (refKeyO_any p og t W (hA.below hb) hG ht).mono fun _ _ h => h.form
  generalize readResO og s = r1 at k1
  generalize readResO og t = r2 at k2
  have K2 := Lib.hid k2; clear k2 hA hG hs ht
  obtain ⟨e1, l1⟩ := r1
  obtain ⟨e2, l2⟩ := r2
  by_cases h1 : e1 = 0
  · subst h1
    by_cases h2 : e2 = 0
    · subst h2
      have hv := beforeV_eq (keyS l1) (keyS l2) s t
      have hO : orderRes (0, l1) (0, l2) s t = (beforeV (keyS l1) (keyS l2) s t, 0) := rfl
      rw [hO, hv]; clear hO hv
      have hkk := fun A B n m c d W K L hx hy hn hm => refkeys_any A B n m c d (keyS l1) (keyS l2) W K L hx hy hn hm
      have HKK := Lib.hid hkk; clear hkk
      have hkr : ∃ k, cmpL (keyS l1) (keyS l2) = k := ⟨_, rfl⟩
      obtain ⟨k, hk⟩ := hkr
      have HK := Lib.hid hk
      by_cases hk0 : k = 0
      · subst hk0
        rw [hk, if_pos rfl]; clear hk
        have c1 := cmpB_less (bl s) (bl t)
        have c2 := cmpB_eq (bl s) (bl t)
        have hsl : s.toList = bl s := Lib.toList_data s
        have htl : t.toList = bl t := Lib.toList_data t
        rcases cmpB_range (bl s) (bl t) with hc | hc | hc
        · have hl : Op.bytesLess s.toList t.toList = true := by rw [hsl, htl, c1, hc]; rfl
          rw [hc]; clear hc c1 c2 hsl htl
          go_enter Tryd.func23, Tryd.ntmps23
          go_wp2_with fail
          refine k1.mono ?_
          rintro e w1 ⟨A, n, c, rfl, hr1, hn, hb1⟩
          go_wp2_with fail
          refine (K2.out _ hb1).mono ?_
          rintro e w2 ⟨B, m, d, rfl, hr2, hm, hb2⟩
          go_wp2_with fail
          refine (HKK.out A B n m c d _ _ _ (hr1.below hb2) hr2 hn hm).mono ?_
          rw [HK.out]
          rintro e w3 ⟨rfl, q, rfl⟩
          go_wp2
          go_ret2
          exact ⟨rfl, below_drewN (hb1.trans (hb2.mono hb1.size)) _⟩
        · have hl : Op.bytesLess s.toList t.toList = false := by rw [hsl, htl, c1, hc]; rfl
          have he : (s.toList == t.toList) = true := by rw [hsl, htl, beq_iff_eq]; exact c2.1 hc
          rw [hc]; clear hc c1 c2 hsl htl
          go_enter Tryd.func23, Tryd.ntmps23
          go_wp2_with fail
          refine k1.mono ?_
          rintro e w1 ⟨A, n, c, rfl, hr1, hn, hb1⟩
          go_wp2_with fail
          refine (K2.out _ hb1).mono ?_
          rintro e w2 ⟨B, m, d, rfl, hr2, hm, hb2⟩
          go_wp2_with fail
          refine (HKK.out A B n m c d _ _ _ (hr1.below hb2) hr2 hn hm).mono ?_
          rw [HK.out]
          rintro e w3 ⟨rfl, q, rfl⟩
          go_wp2
          go_ret2
          exact ⟨rfl, below_drewN (hb1.trans (hb2.mono hb1.size)) _⟩
        · have hl : Op.bytesLess s.toList t.toList = false := by rw [hsl, htl, c1, hc]; rfl
          have he : (s.toList == t.toList) = false := by rw [hsl, htl, beq_eq_false_iff_ne]; exact fun h => absurd (c2.2 h) (by rw [hc]; decide)
          rw [hc]; clear hc c1 c2 hsl htl
          go_enter Tryd.func23, Tryd.ntmps23
          go_wp2_with fail
          refine k1.mono ?_
          rintro e w1 ⟨A, n, c, rfl, hr1, hn, hb1⟩
          go_wp2_with fail
          refine (K2.out _ hb1).mono ?_
          rintro e w2 ⟨B, m, d, rfl, hr2, hm, hb2⟩
          go_wp2_with fail
          refine (HKK.out A B n m c d _ _ _ (hr1.below hb2) hr2 hn hm).mono ?_
          rw [HK.out]
          rintro e w3 ⟨rfl, q, rfl⟩
          go_wp2
          go_ret2
          exact ⟨rfl, below_drewN (hb1.trans (hb2.mono hb1.size)) _⟩
      · rw [hk, if_neg hk0]; clear hk
        have hkb : (k == 0) = false := by rw [beq_eq_false_iff_ne]; exact hk0
        clear hk0
        go_enter Tryd.func23, Tryd.ntmps23
        go_wp2_with fail
        refine k1.mono ?_
        rintro e w1 ⟨A, n, c, rfl, hr1, hn, hb1⟩
        go_wp2_with fail
        refine (K2.out _ hb1).mono ?_
        rintro e w2 ⟨B, m, d, rfl, hr2, hm, hb2⟩
        go_wp2_with fail
        refine (HKK.out A B n m c d _ _ _ (hr1.below hb2) hr2 hn hm).mono ?_
        rw [HK.out]
        rintro e w3 ⟨rfl, q, rfl⟩
        go_wp2
        go_ret2
        exact ⟨rfl, below_drewN (hb1.trans (hb2.mono hb1.size)) _⟩
    · have hO : orderRes (0, l1) (e2, l2) s t = (0, e2) := by
        show (if e2 = 0 then _ else _) = _
        rw [if_neg h2]; rfl
      rw [hO]; clear hO
      have hb2' : (e2 != 0) = true := by rw [bne_iff_ne]; exact h2
      clear h2
      go_enter Tryd.func23, Tryd.ntmps23
      go_wp2_with fail
      refine k1.mono ?_
      rintro e w1 ⟨A, n, c, rfl, hr1, hn, hb1⟩
      go_wp2_with fail
      refine (K2.out _ hb1).mono ?_
      rintro e w2 ⟨B, m, d, rfl, hr2, hm, hb2⟩
      go_wp2
      go_ret2
      exact ⟨rfl, hb1.trans (hb2.mono hb1.size)⟩
  · have hO : orderRes (e1, l1) (e2, l2) s t = (0, e1) := by
      have : errTwo (e1, l1) (e2, l2) = e1 := by show (if e1 = 0 then _ else _) = _; rw [if_neg h1]
      unfold orderRes; rw [this, if_neg h1]
    rw [hO]; clear hO
    have hb1' : (e1 != 0) = true := by rw [bne_iff_ne]; exact h1
    clear h1
    go_enter Tryd.func23, Tryd.ntmps23
    go_wp2_with fail
    refine k1.mono ?_
    rintro e w1 ⟨A, n, c, rfl, hr1, hn, hb1⟩
    go_wp2
    go_ret2
    exact ⟨rfl, hb1⟩

set_option maxRecDepth 20000 in
set_option maxHeartbeats 2000000 in
theorem refSame_any (p : Option Addr) (og : Option (List (List ByteArray))) (s t : ByteArray) (w : World) (hA : RefO w p og) (hG : SmallO og) (hs : s.size ≤ maxLen) (ht : t.size ≤ maxLen) :
    Calls Tryd.prog 25 #[.pointer p, .string s, .string t] w (SamePost w (sameRes (readResO og s) (readResO og t))) := by
  have k1 := (refKeyO_any p og s w hA hG hs).mono fun _ _ h => h.form
  have k2 := fun W (hb : Below w.heap.size w W) => (refKeyO_any p og t W (hA.below hb) hG ht).mono fun _ _ h => h.form
  generalize readResO og s = r1 at k1
  generalize readResO og t = r2 at k2
  have K2 := Lib.hid k2; clear k2 hA hG hs ht
  obtain ⟨e1, l1⟩ := r1
  obtain ⟨e2, l2⟩ := r2
  by_cases h1 : e1 = 0
  · subst h1
    by_cases h2 : e2 = 0
    · subst h2
      have hO : sameRes (0, l1) (0, l2) = (cmpL (keyS l1) (keyS l2) == 0) := by
        have : decide (keyS l1 = keyS l2) = (cmpL (keyS l1) (keyS l2) == 0) := by rw [Bool.eq_iff_iff, decide_eq_true_iff, beq_iff_eq]; exact (cmpL_eq _ _).symm
        exact this
      rw [hO]; clear hO
      have hkk := fun A B n m c d W K L hx hy hn hm => refkeys_any A B n m c d (keyS l1) (keyS l2) W K L hx hy hn hm
      generalize cmpL (keyS l1) (keyS l2) = k at hkk
      have HKK := Lib.hid hkk; clear hkk
      go_enter Tryd.func25, Tryd.ntmps25
      go_wp2_with fail
      refine k1.mono ?_
      rintro e w1 ⟨A, n, c, rfl, hr1, hn, hb1⟩
      go_wp2_with fail
      refine (K2.out _ hb1).mono ?_
      rintro e w2 ⟨B, m, d, rfl, hr2, hm, hb2⟩
      go_wp2_with fail
      refine (HKK.out A B n m c d _ _ _ (hr1.below hb2) hr2 hn hm).mono ?_
      rintro e w3 ⟨rfl, q, rfl⟩
      go_wp2
      go_ret
      exact ⟨rfl, below_drewN (hb1.trans (hb2.mono hb1.size)) _⟩
    · have hO : sameRes (0, l1) (e2, l2) = false := by
        show (decide (e2 = 0) && _) = false
        rw [decide_eq_false h2]; rfl
      rw [hO]; clear hO
      have hb2' : (e2 == 0) = false := by rw [beq_eq_false_iff_ne]; exact h2
      clear h2
      go_enter Tryd.func25, Tryd.ntmps25
      go_wp2_with fail
      refine k1.mono ?_
      rintro e w1 ⟨A, n, c, rfl, hr1, hn, hb1⟩
      go_wp2_with fail
      refine (K2.out _ hb1).mono ?_
      rintro e w2 ⟨B, m, d, rfl, hr2, hm, hb2⟩
      go_wp2
      go_ret
      exact ⟨rfl, hb1.trans (hb2.mono hb1.size)⟩
  · have hO : sameRes (e1, l1) (e2, l2) = false := by
      have : errTwo (e1, l1) (e2, l2) = e1 := by show (if e1 = 0 then _ else _) = _; rw [if_neg h1]
      unfold sameRes; rw [this, decide_eq_false h1]; rfl
    rw [hO]; clear hO
    have hb1' : (e1 == 0) = false := by rw [beq_eq_false_iff_ne]; exact h1
    clear h1
    go_enter Tryd.func25, Tryd.ntmps25
    go_wp2_with fail
    refine k1.mono ?_
    rintro e w1 ⟨A, n, c, rfl, hr1, hn, hb1⟩
    go_wp2_with fail
    refine (K2.out _ hb1).mono ?_
    rintro e w2 ⟨B, m, d, rfl, hr2, hm, hb2⟩
    go_wp2
    go_ret
    exact ⟨rfl, hb1.trans (hb2.mono hb1.size)⟩
end Go.Proofs.YtcdpadggjkobjaaDoor
