/-
  layer 39: Order and Same of the program. Conditions: an alphabet of New, or none.
-/
import Derived.Test.YtcdpadggjkobjaaGreatDoorRefOrd
namespace Go.Proofs.YtcdpadggjkobjaaGreatDoor
open Go.RowKit

set_option maxRecDepth 20000 in
set_option maxHeartbeats 2000000 in
theorem order_any (p : Option Addr) (og : Option (List (List ByteArray))) (s t : ByteArray) (w : World) (hA : AlphO w p og) :
    Calls Tryz.prog 10 #[.pointer p, .string s, .string t] w (OrderPost w (orderRes (readResO og s) (readResO og t) s t)) := by
  have h2 := two_any p og s t w hA
  generalize readResO og s = r1 at h2
  generalize readResO og t = r2 at h2
  clear hA
  by_cases he : errTwo r1 r2 = 0
  · have hO : orderRes r1 r2 s t = (beforeV (keyS r1.2) (keyS r2.2) s t, 0) := by unfold orderRes; rw [if_pos he]
    rw [hO]; clear hO
    have HE := Lib.hid he; clear he
    go_enter Tryz.func10, Tryz.ntmps10
    go_wp2_with fail
    refine h2.mono ?_
    rintro e w1 ⟨A, B, n, m, c, d, xs, ys, s', t', rfl, hr1, hr2, hn, hm, hb, hk⟩
    rw [HE.out]
    obtain ⟨rfl, rfl, rfl, rfl⟩ := hk HE.out
    clear hk h2
    go_wp2_with fail
    refine (before_any A B n m c d _ _ _ _ _ (((hr1.alloc (Nat.le_refl _) _).alloc (by simp) _).more (by simp; omega)) (((hr2.alloc (Nat.le_refl _) _).alloc (by simp) _).more (by simp; omega)) hn hm).mono ?_
    rintro e w2 ⟨rfl, hb2⟩
    go_wp2
    go_ret2
    exact ⟨rfl, ((hb.alloc hb.size _).alloc (by have := hb.size; simp; omega) _).trans (hb2.mono (by have := hb.size; simp; omega))⟩
  · have hO : orderRes r1 r2 s t = (0, errTwo r1 r2) := by unfold orderRes; rw [if_neg he]
    rw [hO]; clear hO
    have heb : (errTwo r1 r2 != 0) = true := by rw [bne_iff_ne]; exact he
    clear he
    go_enter Tryz.func10, Tryz.ntmps10
    go_wp2_with fail
    refine h2.mono ?_
    rintro e w1 ⟨A, B, n, m, c, d, xs, ys, s', t', rfl, hr1, hr2, hn, hm, hb, hk⟩
    clear hk h2
    go_wp2
    go_ret2
    exact ⟨rfl, (hb.alloc hb.size _).alloc (by have := hb.size; simp; omega) _⟩

set_option maxRecDepth 20000 in
set_option maxHeartbeats 2000000 in
theorem same_any (p : Option Addr) (og : Option (List (List ByteArray))) (s t : ByteArray) (w : World) (hA : AlphO w p og) :
    Calls Tryz.prog 8 #[.pointer p, .string s, .string t] w (SamePost w (sameRes (readResO og s) (readResO og t))) := by
  have h2 := two_any p og s t w hA
  generalize readResO og s = r1 at h2
  generalize readResO og t = r2 at h2
  clear hA
  by_cases he : errTwo r1 r2 = 0
  · have hO : sameRes r1 r2 = decide (keyS r1.2 = keyS r2.2) := by unfold sameRes; rw [decide_eq_true he]; rfl
    rw [hO]; clear hO
    have HE := Lib.hid he; clear he
    go_enter Tryz.func8, Tryz.ntmps8
    go_wp2_with fail
    refine h2.mono ?_
    rintro e w1 ⟨A, B, n, m, c, d, xs, ys, s', t', rfl, hr1, hr2, hn, hm, hb, hk⟩
    rw [HE.out]
    obtain ⟨rfl, rfl, rfl, rfl⟩ := hk HE.out
    clear hk h2
    go_wp2_with fail
    refine (equalI_any A B n m c d _ _ _ _ _ ((hr1.alloc (Nat.le_refl _) _).alloc (by simp) _) ((hr2.alloc (Nat.le_refl _) _).alloc (by simp) _) hn).mono ?_
    rintro e w2 ⟨rfl, q, rfl⟩
    go_wp2
    go_ret
    exact ⟨rfl, below_drewN ((hb.alloc hb.size _).alloc (by have := hb.size; simp; omega) _) _⟩
  · have hO : sameRes r1 r2 = false := by unfold sameRes; rw [decide_eq_false he]; rfl
    rw [hO]; clear hO
    have heb : (errTwo r1 r2 == 0) = false := by rw [beq_eq_false_iff_ne]; exact he
    clear he
    go_enter Tryz.func8, Tryz.ntmps8
    go_wp2_with fail
    refine h2.mono ?_
    rintro e w1 ⟨A, B, n, m, c, d, xs, ys, s', t', rfl, hr1, hr2, hn, hm, hb, hk⟩
    clear hk h2
    go_wp2
    go_ret
    exact ⟨rfl, (hb.alloc hb.size _).alloc (by have := hb.size; simp; omega) _⟩
end Go.Proofs.YtcdpadggjkobjaaGreatDoor
