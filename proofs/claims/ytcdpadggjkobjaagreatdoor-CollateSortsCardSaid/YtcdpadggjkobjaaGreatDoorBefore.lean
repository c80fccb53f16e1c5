/-
  layer 39: before; the reference's keys. Conditions: keys of at most maxLen elements.
-/
import Derived.Test.YtcdpadggjkobjaaGreatDoorCmp
import Derived.Test.YtcdpadggjkobjaaGreatDoorShelf
import Derived.Test.YtcdpadggjkobjaaGreatDoorStill
namespace Go.Proofs.YtcdpadggjkobjaaGreatDoor
open Go.RowKit

def beforeV (xs ys : List Int) (s t : ByteArray) : Int := orL [cmpL xs ys, Lib.compareBytes s.data.toList t.data.toList]
set_option maxRecDepth 20000 in
set_option maxHeartbeats 2000000 in
theorem before_any (A B : Option Addr) (n m c d : Nat) (xs ys : List Int) (s t : ByteArray) (w : World) (hx : ReadI w w.heap.size A n xs) (hy : ReadI w w.heap.size B m ys) (hn : n ≤ maxLen) (hm : m ≤ maxLen) :
    Calls Tryz.prog 29 #[.agg #[.slice A n c, .string s], .agg #[.slice B m d, .string t]] w fun e w' => e = .returned (.int .i64 (beforeV xs ys s t)) ∧ Below w.heap.size w w' := by
  have e1 := fun W (hb : Below w.heap.size w W) => (compareL_any A B n m c d xs ys W _ _ (hx.below hb) (hy.below hb) hn hm).mono (fun _ _ ⟨h1, h2⟩ => (⟨h1, h2.symm⟩ : _ ∧ _))
  have e2 := fun W => (Tryz.strings_Compare s t W)
  have E1 := Lib.hid e1; have E2 := Lib.hid e2; clear e1 e2 hx hy hn hm
  go_enter Tryz.func29, Tryz.ntmps29
  go_wp2
  refine region_tail 10 (by kernel_rfl) (by kernel_rfl) ?_
  simp only [List.take_succ_cons, List.take_zero, List.drop_succ_cons, List.drop_zero]
  still_step
  still_step
  still_step
  still_step
  still_call (E1.out _ (by exact (((Below.refl _ _).alloc (Nat.le_refl _) _).alloc (by simp) _).drew))
  still_step
  still_step
  still_step
  still_step
  still_call (E2.out _)
  refine wpStill_nil ?_
  go_wp2_with fail
  refine (orL_any _ 2 _ [cmpL xs ys, Lib.compareBytes s.data.toList t.data.toList] _ (w.heap.size + 3) ?hr (by unfold maxLen; omega)).mono ?_
  case hr => exact (by simpa using (reads_new ((w.alloc (.cells #[.slice A n c, .string s] 60)).alloc (.cells #[.slice B m d, .string t] 60)) 3 [.int .i64 (cmpL xs ys), .int .i64 (Lib.compareBytes s.data.toList t.data.toList)]) : Reads _ _ _ _ _ _).drew
  rintro e w' ⟨rfl, rfl⟩
  go_wp2
  go_ret
  exact ⟨rfl, (((((Below.refl _ w).alloc (Nat.le_refl _) _).alloc (by simp) _)).alloc (by simp; omega) _).drew⟩
end Go.Proofs.YtcdpadggjkobjaaGreatDoor
