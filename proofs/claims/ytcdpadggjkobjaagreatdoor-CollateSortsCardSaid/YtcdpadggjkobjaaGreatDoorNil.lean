/-
  layer 39: Split and Key at an alphabet of New or at none. Conditions: an alphabet in memory as New makes it, or nil.
-/
import Derived.Test.YtcdpadggjkobjaaGreatDoorBoth
namespace Go.Proofs.YtcdpadggjkobjaaGreatDoor
open Go.RowKit

def readResO (og : Option (List (List ByteArray))) (s : ByteArray) : Int × List (ByteArray × Int) :=
  match og with
  | none => (1, [])
  | some gs => readRes gs s
theorem madeN_any (w : World) : Calls Tryz.prog 41 #[.pointer none] w fun e w' => e = .returned (.bool false) ∧ w = w' := by
  go_enter Tryz.func41, Tryz.ntmps41
  go_wp2
  go_ret
  exact ⟨rfl, rfl⟩
theorem wrongN_any (s : ByteArray) (w : World) : Calls Tryz.prog 39 #[.pointer none, .string s] w fun e w' => e = .returned (.int .i64 1) ∧ w = w' := by
  have hm := madeN_any w
  go_enter Tryz.func39, Tryz.ntmps39
  go_wp2_with (go_at_call 41; refine hm.mono ?_; rintro e w' ⟨rfl, rfl⟩)
  go_ret
  exact ⟨rfl, rfl⟩
theorem splitN_any (s : ByteArray) (w : World) : Calls Tryz.prog 20 #[.pointer none, .string s] w (SplitPost w (1, [])) := by
  have hw := fun W => wrongN_any s W
  have HW := Lib.hid hw; clear hw
  go_enter Tryz.func20, Tryz.ntmps20
  go_wp2_with (go_at_call 39; refine (HW.out _).mono ?_; rintro e w' ⟨rfl, rfl⟩)
  exact bodyPost_ret (v := .tuple #[.slice none 0 0, .int .i64 1]) (by simp [results, Tryz.results20, go_sem]) rfl ⟨_, rfl, World.ownsRow_nil _ _ _ _, ((Below.refl _ w).alloc (Nat.le_refl _) _).alloc (by simp) _⟩
theorem keyN_any (s : ByteArray) (w : World) : Calls Tryz.prog 44 #[.pointer none, .string s] w (KeyPost w (1, [])) := by
  have hw := fun W => wrongN_any s W
  have HW := Lib.hid hw; clear hw
  go_enter Tryz.func44, Tryz.ntmps44
  go_wp2_with (go_at_call 39; refine (HW.out _).mono ?_; rintro e w' ⟨rfl, rfl⟩)
  exact bodyPost_ret (v := .tuple #[.slice none 0 0, .int .i64 1]) (by simp [results, Tryz.results44, go_sem]) rfl ⟨_, rfl, World.ownsRow_nil _ _ _ _, ((Below.refl _ w).alloc (Nat.le_refl _) _).alloc (by simp) _⟩
def SmallO : Option (List (List ByteArray)) → Prop
  | none => True
  | some gs => SmallG gs
theorem splitO_any (p : Option Addr) (og : Option (List (List ByteArray))) (s : ByteArray) (w : World) (h : AlphO w p og) : Calls Tryz.prog 20 #[.pointer p, .string s] w (SplitPost w (readResO og s)) := by
  cases og with
  | none => obtain rfl : p = none := h; exact splitN_any s w
  | some gs => obtain ⟨g, rfl, h1, h2⟩ := h; exact split_prg g gs s w h1 h2
theorem keyO_any (p : Option Addr) (og : Option (List (List ByteArray))) (s : ByteArray) (w : World) (h : AlphO w p og) : Calls Tryz.prog 44 #[.pointer p, .string s] w (KeyPost w (readResO og s)) := by
  cases og with
  | none => obtain rfl : p = none := h; exact keyN_any s w
  | some gs => obtain ⟨g, rfl, h1, h2⟩ := h; exact key_prg g gs s w h1 h2
theorem groupsO_small {ss : List ByteArray} (hn : ss.length ≤ 1000) (ht : totalS ss ≤ 3000) : SmallO (groupsO ss) := by
  unfold groupsO
  split
  · refine ⟨by simp [groupsB]; omega, fun l hl => ?_, fun l hl x hx => ?_⟩
    · obtain ⟨s, hs, rfl⟩ := List.mem_map.1 hl
      have := piecesB_le s; have := totalS_mem hs; omega
    · obtain ⟨s, hs, rfl⟩ := List.mem_map.1 hl
      have := piecesB_size hx; have := totalS_mem hs; omega
  · trivial
end Go.Proofs.YtcdpadggjkobjaaGreatDoor
