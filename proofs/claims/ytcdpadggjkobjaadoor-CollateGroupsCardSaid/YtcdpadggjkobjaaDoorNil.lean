/-
  layer 39: Split and Key at an alphabet of New or at none. Conditions: an alphabet in memory as New makes it, or nil.
-/
import Derived.Test.YtcdpadggjkobjaaDoorBoth
namespace Go.Proofs.YtcdpadggjkobjaaDoor
open Go.RowKit

def readResO (og : Option (List (List ByteArray))) (s : ByteArray) : Int × List (ByteArray × Int) :=
  match og with
  | none => (1, [])
  | some gs => readRes gs s
theorem madeN_any (w : World) : Calls Tryd.prog 57 #[.pointer none] w fun e w' => e = .returned (.bool false) ∧ w = w' := by
  go_enter Tryd.func57, Tryd.ntmps57
  go_wp2
  go_ret
  exact ⟨rfl, rfl⟩
theorem wrongN_any (s : ByteArray) (w : World) : Calls Tryd.prog 46 #[.pointer none, .string s] w fun e w' => e = .returned (.int .i64 1) ∧ w = w' := by
  have hm := madeN_any w
  go_enter Tryd.func46, Tryd.ntmps46
  go_wp2_with (go_at_call 57; refine hm.mono ?_; rintro e w' ⟨rfl, rfl⟩)
  go_ret
  exact ⟨rfl, rfl⟩
theorem splitN_any (s : ByteArray) (w : World) : Calls Tryd.prog 16 #[.pointer none, .string s] w (SplitPost w (1, [])) := by
  have hw := fun W => wrongN_any s W
  have HW := Lib.hid hw; clear hw
  go_enter Tryd.func16, Tryd.ntmps16
  go_wp2_with (go_at_call 46; refine (HW.out _).mono ?_; rintro e w' ⟨rfl, rfl⟩)
  exact bodyPost_ret (v := .tuple #[.slice none 0 0, .int .i64 1]) (by simp [results, Tryd.results16, go_sem]) rfl ⟨_, rfl, World.ownsRow_nil _ _ _ _, ((Below.refl _ w).alloc (Nat.le_refl _) _).alloc (by simp) _⟩
theorem keyN_any (s : ByteArray) (w : World) : Calls Tryd.prog 18 #[.pointer none, .string s] w (KeyPost w (1, [])) := by
  have hw := fun W => wrongN_any s W
  have HW := Lib.hid hw; clear hw
  go_enter Tryd.func18, Tryd.ntmps18
  go_wp2_with (go_at_call 46; refine (HW.out _).mono ?_; rintro e w' ⟨rfl, rfl⟩)
  exact bodyPost_ret (v := .tuple #[.slice none 0 0, .int .i64 1]) (by simp [results, Tryd.results18, go_sem]) rfl ⟨_, rfl, World.ownsRow_nil _ _ _ _, ((Below.refl _ w).alloc (Nat.le_refl _) _).alloc (by simp) _⟩
theorem refmadeN_any (w : World) : Calls Tryd.prog 59 #[.pointer none] w fun e w' => e = .returned (.bool false) ∧ w = w' := by
  go_enter Tryd.func59, Tryd.ntmps59
  go_wp2
  go_ret
  exact ⟨rfl, rfl⟩
theorem refreadN_any (s : ByteArray) (w : World) : Calls Tryd.prog 48 #[.pointer none, .string s] w (ReadPost w (1, [])) := by
  have hm := refmadeN_any w
  go_enter Tryd.func48, Tryd.ntmps48
  go_wp2_with (go_at_call 59; refine hm.mono ?_; rintro e w' ⟨rfl, rfl⟩)
  go_ret3
  exact ⟨_, _, rfl, World.ownsRow_nil _ _ _ _, World.ownsRow_nil _ _ _ _, Below.refl _ _⟩
theorem refSplitN_any (s : ByteArray) (w : World) : Calls Tryd.prog 17 #[.pointer none, .string s] w (SplitPost w (1, [])) := by
  have hr := refreadN_any s w
  go_enter Tryd.func17, Tryd.ntmps17
  go_wp2_with fail
  refine hr.mono ?_
  rintro e w1 ⟨v1, v2, rfl, h1, h2, hb⟩
  go_wp2
  go_ret2
  exact ⟨_, rfl, h1, hb⟩
theorem refKeyN_any (s : ByteArray) (w : World) : Calls Tryd.prog 19 #[.pointer none, .string s] w (KeyPost w (1, [])) := by
  have hr := refreadN_any s w
  go_enter Tryd.func19, Tryd.ntmps19
  go_wp2_with fail
  refine hr.mono ?_
  rintro e w1 ⟨v1, v2, rfl, h1, h2, hb⟩
  go_wp2
  go_ret2
  exact ⟨_, rfl, h2, hb⟩
def SmallO : Option (List (List ByteArray)) → Prop
  | none => True
  | some gs => SmallG gs
theorem splitO_any (p : Option Addr) (og : Option (List (List ByteArray))) (s : ByteArray) (w : World) (h : AlphO w p og) : Calls Tryd.prog 16 #[.pointer p, .string s] w (SplitPost w (readResO og s)) := by
  cases og with
  | none => obtain rfl : p = none := h; exact splitN_any s w
  | some gs => obtain ⟨g, rfl, h1, h2⟩ := h; exact split_prg g gs s w h1 h2
theorem keyO_any (p : Option Addr) (og : Option (List (List ByteArray))) (s : ByteArray) (w : World) (h : AlphO w p og) : Calls Tryd.prog 18 #[.pointer p, .string s] w (KeyPost w (readResO og s)) := by
  cases og with
  | none => obtain rfl : p = none := h; exact keyN_any s w
  | some gs => obtain ⟨g, rfl, h1, h2⟩ := h; exact key_prg g gs s w h1 h2
theorem refSplitO_any (p : Option Addr) (og : Option (List (List ByteArray))) (s : ByteArray) (w : World) (h : RefO w p og) (hG : SmallO og) (hs : s.size ≤ maxLen) : Calls Tryd.prog 17 #[.pointer p, .string s] w (SplitPost w (readResO og s)) := by
  cases og with
  | none => obtain rfl : p = none := h; exact refSplitN_any s w
  | some gs => obtain ⟨g, rfl, h1⟩ := h; exact refSplit_any g gs s w h1 hG hs
theorem refKeyO_any (p : Option Addr) (og : Option (List (List ByteArray))) (s : ByteArray) (w : World) (h : RefO w p og) (hG : SmallO og) (hs : s.size ≤ maxLen) : Calls Tryd.prog 19 #[.pointer p, .string s] w (KeyPost w (readResO og s)) := by
  cases og with
  | none => obtain rfl : p = none := h; exact refKeyN_any s w
  | some gs => obtain ⟨g, rfl, h1⟩ := h; exact refKey_any g gs s w h1 hG hs
theorem groupsO_small {ss : List ByteArray} (hn : ss.length ≤ 1000) (ht : totalS ss ≤ 3000) : SmallO (groupsO ss) := by
  unfold groupsO
  split
  · refine ⟨by simp [groupsB]; omega, fun l hl => ?_, fun l hl x hx => ?_⟩
    · obtain ⟨s, hs, rfl⟩ := List.mem_map.1 hl
      have := piecesB_le s; have := totalS_mem hs; omega
    · obtain ⟨s, hs, rfl⟩ := List.mem_map.1 hl
      have := piecesB_size hx; have := totalS_mem hs; omega
  · trivial
end Go.Proofs.YtcdpadggjkobjaaDoor
