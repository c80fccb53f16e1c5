/-
  layer 39: the statements' own 'both'; Split and Key at nil alphabets. Conditions: at most 1000 texts of at most 3,000 bytes in all; the cell of the library's MaxLen holds some int.
-/
import Derived.Test.YtcdpadggjkobjaaDoorKey
import Derived.Test.YtcdpadggjkobjaaDoorRef3
namespace Go.Proofs.YtcdpadggjkobjaaDoor
open Go.RowKit

/-- The alphabet of New, or none where New returned an error. -/
def groupsO (ss : List ByteArray) : Option (List (List ByteArray)) := if newErr ss = 0 then some (groupsB ss) else none
def AlphO (w : World) (p : Option Addr) : Option (List (List ByteArray)) → Prop
  | none => p = none
  | some gs => ∃ g, p = some ⟨g, 0, none⟩ ∧ Alph w g gs ∧ GoodG gs
def RefO (w : World) (p : Option Addr) : Option (List (List ByteArray)) → Prop
  | none => p = none
  | some gs => ∃ g, p = some ⟨g, 0, none⟩ ∧ RefAlph w g gs
theorem AlphO.below {w w' : World} {p : Option Addr} {og : Option (List (List ByteArray))} (h : AlphO w p og) (hb : Below w.heap.size w w') : AlphO w' p og := by
  cases og with
  | none => exact h
  | some gs => obtain ⟨g, h1, h2, h3⟩ := h; exact ⟨g, h1, h2.below hb, h3⟩
theorem RefO.below {w w' : World} {p : Option Addr} {og : Option (List (List ByteArray))} (h : RefO w p og) (hb : Below w.heap.size w w') : RefO w' p og := by
  cases og with
  | none => exact h
  | some gs => obtain ⟨g, h1, h2⟩ := h; exact ⟨g, h1, h2.below hb⟩
def BothPost (w : World) (ss : List ByteArray) (e : Ending) (w' : World) : Prop :=
  ∃ p q, e = .returned (.tuple #[.pointer p, .pointer q, .bool true]) ∧ AlphO w' p (groupsO ss) ∧ RefO w' q (groupsO ss) ∧ Below w.heap.size w w'

set_option maxHeartbeats 1000000 in
theorem both_any (A : Option Addr) (n c : Nat) (ss : List ByteArray) (w : World) (hm : MaxOk w) (hr : ReadS w w.heap.size A n ss) (hn : n ≤ 1000) (ht : totalS ss ≤ 3000) :
    Calls Tryd.prog 15 #[.slice A n c] w (BothPost w ss) := by
  have h1 := new_any A n c ss w hm hr hn ht
  have h2 := fun W (hb : Below w.heap.size w W) => refNew_any A n c ss W ((hr.below hb).more hb.size) hn ht
  have H2 := Lib.hid h2; clear h2 hr hm
  by_cases he : newErr ss = 0
  · have HE := Lib.hid he; clear he
    go_enter Tryd.func15, Tryd.ntmps15
    go_wp2_with fail
    refine h1.mono ?_
    rintro e w1 ⟨_, hok, hb⟩
    obtain ⟨g, rfl, hA, hG⟩ := hok HE.out
    have hA' := Lib.hid hA; clear hA hok h1
    go_wp2_with fail
    refine (H2.out w1 hb).mono ?_
    rintro e w2 ⟨_, hok2, hb2⟩
    obtain ⟨g2, rfl, hR⟩ := hok2 HE.out
    have hR' := Lib.hid hR; clear hR hok2
    go_wp2
    go_ret3
    refine ⟨_, _, rfl, ?_, ?_, hb.trans (hb2.mono hb.size)⟩
    · unfold groupsO; rw [if_pos HE.out]; exact ⟨g, rfl, hA'.out.below hb2, hG⟩
    · unfold groupsO; rw [if_pos HE.out]; exact ⟨g2, rfl, hR'.out⟩
  · have HE := Lib.hid he; clear he
    go_enter Tryd.func15, Tryd.ntmps15
    go_wp2_with fail
    refine h1.mono ?_
    rintro e w1 ⟨hno, _, hb⟩
    obtain rfl := hno HE.out
    clear hno h1
    go_wp2_with fail
    refine (H2.out w1 hb).mono ?_
    rintro e w2 ⟨hno2, _, hb2⟩
    obtain rfl := hno2 HE.out
    clear hno2
    go_wp2
    go_ret3
    refine ⟨none, none, rfl, ?_, ?_, hb.trans (hb2.mono hb.size)⟩
    · unfold groupsO; rw [if_neg HE.out]; rfl
    · unfold groupsO; rw [if_neg HE.out]; rfl
end Go.Proofs.YtcdpadggjkobjaaDoor
