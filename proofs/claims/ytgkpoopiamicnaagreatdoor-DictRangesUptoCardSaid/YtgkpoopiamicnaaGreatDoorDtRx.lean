/-
  Layer 40: the reference's dictionaries that are none. Conditions: none.
-/
import Derived.Test.YtgkpoopiamicnaaGreatDoorDtRr
import Derived.Test.YtgkpoopiamicnaaGreatDoorDtNi
namespace Go.Proofs.YtgkpoopiamicnaaGreatDoor
open Go.RowKit Go.Lib

section
variable {w : World}
theorem rnew_nil40 : Calls Tryz.prog 13 #[.pointer none] w (Post0 w (.tuple #[.pointer none, .int .i64 1])) := by
  go_enter Tryz.func13, Tryz.ntmps13
  go_wp2
  go_ret2
  exact ⟨rfl, Below.refl _ _⟩
theorem rvalid_nil40 : Calls Tryz.prog 57 #[.pointer none] w fun e w' => e = .returned (.bool false) ∧ w = w' := by
  go_enter Tryz.func57, Tryz.ntmps57
  go_wp2
  go_ret
  exact ⟨rfl, rfl⟩
theorem rput_nil40 (c0 c1 c2 c3 : Value) : Calls Tryz.prog 15 #[.pointer none, .agg #[c0, c1, c2, c3]] w (Post0 w (.int .i64 1)) := by
  have hb : Below w.heap.size w (w.alloc (.cells #[c0, c1, c2, c3] 42)) := (Below.refl _ _).alloc (Nat.le_refl _) _
  have hc := rvalid_nil40 (w := w.alloc (.cells #[c0, c1, c2, c3] 42))
  have HB := Lib.hid hb
  clear hb
  go_enter Tryz.func15, Tryz.ntmps15
  go_wp2_with fail
  refine hc.mono ?_
  rintro e w1 ⟨rfl, rfl⟩
  go_wp2
  go_ret
  exact ⟨rfl, HB.out⟩
theorem rrange_nil40 (s t : ByteArray) : Calls Tryz.prog 17 #[.pointer none, .string s, .string t] w (Post0 w (.tuple #[.slice none 0 0, .int .i64 1])) := by
  have hc := rvalid_nil40 (w := w)
  go_enter Tryz.func17, Tryz.ntmps17
  go_wp2_with fail
  refine hc.mono ?_
  rintro e w1 ⟨rfl, rfl⟩
  go_wp2
  go_ret2
  exact ⟨rfl, Below.refl _ _⟩
end
/-- The reference's dictionary beside the program's: what it leans on is not the program's own. -/
def BesideR (w : World) (B : Nat) (g : Nat) (gs : Grps) (L : List Art) (D : Nat → Prop) : Prop := ∃ a lv S, RDct w B a g lv gs S L ∧ ¬ D g ∧ ∀ b, S b → ¬ D b
section
variable {w w' : World} {B g : Nat} {gs : Grps} {L : List Art} {D D' : Nat → Prop}
theorem BesideR.below (h : BesideR w B g gs L D) (hb : Below w.heap.size w w') : BesideR w' B g gs L D := by
  obtain ⟨a, lv, S, h1, h2, h3⟩ := h
  exact ⟨a, lv, S, h1.below hb, h2, h3⟩
/-- The program's dictionary turns. -/
theorem BesideR.turn (h : BesideR w B g gs L D) (hc : ChgS D w w') (hB : ∀ b, D b → B ≤ b) (hD : ∀ b, D' b → D b ∨ w.heap.size ≤ b) : BesideR w' B g gs L D' := by
  obtain ⟨a, lv, S, h1, h2, h3⟩ := h
  refine ⟨a, lv, S, h1.chg hc hB h2 h3, fun h => ?_, fun b hb h => ?_⟩
  · rcases hD g h with h4 | h4
    · exact h2 h4
    · have := h1.blk.lt; omega
  · rcases hD b h with h4 | h4
    · exact h3 b hb h4
    · have := (h1.cont b hb).2.1; omega
def PutB (w : World) (B g : Nat) (gs : Grps) (L : List Art) (D : Nat → Prop) (x : Art) (e : Ending) (w' : World) : Prop := e = .returned (.int .i64 (artE gs L x)) ∧ BesideR w' B g gs (putL gs L x) D ∧ ChgS (fun b => b = g) w w'
theorem BesideR.put_ (h : BesideR w B g gs L D) (hg : GoodD gs L) (hDl : ∀ b, D b → b < w.heap.size) (x : Art) (cs : List Value) (T : Nat → Prop) (hx : ArtF w T x cs) (hT : ∀ b, T b → b < w.heap.size) (hok : ArtOk x) :
    Calls Tryz.prog 15 #[wptr g, aggM cs] w (PutB w B g gs L D x) := by
  obtain ⟨a, lv, S, h1, h2, h3⟩ := h
  refine (rput_any40 h1 hg x cs T hx hT hok).mono ?_
  rintro e w' ⟨rfl, hno, hyes⟩
  refine ⟨rfl, ?_⟩
  unfold putL
  by_cases he : artE gs L x = 0
  · rw [if_pos he]
    obtain ⟨lv', S', hd, hS, hc⟩ := hyes he
    exact ⟨⟨a, lv', S', hd, h2, fun b hb hdb => by
      rcases hS b hb with h4 | h4
      · exact h3 b h4 hdb
      · have := hDl b hdb; omega⟩, hc⟩
  · rw [if_neg he]
    exact ⟨⟨a, lv, S, h1.below (hno he), h2, h3⟩, .of_below (hno he)⟩
end
end Go.Proofs.YtgkpoopiamicnaaGreatDoor
