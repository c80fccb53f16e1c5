/-
  Short forms: a fact behind Hid; an operation taken first. Conditions: none.
-/
import Derived.Deep.RegionHeld
import Derived.Lib.Hide
import Derived.WalkKit
namespace Go.Proofs.YtmepaeahchiglaaGreatDoor
theorem qh {p : Prop} (h : p) : RowKit.Hid p := h
theorem gq1 : (∀ (l : List Value) (i : Nat) (x : Value), l.toArray.setIfInBounds i x = (l.set i x).toArray) ∧ (∀ (a : Value) (l : List Value) (x : Value), (a :: l).set 0 x = x :: l) ∧ (∀ (a : Value) (l : List Value) (i : Nat) (x : Value), (a :: l).set (i + 1) x = a :: l.set i x) ∧ (∀ (l : List Bool) (i : Nat) (x : Bool), l.toArray.setIfInBounds i x = (l.set i x).toArray) ∧ (∀ (a : Bool) (l : List Bool) (x : Bool), (a :: l).set 0 x = x :: l) ∧ (∀ (a : Bool) (l : List Bool) (i : Nat) (x : Bool), (a :: l).set (i + 1) x = a :: l.set i x) := by simp
theorem gq2 : (∀ (l : List Value) (i : Nat), l.toArray[i]? = l[i]?) ∧ (∀ (a : Value) (l : List Value), (a :: l)[0]? = some a) ∧ ∀ (a : Value) (l : List Value) (i : Nat), (a :: l)[i + 1]? = l[i]? := by simp
theorem gq3 : (∀ (α : Type) (l : List α) (i : Nat) (h : i < l.toArray.size), l.toArray[i]'h = l[i]'(by simpa using h)) ∧ (∀ (α : Type) (a : α) (l : List α) (i : Nat) (h : i + 1 < (a :: l).length), (a :: l)[i + 1]'h = l[i]'(Nat.lt_of_succ_lt_succ h)) ∧ (∀ (α : Type) (a : α) (l : List α) (h : 0 < (a :: l).length), (a :: l)[0]'h = a) ∧ (∀ n, Array.replicate n false = (List.replicate n false).toArray) ∧ (∀ n, List.replicate (n + 1) false = false :: List.replicate n false) ∧ List.replicate 0 false = [] ∧ (∀ l : List Oper, l.toArray.size = l.length) ∧ (∀ a (l : List Oper), (a :: l).length = l.length + 1) ∧ ([] : List Oper).length = 0 := by simp [List.replicate_succ]
/-- The first place from k on that is not listed. -/
def tkN : Nat → List Bool → Nat
  | 0, true :: l => tkN 0 l + 1
  | 0, false :: _ => 0
  | k + 1, _ :: l => tkN k l + 1
  | _, [] => 0
theorem tkH {P : Program} {ops : Array Oper} {Q : Exit → Act → World → Prop} {md : Region.Mode} {S : World → Prop} (k : Nat) {oi : Oper} {v : Value} {fuel : Nat} {listed : Array Bool} {a : Act} {w : World}
    (hi : ops[tkN k listed.toList]? = some oi) (hQ : ∀ c a w, Q (.panic c) (a.put oi.dst v) w → Q (.panic c) a w) (hy : ∀ w, S w → (execOp a.eval oi).run P w = .ok (.value v) w) (h : wpAnyH P md ops Q S fuel (listed.setIfInBounds (tkN k listed.toList) true) (a.put oi.dst v) w)
    (hs : Region.noSelect ops = true := by kernel_rfl) (hf : Region.free md ops listed (tkN k listed.toList) = true := by kernel_rfl) (hr : (Region.ready md ops listed).contains (tkN k listed.toList) = true := by kernel_rfl)
    (hw : Region.wanted oi (yielded ops a.tmps) = true := by rfl) (hS : S w := by assumption) : wpAnyH P md ops Q S (fuel + 1) listed a w :=
  wpAnyH_take hi hs hf hr hQ (Or.inl ⟨hw, hy⟩) hS h
theorem rdH {P : Program} {ops : Array Oper} {Q : Exit → Act → World → Prop} {md : Region.Mode} {S : World → Prop} (i : Nat) {o : Oper} {fuel : Nat} {listed : Array Bool} {a : Act} {w : World}
    (h : ∀ K' : Act → World → Prop, Shut (∀ a w, S w → (S w → wpAnyH P md ops Q S fuel (listed.setIfInBounds i true) a w) → K' a w) → if Region.wanted o (yielded ops a.tmps) = true then Oper.wp P o a w K' Q else K' (a.put o.dst undef) w)
    (ho : ops[i]? = some o := by rfl) (hr : Region.ready md ops listed = [i] := by kernel_rfl) : wpAnyH P md ops Q S (fuel + 1) listed a w :=
  wpAnyH_ready hr (by simp) (AllReadyH.cons ho h AllReadyH.nil)
theorem rdJ {P : Program} {ops : Array Oper} {Q : Exit → Act → World → Prop} {md : Region.Mode} {S : World → Prop} (i j : Nat) {o o' : Oper} {fuel : Nat} {listed : Array Bool} {a : Act} {w : World}
    (h : ∀ K' : Act → World → Prop, Shut (∀ a w, S w → (S w → wpAnyH P md ops Q S fuel (listed.setIfInBounds i true) a w) → K' a w) → if Region.wanted o (yielded ops a.tmps) = true then Oper.wp P o a w K' Q else K' (a.put o.dst undef) w)
    (h' : ∀ K' : Act → World → Prop, Shut (∀ a w, S w → (S w → wpAnyH P md ops Q S fuel (listed.setIfInBounds j true) a w) → K' a w) → if Region.wanted o' (yielded ops a.tmps) = true then Oper.wp P o' a w K' Q else K' (a.put o'.dst undef) w)
    (ho : ops[i]? = some o := by rfl) (ho' : ops[j]? = some o' := by rfl) (hr : Region.ready md ops listed = [i, j] := by kernel_rfl) : wpAnyH P md ops Q S (fuel + 1) listed a w :=
  wpAnyH_ready hr (by simp) (AllReadyH.cons ho h (AllReadyH.cons ho' h' AllReadyH.nil))
end Go.Proofs.YtmepaeahchiglaaGreatDoor
