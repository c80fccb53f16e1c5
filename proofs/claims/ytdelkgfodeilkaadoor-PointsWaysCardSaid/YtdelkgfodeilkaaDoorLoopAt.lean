/-
  The loops of a function's body. Conditions: none.
-/
import Derived.Test.YtdelkgfodeilkaaDoorProg
import Derived.WalkKit
namespace Go.Proofs.YtdelkgfodeilkaaDoor

/-- The loops of a body, each ahead of those in it. -/
def loopsOf : Code → List Code
  | .loop c => c :: loopsOf c
  | .seq a b => loopsOf a ++ loopsOf b
  | .cond _ a b => loopsOf a ++ loopsOf b
  | .block _ c => loopsOf c
  | .scope c => loopsOf c
  | .rangeFunc _ _ a b => loopsOf a ++ loopsOf b
  | _ => []
def loopAt (f : Func) (k : Nat) : Code := ((f.body.map loopsOf).getD []).getD k .skip
end Go.Proofs.YtdelkgfodeilkaaDoor
