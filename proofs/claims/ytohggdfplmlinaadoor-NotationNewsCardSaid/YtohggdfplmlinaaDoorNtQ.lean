/-
  layer 4: what units gives. Conditions: none.
-/
import Derived.Test.YtohggdfplmlinaaDoorNtN4
import Derived.Test.YtohggdfplmlinaaDoorNtH
namespace Go.Proofs.YtohggdfplmlinaaDoor
open Go.RowKit Go.Lib

theorem nunits_any (g : Nat) (s : ByteArray) (w : World) : Calls Tryd.prog 53 #[wptr g, .string s] w fun e w' =>
      e = .returned (.func (.func 75) #[] #[wptr (w.heap.size + 1), wptr w.heap.size]) ∧ w' = (w.alloc (.cells #[wptr g] 27)).alloc (.cells #[.string s] 9) := by
  go_enter Tryd.func53, Tryd.ntmps53
  go_wp2
  go_ret
  exact ⟨rfl, rfl⟩
end Go.Proofs.YtohggdfplmlinaaDoor
