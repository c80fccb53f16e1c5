/-
  layer 39: the reference's keys. Conditions: keys of at most maxLen elements.
-/
import Derived.Test.YtcdpadggjkobjaaGreatDoorCmp
namespace Go.Proofs.YtcdpadggjkobjaaGreatDoor
open Go.RowKit

end Go.Proofs.YtcdpadggjkobjaaGreatDoor
