/-
  NARROWER THAN 'FOR EVERY INPUT', by the rows' own cells (each row's printed sentence says how): PointsMetric: laid · PointsWithin: laid · PointsMore: laid · PointsDists: laid · PointsWays: laid · PointsRoads: laid · PointsNews: laid · PointsAreas: laid · PointsMiddle: laid · PointsNil: laid.
  DERIVED. THE GIVEN ROWS OF THIS SEAT. 10 by the template 'for every input the law returns true; each argument reads behind the call as it read before'; 0 by the template 'total and deterministic' (their statements: YtdelkgfodeilkaaDoorTotals.lean).
  GIVEN WITH THE SEED: the statements are not yours to turn. If you find one false, say at which input.
  Laid BY PROGRAM, IN A SANDBOX (cutbox-rows.mjs): the forced cells as the released guide's own fill.sh prints them over the translation 14861d1630e3fec0… (all of the seat's roots in one cut). By AI agents, Wed Nov 11 2026. No macro, syntax, notation, axiom, sorry.
-/
import Derived.Test.YtdelkgfodeilkaaDoorChecked
import GoSem.PinnedTables
import GoSem.Claim
import GoSem.ClaimJoined
import GoSem.ClaimMapViews
import Derived.JoinedTies
import Derived.KernelRfl
namespace Go.Proofs.YtdelkgfodeilkaaDoor
/- THE CELL 'sum', in the pinned program and in every row, IS THE sha256 OF THE DUMP (.gsa) THAT YtdelkgfodeilkaaDoorProg.lean LOADS. Nothing in Lean hashes anything: it is a label: what it is worth is what the hold of that sum in a sandbox is worth. -/
noncomputable def Tryd.pinned : Pinned := { name := "ytdelkgfodeilkaadoor", sum := "14861d1630e3fec0c6fc64441e63807fb97ad1893bdb69e6d4b758fbec529fc8", checked := Tryd.checked }
namespace Rows
def none {H : Type} : Left H := { results := [], args := [] }

/- WHAT THE LISTED PACKAGE-LEVEL VARIABLES READ AS WHEN THE CALL BEGINS. Each datum BY PROGRAM (the guide's laid-datum.mjs) off the statement by which the dump's own 'gosem.cut.vars' lays the variable. In a bare row this is a premise. The card (YtdelkgfodeilkaaDoorCards.lean) ties it to the program's text. -/
def laid_unicode_utf8_acceptRanges {H : Type} : DataW H := .agg [.agg [.lit (.int .u8 128), .lit (.int .u8 191)], .agg [.lit (.int .u8 160), .lit (.int .u8 191)], .agg [.lit (.int .u8 128), .lit (.int .u8 159)], .agg [.lit (.int .u8 144), .lit (.int .u8 191)], .agg [.lit (.int .u8 128), .lit (.int .u8 143)], .agg [.lit (.int .u8 0), .lit (.int .u8 0)], .agg [.lit (.int .u8 0), .lit (.int .u8 0)], .agg [.lit (.int .u8 0), .lit (.int .u8 0)], .agg [.lit (.int .u8 0), .lit (.int .u8 0)], .agg [.lit (.int .u8 0), .lit (.int .u8 0)], .agg [.lit (.int .u8 0), .lit (.int .u8 0)], .agg [.lit (.int .u8 0), .lit (.int .u8 0)], .agg [.lit (.int .u8 0), .lit (.int .u8 0)], .agg [.lit (.int .u8 0), .lit (.int .u8 0)], .agg [.lit (.int .u8 0), .lit (.int .u8 0)], .agg [.lit (.int .u8 0), .lit (.int .u8 0)]]
/-- One of Go's own tables, pinned by name: the form's constant. -/
def laid_unicode_utf8_first : DataW Unit := Go.Pinned.utf8First

/-- 'ablautlaw36.PointsMetric': WHATEVER THE INPUT: true; the input reads as it did. -/
def pointsMetricSpec : ChangeSpec := { name := "pointsMetric", fn := fun _ => fun
  | [d1, d2] => { results := [.lit (.bool true)], args := [d1, d2] }
  | _ => none }
def pointsMetricRow : OpenClaim := { program := "ytdelkgfodeilkaadoor", sum := "14861d1630e3fec0c6fc64441e63807fb97ad1893bdb69e6d4b758fbec529fc8", func := "ablaut/ablautlaw36.PointsMetric", spec := "pointsMetric", inPlace := ["internal/bytealg.IndexByteString", "internal/bytealg.IndexString"], unfollowed := true, recurses := true, named := ["unicode/utf8.first", "unicode/utf8.acceptRanges", "internal/bytealg.MaxLen"], apart := false, laid := [("unicode/utf8.acceptRanges", laid_unicode_utf8_acceptRanges), ("unicode/utf8.first", laid_unicode_utf8_first)] }
def PointsMetricSaid : Prop := pointsMetricRow.holds Tryd.pinned (OpenSpec.ofChange pointsMetricSpec)

/-- ITS FALSE NEIGHBOUR: 'it returns false'. Refute it at one input. -/
def pointsMetricWrong : ChangeSpec := { name := "pointsMetric", fn := fun _ => fun
  | [d1, d2] => { results := [.lit (.bool false)], args := [d1, d2] }
  | _ => none }
def PointsMetricWrongFalsely : Prop := pointsMetricRow.holds Tryd.pinned (OpenSpec.ofChange pointsMetricWrong)

/-- 'ablautlaw36.PointsWithin': WHATEVER THE INPUT: true; the input reads as it did. -/
def pointsWithinSpec : ChangeSpec := { name := "pointsWithin", fn := fun _ => fun
  | [d1, d2, d3] => { results := [.lit (.bool true)], args := [d1, d2, d3] }
  | _ => none }
def pointsWithinRow : OpenClaim := { program := "ytdelkgfodeilkaadoor", sum := "14861d1630e3fec0c6fc64441e63807fb97ad1893bdb69e6d4b758fbec529fc8", func := "ablaut/ablautlaw36.PointsWithin", spec := "pointsWithin", inPlace := ["internal/bytealg.IndexByteString", "internal/bytealg.IndexString"], unfollowed := true, recurses := true, named := ["unicode/utf8.first", "unicode/utf8.acceptRanges", "internal/bytealg.MaxLen"], apart := false, laid := [("unicode/utf8.acceptRanges", laid_unicode_utf8_acceptRanges), ("unicode/utf8.first", laid_unicode_utf8_first)] }
def PointsWithinSaid : Prop := pointsWithinRow.holds Tryd.pinned (OpenSpec.ofChange pointsWithinSpec)

/-- ITS FALSE NEIGHBOUR: 'it returns false'. Refute it at one input. -/
def pointsWithinWrong : ChangeSpec := { name := "pointsWithin", fn := fun _ => fun
  | [d1, d2, d3] => { results := [.lit (.bool false)], args := [d1, d2, d3] }
  | _ => none }
def PointsWithinWrongFalsely : Prop := pointsWithinRow.holds Tryd.pinned (OpenSpec.ofChange pointsWithinWrong)

/-- 'ablautlaw36.PointsMore': WHATEVER THE INPUT: true; the input reads as it did. -/
def pointsMoreSpec : ChangeSpec := { name := "pointsMore", fn := fun _ => fun
  | [d1, d2, d3] => { results := [.lit (.bool true)], args := [d1, d2, d3] }
  | _ => none }
def pointsMoreRow : OpenClaim := { program := "ytdelkgfodeilkaadoor", sum := "14861d1630e3fec0c6fc64441e63807fb97ad1893bdb69e6d4b758fbec529fc8", func := "ablaut/ablautlaw36.PointsMore", spec := "pointsMore", inPlace := ["internal/bytealg.IndexByteString", "internal/bytealg.IndexString"], unfollowed := true, recurses := true, named := ["unicode/utf8.first", "unicode/utf8.acceptRanges", "internal/bytealg.MaxLen"], apart := false, laid := [("unicode/utf8.acceptRanges", laid_unicode_utf8_acceptRanges), ("unicode/utf8.first", laid_unicode_utf8_first)] }
def PointsMoreSaid : Prop := pointsMoreRow.holds Tryd.pinned (OpenSpec.ofChange pointsMoreSpec)

/-- ITS FALSE NEIGHBOUR: 'it returns false'. Refute it at one input. -/
def pointsMoreWrong : ChangeSpec := { name := "pointsMore", fn := fun _ => fun
  | [d1, d2, d3] => { results := [.lit (.bool false)], args := [d1, d2, d3] }
  | _ => none }
def PointsMoreWrongFalsely : Prop := pointsMoreRow.holds Tryd.pinned (OpenSpec.ofChange pointsMoreWrong)

/-- 'ablautlaw36.PointsDists': WHATEVER THE INPUT: true; the input reads as it did. -/
def pointsDistsSpec : ChangeSpec := { name := "pointsDists", fn := fun _ => fun
  | [d1, d2, d3] => { results := [.lit (.bool true)], args := [d1, d2, d3] }
  | _ => none }
def pointsDistsRow : OpenClaim := { program := "ytdelkgfodeilkaadoor", sum := "14861d1630e3fec0c6fc64441e63807fb97ad1893bdb69e6d4b758fbec529fc8", func := "ablaut/ablautlaw36.PointsDists", spec := "pointsDists", inPlace := ["internal/bytealg.IndexByteString", "internal/bytealg.IndexString"], unfollowed := true, recurses := true, named := ["unicode/utf8.first", "unicode/utf8.acceptRanges", "internal/bytealg.MaxLen"], apart := false, laid := [("unicode/utf8.acceptRanges", laid_unicode_utf8_acceptRanges), ("unicode/utf8.first", laid_unicode_utf8_first)] }
def PointsDistsSaid : Prop := pointsDistsRow.holds Tryd.pinned (OpenSpec.ofChange pointsDistsSpec)

/-- ITS FALSE NEIGHBOUR: 'it returns false'. Refute it at one input. -/
def pointsDistsWrong : ChangeSpec := { name := "pointsDists", fn := fun _ => fun
  | [d1, d2, d3] => { results := [.lit (.bool false)], args := [d1, d2, d3] }
  | _ => none }
def PointsDistsWrongFalsely : Prop := pointsDistsRow.holds Tryd.pinned (OpenSpec.ofChange pointsDistsWrong)

/-- 'ablautlaw36.PointsWays': WHATEVER THE INPUT: true; the input reads as it did. -/
def pointsWaysSpec : ChangeSpec := { name := "pointsWays", fn := fun _ => fun
  | [d1, d2] => { results := [.lit (.bool true)], args := [d1, d2] }
  | _ => none }
def pointsWaysRow : OpenClaim := { program := "ytdelkgfodeilkaadoor", sum := "14861d1630e3fec0c6fc64441e63807fb97ad1893bdb69e6d4b758fbec529fc8", func := "ablaut/ablautlaw36.PointsWays", spec := "pointsWays", inPlace := ["internal/bytealg.IndexByteString", "internal/bytealg.IndexString"], unfollowed := true, recurses := true, named := ["unicode/utf8.first", "unicode/utf8.acceptRanges", "internal/bytealg.MaxLen"], apart := false, laid := [("unicode/utf8.acceptRanges", laid_unicode_utf8_acceptRanges), ("unicode/utf8.first", laid_unicode_utf8_first)] }
def PointsWaysSaid : Prop := pointsWaysRow.holds Tryd.pinned (OpenSpec.ofChange pointsWaysSpec)

/-- ITS FALSE NEIGHBOUR: 'it returns false'. Refute it at one input. -/
def pointsWaysWrong : ChangeSpec := { name := "pointsWays", fn := fun _ => fun
  | [d1, d2] => { results := [.lit (.bool false)], args := [d1, d2] }
  | _ => none }
def PointsWaysWrongFalsely : Prop := pointsWaysRow.holds Tryd.pinned (OpenSpec.ofChange pointsWaysWrong)

/-- 'ablautlaw36.PointsRoads': WHATEVER THE INPUT: true; the input reads as it did. -/
def pointsRoadsSpec : ChangeSpec := { name := "pointsRoads", fn := fun _ => fun
  | [d] => { results := [.lit (.bool true)], args := [d] }
  | _ => none }
def pointsRoadsRow : OpenClaim := { program := "ytdelkgfodeilkaadoor", sum := "14861d1630e3fec0c6fc64441e63807fb97ad1893bdb69e6d4b758fbec529fc8", func := "ablaut/ablautlaw36.PointsRoads", spec := "pointsRoads", inPlace := ["internal/bytealg.IndexByteString", "internal/bytealg.IndexString"], unfollowed := true, recurses := true, named := ["unicode/utf8.first", "unicode/utf8.acceptRanges", "internal/bytealg.MaxLen"], apart := false, laid := [("unicode/utf8.acceptRanges", laid_unicode_utf8_acceptRanges), ("unicode/utf8.first", laid_unicode_utf8_first)] }
def PointsRoadsSaid : Prop := pointsRoadsRow.holds Tryd.pinned (OpenSpec.ofChange pointsRoadsSpec)

/-- ITS FALSE NEIGHBOUR: 'it returns false'. Refute it at one input. -/
def pointsRoadsWrong : ChangeSpec := { name := "pointsRoads", fn := fun _ => fun
  | [d] => { results := [.lit (.bool false)], args := [d] }
  | _ => none }
def PointsRoadsWrongFalsely : Prop := pointsRoadsRow.holds Tryd.pinned (OpenSpec.ofChange pointsRoadsWrong)

/-- 'ablautlaw36.PointsNews': WHATEVER THE INPUT: true; the input reads as it did. -/
def pointsNewsSpec : ChangeSpec := { name := "pointsNews", fn := fun _ => fun
  | [d1, d2, d3] => { results := [.lit (.bool true)], args := [d1, d2, d3] }
  | _ => none }
def pointsNewsRow : OpenClaim := { program := "ytdelkgfodeilkaadoor", sum := "14861d1630e3fec0c6fc64441e63807fb97ad1893bdb69e6d4b758fbec529fc8", func := "ablaut/ablautlaw36.PointsNews", spec := "pointsNews", inPlace := ["internal/bytealg.IndexByteString", "internal/bytealg.IndexString"], unfollowed := true, recurses := true, named := ["unicode/utf8.first", "unicode/utf8.acceptRanges", "internal/bytealg.MaxLen"], apart := false, laid := [("unicode/utf8.acceptRanges", laid_unicode_utf8_acceptRanges), ("unicode/utf8.first", laid_unicode_utf8_first)] }
def PointsNewsSaid : Prop := pointsNewsRow.holds Tryd.pinned (OpenSpec.ofChange pointsNewsSpec)

/-- ITS FALSE NEIGHBOUR: 'it returns false'. Refute it at one input. -/
def pointsNewsWrong : ChangeSpec := { name := "pointsNews", fn := fun _ => fun
  | [d1, d2, d3] => { results := [.lit (.bool false)], args := [d1, d2, d3] }
  | _ => none }
def PointsNewsWrongFalsely : Prop := pointsNewsRow.holds Tryd.pinned (OpenSpec.ofChange pointsNewsWrong)

/-- 'ablautlaw36.PointsAreas': WHATEVER THE INPUT: true; the input reads as it did. -/
def pointsAreasSpec : ChangeSpec := { name := "pointsAreas", fn := fun _ => fun
  | [d1, d2, d3] => { results := [.lit (.bool true)], args := [d1, d2, d3] }
  | _ => none }
def pointsAreasRow : OpenClaim := { program := "ytdelkgfodeilkaadoor", sum := "14861d1630e3fec0c6fc64441e63807fb97ad1893bdb69e6d4b758fbec529fc8", func := "ablaut/ablautlaw36.PointsAreas", spec := "pointsAreas", inPlace := ["internal/bytealg.IndexByteString", "internal/bytealg.IndexString"], unfollowed := true, recurses := true, named := ["unicode/utf8.first", "unicode/utf8.acceptRanges", "internal/bytealg.MaxLen"], apart := false, laid := [("unicode/utf8.acceptRanges", laid_unicode_utf8_acceptRanges), ("unicode/utf8.first", laid_unicode_utf8_first)] }
def PointsAreasSaid : Prop := pointsAreasRow.holds Tryd.pinned (OpenSpec.ofChange pointsAreasSpec)

/-- ITS FALSE NEIGHBOUR: 'it returns false'. Refute it at one input. -/
def pointsAreasWrong : ChangeSpec := { name := "pointsAreas", fn := fun _ => fun
  | [d1, d2, d3] => { results := [.lit (.bool false)], args := [d1, d2, d3] }
  | _ => none }
def PointsAreasWrongFalsely : Prop := pointsAreasRow.holds Tryd.pinned (OpenSpec.ofChange pointsAreasWrong)

/-- 'ablautlaw36.PointsMiddle': WHATEVER THE INPUT: true; the input reads as it did. -/
def pointsMiddleSpec : ChangeSpec := { name := "pointsMiddle", fn := fun _ => fun
  | [d] => { results := [.lit (.bool true)], args := [d] }
  | _ => none }
def pointsMiddleRow : OpenClaim := { program := "ytdelkgfodeilkaadoor", sum := "14861d1630e3fec0c6fc64441e63807fb97ad1893bdb69e6d4b758fbec529fc8", func := "ablaut/ablautlaw36.PointsMiddle", spec := "pointsMiddle", inPlace := ["internal/bytealg.IndexByteString", "internal/bytealg.IndexString"], unfollowed := true, recurses := true, named := ["unicode/utf8.first", "unicode/utf8.acceptRanges", "internal/bytealg.MaxLen"], apart := false, laid := [("unicode/utf8.acceptRanges", laid_unicode_utf8_acceptRanges), ("unicode/utf8.first", laid_unicode_utf8_first)] }
def PointsMiddleSaid : Prop := pointsMiddleRow.holds Tryd.pinned (OpenSpec.ofChange pointsMiddleSpec)

/-- ITS FALSE NEIGHBOUR: 'it returns false'. Refute it at one input. -/
def pointsMiddleWrong : ChangeSpec := { name := "pointsMiddle", fn := fun _ => fun
  | [d] => { results := [.lit (.bool false)], args := [d] }
  | _ => none }
def PointsMiddleWrongFalsely : Prop := pointsMiddleRow.holds Tryd.pinned (OpenSpec.ofChange pointsMiddleWrong)

/-- 'ablautlaw36.PointsNil': WHATEVER THE INPUT: true; the input reads as it did. -/
def pointsNilSpec : ChangeSpec := { name := "pointsNil", fn := fun _ => fun
  | [d1, d2, d3] => { results := [.lit (.bool true)], args := [d1, d2, d3] }
  | _ => none }
def pointsNilRow : OpenClaim := { program := "ytdelkgfodeilkaadoor", sum := "14861d1630e3fec0c6fc64441e63807fb97ad1893bdb69e6d4b758fbec529fc8", func := "ablaut/ablautlaw36.PointsNil", spec := "pointsNil", inPlace := ["internal/bytealg.IndexByteString", "internal/bytealg.IndexString"], unfollowed := true, recurses := true, named := ["unicode/utf8.first", "unicode/utf8.acceptRanges", "internal/bytealg.MaxLen"], apart := false, laid := [("unicode/utf8.acceptRanges", laid_unicode_utf8_acceptRanges), ("unicode/utf8.first", laid_unicode_utf8_first)] }
def PointsNilSaid : Prop := pointsNilRow.holds Tryd.pinned (OpenSpec.ofChange pointsNilSpec)

/-- ITS FALSE NEIGHBOUR: 'it returns false'. Refute it at one input. -/
def pointsNilWrong : ChangeSpec := { name := "pointsNil", fn := fun _ => fun
  | [d1, d2, d3] => { results := [.lit (.bool false)], args := [d1, d2, d3] }
  | _ => none }
def PointsNilWrongFalsely : Prop := pointsNilRow.holds Tryd.pinned (OpenSpec.ofChange pointsNilWrong)

/- THE SECOND FORM. 'bulk': how many values and letters a reading holds, each counted each time it is reached (what is shared counts as often as it is met; a slice's spare places count too). A statement '..UptoSaid' is the law's where the arguments, and the package variables that the reading takes, are together of bulk at most 1048576: NARROWER than '..Said'. Prove '..Said' where nothing that the law and all that it calls make is longer than what came in: it says more and counts as full. Else prove '..UptoSaid'. A law counts once. -/
mutual
def uptoBulk {H : Type} : DataW H → Nat
  | .lit (.string bytes) => bytes.length + 1
  | .lit _ => 1
  | .nil => 1
  | .ptr d => uptoBulk d + 1
  | .slice elems spare => uptoBulkAll elems + uptoBulkAll spare + 1
  | .agg parts => uptoBulkAll parts + 1
  | .iface _ d => uptoBulk d + 1
  | .map entries => uptoBulkEntries entries + 1
  | .held _ => 1
def uptoBulkAll {H : Type} : List (DataW H) → Nat
  | [] => 0
  | d :: r => uptoBulk d + uptoBulkAll r
def uptoBulkEntries {H : Type} : List (Lit × DataW H) → Nat
  | [] => 0
  | x :: r => uptoBulkEntry x + uptoBulkEntries r
def uptoBulkEntry {H : Type} : Lit × DataW H → Nat
  | (.string bytes, d) => bytes.length + uptoBulk d + 1
  | (_, d) => uptoBulk d + 1
 end
def uptoSmall : (H : Type) → List (DataW H) → Bool := fun _ ds => decide (uptoBulkAll ds ≤ 1048576)
def OpenSpec.upto (s : _root_.Go.ChangeSpec) : _root_.Go.OpenSpec := { _root_.Go.OpenSpec.ofChange s with cond := some uptoSmall }

/-- 'ablautlaw36.PointsMetric', WHERE WHAT IT READS IS OF BULK AT MOST 1048576: true; the input reads as it did. -/
def pointsMetricUptoRow : OpenClaim := { program := "ytdelkgfodeilkaadoor", sum := "14861d1630e3fec0c6fc64441e63807fb97ad1893bdb69e6d4b758fbec529fc8", func := "ablaut/ablautlaw36.PointsMetric", spec := "pointsMetric", inPlace := ["internal/bytealg.IndexByteString", "internal/bytealg.IndexString"], unfollowed := true, recurses := true, named := ["unicode/utf8.first", "unicode/utf8.acceptRanges", "internal/bytealg.MaxLen"], apart := false, laid := [("unicode/utf8.acceptRanges", laid_unicode_utf8_acceptRanges), ("unicode/utf8.first", laid_unicode_utf8_first)], narrowed := true }
def PointsMetricUptoSaid : Prop := pointsMetricUptoRow.holds Tryd.pinned (OpenSpec.upto pointsMetricSpec)

/-- 'ablautlaw36.PointsWithin', WHERE WHAT IT READS IS OF BULK AT MOST 1048576: true; the input reads as it did. -/
def pointsWithinUptoRow : OpenClaim := { program := "ytdelkgfodeilkaadoor", sum := "14861d1630e3fec0c6fc64441e63807fb97ad1893bdb69e6d4b758fbec529fc8", func := "ablaut/ablautlaw36.PointsWithin", spec := "pointsWithin", inPlace := ["internal/bytealg.IndexByteString", "internal/bytealg.IndexString"], unfollowed := true, recurses := true, named := ["unicode/utf8.first", "unicode/utf8.acceptRanges", "internal/bytealg.MaxLen"], apart := false, laid := [("unicode/utf8.acceptRanges", laid_unicode_utf8_acceptRanges), ("unicode/utf8.first", laid_unicode_utf8_first)], narrowed := true }
def PointsWithinUptoSaid : Prop := pointsWithinUptoRow.holds Tryd.pinned (OpenSpec.upto pointsWithinSpec)

/-- 'ablautlaw36.PointsMore', WHERE WHAT IT READS IS OF BULK AT MOST 1048576: true; the input reads as it did. -/
def pointsMoreUptoRow : OpenClaim := { program := "ytdelkgfodeilkaadoor", sum := "14861d1630e3fec0c6fc64441e63807fb97ad1893bdb69e6d4b758fbec529fc8", func := "ablaut/ablautlaw36.PointsMore", spec := "pointsMore", inPlace := ["internal/bytealg.IndexByteString", "internal/bytealg.IndexString"], unfollowed := true, recurses := true, named := ["unicode/utf8.first", "unicode/utf8.acceptRanges", "internal/bytealg.MaxLen"], apart := false, laid := [("unicode/utf8.acceptRanges", laid_unicode_utf8_acceptRanges), ("unicode/utf8.first", laid_unicode_utf8_first)], narrowed := true }
def PointsMoreUptoSaid : Prop := pointsMoreUptoRow.holds Tryd.pinned (OpenSpec.upto pointsMoreSpec)

/-- 'ablautlaw36.PointsDists', WHERE WHAT IT READS IS OF BULK AT MOST 1048576: true; the input reads as it did. -/
def pointsDistsUptoRow : OpenClaim := { program := "ytdelkgfodeilkaadoor", sum := "14861d1630e3fec0c6fc64441e63807fb97ad1893bdb69e6d4b758fbec529fc8", func := "ablaut/ablautlaw36.PointsDists", spec := "pointsDists", inPlace := ["internal/bytealg.IndexByteString", "internal/bytealg.IndexString"], unfollowed := true, recurses := true, named := ["unicode/utf8.first", "unicode/utf8.acceptRanges", "internal/bytealg.MaxLen"], apart := false, laid := [("unicode/utf8.acceptRanges", laid_unicode_utf8_acceptRanges), ("unicode/utf8.first", laid_unicode_utf8_first)], narrowed := true }
def PointsDistsUptoSaid : Prop := pointsDistsUptoRow.holds Tryd.pinned (OpenSpec.upto pointsDistsSpec)

/-- 'ablautlaw36.PointsWays', WHERE WHAT IT READS IS OF BULK AT MOST 1048576: true; the input reads as it did. -/
def pointsWaysUptoRow : OpenClaim := { program := "ytdelkgfodeilkaadoor", sum := "14861d1630e3fec0c6fc64441e63807fb97ad1893bdb69e6d4b758fbec529fc8", func := "ablaut/ablautlaw36.PointsWays", spec := "pointsWays", inPlace := ["internal/bytealg.IndexByteString", "internal/bytealg.IndexString"], unfollowed := true, recurses := true, named := ["unicode/utf8.first", "unicode/utf8.acceptRanges", "internal/bytealg.MaxLen"], apart := false, laid := [("unicode/utf8.acceptRanges", laid_unicode_utf8_acceptRanges), ("unicode/utf8.first", laid_unicode_utf8_first)], narrowed := true }
def PointsWaysUptoSaid : Prop := pointsWaysUptoRow.holds Tryd.pinned (OpenSpec.upto pointsWaysSpec)

/-- 'ablautlaw36.PointsRoads', WHERE WHAT IT READS IS OF BULK AT MOST 1048576: true; the input reads as it did. -/
def pointsRoadsUptoRow : OpenClaim := { program := "ytdelkgfodeilkaadoor", sum := "14861d1630e3fec0c6fc64441e63807fb97ad1893bdb69e6d4b758fbec529fc8", func := "ablaut/ablautlaw36.PointsRoads", spec := "pointsRoads", inPlace := ["internal/bytealg.IndexByteString", "internal/bytealg.IndexString"], unfollowed := true, recurses := true, named := ["unicode/utf8.first", "unicode/utf8.acceptRanges", "internal/bytealg.MaxLen"], apart := false, laid := [("unicode/utf8.acceptRanges", laid_unicode_utf8_acceptRanges), ("unicode/utf8.first", laid_unicode_utf8_first)], narrowed := true }
def PointsRoadsUptoSaid : Prop := pointsRoadsUptoRow.holds Tryd.pinned (OpenSpec.upto pointsRoadsSpec)

/-- 'ablautlaw36.PointsNews', WHERE WHAT IT READS IS OF BULK AT MOST 1048576: true; the input reads as it did. -/
def pointsNewsUptoRow : OpenClaim := { program := "ytdelkgfodeilkaadoor", sum := "14861d1630e3fec0c6fc64441e63807fb97ad1893bdb69e6d4b758fbec529fc8", func := "ablaut/ablautlaw36.PointsNews", spec := "pointsNews", inPlace := ["internal/bytealg.IndexByteString", "internal/bytealg.IndexString"], unfollowed := true, recurses := true, named := ["unicode/utf8.first", "unicode/utf8.acceptRanges", "internal/bytealg.MaxLen"], apart := false, laid := [("unicode/utf8.acceptRanges", laid_unicode_utf8_acceptRanges), ("unicode/utf8.first", laid_unicode_utf8_first)], narrowed := true }
def PointsNewsUptoSaid : Prop := pointsNewsUptoRow.holds Tryd.pinned (OpenSpec.upto pointsNewsSpec)

/-- 'ablautlaw36.PointsAreas', WHERE WHAT IT READS IS OF BULK AT MOST 1048576: true; the input reads as it did. -/
def pointsAreasUptoRow : OpenClaim := { program := "ytdelkgfodeilkaadoor", sum := "14861d1630e3fec0c6fc64441e63807fb97ad1893bdb69e6d4b758fbec529fc8", func := "ablaut/ablautlaw36.PointsAreas", spec := "pointsAreas", inPlace := ["internal/bytealg.IndexByteString", "internal/bytealg.IndexString"], unfollowed := true, recurses := true, named := ["unicode/utf8.first", "unicode/utf8.acceptRanges", "internal/bytealg.MaxLen"], apart := false, laid := [("unicode/utf8.acceptRanges", laid_unicode_utf8_acceptRanges), ("unicode/utf8.first", laid_unicode_utf8_first)], narrowed := true }
def PointsAreasUptoSaid : Prop := pointsAreasUptoRow.holds Tryd.pinned (OpenSpec.upto pointsAreasSpec)

/-- 'ablautlaw36.PointsMiddle', WHERE WHAT IT READS IS OF BULK AT MOST 1048576: true; the input reads as it did. -/
def pointsMiddleUptoRow : OpenClaim := { program := "ytdelkgfodeilkaadoor", sum := "14861d1630e3fec0c6fc64441e63807fb97ad1893bdb69e6d4b758fbec529fc8", func := "ablaut/ablautlaw36.PointsMiddle", spec := "pointsMiddle", inPlace := ["internal/bytealg.IndexByteString", "internal/bytealg.IndexString"], unfollowed := true, recurses := true, named := ["unicode/utf8.first", "unicode/utf8.acceptRanges", "internal/bytealg.MaxLen"], apart := false, laid := [("unicode/utf8.acceptRanges", laid_unicode_utf8_acceptRanges), ("unicode/utf8.first", laid_unicode_utf8_first)], narrowed := true }
def PointsMiddleUptoSaid : Prop := pointsMiddleUptoRow.holds Tryd.pinned (OpenSpec.upto pointsMiddleSpec)

/-- 'ablautlaw36.PointsNil', WHERE WHAT IT READS IS OF BULK AT MOST 1048576: true; the input reads as it did. -/
def pointsNilUptoRow : OpenClaim := { program := "ytdelkgfodeilkaadoor", sum := "14861d1630e3fec0c6fc64441e63807fb97ad1893bdb69e6d4b758fbec529fc8", func := "ablaut/ablautlaw36.PointsNil", spec := "pointsNil", inPlace := ["internal/bytealg.IndexByteString", "internal/bytealg.IndexString"], unfollowed := true, recurses := true, named := ["unicode/utf8.first", "unicode/utf8.acceptRanges", "internal/bytealg.MaxLen"], apart := false, laid := [("unicode/utf8.acceptRanges", laid_unicode_utf8_acceptRanges), ("unicode/utf8.first", laid_unicode_utf8_first)], narrowed := true }
def PointsNilUptoSaid : Prop := pointsNilUptoRow.holds Tryd.pinned (OpenSpec.upto pointsNilSpec)

end Rows
end Go.Proofs.YtdelkgfodeilkaaDoor
