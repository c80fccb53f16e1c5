/-
  NARROWER THAN 'FOR EVERY INPUT', by the rows' own cells (each row's printed sentence says how): CollateReads: laid · CollateOrders: laid · CollateGroups: laid · CollateNews: laid · CollatePieces: laid · CollateChains: laid · CollateLists: laid · CollateNil: laid · CollateHeads: laid · CollateLong: laid.
  DERIVED. THE GIVEN ROWS OF THIS SEAT. 10 by the template 'for every input the law returns true; each argument reads behind the call as it read before'; 0 by the template 'total and deterministic' (their statements: YtcdpadggjkobjaaDoorTotals.lean).
  GIVEN WITH THE SEED: the statements are not yours to turn. If you find one false, say at which input.
  Laid BY PROGRAM, IN A SANDBOX (cutbox-rows.mjs): the forced cells as the released guide's own fill.sh prints them over the translation 6263819be7086df5… (all of the seat's roots in one cut). By AI agents, Wed Nov 11 2026. No macro, syntax, notation, axiom, sorry.
-/
import Derived.Test.YtcdpadggjkobjaaDoorChecked
import GoSem.PinnedTables
import GoSem.Claim
import GoSem.ClaimJoined
import GoSem.ClaimMapViews
import Derived.JoinedTies
import Derived.KernelRfl
namespace Go.Proofs.YtcdpadggjkobjaaDoor
/- THE CELL 'sum', in the pinned program and in every row, IS THE sha256 OF THE DUMP (.gsa) THAT YtcdpadggjkobjaaDoorProg.lean LOADS. Nothing in Lean hashes anything: it is a label: what it is worth is what the hold of that sum in a sandbox is worth. -/
noncomputable def Tryd.pinned : Pinned := { name := "ytcdpadggjkobjaadoor", sum := "6263819be7086df5b6609a634153d67e89982fb71388cab82f05d80e913c1a9f", checked := Tryd.checked }
namespace Rows
def none {H : Type} : Left H := { results := [], args := [] }

/- WHAT THE LISTED PACKAGE-LEVEL VARIABLES READ AS WHEN THE CALL BEGINS. Each datum BY PROGRAM (the guide's laid-datum.mjs) off the statement by which the dump's own 'gosem.cut.vars' lays the variable. In a bare row this is a premise. The card (YtcdpadggjkobjaaDoorCards.lean) ties it to the program's text. -/
def laid_unicode_utf8_acceptRanges {H : Type} : DataW H := .agg [.agg [.lit (.int .u8 128), .lit (.int .u8 191)], .agg [.lit (.int .u8 160), .lit (.int .u8 191)], .agg [.lit (.int .u8 128), .lit (.int .u8 159)], .agg [.lit (.int .u8 144), .lit (.int .u8 191)], .agg [.lit (.int .u8 128), .lit (.int .u8 143)], .agg [.lit (.int .u8 0), .lit (.int .u8 0)], .agg [.lit (.int .u8 0), .lit (.int .u8 0)], .agg [.lit (.int .u8 0), .lit (.int .u8 0)], .agg [.lit (.int .u8 0), .lit (.int .u8 0)], .agg [.lit (.int .u8 0), .lit (.int .u8 0)], .agg [.lit (.int .u8 0), .lit (.int .u8 0)], .agg [.lit (.int .u8 0), .lit (.int .u8 0)], .agg [.lit (.int .u8 0), .lit (.int .u8 0)], .agg [.lit (.int .u8 0), .lit (.int .u8 0)], .agg [.lit (.int .u8 0), .lit (.int .u8 0)], .agg [.lit (.int .u8 0), .lit (.int .u8 0)]]
/-- One of Go's own tables, pinned by name: the form's constant. -/
def laid_unicode_utf8_first : DataW Unit := Go.Pinned.utf8First

/-- 'ablautlaw39.CollateReads': WHATEVER THE INPUT: true; the input reads as it did. -/
def collateReadsSpec : ChangeSpec := { name := "collateReads", fn := fun _ => fun
  | [d1, d2] => { results := [.lit (.bool true)], args := [d1, d2] }
  | _ => none }
def collateReadsRow : OpenClaim := { program := "ytcdpadggjkobjaadoor", sum := "6263819be7086df5b6609a634153d67e89982fb71388cab82f05d80e913c1a9f", func := "ablaut/ablautlaw39.CollateReads", spec := "collateReads", inPlace := ["internal/bytealg.CountString", "internal/bytealg.IndexByteString", "internal/bytealg.IndexString", "internal/bytealg.abigen_runtime_cmpstring"], unfollowed := true, recurses := true, named := ["internal/bytealg.MaxLen", "unicode/utf8.first", "unicode/utf8.acceptRanges"], apart := false, laid := [("unicode/utf8.acceptRanges", laid_unicode_utf8_acceptRanges), ("unicode/utf8.first", laid_unicode_utf8_first)] }
def CollateReadsSaid : Prop := collateReadsRow.holds Tryd.pinned (OpenSpec.ofChange collateReadsSpec)

/-- ITS FALSE NEIGHBOUR: 'it returns false'. Refute it at one input. -/
def collateReadsWrong : ChangeSpec := { name := "collateReads", fn := fun _ => fun
  | [d1, d2] => { results := [.lit (.bool false)], args := [d1, d2] }
  | _ => none }
def CollateReadsWrongFalsely : Prop := collateReadsRow.holds Tryd.pinned (OpenSpec.ofChange collateReadsWrong)

/-- 'ablautlaw39.CollateOrders': WHATEVER THE INPUT: true; the input reads as it did. -/
def collateOrdersSpec : ChangeSpec := { name := "collateOrders", fn := fun _ => fun
  | [d1, d2, d3] => { results := [.lit (.bool true)], args := [d1, d2, d3] }
  | _ => none }
def collateOrdersRow : OpenClaim := { program := "ytcdpadggjkobjaadoor", sum := "6263819be7086df5b6609a634153d67e89982fb71388cab82f05d80e913c1a9f", func := "ablaut/ablautlaw39.CollateOrders", spec := "collateOrders", inPlace := ["internal/bytealg.CountString", "internal/bytealg.IndexByteString", "internal/bytealg.IndexString", "internal/bytealg.abigen_runtime_cmpstring"], unfollowed := true, recurses := true, named := ["internal/bytealg.MaxLen", "unicode/utf8.first", "unicode/utf8.acceptRanges"], apart := false, laid := [("unicode/utf8.acceptRanges", laid_unicode_utf8_acceptRanges), ("unicode/utf8.first", laid_unicode_utf8_first)] }
def CollateOrdersSaid : Prop := collateOrdersRow.holds Tryd.pinned (OpenSpec.ofChange collateOrdersSpec)

/-- ITS FALSE NEIGHBOUR: 'it returns false'. Refute it at one input. -/
def collateOrdersWrong : ChangeSpec := { name := "collateOrders", fn := fun _ => fun
  | [d1, d2, d3] => { results := [.lit (.bool false)], args := [d1, d2, d3] }
  | _ => none }
def CollateOrdersWrongFalsely : Prop := collateOrdersRow.holds Tryd.pinned (OpenSpec.ofChange collateOrdersWrong)

/-- 'ablautlaw39.CollateGroups': WHATEVER THE INPUT: true; the input reads as it did. -/
def collateGroupsSpec : ChangeSpec := { name := "collateGroups", fn := fun _ => fun
  | [d1, d2] => { results := [.lit (.bool true)], args := [d1, d2] }
  | _ => none }
def collateGroupsRow : OpenClaim := { program := "ytcdpadggjkobjaadoor", sum := "6263819be7086df5b6609a634153d67e89982fb71388cab82f05d80e913c1a9f", func := "ablaut/ablautlaw39.CollateGroups", spec := "collateGroups", inPlace := ["internal/bytealg.CountString", "internal/bytealg.IndexByteString", "internal/bytealg.IndexString", "internal/bytealg.abigen_runtime_cmpstring"], unfollowed := true, recurses := true, named := ["internal/bytealg.MaxLen", "unicode/utf8.first", "unicode/utf8.acceptRanges"], apart := false, laid := [("unicode/utf8.acceptRanges", laid_unicode_utf8_acceptRanges), ("unicode/utf8.first", laid_unicode_utf8_first)] }
def CollateGroupsSaid : Prop := collateGroupsRow.holds Tryd.pinned (OpenSpec.ofChange collateGroupsSpec)

/-- ITS FALSE NEIGHBOUR: 'it returns false'. Refute it at one input. -/
def collateGroupsWrong : ChangeSpec := { name := "collateGroups", fn := fun _ => fun
  | [d1, d2] => { results := [.lit (.bool false)], args := [d1, d2] }
  | _ => none }
def CollateGroupsWrongFalsely : Prop := collateGroupsRow.holds Tryd.pinned (OpenSpec.ofChange collateGroupsWrong)

/-- 'ablautlaw39.CollateNews': WHATEVER THE INPUT: true; the input reads as it did. -/
def collateNewsSpec : ChangeSpec := { name := "collateNews", fn := fun _ => fun
  | [d] => { results := [.lit (.bool true)], args := [d] }
  | _ => none }
def collateNewsRow : OpenClaim := { program := "ytcdpadggjkobjaadoor", sum := "6263819be7086df5b6609a634153d67e89982fb71388cab82f05d80e913c1a9f", func := "ablaut/ablautlaw39.CollateNews", spec := "collateNews", inPlace := ["internal/bytealg.CountString", "internal/bytealg.IndexByteString", "internal/bytealg.IndexString", "internal/bytealg.abigen_runtime_cmpstring"], unfollowed := true, recurses := true, named := ["internal/bytealg.MaxLen", "unicode/utf8.first", "unicode/utf8.acceptRanges"], apart := false, laid := [("unicode/utf8.acceptRanges", laid_unicode_utf8_acceptRanges), ("unicode/utf8.first", laid_unicode_utf8_first)] }
def CollateNewsSaid : Prop := collateNewsRow.holds Tryd.pinned (OpenSpec.ofChange collateNewsSpec)

/-- ITS FALSE NEIGHBOUR: 'it returns false'. Refute it at one input. -/
def collateNewsWrong : ChangeSpec := { name := "collateNews", fn := fun _ => fun
  | [d] => { results := [.lit (.bool false)], args := [d] }
  | _ => none }
def CollateNewsWrongFalsely : Prop := collateNewsRow.holds Tryd.pinned (OpenSpec.ofChange collateNewsWrong)

/-- 'ablautlaw39.CollatePieces': WHATEVER THE INPUT: true; the input reads as it did. -/
def collatePiecesSpec : ChangeSpec := { name := "collatePieces", fn := fun _ => fun
  | [d1, d2] => { results := [.lit (.bool true)], args := [d1, d2] }
  | _ => none }
def collatePiecesRow : OpenClaim := { program := "ytcdpadggjkobjaadoor", sum := "6263819be7086df5b6609a634153d67e89982fb71388cab82f05d80e913c1a9f", func := "ablaut/ablautlaw39.CollatePieces", spec := "collatePieces", inPlace := ["internal/bytealg.CountString", "internal/bytealg.IndexByteString", "internal/bytealg.IndexString", "internal/bytealg.abigen_runtime_cmpstring", "internal/abi.NoEscape"], unfollowed := true, recurses := true, named := ["internal/bytealg.MaxLen", "unicode/utf8.first", "unicode/utf8.acceptRanges"], apart := false, laid := [("unicode/utf8.acceptRanges", laid_unicode_utf8_acceptRanges), ("unicode/utf8.first", laid_unicode_utf8_first)] }
def CollatePiecesSaid : Prop := collatePiecesRow.holds Tryd.pinned (OpenSpec.ofChange collatePiecesSpec)

/-- ITS FALSE NEIGHBOUR: 'it returns false'. Refute it at one input. -/
def collatePiecesWrong : ChangeSpec := { name := "collatePieces", fn := fun _ => fun
  | [d1, d2] => { results := [.lit (.bool false)], args := [d1, d2] }
  | _ => none }
def CollatePiecesWrongFalsely : Prop := collatePiecesRow.holds Tryd.pinned (OpenSpec.ofChange collatePiecesWrong)

/-- 'ablautlaw39.CollateChains': WHATEVER THE INPUT: true; the input reads as it did. -/
def collateChainsSpec : ChangeSpec := { name := "collateChains", fn := fun _ => fun
  | [d1, d2, d3, d4] => { results := [.lit (.bool true)], args := [d1, d2, d3, d4] }
  | _ => none }
def collateChainsRow : OpenClaim := { program := "ytcdpadggjkobjaadoor", sum := "6263819be7086df5b6609a634153d67e89982fb71388cab82f05d80e913c1a9f", func := "ablaut/ablautlaw39.CollateChains", spec := "collateChains", inPlace := ["internal/bytealg.CountString", "internal/bytealg.IndexByteString", "internal/bytealg.IndexString", "internal/bytealg.abigen_runtime_cmpstring", "internal/abi.NoEscape", "internal/bytealg.MakeNoZero"], unfollowed := true, recurses := true, named := ["internal/bytealg.MaxLen", "unicode/utf8.first", "unicode/utf8.acceptRanges"], apart := false, laid := [("unicode/utf8.acceptRanges", laid_unicode_utf8_acceptRanges), ("unicode/utf8.first", laid_unicode_utf8_first)] }
def CollateChainsSaid : Prop := collateChainsRow.holds Tryd.pinned (OpenSpec.ofChange collateChainsSpec)

/-- ITS FALSE NEIGHBOUR: 'it returns false'. Refute it at one input. -/
def collateChainsWrong : ChangeSpec := { name := "collateChains", fn := fun _ => fun
  | [d1, d2, d3, d4] => { results := [.lit (.bool false)], args := [d1, d2, d3, d4] }
  | _ => none }
def CollateChainsWrongFalsely : Prop := collateChainsRow.holds Tryd.pinned (OpenSpec.ofChange collateChainsWrong)

/-- 'ablautlaw39.CollateLists': WHATEVER THE INPUT: true; the input reads as it did. -/
def collateListsSpec : ChangeSpec := { name := "collateLists", fn := fun _ => fun
  | [d1, d2, d3, d4] => { results := [.lit (.bool true)], args := [d1, d2, d3, d4] }
  | _ => none }
def collateListsRow : OpenClaim := { program := "ytcdpadggjkobjaadoor", sum := "6263819be7086df5b6609a634153d67e89982fb71388cab82f05d80e913c1a9f", func := "ablaut/ablautlaw39.CollateLists", spec := "collateLists", inPlace := ["internal/bytealg.CountString", "internal/bytealg.IndexByteString", "internal/bytealg.IndexString", "internal/bytealg.abigen_runtime_cmpstring"], unfollowed := true, recurses := true, named := ["internal/bytealg.MaxLen", "unicode/utf8.first", "unicode/utf8.acceptRanges"], apart := false, laid := [("unicode/utf8.acceptRanges", laid_unicode_utf8_acceptRanges), ("unicode/utf8.first", laid_unicode_utf8_first)] }
def CollateListsSaid : Prop := collateListsRow.holds Tryd.pinned (OpenSpec.ofChange collateListsSpec)

/-- ITS FALSE NEIGHBOUR: 'it returns false'. Refute it at one input. -/
def collateListsWrong : ChangeSpec := { name := "collateLists", fn := fun _ => fun
  | [d1, d2, d3, d4] => { results := [.lit (.bool false)], args := [d1, d2, d3, d4] }
  | _ => none }
def CollateListsWrongFalsely : Prop := collateListsRow.holds Tryd.pinned (OpenSpec.ofChange collateListsWrong)

/-- 'ablautlaw39.CollateNil': WHATEVER THE INPUT: true; the input reads as it did. -/
def collateNilSpec : ChangeSpec := { name := "collateNil", fn := fun _ => fun
  | [d1, d2, d3] => { results := [.lit (.bool true)], args := [d1, d2, d3] }
  | _ => none }
def collateNilRow : OpenClaim := { program := "ytcdpadggjkobjaadoor", sum := "6263819be7086df5b6609a634153d67e89982fb71388cab82f05d80e913c1a9f", func := "ablaut/ablautlaw39.CollateNil", spec := "collateNil", inPlace := ["internal/bytealg.CountString", "internal/bytealg.IndexByteString", "internal/bytealg.IndexString", "internal/bytealg.abigen_runtime_cmpstring"], unfollowed := true, recurses := true, named := ["internal/bytealg.MaxLen", "unicode/utf8.first", "unicode/utf8.acceptRanges"], apart := false, laid := [("unicode/utf8.acceptRanges", laid_unicode_utf8_acceptRanges), ("unicode/utf8.first", laid_unicode_utf8_first)] }
def CollateNilSaid : Prop := collateNilRow.holds Tryd.pinned (OpenSpec.ofChange collateNilSpec)

/-- ITS FALSE NEIGHBOUR: 'it returns false'. Refute it at one input. -/
def collateNilWrong : ChangeSpec := { name := "collateNil", fn := fun _ => fun
  | [d1, d2, d3] => { results := [.lit (.bool false)], args := [d1, d2, d3] }
  | _ => none }
def CollateNilWrongFalsely : Prop := collateNilRow.holds Tryd.pinned (OpenSpec.ofChange collateNilWrong)

/-- 'ablautlaw39.CollateHeads': WHATEVER THE INPUT: true; the input reads as it did. -/
def collateHeadsSpec : ChangeSpec := { name := "collateHeads", fn := fun _ => fun
  | [d1, d2] => { results := [.lit (.bool true)], args := [d1, d2] }
  | _ => none }
def collateHeadsRow : OpenClaim := { program := "ytcdpadggjkobjaadoor", sum := "6263819be7086df5b6609a634153d67e89982fb71388cab82f05d80e913c1a9f", func := "ablaut/ablautlaw39.CollateHeads", spec := "collateHeads", inPlace := ["internal/bytealg.CountString", "internal/bytealg.IndexByteString", "internal/bytealg.IndexString", "internal/bytealg.abigen_runtime_cmpstring", "internal/abi.NoEscape"], unfollowed := true, recurses := true, named := ["internal/bytealg.MaxLen", "unicode/utf8.first", "unicode/utf8.acceptRanges"], apart := false, laid := [("unicode/utf8.acceptRanges", laid_unicode_utf8_acceptRanges), ("unicode/utf8.first", laid_unicode_utf8_first)] }
def CollateHeadsSaid : Prop := collateHeadsRow.holds Tryd.pinned (OpenSpec.ofChange collateHeadsSpec)

/-- ITS FALSE NEIGHBOUR: 'it returns false'. Refute it at one input. -/
def collateHeadsWrong : ChangeSpec := { name := "collateHeads", fn := fun _ => fun
  | [d1, d2] => { results := [.lit (.bool false)], args := [d1, d2] }
  | _ => none }
def CollateHeadsWrongFalsely : Prop := collateHeadsRow.holds Tryd.pinned (OpenSpec.ofChange collateHeadsWrong)

/-- 'ablautlaw39.CollateLong': WHATEVER THE INPUT: true; the input reads as it did. -/
def collateLongSpec : ChangeSpec := { name := "collateLong", fn := fun _ => fun
  | [d1, d2] => { results := [.lit (.bool true)], args := [d1, d2] }
  | _ => none }
def collateLongRow : OpenClaim := { program := "ytcdpadggjkobjaadoor", sum := "6263819be7086df5b6609a634153d67e89982fb71388cab82f05d80e913c1a9f", func := "ablaut/ablautlaw39.CollateLong", spec := "collateLong", inPlace := ["internal/bytealg.CountString", "internal/bytealg.IndexByteString", "internal/bytealg.IndexString", "internal/abi.NoEscape", "internal/bytealg.MakeNoZero", "internal/bytealg.abigen_runtime_cmpstring"], unfollowed := true, recurses := true, named := ["internal/bytealg.MaxLen", "unicode/utf8.first", "unicode/utf8.acceptRanges"], apart := false, laid := [("unicode/utf8.acceptRanges", laid_unicode_utf8_acceptRanges), ("unicode/utf8.first", laid_unicode_utf8_first)] }
def CollateLongSaid : Prop := collateLongRow.holds Tryd.pinned (OpenSpec.ofChange collateLongSpec)

/-- ITS FALSE NEIGHBOUR: 'it returns false'. Refute it at one input. -/
def collateLongWrong : ChangeSpec := { name := "collateLong", fn := fun _ => fun
  | [d1, d2] => { results := [.lit (.bool false)], args := [d1, d2] }
  | _ => none }
def CollateLongWrongFalsely : Prop := collateLongRow.holds Tryd.pinned (OpenSpec.ofChange collateLongWrong)

/- THE SECOND FORM. 'bulk': how many values and letters a reading holds, each counted each time it is reached (what is shared counts as often as it is met; a slice's spare places count too). A statement '..UptoSaid' is the law's where the arguments, and the package variables that the reading takes, are together of bulk at most 1048576: NARROWER than '..Said'. Prove '..Said' where nothing that the law and all that it calls make is longer than what came in: it says more and counts as full. Else prove '..UptoSaid'. A law counts once. -/
mutual
def uptoBulk {H : Type} : DataW H → Nat
  | .lit (.string bytes) => bytes.length + 1
  | .lit _ => 1
  | .nil => 1
  | .ptr d => uptoBulk d + 1
  | .slice elems spare => uptoBulkAll elems + uptoBulkAll spare + 1
  | .agg parts => uptoBulkAll parts + 1
  | .iface _ d => uptoBulk d + 1
  | .map entries => uptoBulkEntries entries + 1
  | .held _ => 1
def uptoBulkAll {H : Type} : List (DataW H) → Nat
  | [] => 0
  | d :: r => uptoBulk d + uptoBulkAll r
def uptoBulkEntries {H : Type} : List (Lit × DataW H) → Nat
  | [] => 0
  | x :: r => uptoBulkEntry x + uptoBulkEntries r
def uptoBulkEntry {H : Type} : Lit × DataW H → Nat
  | (.string bytes, d) => bytes.length + uptoBulk d + 1
  | (_, d) => uptoBulk d + 1
 end
def uptoSmall : (H : Type) → List (DataW H) → Bool := fun _ ds => decide (uptoBulkAll ds ≤ 1048576)
def OpenSpec.upto (s : _root_.Go.ChangeSpec) : _root_.Go.OpenSpec := { _root_.Go.OpenSpec.ofChange s with cond := some uptoSmall }

/-- 'ablautlaw39.CollateReads', WHERE WHAT IT READS IS OF BULK AT MOST 1048576: true; the input reads as it did. -/
def collateReadsUptoRow : OpenClaim := { program := "ytcdpadggjkobjaadoor", sum := "6263819be7086df5b6609a634153d67e89982fb71388cab82f05d80e913c1a9f", func := "ablaut/ablautlaw39.CollateReads", spec := "collateReads", inPlace := ["internal/bytealg.CountString", "internal/bytealg.IndexByteString", "internal/bytealg.IndexString", "internal/bytealg.abigen_runtime_cmpstring"], unfollowed := true, recurses := true, named := ["internal/bytealg.MaxLen", "unicode/utf8.first", "unicode/utf8.acceptRanges"], apart := false, laid := [("unicode/utf8.acceptRanges", laid_unicode_utf8_acceptRanges), ("unicode/utf8.first", laid_unicode_utf8_first)], narrowed := true }
def CollateReadsUptoSaid : Prop := collateReadsUptoRow.holds Tryd.pinned (OpenSpec.upto collateReadsSpec)

/-- 'ablautlaw39.CollateOrders', WHERE WHAT IT READS IS OF BULK AT MOST 1048576: true; the input reads as it did. -/
def collateOrdersUptoRow : OpenClaim := { program := "ytcdpadggjkobjaadoor", sum := "6263819be7086df5b6609a634153d67e89982fb71388cab82f05d80e913c1a9f", func := "ablaut/ablautlaw39.CollateOrders", spec := "collateOrders", inPlace := ["internal/bytealg.CountString", "internal/bytealg.IndexByteString", "internal/bytealg.IndexString", "internal/bytealg.abigen_runtime_cmpstring"], unfollowed := true, recurses := true, named := ["internal/bytealg.MaxLen", "unicode/utf8.first", "unicode/utf8.acceptRanges"], apart := false, laid := [("unicode/utf8.acceptRanges", laid_unicode_utf8_acceptRanges), ("unicode/utf8.first", laid_unicode_utf8_first)], narrowed := true }
def CollateOrdersUptoSaid : Prop := collateOrdersUptoRow.holds Tryd.pinned (OpenSpec.upto collateOrdersSpec)

/-- 'ablautlaw39.CollateGroups', WHERE WHAT IT READS IS OF BULK AT MOST 1048576: true; the input reads as it did. -/
def collateGroupsUptoRow : OpenClaim := { program := "ytcdpadggjkobjaadoor", sum := "6263819be7086df5b6609a634153d67e89982fb71388cab82f05d80e913c1a9f", func := "ablaut/ablautlaw39.CollateGroups", spec := "collateGroups", inPlace := ["internal/bytealg.CountString", "internal/bytealg.IndexByteString", "internal/bytealg.IndexString", "internal/bytealg.abigen_runtime_cmpstring"], unfollowed := true, recurses := true, named := ["internal/bytealg.MaxLen", "unicode/utf8.first", "unicode/utf8.acceptRanges"], apart := false, laid := [("unicode/utf8.acceptRanges", laid_unicode_utf8_acceptRanges), ("unicode/utf8.first", laid_unicode_utf8_first)], narrowed := true }
def CollateGroupsUptoSaid : Prop := collateGroupsUptoRow.holds Tryd.pinned (OpenSpec.upto collateGroupsSpec)

/-- 'ablautlaw39.CollateNews', WHERE WHAT IT READS IS OF BULK AT MOST 1048576: true; the input reads as it did. -/
def collateNewsUptoRow : OpenClaim := { program := "ytcdpadggjkobjaadoor", sum := "6263819be7086df5b6609a634153d67e89982fb71388cab82f05d80e913c1a9f", func := "ablaut/ablautlaw39.CollateNews", spec := "collateNews", inPlace := ["internal/bytealg.CountString", "internal/bytealg.IndexByteString", "internal/bytealg.IndexString", "internal/bytealg.abigen_runtime_cmpstring"], unfollowed := true, recurses := true, named := ["internal/bytealg.MaxLen", "unicode/utf8.first", "unicode/utf8.acceptRanges"], apart := false, laid := [("unicode/utf8.acceptRanges", laid_unicode_utf8_acceptRanges), ("unicode/utf8.first", laid_unicode_utf8_first)], narrowed := true }
def CollateNewsUptoSaid : Prop := collateNewsUptoRow.holds Tryd.pinned (OpenSpec.upto collateNewsSpec)

/-- 'ablautlaw39.CollatePieces', WHERE WHAT IT READS IS OF BULK AT MOST 1048576: true; the input reads as it did. -/
def collatePiecesUptoRow : OpenClaim := { program := "ytcdpadggjkobjaadoor", sum := "6263819be7086df5b6609a634153d67e89982fb71388cab82f05d80e913c1a9f", func := "ablaut/ablautlaw39.CollatePieces", spec := "collatePieces", inPlace := ["internal/bytealg.CountString", "internal/bytealg.IndexByteString", "internal/bytealg.IndexString", "internal/bytealg.abigen_runtime_cmpstring", "internal/abi.NoEscape"], unfollowed := true, recurses := true, named := ["internal/bytealg.MaxLen", "unicode/utf8.first", "unicode/utf8.acceptRanges"], apart := false, laid := [("unicode/utf8.acceptRanges", laid_unicode_utf8_acceptRanges), ("unicode/utf8.first", laid_unicode_utf8_first)], narrowed := true }
def CollatePiecesUptoSaid : Prop := collatePiecesUptoRow.holds Tryd.pinned (OpenSpec.upto collatePiecesSpec)

/-- 'ablautlaw39.CollateChains', WHERE WHAT IT READS IS OF BULK AT MOST 1048576: true; the input reads as it did. -/
def collateChainsUptoRow : OpenClaim := { program := "ytcdpadggjkobjaadoor", sum := "6263819be7086df5b6609a634153d67e89982fb71388cab82f05d80e913c1a9f", func := "ablaut/ablautlaw39.CollateChains", spec := "collateChains", inPlace := ["internal/bytealg.CountString", "internal/bytealg.IndexByteString", "internal/bytealg.IndexString", "internal/bytealg.abigen_runtime_cmpstring", "internal/abi.NoEscape", "internal/bytealg.MakeNoZero"], unfollowed := true, recurses := true, named := ["internal/bytealg.MaxLen", "unicode/utf8.first", "unicode/utf8.acceptRanges"], apart := false, laid := [("unicode/utf8.acceptRanges", laid_unicode_utf8_acceptRanges), ("unicode/utf8.first", laid_unicode_utf8_first)], narrowed := true }
def CollateChainsUptoSaid : Prop := collateChainsUptoRow.holds Tryd.pinned (OpenSpec.upto collateChainsSpec)

/-- 'ablautlaw39.CollateLists', WHERE WHAT IT READS IS OF BULK AT MOST 1048576: true; the input reads as it did. -/
def collateListsUptoRow : OpenClaim := { program := "ytcdpadggjkobjaadoor", sum := "6263819be7086df5b6609a634153d67e89982fb71388cab82f05d80e913c1a9f", func := "ablaut/ablautlaw39.CollateLists", spec := "collateLists", inPlace := ["internal/bytealg.CountString", "internal/bytealg.IndexByteString", "internal/bytealg.IndexString", "internal/bytealg.abigen_runtime_cmpstring"], unfollowed := true, recurses := true, named := ["internal/bytealg.MaxLen", "unicode/utf8.first", "unicode/utf8.acceptRanges"], apart := false, laid := [("unicode/utf8.acceptRanges", laid_unicode_utf8_acceptRanges), ("unicode/utf8.first", laid_unicode_utf8_first)], narrowed := true }
def CollateListsUptoSaid : Prop := collateListsUptoRow.holds Tryd.pinned (OpenSpec.upto collateListsSpec)

/-- 'ablautlaw39.CollateNil', WHERE WHAT IT READS IS OF BULK AT MOST 1048576: true; the input reads as it did. -/
def collateNilUptoRow : OpenClaim := { program := "ytcdpadggjkobjaadoor", sum := "6263819be7086df5b6609a634153d67e89982fb71388cab82f05d80e913c1a9f", func := "ablaut/ablautlaw39.CollateNil", spec := "collateNil", inPlace := ["internal/bytealg.CountString", "internal/bytealg.IndexByteString", "internal/bytealg.IndexString", "internal/bytealg.abigen_runtime_cmpstring"], unfollowed := true, recurses := true, named := ["internal/bytealg.MaxLen", "unicode/utf8.first", "unicode/utf8.acceptRanges"], apart := false, laid := [("unicode/utf8.acceptRanges", laid_unicode_utf8_acceptRanges), ("unicode/utf8.first", laid_unicode_utf8_first)], narrowed := true }
def CollateNilUptoSaid : Prop := collateNilUptoRow.holds Tryd.pinned (OpenSpec.upto collateNilSpec)

/-- 'ablautlaw39.CollateHeads', WHERE WHAT IT READS IS OF BULK AT MOST 1048576: true; the input reads as it did. -/
def collateHeadsUptoRow : OpenClaim := { program := "ytcdpadggjkobjaadoor", sum := "6263819be7086df5b6609a634153d67e89982fb71388cab82f05d80e913c1a9f", func := "ablaut/ablautlaw39.CollateHeads", spec := "collateHeads", inPlace := ["internal/bytealg.CountString", "internal/bytealg.IndexByteString", "internal/bytealg.IndexString", "internal/bytealg.abigen_runtime_cmpstring", "internal/abi.NoEscape"], unfollowed := true, recurses := true, named := ["internal/bytealg.MaxLen", "unicode/utf8.first", "unicode/utf8.acceptRanges"], apart := false, laid := [("unicode/utf8.acceptRanges", laid_unicode_utf8_acceptRanges), ("unicode/utf8.first", laid_unicode_utf8_first)], narrowed := true }
def CollateHeadsUptoSaid : Prop := collateHeadsUptoRow.holds Tryd.pinned (OpenSpec.upto collateHeadsSpec)

/-- 'ablautlaw39.CollateLong', WHERE WHAT IT READS IS OF BULK AT MOST 1048576: true; the input reads as it did. -/
def collateLongUptoRow : OpenClaim := { program := "ytcdpadggjkobjaadoor", sum := "6263819be7086df5b6609a634153d67e89982fb71388cab82f05d80e913c1a9f", func := "ablaut/ablautlaw39.CollateLong", spec := "collateLong", inPlace := ["internal/bytealg.CountString", "internal/bytealg.IndexByteString", "internal/bytealg.IndexString", "internal/abi.NoEscape", "internal/bytealg.MakeNoZero", "internal/bytealg.abigen_runtime_cmpstring"], unfollowed := true, recurses := true, named := ["internal/bytealg.MaxLen", "unicode/utf8.first", "unicode/utf8.acceptRanges"], apart := false, laid := [("unicode/utf8.acceptRanges", laid_unicode_utf8_acceptRanges), ("unicode/utf8.first", laid_unicode_utf8_first)], narrowed := true }
def CollateLongUptoSaid : Prop := collateLongUptoRow.holds Tryd.pinned (OpenSpec.upto collateLongSpec)

end Rows
end Go.Proofs.YtcdpadggjkobjaaDoor
