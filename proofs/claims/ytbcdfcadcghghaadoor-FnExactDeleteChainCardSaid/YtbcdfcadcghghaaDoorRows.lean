/-
  NARROWER THAN 'FOR EVERY INPUT', by the rows' own cells (each row's printed sentence says how): FnExactGoneChains: laid · FnExactOwnersOf: laid · FnExactLostBlocks: laid · FnExactWalksOf: laid · FnExactReadChain: laid · FnExactDeleteChain: laid · FnExactEntryProblems: laid.
  DERIVED. THE GIVEN ROWS OF THIS SEAT. 7 by the template 'for every input the law returns true; each argument reads behind the call as it read before'; 0 by the template 'total and deterministic' (their statements: YtbcdfcadcghghaaDoorTotals.lean).
  GIVEN WITH THE SEED: the statements are not yours to turn. If you find one false, say at which input.
  Laid BY PROGRAM, IN A SANDBOX (cutbox-rows.mjs): the forced cells as the released guide's own fill.sh prints them over the translation 647eceb264a135b2… (all of the seat's roots in one cut). By AI agents, Wed Nov 11 2026. No macro, syntax, notation, axiom, sorry.
-/
import Derived.Test.YtbcdfcadcghghaaDoorChecked
import GoSem.PinnedTables
import GoSem.Claim
import GoSem.ClaimJoined
import GoSem.ClaimMapViews
import Derived.JoinedTies
import Derived.KernelRfl
namespace Go.Proofs.YtbcdfcadcghghaaDoor
/- THE CELL 'sum', in the pinned program and in every row, IS THE sha256 OF THE DUMP (.gsa) THAT YtbcdfcadcghghaaDoorProg.lean LOADS. Nothing in Lean hashes anything: it is a label: what it is worth is what the hold of that sum in a sandbox is worth. -/
noncomputable def Tryd.pinned : Pinned := { name := "ytbcdfcadcghghaadoor", sum := "647eceb264a135b202ae740998da7ea3c9cff5ce45574d5c59548281ce040685", checked := Tryd.checked }
namespace Rows
def none {H : Type} : Left H := { results := [], args := [] }

/- WHAT THE LISTED PACKAGE-LEVEL VARIABLES READ AS WHEN THE CALL BEGINS. Each datum BY PROGRAM (the guide's laid-datum.mjs) off the statement by which the dump's own 'gosem.cut.vars' lays the variable. In a bare row this is a premise. The card (YtbcdfcadcghghaaDoorCards.lean) ties it to the program's text. -/
def laid_unicode_utf8_acceptRanges {H : Type} : DataW H := .agg [.agg [.lit (.int .u8 128), .lit (.int .u8 191)], .agg [.lit (.int .u8 160), .lit (.int .u8 191)], .agg [.lit (.int .u8 128), .lit (.int .u8 159)], .agg [.lit (.int .u8 144), .lit (.int .u8 191)], .agg [.lit (.int .u8 128), .lit (.int .u8 143)], .agg [.lit (.int .u8 0), .lit (.int .u8 0)], .agg [.lit (.int .u8 0), .lit (.int .u8 0)], .agg [.lit (.int .u8 0), .lit (.int .u8 0)], .agg [.lit (.int .u8 0), .lit (.int .u8 0)], .agg [.lit (.int .u8 0), .lit (.int .u8 0)], .agg [.lit (.int .u8 0), .lit (.int .u8 0)], .agg [.lit (.int .u8 0), .lit (.int .u8 0)], .agg [.lit (.int .u8 0), .lit (.int .u8 0)], .agg [.lit (.int .u8 0), .lit (.int .u8 0)], .agg [.lit (.int .u8 0), .lit (.int .u8 0)], .agg [.lit (.int .u8 0), .lit (.int .u8 0)]]
/-- One of Go's own tables, pinned by name: the form's constant. -/
def laid_unicode_utf8_first : DataW Unit := Go.Pinned.utf8First

/-- 'laws.FnExactGoneChains': WHATEVER THE INPUT: true; the input reads as it did. -/
def fnExactGoneChainsSpec : ChangeSpec := { name := "fnExactGoneChains", fn := fun _ => fun
  | [d] => { results := [.lit (.bool true)], args := [d] }
  | _ => none }
def fnExactGoneChainsRow : OpenClaim := { program := "ytbcdfcadcghghaadoor", sum := "647eceb264a135b202ae740998da7ea3c9cff5ce45574d5c59548281ce040685", func := "loop.example/g00899/laws.FnExactGoneChains", spec := "fnExactGoneChains", inPlace := ["internal/abi.NoEscape", "internal/bytealg.MakeNoZero", "internal/bytealg.IndexByteString", "internal/bytealg.IndexString"], named := ["unicode/utf8.first", "unicode/utf8.acceptRanges", "internal/bytealg.MaxLen"], apart := false, laid := [("unicode/utf8.acceptRanges", laid_unicode_utf8_acceptRanges), ("unicode/utf8.first", laid_unicode_utf8_first)] }
def FnExactGoneChainsSaid : Prop := fnExactGoneChainsRow.holds Tryd.pinned (OpenSpec.ofChange fnExactGoneChainsSpec)

/-- ITS FALSE NEIGHBOUR: 'it returns false'. Refute it at one input. -/
def fnExactGoneChainsWrong : ChangeSpec := { name := "fnExactGoneChains", fn := fun _ => fun
  | [d] => { results := [.lit (.bool false)], args := [d] }
  | _ => none }
def FnExactGoneChainsWrongFalsely : Prop := fnExactGoneChainsRow.holds Tryd.pinned (OpenSpec.ofChange fnExactGoneChainsWrong)

/-- 'laws.FnExactOwnersOf': WHATEVER THE INPUT: true; the input reads as it did. -/
def fnExactOwnersOfSpec : ChangeSpec := { name := "fnExactOwnersOf", fn := fun _ => fun
  | [d] => { results := [.lit (.bool true)], args := [d] }
  | _ => none }
def fnExactOwnersOfRow : OpenClaim := { program := "ytbcdfcadcghghaadoor", sum := "647eceb264a135b202ae740998da7ea3c9cff5ce45574d5c59548281ce040685", func := "loop.example/g00899/laws.FnExactOwnersOf", spec := "fnExactOwnersOf", inPlace := ["internal/abi.NoEscape", "internal/bytealg.MakeNoZero", "internal/bytealg.IndexByteString", "internal/bytealg.IndexString"], named := ["unicode/utf8.first", "unicode/utf8.acceptRanges", "internal/bytealg.MaxLen"], apart := false, laid := [("unicode/utf8.acceptRanges", laid_unicode_utf8_acceptRanges), ("unicode/utf8.first", laid_unicode_utf8_first)] }
def FnExactOwnersOfSaid : Prop := fnExactOwnersOfRow.holds Tryd.pinned (OpenSpec.ofChange fnExactOwnersOfSpec)

/-- ITS FALSE NEIGHBOUR: 'it returns false'. Refute it at one input. -/
def fnExactOwnersOfWrong : ChangeSpec := { name := "fnExactOwnersOf", fn := fun _ => fun
  | [d] => { results := [.lit (.bool false)], args := [d] }
  | _ => none }
def FnExactOwnersOfWrongFalsely : Prop := fnExactOwnersOfRow.holds Tryd.pinned (OpenSpec.ofChange fnExactOwnersOfWrong)

/-- 'laws.FnExactLostBlocks': WHATEVER THE INPUT: true; the input reads as it did. -/
def fnExactLostBlocksSpec : ChangeSpec := { name := "fnExactLostBlocks", fn := fun _ => fun
  | [d] => { results := [.lit (.bool true)], args := [d] }
  | _ => none }
def fnExactLostBlocksRow : OpenClaim := { program := "ytbcdfcadcghghaadoor", sum := "647eceb264a135b202ae740998da7ea3c9cff5ce45574d5c59548281ce040685", func := "loop.example/g00899/laws.FnExactLostBlocks", spec := "fnExactLostBlocks", inPlace := ["internal/abi.NoEscape", "internal/bytealg.MakeNoZero", "internal/bytealg.IndexByteString", "internal/bytealg.IndexString"], named := ["unicode/utf8.first", "unicode/utf8.acceptRanges", "internal/bytealg.MaxLen"], apart := false, laid := [("unicode/utf8.acceptRanges", laid_unicode_utf8_acceptRanges), ("unicode/utf8.first", laid_unicode_utf8_first)] }
def FnExactLostBlocksSaid : Prop := fnExactLostBlocksRow.holds Tryd.pinned (OpenSpec.ofChange fnExactLostBlocksSpec)

/-- ITS FALSE NEIGHBOUR: 'it returns false'. Refute it at one input. -/
def fnExactLostBlocksWrong : ChangeSpec := { name := "fnExactLostBlocks", fn := fun _ => fun
  | [d] => { results := [.lit (.bool false)], args := [d] }
  | _ => none }
def FnExactLostBlocksWrongFalsely : Prop := fnExactLostBlocksRow.holds Tryd.pinned (OpenSpec.ofChange fnExactLostBlocksWrong)

/-- 'laws.FnExactWalksOf': WHATEVER THE INPUT: true; the input reads as it did. -/
def fnExactWalksOfSpec : ChangeSpec := { name := "fnExactWalksOf", fn := fun _ => fun
  | [d] => { results := [.lit (.bool true)], args := [d] }
  | _ => none }
def fnExactWalksOfRow : OpenClaim := { program := "ytbcdfcadcghghaadoor", sum := "647eceb264a135b202ae740998da7ea3c9cff5ce45574d5c59548281ce040685", func := "loop.example/g00899/laws.FnExactWalksOf", spec := "fnExactWalksOf", inPlace := ["internal/abi.NoEscape", "internal/bytealg.MakeNoZero", "internal/bytealg.IndexByteString", "internal/bytealg.IndexString"], named := ["unicode/utf8.first", "unicode/utf8.acceptRanges", "internal/bytealg.MaxLen"], apart := false, laid := [("unicode/utf8.acceptRanges", laid_unicode_utf8_acceptRanges), ("unicode/utf8.first", laid_unicode_utf8_first)] }
def FnExactWalksOfSaid : Prop := fnExactWalksOfRow.holds Tryd.pinned (OpenSpec.ofChange fnExactWalksOfSpec)

/-- ITS FALSE NEIGHBOUR: 'it returns false'. Refute it at one input. -/
def fnExactWalksOfWrong : ChangeSpec := { name := "fnExactWalksOf", fn := fun _ => fun
  | [d] => { results := [.lit (.bool false)], args := [d] }
  | _ => none }
def FnExactWalksOfWrongFalsely : Prop := fnExactWalksOfRow.holds Tryd.pinned (OpenSpec.ofChange fnExactWalksOfWrong)

/-- 'laws.FnExactReadChain': WHATEVER THE INPUT: true; the input reads as it did. -/
def fnExactReadChainSpec : ChangeSpec := { name := "fnExactReadChain", fn := fun _ => fun
  | [d1, d2] => { results := [.lit (.bool true)], args := [d1, d2] }
  | _ => none }
def fnExactReadChainRow : OpenClaim := { program := "ytbcdfcadcghghaadoor", sum := "647eceb264a135b202ae740998da7ea3c9cff5ce45574d5c59548281ce040685", func := "loop.example/g00899/laws.FnExactReadChain", spec := "fnExactReadChain", inPlace := ["internal/abi.NoEscape", "internal/bytealg.MakeNoZero", "internal/bytealg.IndexByteString", "internal/bytealg.IndexString"], named := ["unicode/utf8.first", "unicode/utf8.acceptRanges", "internal/bytealg.MaxLen"], apart := false, laid := [("unicode/utf8.acceptRanges", laid_unicode_utf8_acceptRanges), ("unicode/utf8.first", laid_unicode_utf8_first)] }
def FnExactReadChainSaid : Prop := fnExactReadChainRow.holds Tryd.pinned (OpenSpec.ofChange fnExactReadChainSpec)

/-- ITS FALSE NEIGHBOUR: 'it returns false'. Refute it at one input. -/
def fnExactReadChainWrong : ChangeSpec := { name := "fnExactReadChain", fn := fun _ => fun
  | [d1, d2] => { results := [.lit (.bool false)], args := [d1, d2] }
  | _ => none }
def FnExactReadChainWrongFalsely : Prop := fnExactReadChainRow.holds Tryd.pinned (OpenSpec.ofChange fnExactReadChainWrong)

/-- 'laws.FnExactDeleteChain': WHATEVER THE INPUT: true; the input reads as it did. -/
def fnExactDeleteChainSpec : ChangeSpec := { name := "fnExactDeleteChain", fn := fun _ => fun
  | [d1, d2] => { results := [.lit (.bool true)], args := [d1, d2] }
  | _ => none }
def fnExactDeleteChainRow : OpenClaim := { program := "ytbcdfcadcghghaadoor", sum := "647eceb264a135b202ae740998da7ea3c9cff5ce45574d5c59548281ce040685", func := "loop.example/g00899/laws.FnExactDeleteChain", spec := "fnExactDeleteChain", inPlace := ["internal/abi.NoEscape", "internal/bytealg.MakeNoZero", "internal/bytealg.IndexByteString", "internal/bytealg.IndexString"], unfollowed := true, recurses := true, named := ["unicode/utf8.first", "unicode/utf8.acceptRanges", "internal/bytealg.MaxLen"], apart := false, laid := [("unicode/utf8.acceptRanges", laid_unicode_utf8_acceptRanges), ("unicode/utf8.first", laid_unicode_utf8_first)] }
def FnExactDeleteChainSaid : Prop := fnExactDeleteChainRow.holds Tryd.pinned (OpenSpec.ofChange fnExactDeleteChainSpec)

/-- ITS FALSE NEIGHBOUR: 'it returns false'. Refute it at one input. -/
def fnExactDeleteChainWrong : ChangeSpec := { name := "fnExactDeleteChain", fn := fun _ => fun
  | [d1, d2] => { results := [.lit (.bool false)], args := [d1, d2] }
  | _ => none }
def FnExactDeleteChainWrongFalsely : Prop := fnExactDeleteChainRow.holds Tryd.pinned (OpenSpec.ofChange fnExactDeleteChainWrong)

/-- 'laws.FnExactEntryProblems': WHATEVER THE INPUT: true; the input reads as it did. -/
def fnExactEntryProblemsSpec : ChangeSpec := { name := "fnExactEntryProblems", fn := fun _ => fun
  | [d1, d2] => { results := [.lit (.bool true)], args := [d1, d2] }
  | _ => none }
def fnExactEntryProblemsRow : OpenClaim := { program := "ytbcdfcadcghghaadoor", sum := "647eceb264a135b202ae740998da7ea3c9cff5ce45574d5c59548281ce040685", func := "loop.example/g00899/laws.FnExactEntryProblems", spec := "fnExactEntryProblems", inPlace := ["internal/abi.NoEscape", "internal/bytealg.MakeNoZero", "internal/bytealg.IndexByteString", "internal/bytealg.IndexString"], named := ["unicode/utf8.first", "unicode/utf8.acceptRanges", "internal/bytealg.MaxLen"], apart := false, laid := [("unicode/utf8.acceptRanges", laid_unicode_utf8_acceptRanges), ("unicode/utf8.first", laid_unicode_utf8_first)] }
def FnExactEntryProblemsSaid : Prop := fnExactEntryProblemsRow.holds Tryd.pinned (OpenSpec.ofChange fnExactEntryProblemsSpec)

/-- ITS FALSE NEIGHBOUR: 'it returns false'. Refute it at one input. -/
def fnExactEntryProblemsWrong : ChangeSpec := { name := "fnExactEntryProblems", fn := fun _ => fun
  | [d1, d2] => { results := [.lit (.bool false)], args := [d1, d2] }
  | _ => none }
def FnExactEntryProblemsWrongFalsely : Prop := fnExactEntryProblemsRow.holds Tryd.pinned (OpenSpec.ofChange fnExactEntryProblemsWrong)

/- THE SECOND FORM. 'bulk': how many values and letters a reading holds, each counted each time it is reached (what is shared counts as often as it is met; a slice's spare places count too). A statement '..UptoSaid' is the law's where the arguments, and the package variables that the reading takes, are together of bulk at most 1048576: NARROWER than '..Said'. Prove '..Said' where nothing that the law and all that it calls make is longer than what came in: it says more and counts as full. Else prove '..UptoSaid'. A law counts once. -/
mutual
def uptoBulk {H : Type} : DataW H → Nat
  | .lit (.string bytes) => bytes.length + 1
  | .lit _ => 1
  | .nil => 1
  | .ptr d => uptoBulk d + 1
  | .slice elems spare => uptoBulkAll elems + uptoBulkAll spare + 1
  | .agg parts => uptoBulkAll parts + 1
  | .iface _ d => uptoBulk d + 1
  | .map entries => uptoBulkEntries entries + 1
  | .held _ => 1
def uptoBulkAll {H : Type} : List (DataW H) → Nat
  | [] => 0
  | d :: r => uptoBulk d + uptoBulkAll r
def uptoBulkEntries {H : Type} : List (Lit × DataW H) → Nat
  | [] => 0
  | x :: r => uptoBulkEntry x + uptoBulkEntries r
def uptoBulkEntry {H : Type} : Lit × DataW H → Nat
  | (.string bytes, d) => bytes.length + uptoBulk d + 1
  | (_, d) => uptoBulk d + 1
 end
def uptoSmall : (H : Type) → List (DataW H) → Bool := fun _ ds => decide (uptoBulkAll ds ≤ 1048576)
def OpenSpec.upto (s : _root_.Go.ChangeSpec) : _root_.Go.OpenSpec := { _root_.Go.OpenSpec.ofChange s with cond := some uptoSmall }

/-- 'laws.FnExactGoneChains', WHERE WHAT IT READS IS OF BULK AT MOST 1048576: true; the input reads as it did. -/
def fnExactGoneChainsUptoRow : OpenClaim := { program := "ytbcdfcadcghghaadoor", sum := "647eceb264a135b202ae740998da7ea3c9cff5ce45574d5c59548281ce040685", func := "loop.example/g00899/laws.FnExactGoneChains", spec := "fnExactGoneChains", inPlace := ["internal/abi.NoEscape", "internal/bytealg.MakeNoZero", "internal/bytealg.IndexByteString", "internal/bytealg.IndexString"], named := ["unicode/utf8.first", "unicode/utf8.acceptRanges", "internal/bytealg.MaxLen"], apart := false, laid := [("unicode/utf8.acceptRanges", laid_unicode_utf8_acceptRanges), ("unicode/utf8.first", laid_unicode_utf8_first)], narrowed := true }
def FnExactGoneChainsUptoSaid : Prop := fnExactGoneChainsUptoRow.holds Tryd.pinned (OpenSpec.upto fnExactGoneChainsSpec)

/-- 'laws.FnExactOwnersOf', WHERE WHAT IT READS IS OF BULK AT MOST 1048576: true; the input reads as it did. -/
def fnExactOwnersOfUptoRow : OpenClaim := { program := "ytbcdfcadcghghaadoor", sum := "647eceb264a135b202ae740998da7ea3c9cff5ce45574d5c59548281ce040685", func := "loop.example/g00899/laws.FnExactOwnersOf", spec := "fnExactOwnersOf", inPlace := ["internal/abi.NoEscape", "internal/bytealg.MakeNoZero", "internal/bytealg.IndexByteString", "internal/bytealg.IndexString"], named := ["unicode/utf8.first", "unicode/utf8.acceptRanges", "internal/bytealg.MaxLen"], apart := false, laid := [("unicode/utf8.acceptRanges", laid_unicode_utf8_acceptRanges), ("unicode/utf8.first", laid_unicode_utf8_first)], narrowed := true }
def FnExactOwnersOfUptoSaid : Prop := fnExactOwnersOfUptoRow.holds Tryd.pinned (OpenSpec.upto fnExactOwnersOfSpec)

/-- 'laws.FnExactLostBlocks', WHERE WHAT IT READS IS OF BULK AT MOST 1048576: true; the input reads as it did. -/
def fnExactLostBlocksUptoRow : OpenClaim := { program := "ytbcdfcadcghghaadoor", sum := "647eceb264a135b202ae740998da7ea3c9cff5ce45574d5c59548281ce040685", func := "loop.example/g00899/laws.FnExactLostBlocks", spec := "fnExactLostBlocks", inPlace := ["internal/abi.NoEscape", "internal/bytealg.MakeNoZero", "internal/bytealg.IndexByteString", "internal/bytealg.IndexString"], named := ["unicode/utf8.first", "unicode/utf8.acceptRanges", "internal/bytealg.MaxLen"], apart := false, laid := [("unicode/utf8.acceptRanges", laid_unicode_utf8_acceptRanges), ("unicode/utf8.first", laid_unicode_utf8_first)], narrowed := true }
def FnExactLostBlocksUptoSaid : Prop := fnExactLostBlocksUptoRow.holds Tryd.pinned (OpenSpec.upto fnExactLostBlocksSpec)

/-- 'laws.FnExactWalksOf', WHERE WHAT IT READS IS OF BULK AT MOST 1048576: true; the input reads as it did. -/
def fnExactWalksOfUptoRow : OpenClaim := { program := "ytbcdfcadcghghaadoor", sum := "647eceb264a135b202ae740998da7ea3c9cff5ce45574d5c59548281ce040685", func := "loop.example/g00899/laws.FnExactWalksOf", spec := "fnExactWalksOf", inPlace := ["internal/abi.NoEscape", "internal/bytealg.MakeNoZero", "internal/bytealg.IndexByteString", "internal/bytealg.IndexString"], named := ["unicode/utf8.first", "unicode/utf8.acceptRanges", "internal/bytealg.MaxLen"], apart := false, laid := [("unicode/utf8.acceptRanges", laid_unicode_utf8_acceptRanges), ("unicode/utf8.first", laid_unicode_utf8_first)], narrowed := true }
def FnExactWalksOfUptoSaid : Prop := fnExactWalksOfUptoRow.holds Tryd.pinned (OpenSpec.upto fnExactWalksOfSpec)

/-- 'laws.FnExactReadChain', WHERE WHAT IT READS IS OF BULK AT MOST 1048576: true; the input reads as it did. -/
def fnExactReadChainUptoRow : OpenClaim := { program := "ytbcdfcadcghghaadoor", sum := "647eceb264a135b202ae740998da7ea3c9cff5ce45574d5c59548281ce040685", func := "loop.example/g00899/laws.FnExactReadChain", spec := "fnExactReadChain", inPlace := ["internal/abi.NoEscape", "internal/bytealg.MakeNoZero", "internal/bytealg.IndexByteString", "internal/bytealg.IndexString"], named := ["unicode/utf8.first", "unicode/utf8.acceptRanges", "internal/bytealg.MaxLen"], apart := false, laid := [("unicode/utf8.acceptRanges", laid_unicode_utf8_acceptRanges), ("unicode/utf8.first", laid_unicode_utf8_first)], narrowed := true }
def FnExactReadChainUptoSaid : Prop := fnExactReadChainUptoRow.holds Tryd.pinned (OpenSpec.upto fnExactReadChainSpec)

/-- 'laws.FnExactDeleteChain', WHERE WHAT IT READS IS OF BULK AT MOST 1048576: true; the input reads as it did. -/
def fnExactDeleteChainUptoRow : OpenClaim := { program := "ytbcdfcadcghghaadoor", sum := "647eceb264a135b202ae740998da7ea3c9cff5ce45574d5c59548281ce040685", func := "loop.example/g00899/laws.FnExactDeleteChain", spec := "fnExactDeleteChain", inPlace := ["internal/abi.NoEscape", "internal/bytealg.MakeNoZero", "internal/bytealg.IndexByteString", "internal/bytealg.IndexString"], unfollowed := true, recurses := true, named := ["unicode/utf8.first", "unicode/utf8.acceptRanges", "internal/bytealg.MaxLen"], apart := false, laid := [("unicode/utf8.acceptRanges", laid_unicode_utf8_acceptRanges), ("unicode/utf8.first", laid_unicode_utf8_first)], narrowed := true }
def FnExactDeleteChainUptoSaid : Prop := fnExactDeleteChainUptoRow.holds Tryd.pinned (OpenSpec.upto fnExactDeleteChainSpec)

/-- 'laws.FnExactEntryProblems', WHERE WHAT IT READS IS OF BULK AT MOST 1048576: true; the input reads as it did. -/
def fnExactEntryProblemsUptoRow : OpenClaim := { program := "ytbcdfcadcghghaadoor", sum := "647eceb264a135b202ae740998da7ea3c9cff5ce45574d5c59548281ce040685", func := "loop.example/g00899/laws.FnExactEntryProblems", spec := "fnExactEntryProblems", inPlace := ["internal/abi.NoEscape", "internal/bytealg.MakeNoZero", "internal/bytealg.IndexByteString", "internal/bytealg.IndexString"], named := ["unicode/utf8.first", "unicode/utf8.acceptRanges", "internal/bytealg.MaxLen"], apart := false, laid := [("unicode/utf8.acceptRanges", laid_unicode_utf8_acceptRanges), ("unicode/utf8.first", laid_unicode_utf8_first)], narrowed := true }
def FnExactEntryProblemsUptoSaid : Prop := fnExactEntryProblemsUptoRow.holds Tryd.pinned (OpenSpec.upto fnExactEntryProblemsSpec)

end Rows
end Go.Proofs.YtbcdfcadcghghaaDoor
