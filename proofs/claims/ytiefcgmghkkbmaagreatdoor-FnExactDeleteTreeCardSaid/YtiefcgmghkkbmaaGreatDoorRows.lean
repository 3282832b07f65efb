/-
  NARROWER THAN 'FOR EVERY INPUT', by the rows' own cells (each row's printed sentence says how): FnExactReadTree: laid · FnExactMendTree: laid · FnExactTreePaths: laid · FnExactDeleteTree: laid · FnExactWriteTree: laid · FnExactListTree: laid.
  DERIVED. THE GIVEN ROWS OF THIS SEAT. 6 by the template 'for every input the law returns true; each argument reads behind the call as it read before'; 0 by the template 'total and deterministic' (their statements: YtiefcgmghkkbmaaGreatDoorTotals.lean).
  GIVEN WITH THE SEED: the statements are not yours to turn. If you find one false, say at which input.
  Laid BY PROGRAM, IN A SANDBOX (cutbox-rows.mjs): the forced cells as the released guide's own fill.sh prints them over the translation a91444ac8e09a6b7… (all of the seat's roots in one cut). By AI agents, Wed Nov 11 2026. No macro, syntax, notation, axiom, sorry.
-/
import Derived.Test.YtiefcgmghkkbmaaGreatDoorChecked
import GoSem.PinnedTables
import GoSem.Claim
import GoSem.ClaimJoined
import GoSem.ClaimMapViews
import Derived.JoinedTies
import Derived.KernelRfl
namespace Go.Proofs.YtiefcgmghkkbmaaGreatDoor
/- THE CELL 'sum', in the pinned program and in every row, IS THE sha256 OF THE DUMP (.gsa) THAT YtiefcgmghkkbmaaGreatDoorProg.lean LOADS. Nothing in Lean hashes anything: it is a label: what it is worth is what the hold of that sum in a sandbox is worth. -/
noncomputable def Tryz.pinned : Pinned := { name := "ytiefcgmghkkbmaagreatdoor", sum := "a91444ac8e09a6b782a1856658c43bebd5b27a528f3e5a6fca7a85ec9358f045", checked := Tryz.checked }
namespace Rows
def none {H : Type} : Left H := { results := [], args := [] }

/- WHAT THE LISTED PACKAGE-LEVEL VARIABLES READ AS WHEN THE CALL BEGINS. Each datum BY PROGRAM (the guide's laid-datum.mjs) off the statement by which the dump's own 'gosem.cut.vars' lays the variable. In a bare row this is a premise. The card (YtiefcgmghkkbmaaGreatDoorCards.lean) ties it to the program's text. -/
def laid_unicode_utf8_acceptRanges {H : Type} : DataW H := .agg [.agg [.lit (.int .u8 128), .lit (.int .u8 191)], .agg [.lit (.int .u8 160), .lit (.int .u8 191)], .agg [.lit (.int .u8 128), .lit (.int .u8 159)], .agg [.lit (.int .u8 144), .lit (.int .u8 191)], .agg [.lit (.int .u8 128), .lit (.int .u8 143)], .agg [.lit (.int .u8 0), .lit (.int .u8 0)], .agg [.lit (.int .u8 0), .lit (.int .u8 0)], .agg [.lit (.int .u8 0), .lit (.int .u8 0)], .agg [.lit (.int .u8 0), .lit (.int .u8 0)], .agg [.lit (.int .u8 0), .lit (.int .u8 0)], .agg [.lit (.int .u8 0), .lit (.int .u8 0)], .agg [.lit (.int .u8 0), .lit (.int .u8 0)], .agg [.lit (.int .u8 0), .lit (.int .u8 0)], .agg [.lit (.int .u8 0), .lit (.int .u8 0)], .agg [.lit (.int .u8 0), .lit (.int .u8 0)], .agg [.lit (.int .u8 0), .lit (.int .u8 0)]]
/-- One of Go's own tables, pinned by name: the form's constant. -/
def laid_unicode_utf8_first : DataW Unit := Go.Pinned.utf8First

/-- 'laws.FnExactReadTree': WHATEVER THE INPUT: true; the input reads as it did. -/
def fnExactReadTreeSpec : ChangeSpec := { name := "fnExactReadTree", fn := fun _ => fun
  | [d1, d2] => { results := [.lit (.bool true)], args := [d1, d2] }
  | _ => none }
def fnExactReadTreeRow : OpenClaim := { program := "ytiefcgmghkkbmaagreatdoor", sum := "a91444ac8e09a6b782a1856658c43bebd5b27a528f3e5a6fca7a85ec9358f045", func := "loop.example/g00899/laws.FnExactReadTree", spec := "fnExactReadTree", inPlace := ["internal/bytealg.CountString", "internal/bytealg.IndexByteString", "internal/bytealg.IndexString", "internal/abi.NoEscape", "internal/bytealg.MakeNoZero"], unfollowed := true, recurses := true, named := ["unicode/utf8.first", "unicode/utf8.acceptRanges", "internal/bytealg.MaxLen"], apart := false, laid := [("unicode/utf8.acceptRanges", laid_unicode_utf8_acceptRanges), ("unicode/utf8.first", laid_unicode_utf8_first)] }
def FnExactReadTreeSaid : Prop := fnExactReadTreeRow.holds Tryz.pinned (OpenSpec.ofChange fnExactReadTreeSpec)

/-- ITS FALSE NEIGHBOUR: 'it returns false'. Refute it at one input. -/
def fnExactReadTreeWrong : ChangeSpec := { name := "fnExactReadTree", fn := fun _ => fun
  | [d1, d2] => { results := [.lit (.bool false)], args := [d1, d2] }
  | _ => none }
def FnExactReadTreeWrongFalsely : Prop := fnExactReadTreeRow.holds Tryz.pinned (OpenSpec.ofChange fnExactReadTreeWrong)

/-- 'laws.FnExactMendTree': WHATEVER THE INPUT: true; the input reads as it did. -/
def fnExactMendTreeSpec : ChangeSpec := { name := "fnExactMendTree", fn := fun _ => fun
  | [d] => { results := [.lit (.bool true)], args := [d] }
  | _ => none }
def fnExactMendTreeRow : OpenClaim := { program := "ytiefcgmghkkbmaagreatdoor", sum := "a91444ac8e09a6b782a1856658c43bebd5b27a528f3e5a6fca7a85ec9358f045", func := "loop.example/g00899/laws.FnExactMendTree", spec := "fnExactMendTree", inPlace := ["internal/abi.NoEscape", "internal/bytealg.MakeNoZero", "internal/bytealg.IndexByteString", "internal/bytealg.IndexString"], unfollowed := true, recurses := true, named := ["unicode/utf8.first", "unicode/utf8.acceptRanges", "internal/bytealg.MaxLen"], apart := false, laid := [("unicode/utf8.acceptRanges", laid_unicode_utf8_acceptRanges), ("unicode/utf8.first", laid_unicode_utf8_first)] }
def FnExactMendTreeSaid : Prop := fnExactMendTreeRow.holds Tryz.pinned (OpenSpec.ofChange fnExactMendTreeSpec)

/-- ITS FALSE NEIGHBOUR: 'it returns false'. Refute it at one input. -/
def fnExactMendTreeWrong : ChangeSpec := { name := "fnExactMendTree", fn := fun _ => fun
  | [d] => { results := [.lit (.bool false)], args := [d] }
  | _ => none }
def FnExactMendTreeWrongFalsely : Prop := fnExactMendTreeRow.holds Tryz.pinned (OpenSpec.ofChange fnExactMendTreeWrong)

/-- 'laws.FnExactTreePaths': WHATEVER THE INPUT: true; the input reads as it did. -/
def fnExactTreePathsSpec : ChangeSpec := { name := "fnExactTreePaths", fn := fun _ => fun
  | [d] => { results := [.lit (.bool true)], args := [d] }
  | _ => none }
def fnExactTreePathsRow : OpenClaim := { program := "ytiefcgmghkkbmaagreatdoor", sum := "a91444ac8e09a6b782a1856658c43bebd5b27a528f3e5a6fca7a85ec9358f045", func := "loop.example/g00899/laws.FnExactTreePaths", spec := "fnExactTreePaths", inPlace := ["internal/abi.NoEscape", "internal/bytealg.MakeNoZero", "internal/bytealg.IndexByteString", "internal/bytealg.IndexString"], unfollowed := true, recurses := true, named := ["unicode/utf8.first", "unicode/utf8.acceptRanges", "internal/bytealg.MaxLen"], apart := false, laid := [("unicode/utf8.acceptRanges", laid_unicode_utf8_acceptRanges), ("unicode/utf8.first", laid_unicode_utf8_first)] }
def FnExactTreePathsSaid : Prop := fnExactTreePathsRow.holds Tryz.pinned (OpenSpec.ofChange fnExactTreePathsSpec)

/-- ITS FALSE NEIGHBOUR: 'it returns false'. Refute it at one input. -/
def fnExactTreePathsWrong : ChangeSpec := { name := "fnExactTreePaths", fn := fun _ => fun
  | [d] => { results := [.lit (.bool false)], args := [d] }
  | _ => none }
def FnExactTreePathsWrongFalsely : Prop := fnExactTreePathsRow.holds Tryz.pinned (OpenSpec.ofChange fnExactTreePathsWrong)

/-- 'laws.FnExactDeleteTree': WHATEVER THE INPUT: true; the input reads as it did. -/
def fnExactDeleteTreeSpec : ChangeSpec := { name := "fnExactDeleteTree", fn := fun _ => fun
  | [d1, d2] => { results := [.lit (.bool true)], args := [d1, d2] }
  | _ => none }
def fnExactDeleteTreeRow : OpenClaim := { program := "ytiefcgmghkkbmaagreatdoor", sum := "a91444ac8e09a6b782a1856658c43bebd5b27a528f3e5a6fca7a85ec9358f045", func := "loop.example/g00899/laws.FnExactDeleteTree", spec := "fnExactDeleteTree", inPlace := ["internal/bytealg.CountString", "internal/bytealg.IndexByteString", "internal/bytealg.IndexString", "internal/abi.NoEscape", "internal/bytealg.MakeNoZero"], unfollowed := true, recurses := true, named := ["unicode/utf8.first", "unicode/utf8.acceptRanges", "internal/bytealg.MaxLen"], apart := false, laid := [("unicode/utf8.acceptRanges", laid_unicode_utf8_acceptRanges), ("unicode/utf8.first", laid_unicode_utf8_first)] }
def FnExactDeleteTreeSaid : Prop := fnExactDeleteTreeRow.holds Tryz.pinned (OpenSpec.ofChange fnExactDeleteTreeSpec)

/-- ITS FALSE NEIGHBOUR: 'it returns false'. Refute it at one input. -/
def fnExactDeleteTreeWrong : ChangeSpec := { name := "fnExactDeleteTree", fn := fun _ => fun
  | [d1, d2] => { results := [.lit (.bool false)], args := [d1, d2] }
  | _ => none }
def FnExactDeleteTreeWrongFalsely : Prop := fnExactDeleteTreeRow.holds Tryz.pinned (OpenSpec.ofChange fnExactDeleteTreeWrong)

/-- 'laws.FnExactWriteTree': WHATEVER THE INPUT: true; the input reads as it did. -/
def fnExactWriteTreeSpec : ChangeSpec := { name := "fnExactWriteTree", fn := fun _ => fun
  | [d1, d2, d3] => { results := [.lit (.bool true)], args := [d1, d2, d3] }
  | _ => none }
def fnExactWriteTreeRow : OpenClaim := { program := "ytiefcgmghkkbmaagreatdoor", sum := "a91444ac8e09a6b782a1856658c43bebd5b27a528f3e5a6fca7a85ec9358f045", func := "loop.example/g00899/laws.FnExactWriteTree", spec := "fnExactWriteTree", inPlace := ["internal/bytealg.CountString", "internal/bytealg.IndexByteString", "internal/bytealg.IndexString", "internal/abi.NoEscape", "internal/bytealg.MakeNoZero"], unfollowed := true, recurses := true, named := ["unicode/utf8.first", "unicode/utf8.acceptRanges", "internal/bytealg.MaxLen"], apart := false, laid := [("unicode/utf8.acceptRanges", laid_unicode_utf8_acceptRanges), ("unicode/utf8.first", laid_unicode_utf8_first)] }
def FnExactWriteTreeSaid : Prop := fnExactWriteTreeRow.holds Tryz.pinned (OpenSpec.ofChange fnExactWriteTreeSpec)

/-- ITS FALSE NEIGHBOUR: 'it returns false'. Refute it at one input. -/
def fnExactWriteTreeWrong : ChangeSpec := { name := "fnExactWriteTree", fn := fun _ => fun
  | [d1, d2, d3] => { results := [.lit (.bool false)], args := [d1, d2, d3] }
  | _ => none }
def FnExactWriteTreeWrongFalsely : Prop := fnExactWriteTreeRow.holds Tryz.pinned (OpenSpec.ofChange fnExactWriteTreeWrong)

/-- 'laws.FnExactListTree': WHATEVER THE INPUT: true; the input reads as it did. -/
def fnExactListTreeSpec : ChangeSpec := { name := "fnExactListTree", fn := fun _ => fun
  | [d1, d2] => { results := [.lit (.bool true)], args := [d1, d2] }
  | _ => none }
def fnExactListTreeRow : OpenClaim := { program := "ytiefcgmghkkbmaagreatdoor", sum := "a91444ac8e09a6b782a1856658c43bebd5b27a528f3e5a6fca7a85ec9358f045", func := "loop.example/g00899/laws.FnExactListTree", spec := "fnExactListTree", inPlace := ["internal/bytealg.CountString", "internal/bytealg.IndexByteString", "internal/bytealg.IndexString", "internal/abi.NoEscape", "internal/bytealg.MakeNoZero"], unfollowed := true, recurses := true, named := ["unicode/utf8.first", "unicode/utf8.acceptRanges", "internal/bytealg.MaxLen"], apart := false, laid := [("unicode/utf8.acceptRanges", laid_unicode_utf8_acceptRanges), ("unicode/utf8.first", laid_unicode_utf8_first)] }
def FnExactListTreeSaid : Prop := fnExactListTreeRow.holds Tryz.pinned (OpenSpec.ofChange fnExactListTreeSpec)

/-- ITS FALSE NEIGHBOUR: 'it returns false'. Refute it at one input. -/
def fnExactListTreeWrong : ChangeSpec := { name := "fnExactListTree", fn := fun _ => fun
  | [d1, d2] => { results := [.lit (.bool false)], args := [d1, d2] }
  | _ => none }
def FnExactListTreeWrongFalsely : Prop := fnExactListTreeRow.holds Tryz.pinned (OpenSpec.ofChange fnExactListTreeWrong)

/- THE SECOND FORM. 'bulk': how many values and letters a reading holds, each counted each time it is reached (what is shared counts as often as it is met; a slice's spare places count too). A statement '..UptoSaid' is the law's where the arguments, and the package variables that the reading takes, are together of bulk at most 1048576: NARROWER than '..Said'. Prove '..Said' where nothing that the law and all that it calls make is longer than what came in: it says more and counts as full. Else prove '..UptoSaid'. A law counts once. -/
mutual
def uptoBulk {H : Type} : DataW H → Nat
  | .lit (.string bytes) => bytes.length + 1
  | .lit _ => 1
  | .nil => 1
  | .ptr d => uptoBulk d + 1
  | .slice elems spare => uptoBulkAll elems + uptoBulkAll spare + 1
  | .agg parts => uptoBulkAll parts + 1
  | .iface _ d => uptoBulk d + 1
  | .map entries => uptoBulkEntries entries + 1
  | .held _ => 1
def uptoBulkAll {H : Type} : List (DataW H) → Nat
  | [] => 0
  | d :: r => uptoBulk d + uptoBulkAll r
def uptoBulkEntries {H : Type} : List (Lit × DataW H) → Nat
  | [] => 0
  | x :: r => uptoBulkEntry x + uptoBulkEntries r
def uptoBulkEntry {H : Type} : Lit × DataW H → Nat
  | (.string bytes, d) => bytes.length + uptoBulk d + 1
  | (_, d) => uptoBulk d + 1
 end
def uptoSmall : (H : Type) → List (DataW H) → Bool := fun _ ds => decide (uptoBulkAll ds ≤ 1048576)
def OpenSpec.upto (s : _root_.Go.ChangeSpec) : _root_.Go.OpenSpec := { _root_.Go.OpenSpec.ofChange s with cond := some uptoSmall }

/-- 'laws.FnExactReadTree', WHERE WHAT IT READS IS OF BULK AT MOST 1048576: true; the input reads as it did. -/
def fnExactReadTreeUptoRow : OpenClaim := { program := "ytiefcgmghkkbmaagreatdoor", sum := "a91444ac8e09a6b782a1856658c43bebd5b27a528f3e5a6fca7a85ec9358f045", func := "loop.example/g00899/laws.FnExactReadTree", spec := "fnExactReadTree", inPlace := ["internal/bytealg.CountString", "internal/bytealg.IndexByteString", "internal/bytealg.IndexString", "internal/abi.NoEscape", "internal/bytealg.MakeNoZero"], unfollowed := true, recurses := true, named := ["unicode/utf8.first", "unicode/utf8.acceptRanges", "internal/bytealg.MaxLen"], apart := false, laid := [("unicode/utf8.acceptRanges", laid_unicode_utf8_acceptRanges), ("unicode/utf8.first", laid_unicode_utf8_first)], narrowed := true }
def FnExactReadTreeUptoSaid : Prop := fnExactReadTreeUptoRow.holds Tryz.pinned (OpenSpec.upto fnExactReadTreeSpec)

/-- 'laws.FnExactMendTree', WHERE WHAT IT READS IS OF BULK AT MOST 1048576: true; the input reads as it did. -/
def fnExactMendTreeUptoRow : OpenClaim := { program := "ytiefcgmghkkbmaagreatdoor", sum := "a91444ac8e09a6b782a1856658c43bebd5b27a528f3e5a6fca7a85ec9358f045", func := "loop.example/g00899/laws.FnExactMendTree", spec := "fnExactMendTree", inPlace := ["internal/abi.NoEscape", "internal/bytealg.MakeNoZero", "internal/bytealg.IndexByteString", "internal/bytealg.IndexString"], unfollowed := true, recurses := true, named := ["unicode/utf8.first", "unicode/utf8.acceptRanges", "internal/bytealg.MaxLen"], apart := false, laid := [("unicode/utf8.acceptRanges", laid_unicode_utf8_acceptRanges), ("unicode/utf8.first", laid_unicode_utf8_first)], narrowed := true }
def FnExactMendTreeUptoSaid : Prop := fnExactMendTreeUptoRow.holds Tryz.pinned (OpenSpec.upto fnExactMendTreeSpec)

/-- 'laws.FnExactTreePaths', WHERE WHAT IT READS IS OF BULK AT MOST 1048576: true; the input reads as it did. -/
def fnExactTreePathsUptoRow : OpenClaim := { program := "ytiefcgmghkkbmaagreatdoor", sum := "a91444ac8e09a6b782a1856658c43bebd5b27a528f3e5a6fca7a85ec9358f045", func := "loop.example/g00899/laws.FnExactTreePaths", spec := "fnExactTreePaths", inPlace := ["internal/abi.NoEscape", "internal/bytealg.MakeNoZero", "internal/bytealg.IndexByteString", "internal/bytealg.IndexString"], unfollowed := true, recurses := true, named := ["unicode/utf8.first", "unicode/utf8.acceptRanges", "internal/bytealg.MaxLen"], apart := false, laid := [("unicode/utf8.acceptRanges", laid_unicode_utf8_acceptRanges), ("unicode/utf8.first", laid_unicode_utf8_first)], narrowed := true }
def FnExactTreePathsUptoSaid : Prop := fnExactTreePathsUptoRow.holds Tryz.pinned (OpenSpec.upto fnExactTreePathsSpec)

/-- 'laws.FnExactDeleteTree', WHERE WHAT IT READS IS OF BULK AT MOST 1048576: true; the input reads as it did. -/
def fnExactDeleteTreeUptoRow : OpenClaim := { program := "ytiefcgmghkkbmaagreatdoor", sum := "a91444ac8e09a6b782a1856658c43bebd5b27a528f3e5a6fca7a85ec9358f045", func := "loop.example/g00899/laws.FnExactDeleteTree", spec := "fnExactDeleteTree", inPlace := ["internal/bytealg.CountString", "internal/bytealg.IndexByteString", "internal/bytealg.IndexString", "internal/abi.NoEscape", "internal/bytealg.MakeNoZero"], unfollowed := true, recurses := true, named := ["unicode/utf8.first", "unicode/utf8.acceptRanges", "internal/bytealg.MaxLen"], apart := false, laid := [("unicode/utf8.acceptRanges", laid_unicode_utf8_acceptRanges), ("unicode/utf8.first", laid_unicode_utf8_first)], narrowed := true }
def FnExactDeleteTreeUptoSaid : Prop := fnExactDeleteTreeUptoRow.holds Tryz.pinned (OpenSpec.upto fnExactDeleteTreeSpec)

/-- 'laws.FnExactWriteTree', WHERE WHAT IT READS IS OF BULK AT MOST 1048576: true; the input reads as it did. -/
def fnExactWriteTreeUptoRow : OpenClaim := { program := "ytiefcgmghkkbmaagreatdoor", sum := "a91444ac8e09a6b782a1856658c43bebd5b27a528f3e5a6fca7a85ec9358f045", func := "loop.example/g00899/laws.FnExactWriteTree", spec := "fnExactWriteTree", inPlace := ["internal/bytealg.CountString", "internal/bytealg.IndexByteString", "internal/bytealg.IndexString", "internal/abi.NoEscape", "internal/bytealg.MakeNoZero"], unfollowed := true, recurses := true, named := ["unicode/utf8.first", "unicode/utf8.acceptRanges", "internal/bytealg.MaxLen"], apart := false, laid := [("unicode/utf8.acceptRanges", laid_unicode_utf8_acceptRanges), ("unicode/utf8.first", laid_unicode_utf8_first)], narrowed := true }
def FnExactWriteTreeUptoSaid : Prop := fnExactWriteTreeUptoRow.holds Tryz.pinned (OpenSpec.upto fnExactWriteTreeSpec)

/-- 'laws.FnExactListTree', WHERE WHAT IT READS IS OF BULK AT MOST 1048576: true; the input reads as it did. -/
def fnExactListTreeUptoRow : OpenClaim := { program := "ytiefcgmghkkbmaagreatdoor", sum := "a91444ac8e09a6b782a1856658c43bebd5b27a528f3e5a6fca7a85ec9358f045", func := "loop.example/g00899/laws.FnExactListTree", spec := "fnExactListTree", inPlace := ["internal/bytealg.CountString", "internal/bytealg.IndexByteString", "internal/bytealg.IndexString", "internal/abi.NoEscape", "internal/bytealg.MakeNoZero"], unfollowed := true, recurses := true, named := ["unicode/utf8.first", "unicode/utf8.acceptRanges", "internal/bytealg.MaxLen"], apart := false, laid := [("unicode/utf8.acceptRanges", laid_unicode_utf8_acceptRanges), ("unicode/utf8.first", laid_unicode_utf8_first)], narrowed := true }
def FnExactListTreeUptoSaid : Prop := fnExactListTreeUptoRow.holds Tryz.pinned (OpenSpec.upto fnExactListTreeSpec)

end Rows
end Go.Proofs.YtiefcgmghkkbmaaGreatDoor
