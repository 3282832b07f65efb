/-
  NARROWER THAN 'FOR EVERY INPUT', by the rows' own cells (each row's printed sentence says how): FnExactFreeExtents: laid · FnExactDeleteExtents: laid · FnExactExtentProblems: laid · FnExactReadExtents: laid · FnExactGoneExtents: laid.
  DERIVED. THE GIVEN ROWS OF THIS SEAT. 5 by the template 'for every input the law returns true; each argument reads behind the call as it read before'; 0 by the template 'total and deterministic' (their statements: YtmgcaiilocifbaaDoorTotals.lean).
  GIVEN WITH THE SEED: the statements are not yours to turn. If you find one false, say at which input.
  Laid BY PROGRAM, IN A SANDBOX (cutbox-rows.mjs): the forced cells as the released guide's own fill.sh prints them over the translation f900ce81aba5e0ee… (all of the seat's roots in one cut). By AI agents, Wed Nov 11 2026. No macro, syntax, notation, axiom, sorry.
-/
import Derived.Test.YtmgcaiilocifbaaDoorChecked
import GoSem.PinnedTables
import GoSem.Claim
import GoSem.ClaimJoined
import GoSem.ClaimMapViews
import Derived.JoinedTies
import Derived.KernelRfl
namespace Go.Proofs.YtmgcaiilocifbaaDoor
/- THE CELL 'sum', in the pinned program and in every row, IS THE sha256 OF THE DUMP (.gsa) THAT YtmgcaiilocifbaaDoorProg.lean LOADS. Nothing in Lean hashes anything: it is a label: what it is worth is what the hold of that sum in a sandbox is worth. -/
noncomputable def Tryd.pinned : Pinned := { name := "ytmgcaiilocifbaadoor", sum := "f900ce81aba5e0ee30e10e07c8e9a66b43ebd293b92ab334aa05a98b4a8134d7", checked := Tryd.checked }
namespace Rows
def none {H : Type} : Left H := { results := [], args := [] }

/- WHAT THE LISTED PACKAGE-LEVEL VARIABLES READ AS WHEN THE CALL BEGINS. Each datum BY PROGRAM (the guide's laid-datum.mjs) off the statement by which the dump's own 'gosem.cut.vars' lays the variable. In a bare row this is a premise. The card (YtmgcaiilocifbaaDoorCards.lean) ties it to the program's text. -/
def laid_unicode_utf8_acceptRanges {H : Type} : DataW H := .agg [.agg [.lit (.int .u8 128), .lit (.int .u8 191)], .agg [.lit (.int .u8 160), .lit (.int .u8 191)], .agg [.lit (.int .u8 128), .lit (.int .u8 159)], .agg [.lit (.int .u8 144), .lit (.int .u8 191)], .agg [.lit (.int .u8 128), .lit (.int .u8 143)], .agg [.lit (.int .u8 0), .lit (.int .u8 0)], .agg [.lit (.int .u8 0), .lit (.int .u8 0)], .agg [.lit (.int .u8 0), .lit (.int .u8 0)], .agg [.lit (.int .u8 0), .lit (.int .u8 0)], .agg [.lit (.int .u8 0), .lit (.int .u8 0)], .agg [.lit (.int .u8 0), .lit (.int .u8 0)], .agg [.lit (.int .u8 0), .lit (.int .u8 0)], .agg [.lit (.int .u8 0), .lit (.int .u8 0)], .agg [.lit (.int .u8 0), .lit (.int .u8 0)], .agg [.lit (.int .u8 0), .lit (.int .u8 0)], .agg [.lit (.int .u8 0), .lit (.int .u8 0)]]
/-- One of Go's own tables, pinned by name: the form's constant. -/
def laid_unicode_utf8_first : DataW Unit := Go.Pinned.utf8First

/-- 'laws.FnExactFreeExtents': WHATEVER THE INPUT: true; the input reads as it did. -/
def fnExactFreeExtentsSpec : ChangeSpec := { name := "fnExactFreeExtents", fn := fun _ => fun
  | [d] => { results := [.lit (.bool true)], args := [d] }
  | _ => none }
def fnExactFreeExtentsRow : OpenClaim := { program := "ytmgcaiilocifbaadoor", sum := "f900ce81aba5e0ee30e10e07c8e9a66b43ebd293b92ab334aa05a98b4a8134d7", func := "loop.example/g00899/laws.FnExactFreeExtents", spec := "fnExactFreeExtents", inPlace := ["internal/abi.NoEscape", "internal/bytealg.MakeNoZero", "internal/bytealg.IndexByteString", "internal/bytealg.IndexString"], unfollowed := true, recurses := true, named := ["unicode/utf8.first", "unicode/utf8.acceptRanges", "internal/bytealg.MaxLen"], apart := false, laid := [("unicode/utf8.acceptRanges", laid_unicode_utf8_acceptRanges), ("unicode/utf8.first", laid_unicode_utf8_first)] }
def FnExactFreeExtentsSaid : Prop := fnExactFreeExtentsRow.holds Tryd.pinned (OpenSpec.ofChange fnExactFreeExtentsSpec)

/-- ITS FALSE NEIGHBOUR: 'it returns false'. Refute it at one input. -/
def fnExactFreeExtentsWrong : ChangeSpec := { name := "fnExactFreeExtents", fn := fun _ => fun
  | [d] => { results := [.lit (.bool false)], args := [d] }
  | _ => none }
def FnExactFreeExtentsWrongFalsely : Prop := fnExactFreeExtentsRow.holds Tryd.pinned (OpenSpec.ofChange fnExactFreeExtentsWrong)

/-- 'laws.FnExactDeleteExtents': WHATEVER THE INPUT: true; the input reads as it did. -/
def fnExactDeleteExtentsSpec : ChangeSpec := { name := "fnExactDeleteExtents", fn := fun _ => fun
  | [d1, d2] => { results := [.lit (.bool true)], args := [d1, d2] }
  | _ => none }
def fnExactDeleteExtentsRow : OpenClaim := { program := "ytmgcaiilocifbaadoor", sum := "f900ce81aba5e0ee30e10e07c8e9a66b43ebd293b92ab334aa05a98b4a8134d7", func := "loop.example/g00899/laws.FnExactDeleteExtents", spec := "fnExactDeleteExtents", inPlace := ["internal/abi.NoEscape", "internal/bytealg.MakeNoZero", "internal/bytealg.IndexByteString", "internal/bytealg.IndexString"], unfollowed := true, recurses := true, named := ["unicode/utf8.first", "unicode/utf8.acceptRanges", "internal/bytealg.MaxLen"], apart := false, laid := [("unicode/utf8.acceptRanges", laid_unicode_utf8_acceptRanges), ("unicode/utf8.first", laid_unicode_utf8_first)] }
def FnExactDeleteExtentsSaid : Prop := fnExactDeleteExtentsRow.holds Tryd.pinned (OpenSpec.ofChange fnExactDeleteExtentsSpec)

/-- ITS FALSE NEIGHBOUR: 'it returns false'. Refute it at one input. -/
def fnExactDeleteExtentsWrong : ChangeSpec := { name := "fnExactDeleteExtents", fn := fun _ => fun
  | [d1, d2] => { results := [.lit (.bool false)], args := [d1, d2] }
  | _ => none }
def FnExactDeleteExtentsWrongFalsely : Prop := fnExactDeleteExtentsRow.holds Tryd.pinned (OpenSpec.ofChange fnExactDeleteExtentsWrong)

/-- 'laws.FnExactExtentProblems': WHATEVER THE INPUT: true; the input reads as it did. -/
def fnExactExtentProblemsSpec : ChangeSpec := { name := "fnExactExtentProblems", fn := fun _ => fun
  | [d] => { results := [.lit (.bool true)], args := [d] }
  | _ => none }
def fnExactExtentProblemsRow : OpenClaim := { program := "ytmgcaiilocifbaadoor", sum := "f900ce81aba5e0ee30e10e07c8e9a66b43ebd293b92ab334aa05a98b4a8134d7", func := "loop.example/g00899/laws.FnExactExtentProblems", spec := "fnExactExtentProblems", inPlace := ["internal/abi.NoEscape", "internal/bytealg.MakeNoZero", "internal/bytealg.IndexByteString", "internal/bytealg.IndexString"], unfollowed := true, recurses := true, named := ["unicode/utf8.first", "unicode/utf8.acceptRanges", "internal/bytealg.MaxLen"], apart := false, laid := [("unicode/utf8.acceptRanges", laid_unicode_utf8_acceptRanges), ("unicode/utf8.first", laid_unicode_utf8_first)] }
def FnExactExtentProblemsSaid : Prop := fnExactExtentProblemsRow.holds Tryd.pinned (OpenSpec.ofChange fnExactExtentProblemsSpec)

/-- ITS FALSE NEIGHBOUR: 'it returns false'. Refute it at one input. -/
def fnExactExtentProblemsWrong : ChangeSpec := { name := "fnExactExtentProblems", fn := fun _ => fun
  | [d] => { results := [.lit (.bool false)], args := [d] }
  | _ => none }
def FnExactExtentProblemsWrongFalsely : Prop := fnExactExtentProblemsRow.holds Tryd.pinned (OpenSpec.ofChange fnExactExtentProblemsWrong)

/-- 'laws.FnExactReadExtents': WHATEVER THE INPUT: true; the input reads as it did. -/
def fnExactReadExtentsSpec : ChangeSpec := { name := "fnExactReadExtents", fn := fun _ => fun
  | [d1, d2] => { results := [.lit (.bool true)], args := [d1, d2] }
  | _ => none }
def fnExactReadExtentsRow : OpenClaim := { program := "ytmgcaiilocifbaadoor", sum := "f900ce81aba5e0ee30e10e07c8e9a66b43ebd293b92ab334aa05a98b4a8134d7", func := "loop.example/g00899/laws.FnExactReadExtents", spec := "fnExactReadExtents", inPlace := ["internal/abi.NoEscape", "internal/bytealg.MakeNoZero", "internal/bytealg.IndexByteString", "internal/bytealg.IndexString"], unfollowed := true, recurses := true, named := ["unicode/utf8.first", "unicode/utf8.acceptRanges", "internal/bytealg.MaxLen"], apart := false, laid := [("unicode/utf8.acceptRanges", laid_unicode_utf8_acceptRanges), ("unicode/utf8.first", laid_unicode_utf8_first)] }
def FnExactReadExtentsSaid : Prop := fnExactReadExtentsRow.holds Tryd.pinned (OpenSpec.ofChange fnExactReadExtentsSpec)

/-- ITS FALSE NEIGHBOUR: 'it returns false'. Refute it at one input. -/
def fnExactReadExtentsWrong : ChangeSpec := { name := "fnExactReadExtents", fn := fun _ => fun
  | [d1, d2] => { results := [.lit (.bool false)], args := [d1, d2] }
  | _ => none }
def FnExactReadExtentsWrongFalsely : Prop := fnExactReadExtentsRow.holds Tryd.pinned (OpenSpec.ofChange fnExactReadExtentsWrong)

/-- 'laws.FnExactGoneExtents': WHATEVER THE INPUT: true; the input reads as it did. -/
def fnExactGoneExtentsSpec : ChangeSpec := { name := "fnExactGoneExtents", fn := fun _ => fun
  | [d] => { results := [.lit (.bool true)], args := [d] }
  | _ => none }
def fnExactGoneExtentsRow : OpenClaim := { program := "ytmgcaiilocifbaadoor", sum := "f900ce81aba5e0ee30e10e07c8e9a66b43ebd293b92ab334aa05a98b4a8134d7", func := "loop.example/g00899/laws.FnExactGoneExtents", spec := "fnExactGoneExtents", inPlace := ["internal/abi.NoEscape", "internal/bytealg.MakeNoZero", "internal/bytealg.IndexByteString", "internal/bytealg.IndexString"], unfollowed := true, recurses := true, named := ["unicode/utf8.first", "unicode/utf8.acceptRanges", "internal/bytealg.MaxLen"], apart := false, laid := [("unicode/utf8.acceptRanges", laid_unicode_utf8_acceptRanges), ("unicode/utf8.first", laid_unicode_utf8_first)] }
def FnExactGoneExtentsSaid : Prop := fnExactGoneExtentsRow.holds Tryd.pinned (OpenSpec.ofChange fnExactGoneExtentsSpec)

/-- ITS FALSE NEIGHBOUR: 'it returns false'. Refute it at one input. -/
def fnExactGoneExtentsWrong : ChangeSpec := { name := "fnExactGoneExtents", fn := fun _ => fun
  | [d] => { results := [.lit (.bool false)], args := [d] }
  | _ => none }
def FnExactGoneExtentsWrongFalsely : Prop := fnExactGoneExtentsRow.holds Tryd.pinned (OpenSpec.ofChange fnExactGoneExtentsWrong)

/- THE SECOND FORM. 'bulk': how many values and letters a reading holds, each counted each time it is reached (what is shared counts as often as it is met; a slice's spare places count too). A statement '..UptoSaid' is the law's where the arguments, and the package variables that the reading takes, are together of bulk at most 1048576: NARROWER than '..Said'. Prove '..Said' where nothing that the law and all that it calls make is longer than what came in: it says more and counts as full. Else prove '..UptoSaid'. A law counts once. -/
mutual
def uptoBulk {H : Type} : DataW H → Nat
  | .lit (.string bytes) => bytes.length + 1
  | .lit _ => 1
  | .nil => 1
  | .ptr d => uptoBulk d + 1
  | .slice elems spare => uptoBulkAll elems + uptoBulkAll spare + 1
  | .agg parts => uptoBulkAll parts + 1
  | .iface _ d => uptoBulk d + 1
  | .map entries => uptoBulkEntries entries + 1
  | .held _ => 1
def uptoBulkAll {H : Type} : List (DataW H) → Nat
  | [] => 0
  | d :: r => uptoBulk d + uptoBulkAll r
def uptoBulkEntries {H : Type} : List (Lit × DataW H) → Nat
  | [] => 0
  | x :: r => uptoBulkEntry x + uptoBulkEntries r
def uptoBulkEntry {H : Type} : Lit × DataW H → Nat
  | (.string bytes, d) => bytes.length + uptoBulk d + 1
  | (_, d) => uptoBulk d + 1
 end
def uptoSmall : (H : Type) → List (DataW H) → Bool := fun _ ds => decide (uptoBulkAll ds ≤ 1048576)
def OpenSpec.upto (s : _root_.Go.ChangeSpec) : _root_.Go.OpenSpec := { _root_.Go.OpenSpec.ofChange s with cond := some uptoSmall }

/-- 'laws.FnExactFreeExtents', WHERE WHAT IT READS IS OF BULK AT MOST 1048576: true; the input reads as it did. -/
def fnExactFreeExtentsUptoRow : OpenClaim := { program := "ytmgcaiilocifbaadoor", sum := "f900ce81aba5e0ee30e10e07c8e9a66b43ebd293b92ab334aa05a98b4a8134d7", func := "loop.example/g00899/laws.FnExactFreeExtents", spec := "fnExactFreeExtents", inPlace := ["internal/abi.NoEscape", "internal/bytealg.MakeNoZero", "internal/bytealg.IndexByteString", "internal/bytealg.IndexString"], unfollowed := true, recurses := true, named := ["unicode/utf8.first", "unicode/utf8.acceptRanges", "internal/bytealg.MaxLen"], apart := false, laid := [("unicode/utf8.acceptRanges", laid_unicode_utf8_acceptRanges), ("unicode/utf8.first", laid_unicode_utf8_first)], narrowed := true }
def FnExactFreeExtentsUptoSaid : Prop := fnExactFreeExtentsUptoRow.holds Tryd.pinned (OpenSpec.upto fnExactFreeExtentsSpec)

/-- 'laws.FnExactDeleteExtents', WHERE WHAT IT READS IS OF BULK AT MOST 1048576: true; the input reads as it did. -/
def fnExactDeleteExtentsUptoRow : OpenClaim := { program := "ytmgcaiilocifbaadoor", sum := "f900ce81aba5e0ee30e10e07c8e9a66b43ebd293b92ab334aa05a98b4a8134d7", func := "loop.example/g00899/laws.FnExactDeleteExtents", spec := "fnExactDeleteExtents", inPlace := ["internal/abi.NoEscape", "internal/bytealg.MakeNoZero", "internal/bytealg.IndexByteString", "internal/bytealg.IndexString"], unfollowed := true, recurses := true, named := ["unicode/utf8.first", "unicode/utf8.acceptRanges", "internal/bytealg.MaxLen"], apart := false, laid := [("unicode/utf8.acceptRanges", laid_unicode_utf8_acceptRanges), ("unicode/utf8.first", laid_unicode_utf8_first)], narrowed := true }
def FnExactDeleteExtentsUptoSaid : Prop := fnExactDeleteExtentsUptoRow.holds Tryd.pinned (OpenSpec.upto fnExactDeleteExtentsSpec)

/-- 'laws.FnExactExtentProblems', WHERE WHAT IT READS IS OF BULK AT MOST 1048576: true; the input reads as it did. -/
def fnExactExtentProblemsUptoRow : OpenClaim := { program := "ytmgcaiilocifbaadoor", sum := "f900ce81aba5e0ee30e10e07c8e9a66b43ebd293b92ab334aa05a98b4a8134d7", func := "loop.example/g00899/laws.FnExactExtentProblems", spec := "fnExactExtentProblems", inPlace := ["internal/abi.NoEscape", "internal/bytealg.MakeNoZero", "internal/bytealg.IndexByteString", "internal/bytealg.IndexString"], unfollowed := true, recurses := true, named := ["unicode/utf8.first", "unicode/utf8.acceptRanges", "internal/bytealg.MaxLen"], apart := false, laid := [("unicode/utf8.acceptRanges", laid_unicode_utf8_acceptRanges), ("unicode/utf8.first", laid_unicode_utf8_first)], narrowed := true }
def FnExactExtentProblemsUptoSaid : Prop := fnExactExtentProblemsUptoRow.holds Tryd.pinned (OpenSpec.upto fnExactExtentProblemsSpec)

/-- 'laws.FnExactReadExtents', WHERE WHAT IT READS IS OF BULK AT MOST 1048576: true; the input reads as it did. -/
def fnExactReadExtentsUptoRow : OpenClaim := { program := "ytmgcaiilocifbaadoor", sum := "f900ce81aba5e0ee30e10e07c8e9a66b43ebd293b92ab334aa05a98b4a8134d7", func := "loop.example/g00899/laws.FnExactReadExtents", spec := "fnExactReadExtents", inPlace := ["internal/abi.NoEscape", "internal/bytealg.MakeNoZero", "internal/bytealg.IndexByteString", "internal/bytealg.IndexString"], unfollowed := true, recurses := true, named := ["unicode/utf8.first", "unicode/utf8.acceptRanges", "internal/bytealg.MaxLen"], apart := false, laid := [("unicode/utf8.acceptRanges", laid_unicode_utf8_acceptRanges), ("unicode/utf8.first", laid_unicode_utf8_first)], narrowed := true }
def FnExactReadExtentsUptoSaid : Prop := fnExactReadExtentsUptoRow.holds Tryd.pinned (OpenSpec.upto fnExactReadExtentsSpec)

/-- 'laws.FnExactGoneExtents', WHERE WHAT IT READS IS OF BULK AT MOST 1048576: true; the input reads as it did. -/
def fnExactGoneExtentsUptoRow : OpenClaim := { program := "ytmgcaiilocifbaadoor", sum := "f900ce81aba5e0ee30e10e07c8e9a66b43ebd293b92ab334aa05a98b4a8134d7", func := "loop.example/g00899/laws.FnExactGoneExtents", spec := "fnExactGoneExtents", inPlace := ["internal/abi.NoEscape", "internal/bytealg.MakeNoZero", "internal/bytealg.IndexByteString", "internal/bytealg.IndexString"], unfollowed := true, recurses := true, named := ["unicode/utf8.first", "unicode/utf8.acceptRanges", "internal/bytealg.MaxLen"], apart := false, laid := [("unicode/utf8.acceptRanges", laid_unicode_utf8_acceptRanges), ("unicode/utf8.first", laid_unicode_utf8_first)], narrowed := true }
def FnExactGoneExtentsUptoSaid : Prop := fnExactGoneExtentsUptoRow.holds Tryd.pinned (OpenSpec.upto fnExactGoneExtentsSpec)

end Rows
end Go.Proofs.YtmgcaiilocifbaaDoor
