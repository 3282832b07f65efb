/-
  No cell of these rows narrows 'for every input' (looked for: loops, veiled, ifaces, maps, wideKeys, modest, calm, conditions, laid).
  DERIVED. THE GIVEN ROWS OF THIS SEAT. 3 by the template 'for every input the law returns true; each argument reads behind the call as it read before'; 0 by the template 'total and deterministic' (their statements: YtpklhedcjpfgdaaTotals.lean).
  GIVEN WITH THE SEED: the statements are not yours to turn. If you find one false, say at which input.
  Laid BY PROGRAM, IN A SANDBOX (cutbox-rows.mjs): the forced cells as the released guide's own fill.sh prints them over the translation 9515d268ba7bea8d… (all of the seat's roots in one cut). By AI agents, Wed Nov 11 2026. No macro, syntax, notation, axiom, sorry.
-/
import Derived.Test.YtpklhedcjpfgdaaChecked
import GoSem.Claim
import GoSem.ClaimJoined
import GoSem.ClaimMapViews
import Derived.JoinedTies
import Derived.KernelRfl
namespace Go.Proofs.Ytpklhedcjpfgdaa
/- THE CELL 'sum', in the pinned program and in every row, IS THE sha256 OF THE DUMP (.gsa) THAT YtpklhedcjpfgdaaProg.lean LOADS. Nothing in Lean hashes anything: it is a label: what it is worth is what the hold of that sum in a sandbox is worth. -/
noncomputable def Try.pinned : Pinned := { name := "ytpklhedcjpfgdaa", sum := "9515d268ba7bea8d4f8162fbdecf00a6e2e5103b31d0bd90316602caffc99a7f", checked := Try.checked }
namespace Rows
def none {H : Type} : Left H := { results := [], args := [] }

/-- 'laws.FnExactReadFiles': WHATEVER THE INPUT: true; the input reads as it did. -/
def fnExactReadFilesSpec : ChangeSpec := { name := "fnExactReadFiles", fn := fun _ => fun
  | [d] => { results := [.lit (.bool true)], args := [d] }
  | _ => none }
def fnExactReadFilesRow : OpenClaim := { program := "ytpklhedcjpfgdaa", sum := "9515d268ba7bea8d4f8162fbdecf00a6e2e5103b31d0bd90316602caffc99a7f", func := "loop.example/g00899/laws.FnExactReadFiles", spec := "fnExactReadFiles", inPlace := ["internal/bytealg.IndexByteString", "internal/bytealg.IndexString", "internal/abi.NoEscape"], unfollowed := true, recurses := true, named := ["internal/bytealg.MaxLen"], apart := false }
def FnExactReadFilesSaid : Prop := fnExactReadFilesRow.holds Try.pinned (OpenSpec.ofChange fnExactReadFilesSpec)

/-- ITS FALSE NEIGHBOUR: 'it returns false'. Refute it at one input. -/
def fnExactReadFilesWrong : ChangeSpec := { name := "fnExactReadFiles", fn := fun _ => fun
  | [d] => { results := [.lit (.bool false)], args := [d] }
  | _ => none }
def FnExactReadFilesWrongFalsely : Prop := fnExactReadFilesRow.holds Try.pinned (OpenSpec.ofChange fnExactReadFilesWrong)

/-- 'laws.FnExactJoinFiles': WHATEVER THE INPUT: true; the input reads as it did. -/
def fnExactJoinFilesSpec : ChangeSpec := { name := "fnExactJoinFiles", fn := fun _ => fun
  | [d1, d2] => { results := [.lit (.bool true)], args := [d1, d2] }
  | _ => none }
def fnExactJoinFilesRow : OpenClaim := { program := "ytpklhedcjpfgdaa", sum := "9515d268ba7bea8d4f8162fbdecf00a6e2e5103b31d0bd90316602caffc99a7f", func := "loop.example/g00899/laws.FnExactJoinFiles", spec := "fnExactJoinFiles", unfollowed := true, recurses := true, apart := false }
def FnExactJoinFilesSaid : Prop := fnExactJoinFilesRow.holds Try.pinned (OpenSpec.ofChange fnExactJoinFilesSpec)

/-- ITS FALSE NEIGHBOUR: 'it returns false'. Refute it at one input. -/
def fnExactJoinFilesWrong : ChangeSpec := { name := "fnExactJoinFiles", fn := fun _ => fun
  | [d1, d2] => { results := [.lit (.bool false)], args := [d1, d2] }
  | _ => none }
def FnExactJoinFilesWrongFalsely : Prop := fnExactJoinFilesRow.holds Try.pinned (OpenSpec.ofChange fnExactJoinFilesWrong)

/-- 'laws.FnFileLists': WHATEVER THE INPUT: true; the input reads as it did. -/
def fnFileListsSpec : ChangeSpec := { name := "fnFileLists", fn := fun _ => fun
  | [d] => { results := [.lit (.bool true)], args := [d] }
  | _ => none }
def fnFileListsRow : OpenClaim := { program := "ytpklhedcjpfgdaa", sum := "9515d268ba7bea8d4f8162fbdecf00a6e2e5103b31d0bd90316602caffc99a7f", func := "loop.example/g00899/laws.FnFileLists", spec := "fnFileLists", inPlace := ["internal/abi.NoEscape", "internal/bytealg.IndexByteString", "internal/bytealg.IndexString"], unfollowed := true, recurses := true, named := ["internal/bytealg.MaxLen"], apart := false }
def FnFileListsSaid : Prop := fnFileListsRow.holds Try.pinned (OpenSpec.ofChange fnFileListsSpec)

/-- ITS FALSE NEIGHBOUR: 'it returns false'. Refute it at one input. -/
def fnFileListsWrong : ChangeSpec := { name := "fnFileLists", fn := fun _ => fun
  | [d] => { results := [.lit (.bool false)], args := [d] }
  | _ => none }
def FnFileListsWrongFalsely : Prop := fnFileListsRow.holds Try.pinned (OpenSpec.ofChange fnFileListsWrong)

/- THE SECOND FORM. 'bulk': how many values and letters a reading holds, each counted each time it is reached (what is shared counts as often as it is met; a slice's spare places count too). A statement '..UptoSaid' is the law's where the arguments, and the package variables that the reading takes, are together of bulk at most 1048576: NARROWER than '..Said'. Prove '..Said' where nothing that the law and all that it calls make is longer than what came in: it says more and counts as full. Else prove '..UptoSaid'. A law counts once. -/
mutual
def uptoBulk {H : Type} : DataW H → Nat
  | .lit (.string bytes) => bytes.length + 1
  | .lit _ => 1
  | .nil => 1
  | .ptr d => uptoBulk d + 1
  | .slice elems spare => uptoBulkAll elems + uptoBulkAll spare + 1
  | .agg parts => uptoBulkAll parts + 1
  | .iface _ d => uptoBulk d + 1
  | .map entries => uptoBulkEntries entries + 1
  | .held _ => 1
def uptoBulkAll {H : Type} : List (DataW H) → Nat
  | [] => 0
  | d :: r => uptoBulk d + uptoBulkAll r
def uptoBulkEntries {H : Type} : List (Lit × DataW H) → Nat
  | [] => 0
  | x :: r => uptoBulkEntry x + uptoBulkEntries r
def uptoBulkEntry {H : Type} : Lit × DataW H → Nat
  | (.string bytes, d) => bytes.length + uptoBulk d + 1
  | (_, d) => uptoBulk d + 1
 end
def uptoSmall : (H : Type) → List (DataW H) → Bool := fun _ ds => decide (uptoBulkAll ds ≤ 1048576)
def OpenSpec.upto (s : _root_.Go.ChangeSpec) : _root_.Go.OpenSpec := { _root_.Go.OpenSpec.ofChange s with cond := some uptoSmall }

/-- 'laws.FnExactReadFiles', WHERE WHAT IT READS IS OF BULK AT MOST 1048576: true; the input reads as it did. -/
def fnExactReadFilesUptoRow : OpenClaim := { program := "ytpklhedcjpfgdaa", sum := "9515d268ba7bea8d4f8162fbdecf00a6e2e5103b31d0bd90316602caffc99a7f", func := "loop.example/g00899/laws.FnExactReadFiles", spec := "fnExactReadFiles", inPlace := ["internal/bytealg.IndexByteString", "internal/bytealg.IndexString", "internal/abi.NoEscape"], unfollowed := true, recurses := true, named := ["internal/bytealg.MaxLen"], apart := false, narrowed := true }
def FnExactReadFilesUptoSaid : Prop := fnExactReadFilesUptoRow.holds Try.pinned (OpenSpec.upto fnExactReadFilesSpec)

/-- 'laws.FnExactJoinFiles', WHERE WHAT IT READS IS OF BULK AT MOST 1048576: true; the input reads as it did. -/
def fnExactJoinFilesUptoRow : OpenClaim := { program := "ytpklhedcjpfgdaa", sum := "9515d268ba7bea8d4f8162fbdecf00a6e2e5103b31d0bd90316602caffc99a7f", func := "loop.example/g00899/laws.FnExactJoinFiles", spec := "fnExactJoinFiles", unfollowed := true, recurses := true, apart := false, narrowed := true }
def FnExactJoinFilesUptoSaid : Prop := fnExactJoinFilesUptoRow.holds Try.pinned (OpenSpec.upto fnExactJoinFilesSpec)

/-- 'laws.FnFileLists', WHERE WHAT IT READS IS OF BULK AT MOST 1048576: true; the input reads as it did. -/
def fnFileListsUptoRow : OpenClaim := { program := "ytpklhedcjpfgdaa", sum := "9515d268ba7bea8d4f8162fbdecf00a6e2e5103b31d0bd90316602caffc99a7f", func := "loop.example/g00899/laws.FnFileLists", spec := "fnFileLists", inPlace := ["internal/abi.NoEscape", "internal/bytealg.IndexByteString", "internal/bytealg.IndexString"], unfollowed := true, recurses := true, named := ["internal/bytealg.MaxLen"], apart := false, narrowed := true }
def FnFileListsUptoSaid : Prop := fnFileListsUptoRow.holds Try.pinned (OpenSpec.upto fnFileListsSpec)

end Rows
end Go.Proofs.Ytpklhedcjpfgdaa
