/-
  No cell of these rows narrows 'for every input' (looked for: loops, veiled, ifaces, maps, wideKeys, modest, calm, conditions, laid).
  DERIVED. THE GIVEN ROWS OF THIS SEAT. 4 by the template 'for every input the law returns true; each argument reads behind the call as it read before'; 0 by the template 'total and deterministic' (their statements: YtbdabciaaaeofaaTotals.lean).
  GIVEN WITH THE SEED: the statements are not yours to turn. If you find one false, say at which input.
  Laid BY PROGRAM, IN A SANDBOX (cutbox-rows.mjs): the forced cells as the released guide's own fill.sh prints them over the translation 133ce2076e2b990a… (all of the seat's roots in one cut). By AI agents, Wed Nov 11 2026. No macro, syntax, notation, axiom, sorry.
-/
import Derived.Test.YtbdabciaaaeofaaChecked
import GoSem.Claim
import GoSem.ClaimJoined
import GoSem.ClaimMapViews
import Derived.JoinedTies
import Derived.KernelRfl
namespace Go.Proofs.Ytbdabciaaaeofaa
/- THE CELL 'sum', in the pinned program and in every row, IS THE sha256 OF THE DUMP (.gsa) THAT YtbdabciaaaeofaaProg.lean LOADS. Nothing in Lean hashes anything: it is a label: what it is worth is what the hold of that sum in a sandbox is worth. -/
noncomputable def Try.pinned : Pinned := { name := "ytbdabciaaaeofaa", sum := "133ce2076e2b990a2e6a8559a2a6c069fd556dbd16724d0aa6758ed78854c61a", checked := Try.checked }
namespace Rows
def none {H : Type} : Left H := { results := [], args := [] }

/-- 'laws.FnExactFormatChains': WHATEVER THE INPUT: true; the input reads as it did. -/
def fnExactFormatChainsSpec : ChangeSpec := { name := "fnExactFormatChains", fn := fun _ => fun
  | [d1, d2] => { results := [.lit (.bool true)], args := [d1, d2] }
  | _ => none }
def fnExactFormatChainsRow : OpenClaim := { program := "ytbdabciaaaeofaa", sum := "133ce2076e2b990a2e6a8559a2a6c069fd556dbd16724d0aa6758ed78854c61a", func := "loop.example/g00899/laws.FnExactFormatChains", spec := "fnExactFormatChains", inPlace := ["internal/abi.NoEscape", "internal/bytealg.MakeNoZero"], unfollowed := true, recurses := true, apart := false }
def FnExactFormatChainsSaid : Prop := fnExactFormatChainsRow.holds Try.pinned (OpenSpec.ofChange fnExactFormatChainsSpec)

/-- ITS FALSE NEIGHBOUR: 'it returns false'. Refute it at one input. -/
def fnExactFormatChainsWrong : ChangeSpec := { name := "fnExactFormatChains", fn := fun _ => fun
  | [d1, d2] => { results := [.lit (.bool false)], args := [d1, d2] }
  | _ => none }
def FnExactFormatChainsWrongFalsely : Prop := fnExactFormatChainsRow.holds Try.pinned (OpenSpec.ofChange fnExactFormatChainsWrong)

/-- 'laws.FnExactFreeChains': WHATEVER THE INPUT: true; the input reads as it did. -/
def fnExactFreeChainsSpec : ChangeSpec := { name := "fnExactFreeChains", fn := fun _ => fun
  | [d] => { results := [.lit (.bool true)], args := [d] }
  | _ => none }
def fnExactFreeChainsRow : OpenClaim := { program := "ytbdabciaaaeofaa", sum := "133ce2076e2b990a2e6a8559a2a6c069fd556dbd16724d0aa6758ed78854c61a", func := "loop.example/g00899/laws.FnExactFreeChains", spec := "fnExactFreeChains", inPlace := ["internal/abi.NoEscape", "internal/bytealg.MakeNoZero"], apart := false }
def FnExactFreeChainsSaid : Prop := fnExactFreeChainsRow.holds Try.pinned (OpenSpec.ofChange fnExactFreeChainsSpec)

/-- ITS FALSE NEIGHBOUR: 'it returns false'. Refute it at one input. -/
def fnExactFreeChainsWrong : ChangeSpec := { name := "fnExactFreeChains", fn := fun _ => fun
  | [d] => { results := [.lit (.bool false)], args := [d] }
  | _ => none }
def FnExactFreeChainsWrongFalsely : Prop := fnExactFreeChainsRow.holds Try.pinned (OpenSpec.ofChange fnExactFreeChainsWrong)

/-- 'laws.FnExactSetLink': WHATEVER THE INPUT: true; the input reads as it did. -/
def fnExactSetLinkSpec : ChangeSpec := { name := "fnExactSetLink", fn := fun _ => fun
  | [d1, d2, d3] => { results := [.lit (.bool true)], args := [d1, d2, d3] }
  | _ => none }
def fnExactSetLinkRow : OpenClaim := { program := "ytbdabciaaaeofaa", sum := "133ce2076e2b990a2e6a8559a2a6c069fd556dbd16724d0aa6758ed78854c61a", func := "loop.example/g00899/laws.FnExactSetLink", spec := "fnExactSetLink", inPlace := ["internal/abi.NoEscape", "internal/bytealg.MakeNoZero"], unfollowed := true, recurses := true, apart := false }
def FnExactSetLinkSaid : Prop := fnExactSetLinkRow.holds Try.pinned (OpenSpec.ofChange fnExactSetLinkSpec)

/-- ITS FALSE NEIGHBOUR: 'it returns false'. Refute it at one input. -/
def fnExactSetLinkWrong : ChangeSpec := { name := "fnExactSetLink", fn := fun _ => fun
  | [d1, d2, d3] => { results := [.lit (.bool false)], args := [d1, d2, d3] }
  | _ => none }
def FnExactSetLinkWrongFalsely : Prop := fnExactSetLinkRow.holds Try.pinned (OpenSpec.ofChange fnExactSetLinkWrong)

/-- 'laws.FnExactSetEntry': WHATEVER THE INPUT: true; the input reads as it did. -/
def fnExactSetEntrySpec : ChangeSpec := { name := "fnExactSetEntry", fn := fun _ => fun
  | [d1, d2, d3] => { results := [.lit (.bool true)], args := [d1, d2, d3] }
  | _ => none }
def fnExactSetEntryRow : OpenClaim := { program := "ytbdabciaaaeofaa", sum := "133ce2076e2b990a2e6a8559a2a6c069fd556dbd16724d0aa6758ed78854c61a", func := "loop.example/g00899/laws.FnExactSetEntry", spec := "fnExactSetEntry", inPlace := ["internal/abi.NoEscape", "internal/bytealg.MakeNoZero"], unfollowed := true, recurses := true, apart := false }
def FnExactSetEntrySaid : Prop := fnExactSetEntryRow.holds Try.pinned (OpenSpec.ofChange fnExactSetEntrySpec)

/-- ITS FALSE NEIGHBOUR: 'it returns false'. Refute it at one input. -/
def fnExactSetEntryWrong : ChangeSpec := { name := "fnExactSetEntry", fn := fun _ => fun
  | [d1, d2, d3] => { results := [.lit (.bool false)], args := [d1, d2, d3] }
  | _ => none }
def FnExactSetEntryWrongFalsely : Prop := fnExactSetEntryRow.holds Try.pinned (OpenSpec.ofChange fnExactSetEntryWrong)

/- THE SECOND FORM. 'bulk': how many values and letters a reading holds, each counted each time it is reached (what is shared counts as often as it is met; a slice's spare places count too). A statement '..UptoSaid' is the law's where the arguments, and the package variables that the reading takes, are together of bulk at most 1048576: NARROWER than '..Said'. Prove '..Said' where nothing that the law and all that it calls make is longer than what came in: it says more and counts as full. Else prove '..UptoSaid'. A law counts once. -/
mutual
def uptoBulk {H : Type} : DataW H → Nat
  | .lit (.string bytes) => bytes.length + 1
  | .lit _ => 1
  | .nil => 1
  | .ptr d => uptoBulk d + 1
  | .slice elems spare => uptoBulkAll elems + uptoBulkAll spare + 1
  | .agg parts => uptoBulkAll parts + 1
  | .iface _ d => uptoBulk d + 1
  | .map entries => uptoBulkEntries entries + 1
  | .held _ => 1
def uptoBulkAll {H : Type} : List (DataW H) → Nat
  | [] => 0
  | d :: r => uptoBulk d + uptoBulkAll r
def uptoBulkEntries {H : Type} : List (Lit × DataW H) → Nat
  | [] => 0
  | x :: r => uptoBulkEntry x + uptoBulkEntries r
def uptoBulkEntry {H : Type} : Lit × DataW H → Nat
  | (.string bytes, d) => bytes.length + uptoBulk d + 1
  | (_, d) => uptoBulk d + 1
 end
def uptoSmall : (H : Type) → List (DataW H) → Bool := fun _ ds => decide (uptoBulkAll ds ≤ 1048576)
def OpenSpec.upto (s : _root_.Go.ChangeSpec) : _root_.Go.OpenSpec := { _root_.Go.OpenSpec.ofChange s with cond := some uptoSmall }

/-- 'laws.FnExactFormatChains', WHERE WHAT IT READS IS OF BULK AT MOST 1048576: true; the input reads as it did. -/
def fnExactFormatChainsUptoRow : OpenClaim := { program := "ytbdabciaaaeofaa", sum := "133ce2076e2b990a2e6a8559a2a6c069fd556dbd16724d0aa6758ed78854c61a", func := "loop.example/g00899/laws.FnExactFormatChains", spec := "fnExactFormatChains", inPlace := ["internal/abi.NoEscape", "internal/bytealg.MakeNoZero"], unfollowed := true, recurses := true, apart := false, narrowed := true }
def FnExactFormatChainsUptoSaid : Prop := fnExactFormatChainsUptoRow.holds Try.pinned (OpenSpec.upto fnExactFormatChainsSpec)

/-- 'laws.FnExactFreeChains', WHERE WHAT IT READS IS OF BULK AT MOST 1048576: true; the input reads as it did. -/
def fnExactFreeChainsUptoRow : OpenClaim := { program := "ytbdabciaaaeofaa", sum := "133ce2076e2b990a2e6a8559a2a6c069fd556dbd16724d0aa6758ed78854c61a", func := "loop.example/g00899/laws.FnExactFreeChains", spec := "fnExactFreeChains", inPlace := ["internal/abi.NoEscape", "internal/bytealg.MakeNoZero"], apart := false, narrowed := true }
def FnExactFreeChainsUptoSaid : Prop := fnExactFreeChainsUptoRow.holds Try.pinned (OpenSpec.upto fnExactFreeChainsSpec)

/-- 'laws.FnExactSetLink', WHERE WHAT IT READS IS OF BULK AT MOST 1048576: true; the input reads as it did. -/
def fnExactSetLinkUptoRow : OpenClaim := { program := "ytbdabciaaaeofaa", sum := "133ce2076e2b990a2e6a8559a2a6c069fd556dbd16724d0aa6758ed78854c61a", func := "loop.example/g00899/laws.FnExactSetLink", spec := "fnExactSetLink", inPlace := ["internal/abi.NoEscape", "internal/bytealg.MakeNoZero"], unfollowed := true, recurses := true, apart := false, narrowed := true }
def FnExactSetLinkUptoSaid : Prop := fnExactSetLinkUptoRow.holds Try.pinned (OpenSpec.upto fnExactSetLinkSpec)

/-- 'laws.FnExactSetEntry', WHERE WHAT IT READS IS OF BULK AT MOST 1048576: true; the input reads as it did. -/
def fnExactSetEntryUptoRow : OpenClaim := { program := "ytbdabciaaaeofaa", sum := "133ce2076e2b990a2e6a8559a2a6c069fd556dbd16724d0aa6758ed78854c61a", func := "loop.example/g00899/laws.FnExactSetEntry", spec := "fnExactSetEntry", inPlace := ["internal/abi.NoEscape", "internal/bytealg.MakeNoZero"], unfollowed := true, recurses := true, apart := false, narrowed := true }
def FnExactSetEntryUptoSaid : Prop := fnExactSetEntryUptoRow.holds Try.pinned (OpenSpec.upto fnExactSetEntrySpec)

end Rows
end Go.Proofs.Ytbdabciaaaeofaa
