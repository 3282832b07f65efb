/-
  No cell of these rows narrows 'for every input' (looked for: loops, veiled, ifaces, maps, wideKeys, modest, calm, conditions, laid).
  DERIVED. THE GIVEN ROWS OF THIS SEAT. 6 by the template 'for every input the law returns true; each argument reads behind the call as it read before'; 0 by the template 'total and deterministic' (their statements: YtjcdomjaicdpjaaTotals.lean).
  GIVEN WITH THE SEED: the statements are not yours to turn. If you find one false, say at which input.
  Laid BY PROGRAM, IN A SANDBOX (cutbox-rows.mjs): the forced cells as the released guide's own fill.sh prints them over the translation 30b826c0687aac1a… (all of the seat's roots in one cut). By AI agents, Wed Nov 11 2026. No macro, syntax, notation, axiom, sorry.
-/
import Derived.Test.YtjcdomjaicdpjaaChecked
import GoSem.Claim
import GoSem.ClaimJoined
import GoSem.ClaimMapViews
import Derived.JoinedTies
import Derived.KernelRfl
namespace Go.Proofs.Ytjcdomjaicdpjaa
/- THE CELL 'sum', in the pinned program and in every row, IS THE sha256 OF THE DUMP (.gsa) THAT YtjcdomjaicdpjaaProg.lean LOADS. Nothing in Lean hashes anything: it is a label: what it is worth is what the hold of that sum in a sandbox is worth. -/
noncomputable def Try.pinned : Pinned := { name := "ytjcdomjaicdpjaa", sum := "30b826c0687aac1a77e94eeed9ebd9b4b8150f7bbd8c133e9c4e67391583a054", checked := Try.checked }
namespace Rows
def none {H : Type} : Left H := { results := [], args := [] }

/-- 'laws.FnExactGfPow': WHATEVER THE INPUT: true; the input reads as it did. -/
def fnExactGfPowSpec : ChangeSpec := { name := "fnExactGfPow", fn := fun _ => fun
  | [d] => { results := [.lit (.bool true)], args := [d] }
  | _ => none }
def fnExactGfPowRow : OpenClaim := { program := "ytjcdomjaicdpjaa", sum := "30b826c0687aac1a77e94eeed9ebd9b4b8150f7bbd8c133e9c4e67391583a054", func := "loop.example/g00899/laws.FnExactGfPow", spec := "fnExactGfPow", apart := false }
def FnExactGfPowSaid : Prop := fnExactGfPowRow.holds Try.pinned (OpenSpec.ofChange fnExactGfPowSpec)

/-- ITS FALSE NEIGHBOUR: 'it returns false'. Refute it at one input. -/
def fnExactGfPowWrong : ChangeSpec := { name := "fnExactGfPow", fn := fun _ => fun
  | [d] => { results := [.lit (.bool false)], args := [d] }
  | _ => none }
def FnExactGfPowWrongFalsely : Prop := fnExactGfPowRow.holds Try.pinned (OpenSpec.ofChange fnExactGfPowWrong)

/-- 'laws.FnExactGfMul': WHATEVER THE INPUT: true; the input reads as it did. -/
def fnExactGfMulSpec : ChangeSpec := { name := "fnExactGfMul", fn := fun _ => fun
  | [d1, d2] => { results := [.lit (.bool true)], args := [d1, d2] }
  | _ => none }
def fnExactGfMulRow : OpenClaim := { program := "ytjcdomjaicdpjaa", sum := "30b826c0687aac1a77e94eeed9ebd9b4b8150f7bbd8c133e9c4e67391583a054", func := "loop.example/g00899/laws.FnExactGfMul", spec := "fnExactGfMul", apart := false }
def FnExactGfMulSaid : Prop := fnExactGfMulRow.holds Try.pinned (OpenSpec.ofChange fnExactGfMulSpec)

/-- ITS FALSE NEIGHBOUR: 'it returns false'. Refute it at one input. -/
def fnExactGfMulWrong : ChangeSpec := { name := "fnExactGfMul", fn := fun _ => fun
  | [d1, d2] => { results := [.lit (.bool false)], args := [d1, d2] }
  | _ => none }
def FnExactGfMulWrongFalsely : Prop := fnExactGfMulRow.holds Try.pinned (OpenSpec.ofChange fnExactGfMulWrong)

/-- 'laws.FnField': WHATEVER THE INPUT: true; the input reads as it did. -/
def fnFieldSpec : ChangeSpec := { name := "fnField", fn := fun _ => fun
  | [d] => { results := [.lit (.bool true)], args := [d] }
  | _ => none }
def fnFieldRow : OpenClaim := { program := "ytjcdomjaicdpjaa", sum := "30b826c0687aac1a77e94eeed9ebd9b4b8150f7bbd8c133e9c4e67391583a054", func := "loop.example/g00899/laws.FnField", spec := "fnField", apart := false }
def FnFieldSaid : Prop := fnFieldRow.holds Try.pinned (OpenSpec.ofChange fnFieldSpec)

/-- ITS FALSE NEIGHBOUR: 'it returns false'. Refute it at one input. -/
def fnFieldWrong : ChangeSpec := { name := "fnField", fn := fun _ => fun
  | [d] => { results := [.lit (.bool false)], args := [d] }
  | _ => none }
def FnFieldWrongFalsely : Prop := fnFieldRow.holds Try.pinned (OpenSpec.ofChange fnFieldWrong)

/-- 'laws.FnExactGfInverse': WHATEVER THE INPUT: true; the input reads as it did. -/
def fnExactGfInverseSpec : ChangeSpec := { name := "fnExactGfInverse", fn := fun _ => fun
  | [d] => { results := [.lit (.bool true)], args := [d] }
  | _ => none }
def fnExactGfInverseRow : OpenClaim := { program := "ytjcdomjaicdpjaa", sum := "30b826c0687aac1a77e94eeed9ebd9b4b8150f7bbd8c133e9c4e67391583a054", func := "loop.example/g00899/laws.FnExactGfInverse", spec := "fnExactGfInverse", apart := false }
def FnExactGfInverseSaid : Prop := fnExactGfInverseRow.holds Try.pinned (OpenSpec.ofChange fnExactGfInverseSpec)

/-- ITS FALSE NEIGHBOUR: 'it returns false'. Refute it at one input. -/
def fnExactGfInverseWrong : ChangeSpec := { name := "fnExactGfInverse", fn := fun _ => fun
  | [d] => { results := [.lit (.bool false)], args := [d] }
  | _ => none }
def FnExactGfInverseWrongFalsely : Prop := fnExactGfInverseRow.holds Try.pinned (OpenSpec.ofChange fnExactGfInverseWrong)

/-- 'laws.FnExactSameFiles': WHATEVER THE INPUT: true; the input reads as it did. -/
def fnExactSameFilesSpec : ChangeSpec := { name := "fnExactSameFiles", fn := fun _ => fun
  | [d1, d2] => { results := [.lit (.bool true)], args := [d1, d2] }
  | _ => none }
def fnExactSameFilesRow : OpenClaim := { program := "ytjcdomjaicdpjaa", sum := "30b826c0687aac1a77e94eeed9ebd9b4b8150f7bbd8c133e9c4e67391583a054", func := "loop.example/g00899/laws.FnExactSameFiles", spec := "fnExactSameFiles", apart := false }
def FnExactSameFilesSaid : Prop := fnExactSameFilesRow.holds Try.pinned (OpenSpec.ofChange fnExactSameFilesSpec)

/-- ITS FALSE NEIGHBOUR: 'it returns false'. Refute it at one input. -/
def fnExactSameFilesWrong : ChangeSpec := { name := "fnExactSameFiles", fn := fun _ => fun
  | [d1, d2] => { results := [.lit (.bool false)], args := [d1, d2] }
  | _ => none }
def FnExactSameFilesWrongFalsely : Prop := fnExactSameFilesRow.holds Try.pinned (OpenSpec.ofChange fnExactSameFilesWrong)

/-- 'laws.FnExactFormatTree': WHATEVER THE INPUT: true; the input reads as it did. -/
def fnExactFormatTreeSpec : ChangeSpec := { name := "fnExactFormatTree", fn := fun _ => fun
  | [d] => { results := [.lit (.bool true)], args := [d] }
  | _ => none }
def fnExactFormatTreeRow : OpenClaim := { program := "ytjcdomjaicdpjaa", sum := "30b826c0687aac1a77e94eeed9ebd9b4b8150f7bbd8c133e9c4e67391583a054", func := "loop.example/g00899/laws.FnExactFormatTree", spec := "fnExactFormatTree", apart := false }
def FnExactFormatTreeSaid : Prop := fnExactFormatTreeRow.holds Try.pinned (OpenSpec.ofChange fnExactFormatTreeSpec)

/-- ITS FALSE NEIGHBOUR: 'it returns false'. Refute it at one input. -/
def fnExactFormatTreeWrong : ChangeSpec := { name := "fnExactFormatTree", fn := fun _ => fun
  | [d] => { results := [.lit (.bool false)], args := [d] }
  | _ => none }
def FnExactFormatTreeWrongFalsely : Prop := fnExactFormatTreeRow.holds Try.pinned (OpenSpec.ofChange fnExactFormatTreeWrong)

/- THE SECOND FORM. 'bulk': how many values and letters a reading holds, each counted each time it is reached (what is shared counts as often as it is met; a slice's spare places count too). A statement '..UptoSaid' is the law's where the arguments, and the package variables that the reading takes, are together of bulk at most 1048576: NARROWER than '..Said'. Prove '..Said' where nothing that the law and all that it calls make is longer than what came in: it says more and counts as full. Else prove '..UptoSaid'. A law counts once. -/
mutual
def uptoBulk {H : Type} : DataW H → Nat
  | .lit (.string bytes) => bytes.length + 1
  | .lit _ => 1
  | .nil => 1
  | .ptr d => uptoBulk d + 1
  | .slice elems spare => uptoBulkAll elems + uptoBulkAll spare + 1
  | .agg parts => uptoBulkAll parts + 1
  | .iface _ d => uptoBulk d + 1
  | .map entries => uptoBulkEntries entries + 1
  | .held _ => 1
def uptoBulkAll {H : Type} : List (DataW H) → Nat
  | [] => 0
  | d :: r => uptoBulk d + uptoBulkAll r
def uptoBulkEntries {H : Type} : List (Lit × DataW H) → Nat
  | [] => 0
  | x :: r => uptoBulkEntry x + uptoBulkEntries r
def uptoBulkEntry {H : Type} : Lit × DataW H → Nat
  | (.string bytes, d) => bytes.length + uptoBulk d + 1
  | (_, d) => uptoBulk d + 1
 end
def uptoSmall : (H : Type) → List (DataW H) → Bool := fun _ ds => decide (uptoBulkAll ds ≤ 1048576)
def OpenSpec.upto (s : _root_.Go.ChangeSpec) : _root_.Go.OpenSpec := { _root_.Go.OpenSpec.ofChange s with cond := some uptoSmall }

/-- 'laws.FnExactGfPow', WHERE WHAT IT READS IS OF BULK AT MOST 1048576: true; the input reads as it did. -/
def fnExactGfPowUptoRow : OpenClaim := { program := "ytjcdomjaicdpjaa", sum := "30b826c0687aac1a77e94eeed9ebd9b4b8150f7bbd8c133e9c4e67391583a054", func := "loop.example/g00899/laws.FnExactGfPow", spec := "fnExactGfPow", apart := false, narrowed := true }
def FnExactGfPowUptoSaid : Prop := fnExactGfPowUptoRow.holds Try.pinned (OpenSpec.upto fnExactGfPowSpec)

/-- 'laws.FnExactGfMul', WHERE WHAT IT READS IS OF BULK AT MOST 1048576: true; the input reads as it did. -/
def fnExactGfMulUptoRow : OpenClaim := { program := "ytjcdomjaicdpjaa", sum := "30b826c0687aac1a77e94eeed9ebd9b4b8150f7bbd8c133e9c4e67391583a054", func := "loop.example/g00899/laws.FnExactGfMul", spec := "fnExactGfMul", apart := false, narrowed := true }
def FnExactGfMulUptoSaid : Prop := fnExactGfMulUptoRow.holds Try.pinned (OpenSpec.upto fnExactGfMulSpec)

/-- 'laws.FnField', WHERE WHAT IT READS IS OF BULK AT MOST 1048576: true; the input reads as it did. -/
def fnFieldUptoRow : OpenClaim := { program := "ytjcdomjaicdpjaa", sum := "30b826c0687aac1a77e94eeed9ebd9b4b8150f7bbd8c133e9c4e67391583a054", func := "loop.example/g00899/laws.FnField", spec := "fnField", apart := false, narrowed := true }
def FnFieldUptoSaid : Prop := fnFieldUptoRow.holds Try.pinned (OpenSpec.upto fnFieldSpec)

/-- 'laws.FnExactGfInverse', WHERE WHAT IT READS IS OF BULK AT MOST 1048576: true; the input reads as it did. -/
def fnExactGfInverseUptoRow : OpenClaim := { program := "ytjcdomjaicdpjaa", sum := "30b826c0687aac1a77e94eeed9ebd9b4b8150f7bbd8c133e9c4e67391583a054", func := "loop.example/g00899/laws.FnExactGfInverse", spec := "fnExactGfInverse", apart := false, narrowed := true }
def FnExactGfInverseUptoSaid : Prop := fnExactGfInverseUptoRow.holds Try.pinned (OpenSpec.upto fnExactGfInverseSpec)

/-- 'laws.FnExactSameFiles', WHERE WHAT IT READS IS OF BULK AT MOST 1048576: true; the input reads as it did. -/
def fnExactSameFilesUptoRow : OpenClaim := { program := "ytjcdomjaicdpjaa", sum := "30b826c0687aac1a77e94eeed9ebd9b4b8150f7bbd8c133e9c4e67391583a054", func := "loop.example/g00899/laws.FnExactSameFiles", spec := "fnExactSameFiles", apart := false, narrowed := true }
def FnExactSameFilesUptoSaid : Prop := fnExactSameFilesUptoRow.holds Try.pinned (OpenSpec.upto fnExactSameFilesSpec)

/-- 'laws.FnExactFormatTree', WHERE WHAT IT READS IS OF BULK AT MOST 1048576: true; the input reads as it did. -/
def fnExactFormatTreeUptoRow : OpenClaim := { program := "ytjcdomjaicdpjaa", sum := "30b826c0687aac1a77e94eeed9ebd9b4b8150f7bbd8c133e9c4e67391583a054", func := "loop.example/g00899/laws.FnExactFormatTree", spec := "fnExactFormatTree", apart := false, narrowed := true }
def FnExactFormatTreeUptoSaid : Prop := fnExactFormatTreeUptoRow.holds Try.pinned (OpenSpec.upto fnExactFormatTreeSpec)

end Rows
end Go.Proofs.Ytjcdomjaicdpjaa
