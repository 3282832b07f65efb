/-
  DERIVED. GIVEN WITH THE SEED: THE CARDS: each row of YtjoagdmlihdbjaaDoorRows.lean that lists a variable, with what it lists TIED to the program's text (the seventh form; the later family's looks); each row that meets fmt, with fmt's text TOLD by the authors' own Lean function (tested against real Go, not proved from fmt's source: count such statements apart). THE CARD IS WHAT COUNTS. Prove the row's statement (the work); the ties are given (YtjoagdmlihdbjaaDoorTie.lean); close each card by the builder's one call (the guide's Derived/Test/ToyasCard.lean, 'card_holds'). Laid BY PROGRAM, IN A SANDBOX (cutbox-door.mjs). By AI agents, Wed Nov 11 2026. No macro, syntax, notation, axiom, sorry.
-/
import Derived.Test.YtjoagdmlihdbjaaDoorRows
import GoSem.ClaimSeven
namespace Go.Proofs.YtjoagdmlihdbjaaDoor
namespace Rows

/-- THE TIED CARD OF 'laws.FnExactGoneBlocks'. -/
def fnExactGoneBlocksCard : Claim7 := { stood := { row := fnExactGoneBlocksRow, standIns := [], harness := (true, "ed8a676a210faf9b6f5e104fdfe898e0c3325f05cf69b22cb93f6000ff8fc78b"), looks := false }, kinds := [], alts := [], laidByText := true, laidKinds := [.data, .pinned], laidTests := true, laidLooks := .later }
def FnExactGoneBlocksCardSaid : Prop := Claim7.holds Tryd.pinned (.plain (OpenSpec.ofChange fnExactGoneBlocksSpec)) fnExactGoneBlocksCard

/-- THE TIED CARD OF 'laws.FnExactMendLinks'. -/
def fnExactMendLinksCard : Claim7 := { stood := { row := fnExactMendLinksRow, standIns := [], harness := (true, "ed8a676a210faf9b6f5e104fdfe898e0c3325f05cf69b22cb93f6000ff8fc78b"), looks := false }, kinds := [], alts := [], laidByText := true, laidKinds := [.data, .pinned], laidTests := true, laidLooks := .later }
def FnExactMendLinksCardSaid : Prop := Claim7.holds Tryd.pinned (.plain (OpenSpec.ofChange fnExactMendLinksSpec)) fnExactMendLinksCard

/-- THE TIED CARD OF 'laws.FnExactMendLengths'. -/
def fnExactMendLengthsCard : Claim7 := { stood := { row := fnExactMendLengthsRow, standIns := [], harness := (true, "ed8a676a210faf9b6f5e104fdfe898e0c3325f05cf69b22cb93f6000ff8fc78b"), looks := false }, kinds := [], alts := [], laidByText := true, laidKinds := [.data, .pinned], laidTests := true, laidLooks := .later }
def FnExactMendLengthsCardSaid : Prop := Claim7.holds Tryd.pinned (.plain (OpenSpec.ofChange fnExactMendLengthsSpec)) fnExactMendLengthsCard

/-- THE SECOND FORM's CARD OF 'laws.FnExactGoneBlocks'. -/
def fnExactGoneBlocksUptoCard : Claim7 := { stood := { row := fnExactGoneBlocksUptoRow, standIns := [], harness := (true, "ed8a676a210faf9b6f5e104fdfe898e0c3325f05cf69b22cb93f6000ff8fc78b"), looks := false }, kinds := [], alts := [], laidByText := true, laidKinds := [.data, .pinned], laidTests := true, laidLooks := .later }
def FnExactGoneBlocksUptoCardSaid : Prop := Claim7.holds Tryd.pinned (.plain (OpenSpec.upto fnExactGoneBlocksSpec)) fnExactGoneBlocksUptoCard

/-- THE SECOND FORM's CARD OF 'laws.FnExactMendLinks'. -/
def fnExactMendLinksUptoCard : Claim7 := { stood := { row := fnExactMendLinksUptoRow, standIns := [], harness := (true, "ed8a676a210faf9b6f5e104fdfe898e0c3325f05cf69b22cb93f6000ff8fc78b"), looks := false }, kinds := [], alts := [], laidByText := true, laidKinds := [.data, .pinned], laidTests := true, laidLooks := .later }
def FnExactMendLinksUptoCardSaid : Prop := Claim7.holds Tryd.pinned (.plain (OpenSpec.upto fnExactMendLinksSpec)) fnExactMendLinksUptoCard

/-- THE SECOND FORM's CARD OF 'laws.FnExactMendLengths'. -/
def fnExactMendLengthsUptoCard : Claim7 := { stood := { row := fnExactMendLengthsUptoRow, standIns := [], harness := (true, "ed8a676a210faf9b6f5e104fdfe898e0c3325f05cf69b22cb93f6000ff8fc78b"), looks := false }, kinds := [], alts := [], laidByText := true, laidKinds := [.data, .pinned], laidTests := true, laidLooks := .later }
def FnExactMendLengthsUptoCardSaid : Prop := Claim7.holds Tryd.pinned (.plain (OpenSpec.upto fnExactMendLengthsSpec)) fnExactMendLengthsUptoCard
end Rows
end Go.Proofs.YtjoagdmlihdbjaaDoor
