/-
  DERIVED. GIVEN WITH THE SEED: THE CARDS: each row of YtgmmigbaaigldaaGreatDoorRows.lean that lists a variable, with what it lists TIED to the program's text (the seventh form; the later family's looks); each row that meets fmt, with fmt's text TOLD by the authors' own Lean function (tested against real Go, not proved from fmt's source: count such statements apart). THE CARD IS WHAT COUNTS. Prove the row's statement (the work); the ties are given (YtgmmigbaaigldaaGreatDoorTie.lean); close each card by the builder's one call (the guide's Derived/Test/ToyasCard.lean, 'card_holds'). Laid BY PROGRAM, IN A SANDBOX (cutbox-door.mjs). By AI agents, Wed Nov 11 2026. No macro, syntax, notation, axiom, sorry.
-/
import Derived.Test.YtgmmigbaaigldaaGreatDoorRows
import GoSem.ClaimSeven
namespace Go.Proofs.YtgmmigbaaigldaaGreatDoor
namespace Rows

/-- THE TIED CARD OF 'laws.FnExactUndeleteChain'. -/
def fnExactUndeleteChainCard : Claim7 := { stood := { row := fnExactUndeleteChainRow, standIns := [], harness := (true, "dba94e5399dc89c782ed44e0d4e1ab6a10ddb57590cdcbd3edb0efee7e161b68"), looks := false }, kinds := [], alts := [], laidByText := true, laidKinds := [.data, .pinned], laidTests := true, laidLooks := .later }
def FnExactUndeleteChainCardSaid : Prop := Claim7.holds Tryz.pinned (.plain (OpenSpec.ofChange fnExactUndeleteChainSpec)) fnExactUndeleteChainCard

/-- THE TIED CARD OF 'laws.FnExactMendEntries'. -/
def fnExactMendEntriesCard : Claim7 := { stood := { row := fnExactMendEntriesRow, standIns := [], harness := (true, "dba94e5399dc89c782ed44e0d4e1ab6a10ddb57590cdcbd3edb0efee7e161b68"), looks := false }, kinds := [], alts := [], laidByText := true, laidKinds := [.data, .data, .data, .data, .pinned], laidTests := true, laidLooks := .later }
def FnExactMendEntriesCardSaid : Prop := Claim7.holds Tryz.pinned (.plain (OpenSpec.ofChange fnExactMendEntriesSpec)) fnExactMendEntriesCard

/-- THE TIED CARD OF 'laws.FnExactMendLost'. -/
def fnExactMendLostCard : Claim7 := { stood := { row := fnExactMendLostRow, standIns := [], harness := (true, "dba94e5399dc89c782ed44e0d4e1ab6a10ddb57590cdcbd3edb0efee7e161b68"), looks := false }, kinds := [], alts := [], laidByText := true, laidKinds := [.data, .data, .data, .data, .pinned], laidTests := true, laidLooks := .later }
def FnExactMendLostCardSaid : Prop := Claim7.holds Tryz.pinned (.plain (OpenSpec.ofChange fnExactMendLostSpec)) fnExactMendLostCard

/-- THE SECOND FORM's CARD OF 'laws.FnExactUndeleteChain'. -/
def fnExactUndeleteChainUptoCard : Claim7 := { stood := { row := fnExactUndeleteChainUptoRow, standIns := [], harness := (true, "dba94e5399dc89c782ed44e0d4e1ab6a10ddb57590cdcbd3edb0efee7e161b68"), looks := false }, kinds := [], alts := [], laidByText := true, laidKinds := [.data, .pinned], laidTests := true, laidLooks := .later }
def FnExactUndeleteChainUptoCardSaid : Prop := Claim7.holds Tryz.pinned (.plain (OpenSpec.upto fnExactUndeleteChainSpec)) fnExactUndeleteChainUptoCard

/-- THE SECOND FORM's CARD OF 'laws.FnExactMendEntries'. -/
def fnExactMendEntriesUptoCard : Claim7 := { stood := { row := fnExactMendEntriesUptoRow, standIns := [], harness := (true, "dba94e5399dc89c782ed44e0d4e1ab6a10ddb57590cdcbd3edb0efee7e161b68"), looks := false }, kinds := [], alts := [], laidByText := true, laidKinds := [.data, .data, .data, .data, .pinned], laidTests := true, laidLooks := .later }
def FnExactMendEntriesUptoCardSaid : Prop := Claim7.holds Tryz.pinned (.plain (OpenSpec.upto fnExactMendEntriesSpec)) fnExactMendEntriesUptoCard

/-- THE SECOND FORM's CARD OF 'laws.FnExactMendLost'. -/
def fnExactMendLostUptoCard : Claim7 := { stood := { row := fnExactMendLostUptoRow, standIns := [], harness := (true, "dba94e5399dc89c782ed44e0d4e1ab6a10ddb57590cdcbd3edb0efee7e161b68"), looks := false }, kinds := [], alts := [], laidByText := true, laidKinds := [.data, .data, .data, .data, .pinned], laidTests := true, laidLooks := .later }
def FnExactMendLostUptoCardSaid : Prop := Claim7.holds Tryz.pinned (.plain (OpenSpec.upto fnExactMendLostSpec)) fnExactMendLostUptoCard
end Rows
end Go.Proofs.YtgmmigbaaigldaaGreatDoor
