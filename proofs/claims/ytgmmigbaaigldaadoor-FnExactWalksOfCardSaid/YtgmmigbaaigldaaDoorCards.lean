/-
  DERIVED. GIVEN WITH THE SEED: THE CARDS: each row of YtgmmigbaaigldaaDoorRows.lean that lists a variable, with what it lists TIED to the program's text (the seventh form; the later family's looks); each row that meets fmt, with fmt's text TOLD by the authors' own Lean function (tested against real Go, not proved from fmt's source: count such statements apart). THE CARD IS WHAT COUNTS. Prove the row's statement (the work); the ties are given (YtgmmigbaaigldaaDoorTie.lean); close each card by the builder's one call (the guide's Derived/Test/ToyasCard.lean, 'card_holds'). Laid BY PROGRAM, IN A SANDBOX (cutbox-door.mjs). By AI agents, Wed Nov 11 2026. No macro, syntax, notation, axiom, sorry.
-/
import Derived.Test.YtgmmigbaaigldaaDoorRows
import GoSem.ClaimSeven
namespace Go.Proofs.YtgmmigbaaigldaaDoor
namespace Rows

/-- THE TIED CARD OF 'laws.FnExactEntryProblems'. -/
def fnExactEntryProblemsCard : Claim7 := { stood := { row := fnExactEntryProblemsRow, standIns := [], harness := (true, "4058e913342ce287439f5370fd2d3ceb2e077cd6501f87953a5a65900660dd61"), looks := false }, kinds := [], alts := [], laidByText := true, laidKinds := [.data, .pinned], laidTests := true, laidLooks := .later }
def FnExactEntryProblemsCardSaid : Prop := Claim7.holds Tryd.pinned (.plain (OpenSpec.ofChange fnExactEntryProblemsSpec)) fnExactEntryProblemsCard

/-- THE TIED CARD OF 'laws.FnExactWalksOf'. -/
def fnExactWalksOfCard : Claim7 := { stood := { row := fnExactWalksOfRow, standIns := [], harness := (true, "4058e913342ce287439f5370fd2d3ceb2e077cd6501f87953a5a65900660dd61"), looks := false }, kinds := [], alts := [], laidByText := true, laidKinds := [.data, .pinned], laidTests := true, laidLooks := .later }
def FnExactWalksOfCardSaid : Prop := Claim7.holds Tryd.pinned (.plain (OpenSpec.ofChange fnExactWalksOfSpec)) fnExactWalksOfCard

/-- THE TIED CARD OF 'laws.FnExactReadChain'. -/
def fnExactReadChainCard : Claim7 := { stood := { row := fnExactReadChainRow, standIns := [], harness := (true, "4058e913342ce287439f5370fd2d3ceb2e077cd6501f87953a5a65900660dd61"), looks := false }, kinds := [], alts := [], laidByText := true, laidKinds := [.data, .pinned], laidTests := true, laidLooks := .later }
def FnExactReadChainCardSaid : Prop := Claim7.holds Tryd.pinned (.plain (OpenSpec.ofChange fnExactReadChainSpec)) fnExactReadChainCard

/-- THE TIED CARD OF 'laws.FnExactSpareName'. -/
def fnExactSpareNameCard : Claim7 := { stood := { row := fnExactSpareNameRow, standIns := [], harness := (true, "4058e913342ce287439f5370fd2d3ceb2e077cd6501f87953a5a65900660dd61"), looks := false }, kinds := [], alts := [], laidByText := true, laidKinds := [.data, .data, .data, .data, .pinned], laidTests := true, laidLooks := .later }
def FnExactSpareNameCardSaid : Prop := Claim7.holds Tryd.pinned (.plain (OpenSpec.ofChange fnExactSpareNameSpec)) fnExactSpareNameCard

/-- THE TIED CARD OF 'laws.FnExactLostChains'. -/
def fnExactLostChainsCard : Claim7 := { stood := { row := fnExactLostChainsRow, standIns := [], harness := (true, "4058e913342ce287439f5370fd2d3ceb2e077cd6501f87953a5a65900660dd61"), looks := false }, kinds := [], alts := [], laidByText := true, laidKinds := [.data, .pinned], laidTests := true, laidLooks := .later }
def FnExactLostChainsCardSaid : Prop := Claim7.holds Tryd.pinned (.plain (OpenSpec.ofChange fnExactLostChainsSpec)) fnExactLostChainsCard

/-- THE SECOND FORM's CARD OF 'laws.FnExactEntryProblems'. -/
def fnExactEntryProblemsUptoCard : Claim7 := { stood := { row := fnExactEntryProblemsUptoRow, standIns := [], harness := (true, "4058e913342ce287439f5370fd2d3ceb2e077cd6501f87953a5a65900660dd61"), looks := false }, kinds := [], alts := [], laidByText := true, laidKinds := [.data, .pinned], laidTests := true, laidLooks := .later }
def FnExactEntryProblemsUptoCardSaid : Prop := Claim7.holds Tryd.pinned (.plain (OpenSpec.upto fnExactEntryProblemsSpec)) fnExactEntryProblemsUptoCard

/-- THE SECOND FORM's CARD OF 'laws.FnExactWalksOf'. -/
def fnExactWalksOfUptoCard : Claim7 := { stood := { row := fnExactWalksOfUptoRow, standIns := [], harness := (true, "4058e913342ce287439f5370fd2d3ceb2e077cd6501f87953a5a65900660dd61"), looks := false }, kinds := [], alts := [], laidByText := true, laidKinds := [.data, .pinned], laidTests := true, laidLooks := .later }
def FnExactWalksOfUptoCardSaid : Prop := Claim7.holds Tryd.pinned (.plain (OpenSpec.upto fnExactWalksOfSpec)) fnExactWalksOfUptoCard

/-- THE SECOND FORM's CARD OF 'laws.FnExactReadChain'. -/
def fnExactReadChainUptoCard : Claim7 := { stood := { row := fnExactReadChainUptoRow, standIns := [], harness := (true, "4058e913342ce287439f5370fd2d3ceb2e077cd6501f87953a5a65900660dd61"), looks := false }, kinds := [], alts := [], laidByText := true, laidKinds := [.data, .pinned], laidTests := true, laidLooks := .later }
def FnExactReadChainUptoCardSaid : Prop := Claim7.holds Tryd.pinned (.plain (OpenSpec.upto fnExactReadChainSpec)) fnExactReadChainUptoCard

/-- THE SECOND FORM's CARD OF 'laws.FnExactSpareName'. -/
def fnExactSpareNameUptoCard : Claim7 := { stood := { row := fnExactSpareNameUptoRow, standIns := [], harness := (true, "4058e913342ce287439f5370fd2d3ceb2e077cd6501f87953a5a65900660dd61"), looks := false }, kinds := [], alts := [], laidByText := true, laidKinds := [.data, .data, .data, .data, .pinned], laidTests := true, laidLooks := .later }
def FnExactSpareNameUptoCardSaid : Prop := Claim7.holds Tryd.pinned (.plain (OpenSpec.upto fnExactSpareNameSpec)) fnExactSpareNameUptoCard

/-- THE SECOND FORM's CARD OF 'laws.FnExactLostChains'. -/
def fnExactLostChainsUptoCard : Claim7 := { stood := { row := fnExactLostChainsUptoRow, standIns := [], harness := (true, "4058e913342ce287439f5370fd2d3ceb2e077cd6501f87953a5a65900660dd61"), looks := false }, kinds := [], alts := [], laidByText := true, laidKinds := [.data, .pinned], laidTests := true, laidLooks := .later }
def FnExactLostChainsUptoCardSaid : Prop := Claim7.holds Tryd.pinned (.plain (OpenSpec.upto fnExactLostChainsSpec)) fnExactLostChainsUptoCard
end Rows
end Go.Proofs.YtgmmigbaaigldaaDoor
