/-
  DERIVED. GIVEN WITH THE SEED: THE CARDS: each row of YtapkckpjeoedaaaDoorRows.lean that lists a variable, with what it lists TIED to the program's text (the seventh form; the later family's looks); each row that meets fmt, with fmt's text TOLD by the authors' own Lean function (tested against real Go, not proved from fmt's source: count such statements apart). THE CARD IS WHAT COUNTS. Prove the row's statement (the work); the ties are given (YtapkckpjeoedaaaDoorTie.lean); close each card by the builder's one call (the guide's Derived/Test/ToyasCard.lean, 'card_holds'). Laid BY PROGRAM, IN A SANDBOX (cutbox-door.mjs). By AI agents, Wed Nov 11 2026. No macro, syntax, notation, axiom, sorry.
-/
import Derived.Test.YtapkckpjeoedaaaDoorRows
import GoSem.ClaimSeven
namespace Go.Proofs.YtapkckpjeoedaaaDoor
namespace Rows

/-- THE TIED CARD OF 'laws.FnExactLostChains'. -/
def fnExactLostChainsCard : Claim7 := { stood := { row := fnExactLostChainsRow, standIns := [], harness := (true, "a2736a6e424be5b47215c3bb2b9edc59f9b88a57c4dba901066bd1f255994003"), looks := false }, kinds := [], alts := [], laidByText := true, laidKinds := [.data, .pinned], laidTests := true, laidLooks := .later }
def FnExactLostChainsCardSaid : Prop := Claim7.holds Tryd.pinned (.plain (OpenSpec.ofChange fnExactLostChainsSpec)) fnExactLostChainsCard

/-- THE SECOND FORM's CARD OF 'laws.FnExactLostChains'. -/
def fnExactLostChainsUptoCard : Claim7 := { stood := { row := fnExactLostChainsUptoRow, standIns := [], harness := (true, "a2736a6e424be5b47215c3bb2b9edc59f9b88a57c4dba901066bd1f255994003"), looks := false }, kinds := [], alts := [], laidByText := true, laidKinds := [.data, .pinned], laidTests := true, laidLooks := .later }
def FnExactLostChainsUptoCardSaid : Prop := Claim7.holds Tryd.pinned (.plain (OpenSpec.upto fnExactLostChainsSpec)) fnExactLostChainsUptoCard
end Rows
end Go.Proofs.YtapkckpjeoedaaaDoor
