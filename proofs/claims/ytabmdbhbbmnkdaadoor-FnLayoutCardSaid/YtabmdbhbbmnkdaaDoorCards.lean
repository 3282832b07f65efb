/-
  DERIVED. GIVEN WITH THE SEED: THE CARDS: each row of YtabmdbhbbmnkdaaDoorRows.lean that lists a variable, with what it lists TIED to the program's text (the seventh form; the later family's looks); each row that meets fmt, with fmt's text TOLD by the authors' own Lean function (tested against real Go, not proved from fmt's source: count such statements apart). THE CARD IS WHAT COUNTS. Prove the row's statement (the work); the ties are given (YtabmdbhbbmnkdaaDoorTie.lean); close each card by the builder's one call (the guide's Derived/Test/ToyasCard.lean, 'card_holds'). Laid BY PROGRAM, IN A SANDBOX (cutbox-door.mjs). By AI agents, Wed Nov 11 2026. No macro, syntax, notation, axiom, sorry.
-/
import Derived.Test.YtabmdbhbbmnkdaaDoorRows
import GoSem.ClaimSeven
namespace Go.Proofs.YtabmdbhbbmnkdaaDoor
namespace Rows

/-- THE TIED CARD OF 'laws.FnVotes'. -/
def fnVotesCard : Claim7 := { stood := { row := fnVotesRow, standIns := [], harness := (true, "28c7c92d896b583c277042a0b5cf5154b8bc5c3fb1d0334586ec29a6025071a5"), looks := false }, kinds := [], alts := [], laidByText := true, laidKinds := [.data, .pinned], laidTests := true, laidLooks := .later }
def FnVotesCardSaid : Prop := Claim7.holds Tryd.pinned (.plain (OpenSpec.ofChange fnVotesSpec)) fnVotesCard

/-- THE TIED CARD OF 'laws.FnLayout'. -/
def fnLayoutCard : Claim7 := { stood := { row := fnLayoutRow, standIns := [], harness := (true, "28c7c92d896b583c277042a0b5cf5154b8bc5c3fb1d0334586ec29a6025071a5"), looks := false }, kinds := [], alts := [], laidByText := true, laidKinds := [.data], laidTests := true, laidLooks := .later }
def FnLayoutCardSaid : Prop := Claim7.holds Tryd.pinned (.plain (OpenSpec.ofChange fnLayoutSpec)) fnLayoutCard

/-- THE TIED CARD OF 'laws.FnExactBuildTrack'. -/
def fnExactBuildTrackCard : Claim7 := { stood := { row := fnExactBuildTrackRow, standIns := [], harness := (true, "28c7c92d896b583c277042a0b5cf5154b8bc5c3fb1d0334586ec29a6025071a5"), looks := false }, kinds := [], alts := [], laidByText := true, laidKinds := [.data], laidTests := true, laidLooks := .later }
def FnExactBuildTrackCardSaid : Prop := Claim7.holds Tryd.pinned (.plain (OpenSpec.ofChange fnExactBuildTrackSpec)) fnExactBuildTrackCard

/-- THE SECOND FORM's CARD OF 'laws.FnVotes'. -/
def fnVotesUptoCard : Claim7 := { stood := { row := fnVotesUptoRow, standIns := [], harness := (true, "28c7c92d896b583c277042a0b5cf5154b8bc5c3fb1d0334586ec29a6025071a5"), looks := false }, kinds := [], alts := [], laidByText := true, laidKinds := [.data, .pinned], laidTests := true, laidLooks := .later }
def FnVotesUptoCardSaid : Prop := Claim7.holds Tryd.pinned (.plain (OpenSpec.upto fnVotesSpec)) fnVotesUptoCard

/-- THE SECOND FORM's CARD OF 'laws.FnLayout'. -/
def fnLayoutUptoCard : Claim7 := { stood := { row := fnLayoutUptoRow, standIns := [], harness := (true, "28c7c92d896b583c277042a0b5cf5154b8bc5c3fb1d0334586ec29a6025071a5"), looks := false }, kinds := [], alts := [], laidByText := true, laidKinds := [.data], laidTests := true, laidLooks := .later }
def FnLayoutUptoCardSaid : Prop := Claim7.holds Tryd.pinned (.plain (OpenSpec.upto fnLayoutSpec)) fnLayoutUptoCard

/-- THE SECOND FORM's CARD OF 'laws.FnExactBuildTrack'. -/
def fnExactBuildTrackUptoCard : Claim7 := { stood := { row := fnExactBuildTrackUptoRow, standIns := [], harness := (true, "28c7c92d896b583c277042a0b5cf5154b8bc5c3fb1d0334586ec29a6025071a5"), looks := false }, kinds := [], alts := [], laidByText := true, laidKinds := [.data], laidTests := true, laidLooks := .later }
def FnExactBuildTrackUptoCardSaid : Prop := Claim7.holds Tryd.pinned (.plain (OpenSpec.upto fnExactBuildTrackSpec)) fnExactBuildTrackUptoCard
end Rows
end Go.Proofs.YtabmdbhbbmnkdaaDoor
