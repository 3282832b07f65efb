/-
  DERIVED. GIVEN WITH THE SEED: THE CARDS: each row of YtapkckpjeoedaaaGreatDoorRows.lean that lists a variable, with what it lists TIED to the program's text (the seventh form; the later family's looks); each row that meets fmt, with fmt's text TOLD by the authors' own Lean function (tested against real Go, not proved from fmt's source: count such statements apart). THE CARD IS WHAT COUNTS. Prove the row's statement (the work); the ties are given (YtapkckpjeoedaaaGreatDoorTie.lean); close each card by the builder's one call (the guide's Derived/Test/ToyasCard.lean, 'card_holds'). Laid BY PROGRAM, IN A SANDBOX (cutbox-door.mjs). By AI agents, Wed Nov 11 2026. No macro, syntax, notation, axiom, sorry.
-/
import Derived.Test.YtapkckpjeoedaaaGreatDoorRows
import GoSem.ClaimSeven
namespace Go.Proofs.YtapkckpjeoedaaaGreatDoor
namespace Rows

/-- THE TIED CARD OF 'laws.FnExactMendLost'. -/
def fnExactMendLostCard : Claim7 := { stood := { row := fnExactMendLostRow, standIns := [], harness := (true, "d2cfade5cce7a6856caf808109cbecf61d0efa567168e5ceb4283e6522f248c5"), looks := false }, kinds := [], alts := [], laidByText := true, laidKinds := [.data, .data, .data, .data, .pinned], laidTests := true, laidLooks := .later }
def FnExactMendLostCardSaid : Prop := Claim7.holds Tryz.pinned (.plain (OpenSpec.ofChange fnExactMendLostSpec)) fnExactMendLostCard

/-- THE TIED CARD OF 'laws.FnExactSoundFiles'. -/
def fnExactSoundFilesCard : Claim7 := { stood := { row := fnExactSoundFilesRow, standIns := [], harness := (true, "d2cfade5cce7a6856caf808109cbecf61d0efa567168e5ceb4283e6522f248c5"), looks := false }, kinds := [], alts := [], laidByText := true, laidKinds := [.data, .pinned], laidTests := true, laidLooks := .later }
def FnExactSoundFilesCardSaid : Prop := Claim7.holds Tryz.pinned (.plain (OpenSpec.ofChange fnExactSoundFilesSpec)) fnExactSoundFilesCard

/-- THE TIED CARD OF 'laws.FnExactKeptFiles'. -/
def fnExactKeptFilesCard : Claim7 := { stood := { row := fnExactKeptFilesRow, standIns := [], harness := (true, "d2cfade5cce7a6856caf808109cbecf61d0efa567168e5ceb4283e6522f248c5"), looks := false }, kinds := [], alts := [], laidByText := true, laidKinds := [.data, .pinned], laidTests := true, laidLooks := .later }
def FnExactKeptFilesCardSaid : Prop := Claim7.holds Tryz.pinned (.plain (OpenSpec.ofChange fnExactKeptFilesSpec)) fnExactKeptFilesCard

/-- THE TIED CARD OF 'laws.FnExactMendChains'. -/
def fnExactMendChainsCard : Claim7 := { stood := { row := fnExactMendChainsRow, standIns := [], harness := (true, "d2cfade5cce7a6856caf808109cbecf61d0efa567168e5ceb4283e6522f248c5"), looks := false }, kinds := [], alts := [], laidByText := true, laidKinds := [.data, .data, .data, .data, .pinned], laidTests := true, laidLooks := .later }
def FnExactMendChainsCardSaid : Prop := Claim7.holds Tryz.pinned (.plain (OpenSpec.ofChange fnExactMendChainsSpec)) fnExactMendChainsCard

/-- THE SECOND FORM's CARD OF 'laws.FnExactMendLost'. -/
def fnExactMendLostUptoCard : Claim7 := { stood := { row := fnExactMendLostUptoRow, standIns := [], harness := (true, "d2cfade5cce7a6856caf808109cbecf61d0efa567168e5ceb4283e6522f248c5"), looks := false }, kinds := [], alts := [], laidByText := true, laidKinds := [.data, .data, .data, .data, .pinned], laidTests := true, laidLooks := .later }
def FnExactMendLostUptoCardSaid : Prop := Claim7.holds Tryz.pinned (.plain (OpenSpec.upto fnExactMendLostSpec)) fnExactMendLostUptoCard

/-- THE SECOND FORM's CARD OF 'laws.FnExactSoundFiles'. -/
def fnExactSoundFilesUptoCard : Claim7 := { stood := { row := fnExactSoundFilesUptoRow, standIns := [], harness := (true, "d2cfade5cce7a6856caf808109cbecf61d0efa567168e5ceb4283e6522f248c5"), looks := false }, kinds := [], alts := [], laidByText := true, laidKinds := [.data, .pinned], laidTests := true, laidLooks := .later }
def FnExactSoundFilesUptoCardSaid : Prop := Claim7.holds Tryz.pinned (.plain (OpenSpec.upto fnExactSoundFilesSpec)) fnExactSoundFilesUptoCard

/-- THE SECOND FORM's CARD OF 'laws.FnExactKeptFiles'. -/
def fnExactKeptFilesUptoCard : Claim7 := { stood := { row := fnExactKeptFilesUptoRow, standIns := [], harness := (true, "d2cfade5cce7a6856caf808109cbecf61d0efa567168e5ceb4283e6522f248c5"), looks := false }, kinds := [], alts := [], laidByText := true, laidKinds := [.data, .pinned], laidTests := true, laidLooks := .later }
def FnExactKeptFilesUptoCardSaid : Prop := Claim7.holds Tryz.pinned (.plain (OpenSpec.upto fnExactKeptFilesSpec)) fnExactKeptFilesUptoCard

/-- THE SECOND FORM's CARD OF 'laws.FnExactMendChains'. -/
def fnExactMendChainsUptoCard : Claim7 := { stood := { row := fnExactMendChainsUptoRow, standIns := [], harness := (true, "d2cfade5cce7a6856caf808109cbecf61d0efa567168e5ceb4283e6522f248c5"), looks := false }, kinds := [], alts := [], laidByText := true, laidKinds := [.data, .data, .data, .data, .pinned], laidTests := true, laidLooks := .later }
def FnExactMendChainsUptoCardSaid : Prop := Claim7.holds Tryz.pinned (.plain (OpenSpec.upto fnExactMendChainsSpec)) fnExactMendChainsUptoCard
end Rows
end Go.Proofs.YtapkckpjeoedaaaGreatDoor
