/-
  DERIVED. GIVEN WITH THE SEED: THE CARDS: each row of YtbcdfcadcghghaaDoorRows.lean that lists a variable, with what it lists TIED to the program's text (the seventh form; the later family's looks); each row that meets fmt, with fmt's text TOLD by the authors' own Lean function (tested against real Go, not proved from fmt's source: count such statements apart). THE CARD IS WHAT COUNTS. Prove the row's statement (the work); the ties are given (YtbcdfcadcghghaaDoorTie.lean); close each card by the builder's one call (the guide's Derived/Test/ToyasCard.lean, 'card_holds'). Laid BY PROGRAM, IN A SANDBOX (cutbox-door.mjs). By AI agents, Wed Nov 11 2026. No macro, syntax, notation, axiom, sorry.
-/
import Derived.Test.YtbcdfcadcghghaaDoorRows
import GoSem.ClaimSeven
namespace Go.Proofs.YtbcdfcadcghghaaDoor
namespace Rows

/-- THE TIED CARD OF 'laws.FnExactGoneChains'. -/
def fnExactGoneChainsCard : Claim7 := { stood := { row := fnExactGoneChainsRow, standIns := [], harness := (true, "90b955e96b87715fa7a6aab9f0d5bf1329f1db7fff924fe386aed4d24abd4398"), looks := false }, kinds := [], alts := [], laidByText := true, laidKinds := [.data, .pinned], laidTests := true, laidLooks := .later }
def FnExactGoneChainsCardSaid : Prop := Claim7.holds Tryd.pinned (.plain (OpenSpec.ofChange fnExactGoneChainsSpec)) fnExactGoneChainsCard

/-- THE TIED CARD OF 'laws.FnExactOwnersOf'. -/
def fnExactOwnersOfCard : Claim7 := { stood := { row := fnExactOwnersOfRow, standIns := [], harness := (true, "90b955e96b87715fa7a6aab9f0d5bf1329f1db7fff924fe386aed4d24abd4398"), looks := false }, kinds := [], alts := [], laidByText := true, laidKinds := [.data, .pinned], laidTests := true, laidLooks := .later }
def FnExactOwnersOfCardSaid : Prop := Claim7.holds Tryd.pinned (.plain (OpenSpec.ofChange fnExactOwnersOfSpec)) fnExactOwnersOfCard

/-- THE TIED CARD OF 'laws.FnExactLostBlocks'. -/
def fnExactLostBlocksCard : Claim7 := { stood := { row := fnExactLostBlocksRow, standIns := [], harness := (true, "90b955e96b87715fa7a6aab9f0d5bf1329f1db7fff924fe386aed4d24abd4398"), looks := false }, kinds := [], alts := [], laidByText := true, laidKinds := [.data, .pinned], laidTests := true, laidLooks := .later }
def FnExactLostBlocksCardSaid : Prop := Claim7.holds Tryd.pinned (.plain (OpenSpec.ofChange fnExactLostBlocksSpec)) fnExactLostBlocksCard

/-- THE TIED CARD OF 'laws.FnExactWalksOf'. -/
def fnExactWalksOfCard : Claim7 := { stood := { row := fnExactWalksOfRow, standIns := [], harness := (true, "90b955e96b87715fa7a6aab9f0d5bf1329f1db7fff924fe386aed4d24abd4398"), looks := false }, kinds := [], alts := [], laidByText := true, laidKinds := [.data, .pinned], laidTests := true, laidLooks := .later }
def FnExactWalksOfCardSaid : Prop := Claim7.holds Tryd.pinned (.plain (OpenSpec.ofChange fnExactWalksOfSpec)) fnExactWalksOfCard

/-- THE TIED CARD OF 'laws.FnExactReadChain'. -/
def fnExactReadChainCard : Claim7 := { stood := { row := fnExactReadChainRow, standIns := [], harness := (true, "90b955e96b87715fa7a6aab9f0d5bf1329f1db7fff924fe386aed4d24abd4398"), looks := false }, kinds := [], alts := [], laidByText := true, laidKinds := [.data, .pinned], laidTests := true, laidLooks := .later }
def FnExactReadChainCardSaid : Prop := Claim7.holds Tryd.pinned (.plain (OpenSpec.ofChange fnExactReadChainSpec)) fnExactReadChainCard

/-- THE TIED CARD OF 'laws.FnExactDeleteChain'. -/
def fnExactDeleteChainCard : Claim7 := { stood := { row := fnExactDeleteChainRow, standIns := [], harness := (true, "90b955e96b87715fa7a6aab9f0d5bf1329f1db7fff924fe386aed4d24abd4398"), looks := false }, kinds := [], alts := [], laidByText := true, laidKinds := [.data, .pinned], laidTests := true, laidLooks := .later }
def FnExactDeleteChainCardSaid : Prop := Claim7.holds Tryd.pinned (.plain (OpenSpec.ofChange fnExactDeleteChainSpec)) fnExactDeleteChainCard

/-- THE TIED CARD OF 'laws.FnExactEntryProblems'. -/
def fnExactEntryProblemsCard : Claim7 := { stood := { row := fnExactEntryProblemsRow, standIns := [], harness := (true, "90b955e96b87715fa7a6aab9f0d5bf1329f1db7fff924fe386aed4d24abd4398"), looks := false }, kinds := [], alts := [], laidByText := true, laidKinds := [.data, .pinned], laidTests := true, laidLooks := .later }
def FnExactEntryProblemsCardSaid : Prop := Claim7.holds Tryd.pinned (.plain (OpenSpec.ofChange fnExactEntryProblemsSpec)) fnExactEntryProblemsCard

/-- THE SECOND FORM's CARD OF 'laws.FnExactGoneChains'. -/
def fnExactGoneChainsUptoCard : Claim7 := { stood := { row := fnExactGoneChainsUptoRow, standIns := [], harness := (true, "90b955e96b87715fa7a6aab9f0d5bf1329f1db7fff924fe386aed4d24abd4398"), looks := false }, kinds := [], alts := [], laidByText := true, laidKinds := [.data, .pinned], laidTests := true, laidLooks := .later }
def FnExactGoneChainsUptoCardSaid : Prop := Claim7.holds Tryd.pinned (.plain (OpenSpec.upto fnExactGoneChainsSpec)) fnExactGoneChainsUptoCard

/-- THE SECOND FORM's CARD OF 'laws.FnExactOwnersOf'. -/
def fnExactOwnersOfUptoCard : Claim7 := { stood := { row := fnExactOwnersOfUptoRow, standIns := [], harness := (true, "90b955e96b87715fa7a6aab9f0d5bf1329f1db7fff924fe386aed4d24abd4398"), looks := false }, kinds := [], alts := [], laidByText := true, laidKinds := [.data, .pinned], laidTests := true, laidLooks := .later }
def FnExactOwnersOfUptoCardSaid : Prop := Claim7.holds Tryd.pinned (.plain (OpenSpec.upto fnExactOwnersOfSpec)) fnExactOwnersOfUptoCard

/-- THE SECOND FORM's CARD OF 'laws.FnExactLostBlocks'. -/
def fnExactLostBlocksUptoCard : Claim7 := { stood := { row := fnExactLostBlocksUptoRow, standIns := [], harness := (true, "90b955e96b87715fa7a6aab9f0d5bf1329f1db7fff924fe386aed4d24abd4398"), looks := false }, kinds := [], alts := [], laidByText := true, laidKinds := [.data, .pinned], laidTests := true, laidLooks := .later }
def FnExactLostBlocksUptoCardSaid : Prop := Claim7.holds Tryd.pinned (.plain (OpenSpec.upto fnExactLostBlocksSpec)) fnExactLostBlocksUptoCard

/-- THE SECOND FORM's CARD OF 'laws.FnExactWalksOf'. -/
def fnExactWalksOfUptoCard : Claim7 := { stood := { row := fnExactWalksOfUptoRow, standIns := [], harness := (true, "90b955e96b87715fa7a6aab9f0d5bf1329f1db7fff924fe386aed4d24abd4398"), looks := false }, kinds := [], alts := [], laidByText := true, laidKinds := [.data, .pinned], laidTests := true, laidLooks := .later }
def FnExactWalksOfUptoCardSaid : Prop := Claim7.holds Tryd.pinned (.plain (OpenSpec.upto fnExactWalksOfSpec)) fnExactWalksOfUptoCard

/-- THE SECOND FORM's CARD OF 'laws.FnExactReadChain'. -/
def fnExactReadChainUptoCard : Claim7 := { stood := { row := fnExactReadChainUptoRow, standIns := [], harness := (true, "90b955e96b87715fa7a6aab9f0d5bf1329f1db7fff924fe386aed4d24abd4398"), looks := false }, kinds := [], alts := [], laidByText := true, laidKinds := [.data, .pinned], laidTests := true, laidLooks := .later }
def FnExactReadChainUptoCardSaid : Prop := Claim7.holds Tryd.pinned (.plain (OpenSpec.upto fnExactReadChainSpec)) fnExactReadChainUptoCard

/-- THE SECOND FORM's CARD OF 'laws.FnExactDeleteChain'. -/
def fnExactDeleteChainUptoCard : Claim7 := { stood := { row := fnExactDeleteChainUptoRow, standIns := [], harness := (true, "90b955e96b87715fa7a6aab9f0d5bf1329f1db7fff924fe386aed4d24abd4398"), looks := false }, kinds := [], alts := [], laidByText := true, laidKinds := [.data, .pinned], laidTests := true, laidLooks := .later }
def FnExactDeleteChainUptoCardSaid : Prop := Claim7.holds Tryd.pinned (.plain (OpenSpec.upto fnExactDeleteChainSpec)) fnExactDeleteChainUptoCard

/-- THE SECOND FORM's CARD OF 'laws.FnExactEntryProblems'. -/
def fnExactEntryProblemsUptoCard : Claim7 := { stood := { row := fnExactEntryProblemsUptoRow, standIns := [], harness := (true, "90b955e96b87715fa7a6aab9f0d5bf1329f1db7fff924fe386aed4d24abd4398"), looks := false }, kinds := [], alts := [], laidByText := true, laidKinds := [.data, .pinned], laidTests := true, laidLooks := .later }
def FnExactEntryProblemsUptoCardSaid : Prop := Claim7.holds Tryd.pinned (.plain (OpenSpec.upto fnExactEntryProblemsSpec)) fnExactEntryProblemsUptoCard
end Rows
end Go.Proofs.YtbcdfcadcghghaaDoor
