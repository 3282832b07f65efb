/-
  DERIVED. GIVEN WITH THE SEED: THE CARDS: each row of YtmgcaiilocifbaaDoorRows.lean that lists a variable, with what it lists TIED to the program's text (the seventh form; the later family's looks); each row that meets fmt, with fmt's text TOLD by the authors' own Lean function (tested against real Go, not proved from fmt's source: count such statements apart). THE CARD IS WHAT COUNTS. Prove the row's statement (the work); the ties are given (YtmgcaiilocifbaaDoorTie.lean); close each card by the builder's one call (the guide's Derived/Test/ToyasCard.lean, 'card_holds'). Laid BY PROGRAM, IN A SANDBOX (cutbox-door.mjs). By AI agents, Wed Nov 11 2026. No macro, syntax, notation, axiom, sorry.
-/
import Derived.Test.YtmgcaiilocifbaaDoorRows
import GoSem.ClaimSeven
namespace Go.Proofs.YtmgcaiilocifbaaDoor
namespace Rows

/-- THE TIED CARD OF 'laws.FnExactFreeExtents'. -/
def fnExactFreeExtentsCard : Claim7 := { stood := { row := fnExactFreeExtentsRow, standIns := [], harness := (true, "99c1f9f512173d756fabec438d51a786df3f6281e69e6c5100a8f70f8fc1e9e4"), looks := false }, kinds := [], alts := [], laidByText := true, laidKinds := [.data, .pinned], laidTests := true, laidLooks := .later }
def FnExactFreeExtentsCardSaid : Prop := Claim7.holds Tryd.pinned (.plain (OpenSpec.ofChange fnExactFreeExtentsSpec)) fnExactFreeExtentsCard

/-- THE TIED CARD OF 'laws.FnExactDeleteExtents'. -/
def fnExactDeleteExtentsCard : Claim7 := { stood := { row := fnExactDeleteExtentsRow, standIns := [], harness := (true, "99c1f9f512173d756fabec438d51a786df3f6281e69e6c5100a8f70f8fc1e9e4"), looks := false }, kinds := [], alts := [], laidByText := true, laidKinds := [.data, .pinned], laidTests := true, laidLooks := .later }
def FnExactDeleteExtentsCardSaid : Prop := Claim7.holds Tryd.pinned (.plain (OpenSpec.ofChange fnExactDeleteExtentsSpec)) fnExactDeleteExtentsCard

/-- THE TIED CARD OF 'laws.FnExactExtentProblems'. -/
def fnExactExtentProblemsCard : Claim7 := { stood := { row := fnExactExtentProblemsRow, standIns := [], harness := (true, "99c1f9f512173d756fabec438d51a786df3f6281e69e6c5100a8f70f8fc1e9e4"), looks := false }, kinds := [], alts := [], laidByText := true, laidKinds := [.data, .pinned], laidTests := true, laidLooks := .later }
def FnExactExtentProblemsCardSaid : Prop := Claim7.holds Tryd.pinned (.plain (OpenSpec.ofChange fnExactExtentProblemsSpec)) fnExactExtentProblemsCard

/-- THE TIED CARD OF 'laws.FnExactReadExtents'. -/
def fnExactReadExtentsCard : Claim7 := { stood := { row := fnExactReadExtentsRow, standIns := [], harness := (true, "99c1f9f512173d756fabec438d51a786df3f6281e69e6c5100a8f70f8fc1e9e4"), looks := false }, kinds := [], alts := [], laidByText := true, laidKinds := [.data, .pinned], laidTests := true, laidLooks := .later }
def FnExactReadExtentsCardSaid : Prop := Claim7.holds Tryd.pinned (.plain (OpenSpec.ofChange fnExactReadExtentsSpec)) fnExactReadExtentsCard

/-- THE TIED CARD OF 'laws.FnExactGoneExtents'. -/
def fnExactGoneExtentsCard : Claim7 := { stood := { row := fnExactGoneExtentsRow, standIns := [], harness := (true, "99c1f9f512173d756fabec438d51a786df3f6281e69e6c5100a8f70f8fc1e9e4"), looks := false }, kinds := [], alts := [], laidByText := true, laidKinds := [.data, .pinned], laidTests := true, laidLooks := .later }
def FnExactGoneExtentsCardSaid : Prop := Claim7.holds Tryd.pinned (.plain (OpenSpec.ofChange fnExactGoneExtentsSpec)) fnExactGoneExtentsCard

/-- THE SECOND FORM's CARD OF 'laws.FnExactFreeExtents'. -/
def fnExactFreeExtentsUptoCard : Claim7 := { stood := { row := fnExactFreeExtentsUptoRow, standIns := [], harness := (true, "99c1f9f512173d756fabec438d51a786df3f6281e69e6c5100a8f70f8fc1e9e4"), looks := false }, kinds := [], alts := [], laidByText := true, laidKinds := [.data, .pinned], laidTests := true, laidLooks := .later }
def FnExactFreeExtentsUptoCardSaid : Prop := Claim7.holds Tryd.pinned (.plain (OpenSpec.upto fnExactFreeExtentsSpec)) fnExactFreeExtentsUptoCard

/-- THE SECOND FORM's CARD OF 'laws.FnExactDeleteExtents'. -/
def fnExactDeleteExtentsUptoCard : Claim7 := { stood := { row := fnExactDeleteExtentsUptoRow, standIns := [], harness := (true, "99c1f9f512173d756fabec438d51a786df3f6281e69e6c5100a8f70f8fc1e9e4"), looks := false }, kinds := [], alts := [], laidByText := true, laidKinds := [.data, .pinned], laidTests := true, laidLooks := .later }
def FnExactDeleteExtentsUptoCardSaid : Prop := Claim7.holds Tryd.pinned (.plain (OpenSpec.upto fnExactDeleteExtentsSpec)) fnExactDeleteExtentsUptoCard

/-- THE SECOND FORM's CARD OF 'laws.FnExactExtentProblems'. -/
def fnExactExtentProblemsUptoCard : Claim7 := { stood := { row := fnExactExtentProblemsUptoRow, standIns := [], harness := (true, "99c1f9f512173d756fabec438d51a786df3f6281e69e6c5100a8f70f8fc1e9e4"), looks := false }, kinds := [], alts := [], laidByText := true, laidKinds := [.data, .pinned], laidTests := true, laidLooks := .later }
def FnExactExtentProblemsUptoCardSaid : Prop := Claim7.holds Tryd.pinned (.plain (OpenSpec.upto fnExactExtentProblemsSpec)) fnExactExtentProblemsUptoCard

/-- THE SECOND FORM's CARD OF 'laws.FnExactReadExtents'. -/
def fnExactReadExtentsUptoCard : Claim7 := { stood := { row := fnExactReadExtentsUptoRow, standIns := [], harness := (true, "99c1f9f512173d756fabec438d51a786df3f6281e69e6c5100a8f70f8fc1e9e4"), looks := false }, kinds := [], alts := [], laidByText := true, laidKinds := [.data, .pinned], laidTests := true, laidLooks := .later }
def FnExactReadExtentsUptoCardSaid : Prop := Claim7.holds Tryd.pinned (.plain (OpenSpec.upto fnExactReadExtentsSpec)) fnExactReadExtentsUptoCard

/-- THE SECOND FORM's CARD OF 'laws.FnExactGoneExtents'. -/
def fnExactGoneExtentsUptoCard : Claim7 := { stood := { row := fnExactGoneExtentsUptoRow, standIns := [], harness := (true, "99c1f9f512173d756fabec438d51a786df3f6281e69e6c5100a8f70f8fc1e9e4"), looks := false }, kinds := [], alts := [], laidByText := true, laidKinds := [.data, .pinned], laidTests := true, laidLooks := .later }
def FnExactGoneExtentsUptoCardSaid : Prop := Claim7.holds Tryd.pinned (.plain (OpenSpec.upto fnExactGoneExtentsSpec)) fnExactGoneExtentsUptoCard
end Rows
end Go.Proofs.YtmgcaiilocifbaaDoor
