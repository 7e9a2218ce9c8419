/-
  DERIVED. GIVEN WITH THE SEED: THE CARDS: each row of YtmagaapdijapiaaDoorRows.lean that lists a variable, with what it lists TIED to the program's text (the seventh form; the later family's looks); each row that meets fmt, with fmt's text TOLD by the authors' own Lean function (tested against real Go, not proved from fmt's source: count such statements apart). THE CARD IS WHAT COUNTS. Prove the row's statement (the work); the ties are given (YtmagaapdijapiaaDoorTie.lean); close each card by the builder's one call (the guide's Derived/Test/ToyasCard.lean, 'card_holds'). Laid BY PROGRAM, IN A SANDBOX (cutbox-door.mjs). By AI agents, Wed Nov 11 2026. No macro, syntax, notation, axiom, sorry.
-/
import Derived.Test.YtmagaapdijapiaaDoorRows
import GoSem.ClaimSeven
namespace Go.Proofs.YtmagaapdijapiaaDoor
namespace Rows

/-- THE TIED CARD OF 'laws.FnPieces'. -/
def fnPiecesCard : Claim7 := { stood := { row := fnPiecesRow, standIns := [], harness := (true, "7d2454c665ae0ad7a47049e6e7a0b86322e6a01b4f740aa883d9515c5d3a1f4c"), looks := false }, kinds := [], alts := [], laidByText := true, laidKinds := [.widerDeep], laidTests := true, laidLooks := .later }
def FnPiecesCardSaid : Prop := Claim7.holds Tryd.pinned (.plain (OpenSpec.ofChange fnPiecesSpec)) fnPiecesCard

/-- THE TIED CARD OF 'laws.FnMasks'. -/
def fnMasksCard : Claim7 := { stood := { row := fnMasksRow, standIns := [], harness := (true, "7d2454c665ae0ad7a47049e6e7a0b86322e6a01b4f740aa883d9515c5d3a1f4c"), looks := false }, kinds := [], alts := [], laidByText := true, laidKinds := [.data, .pinned], laidTests := true, laidLooks := .later }
def FnMasksCardSaid : Prop := Claim7.holds Tryd.pinned (.plain (OpenSpec.ofChange fnMasksSpec)) fnMasksCard

/-- THE SECOND FORM's CARD OF 'laws.FnPieces'. -/
def fnPiecesUptoCard : Claim7 := { stood := { row := fnPiecesUptoRow, standIns := [], harness := (true, "7d2454c665ae0ad7a47049e6e7a0b86322e6a01b4f740aa883d9515c5d3a1f4c"), looks := false }, kinds := [], alts := [], laidByText := true, laidKinds := [.widerDeep], laidTests := true, laidLooks := .later }
def FnPiecesUptoCardSaid : Prop := Claim7.holds Tryd.pinned (.plain (OpenSpec.upto fnPiecesSpec)) fnPiecesUptoCard

/-- THE SECOND FORM's CARD OF 'laws.FnMasks'. -/
def fnMasksUptoCard : Claim7 := { stood := { row := fnMasksUptoRow, standIns := [], harness := (true, "7d2454c665ae0ad7a47049e6e7a0b86322e6a01b4f740aa883d9515c5d3a1f4c"), looks := false }, kinds := [], alts := [], laidByText := true, laidKinds := [.data, .pinned], laidTests := true, laidLooks := .later }
def FnMasksUptoCardSaid : Prop := Claim7.holds Tryd.pinned (.plain (OpenSpec.upto fnMasksSpec)) fnMasksUptoCard
end Rows
end Go.Proofs.YtmagaapdijapiaaDoor
