/-
  DERIVED. GIVEN WITH THE SEED: THE CARDS: each row of YtodhhejliijdmaaDoorRows.lean that lists a variable, with what it lists TIED to the program's text (the seventh form; the later family's looks); each row that meets fmt, with fmt's text TOLD by the authors' own Lean function (tested against real Go, not proved from fmt's source: count such statements apart). THE CARD IS WHAT COUNTS. Prove the row's statement (the work); the ties are given (YtodhhejliijdmaaDoorTie.lean); close each card by the builder's one call (the guide's Derived/Test/ToyasCard.lean, 'card_holds'). Laid BY PROGRAM, IN A SANDBOX (cutbox-door.mjs). By AI agents, Wed Nov 11 2026. No macro, syntax, notation, axiom, sorry.
-/
import Derived.Test.YtodhhejliijdmaaDoorRows
import GoSem.ClaimSeven
namespace Go.Proofs.YtodhhejliijdmaaDoor
namespace Rows

/-- THE TIED CARD OF 'tollhouselaw01.ShaOf'. -/
def shaOfCard : Claim7 := { stood := { row := shaOfRow, standIns := [], harness := (true, "d834214edf00ee447aa4301bb9b232a53093d3d32ea4d10446c88bf06e095830"), looks := false }, kinds := [], alts := [], laidByText := true, laidKinds := [.data, .data], laidTests := true, laidLooks := .later }
def ShaOfCardSaid : Prop := Claim7.holds Tryd.pinned (.plain (OpenSpec.ofChange shaOfSpec)) shaOfCard

/-- THE TIED CARD OF 'tollhouselaw01.ShaPieces'. -/
def shaPiecesCard : Claim7 := { stood := { row := shaPiecesRow, standIns := [], harness := (true, "d834214edf00ee447aa4301bb9b232a53093d3d32ea4d10446c88bf06e095830"), looks := false }, kinds := [], alts := [], laidByText := true, laidKinds := [.data, .data], laidTests := true, laidLooks := .later }
def ShaPiecesCardSaid : Prop := Claim7.holds Tryd.pinned (.plain (OpenSpec.ofChange shaPiecesSpec)) shaPiecesCard

/-- THE TIED CARD OF 'tollhouselaw01.ShaClones'. -/
def shaClonesCard : Claim7 := { stood := { row := shaClonesRow, standIns := [], harness := (true, "d834214edf00ee447aa4301bb9b232a53093d3d32ea4d10446c88bf06e095830"), looks := false }, kinds := [], alts := [], laidByText := true, laidKinds := [.data, .data], laidTests := true, laidLooks := .later }
def ShaClonesCardSaid : Prop := Claim7.holds Tryd.pinned (.plain (OpenSpec.ofChange shaClonesSpec)) shaClonesCard

/-- THE TIED CARD OF 'tollhouselaw01.ShaLess'. -/
def shaLessCard : Claim7 := { stood := { row := shaLessRow, standIns := [], harness := (true, "d834214edf00ee447aa4301bb9b232a53093d3d32ea4d10446c88bf06e095830"), looks := false }, kinds := [], alts := [], laidByText := true, laidKinds := [.data], laidTests := true, laidLooks := .later }
def ShaLessCardSaid : Prop := Claim7.holds Tryd.pinned (.plain (OpenSpec.ofChange shaLessSpec)) shaLessCard

/-- THE TIED CARD OF 'tollhouselaw01.ShaTagged'. -/
def shaTaggedCard : Claim7 := { stood := { row := shaTaggedRow, standIns := [], harness := (true, "d834214edf00ee447aa4301bb9b232a53093d3d32ea4d10446c88bf06e095830"), looks := false }, kinds := [], alts := [], laidByText := true, laidKinds := [.data, .data], laidTests := true, laidLooks := .later }
def ShaTaggedCardSaid : Prop := Claim7.holds Tryd.pinned (.plain (OpenSpec.ofChange shaTaggedSpec)) shaTaggedCard

/-- THE TIED CARD OF 'tollhouselaw01.ShaMac'. -/
def shaMacCard : Claim7 := { stood := { row := shaMacRow, standIns := [], harness := (true, "d834214edf00ee447aa4301bb9b232a53093d3d32ea4d10446c88bf06e095830"), looks := false }, kinds := [], alts := [], laidByText := true, laidKinds := [.data, .data], laidTests := true, laidLooks := .later }
def ShaMacCardSaid : Prop := Claim7.holds Tryd.pinned (.plain (OpenSpec.ofChange shaMacSpec)) shaMacCard

/-- THE SECOND FORM's CARD OF 'tollhouselaw01.ShaOf'. -/
def shaOfUptoCard : Claim7 := { stood := { row := shaOfUptoRow, standIns := [], harness := (true, "d834214edf00ee447aa4301bb9b232a53093d3d32ea4d10446c88bf06e095830"), looks := false }, kinds := [], alts := [], laidByText := true, laidKinds := [.data, .data], laidTests := true, laidLooks := .later }
def ShaOfUptoCardSaid : Prop := Claim7.holds Tryd.pinned (.plain (OpenSpec.upto shaOfSpec)) shaOfUptoCard

/-- THE SECOND FORM's CARD OF 'tollhouselaw01.ShaPieces'. -/
def shaPiecesUptoCard : Claim7 := { stood := { row := shaPiecesUptoRow, standIns := [], harness := (true, "d834214edf00ee447aa4301bb9b232a53093d3d32ea4d10446c88bf06e095830"), looks := false }, kinds := [], alts := [], laidByText := true, laidKinds := [.data, .data], laidTests := true, laidLooks := .later }
def ShaPiecesUptoCardSaid : Prop := Claim7.holds Tryd.pinned (.plain (OpenSpec.upto shaPiecesSpec)) shaPiecesUptoCard

/-- THE SECOND FORM's CARD OF 'tollhouselaw01.ShaClones'. -/
def shaClonesUptoCard : Claim7 := { stood := { row := shaClonesUptoRow, standIns := [], harness := (true, "d834214edf00ee447aa4301bb9b232a53093d3d32ea4d10446c88bf06e095830"), looks := false }, kinds := [], alts := [], laidByText := true, laidKinds := [.data, .data], laidTests := true, laidLooks := .later }
def ShaClonesUptoCardSaid : Prop := Claim7.holds Tryd.pinned (.plain (OpenSpec.upto shaClonesSpec)) shaClonesUptoCard

/-- THE SECOND FORM's CARD OF 'tollhouselaw01.ShaLess'. -/
def shaLessUptoCard : Claim7 := { stood := { row := shaLessUptoRow, standIns := [], harness := (true, "d834214edf00ee447aa4301bb9b232a53093d3d32ea4d10446c88bf06e095830"), looks := false }, kinds := [], alts := [], laidByText := true, laidKinds := [.data], laidTests := true, laidLooks := .later }
def ShaLessUptoCardSaid : Prop := Claim7.holds Tryd.pinned (.plain (OpenSpec.upto shaLessSpec)) shaLessUptoCard

/-- THE SECOND FORM's CARD OF 'tollhouselaw01.ShaTagged'. -/
def shaTaggedUptoCard : Claim7 := { stood := { row := shaTaggedUptoRow, standIns := [], harness := (true, "d834214edf00ee447aa4301bb9b232a53093d3d32ea4d10446c88bf06e095830"), looks := false }, kinds := [], alts := [], laidByText := true, laidKinds := [.data, .data], laidTests := true, laidLooks := .later }
def ShaTaggedUptoCardSaid : Prop := Claim7.holds Tryd.pinned (.plain (OpenSpec.upto shaTaggedSpec)) shaTaggedUptoCard

/-- THE SECOND FORM's CARD OF 'tollhouselaw01.ShaMac'. -/
def shaMacUptoCard : Claim7 := { stood := { row := shaMacUptoRow, standIns := [], harness := (true, "d834214edf00ee447aa4301bb9b232a53093d3d32ea4d10446c88bf06e095830"), looks := false }, kinds := [], alts := [], laidByText := true, laidKinds := [.data, .data], laidTests := true, laidLooks := .later }
def ShaMacUptoCardSaid : Prop := Claim7.holds Tryd.pinned (.plain (OpenSpec.upto shaMacSpec)) shaMacUptoCard
end Rows
end Go.Proofs.YtodhhejliijdmaaDoor
