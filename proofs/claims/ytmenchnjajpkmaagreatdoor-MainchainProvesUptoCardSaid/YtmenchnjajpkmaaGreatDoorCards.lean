/-
  DERIVED. GIVEN WITH THE SEED: THE CARDS: each row of YtmenchnjajpkmaaGreatDoorRows.lean that lists a variable, with what it lists TIED to the program's text (the seventh form; the later family's looks); each row that meets fmt, with fmt's text TOLD by the authors' own Lean function (tested against real Go, not proved from fmt's source: count such statements apart). THE CARD IS WHAT COUNTS. Prove the row's statement (the work); the ties are given (YtmenchnjajpkmaaGreatDoorTie.lean); close each card by the builder's one call (the guide's Derived/Test/ToyasCard.lean, 'card_holds'). Laid BY PROGRAM, IN A SANDBOX (cutbox-door.mjs). By AI agents, Wed Nov 11 2026. No macro, syntax, notation, axiom, sorry.
-/
import Derived.Test.YtmenchnjajpkmaaGreatDoorRows
import GoSem.ClaimSeven
namespace Go.Proofs.YtmenchnjajpkmaaGreatDoor
namespace Rows

/-- THE TIED CARD OF 'tollhouselaw17.MainchainEvidence'. -/
def mainchainEvidenceCard : Claim7 := { stood := { row := mainchainEvidenceRow, standIns := [], harness := (true, "ad4b0e2eb19f7aa9767b854d4fe2c1d586d4716cf4847e50ddf9e01cfb4e27bc"), looks := false }, kinds := [], alts := [], laidByText := true, laidKinds := [.data, .data], laidTests := true, laidLooks := .later }
def MainchainEvidenceCardSaid : Prop := Claim7.holds Tryz.pinned (.plain (OpenSpec.ofChange mainchainEvidenceSpec)) mainchainEvidenceCard

/-- THE TIED CARD OF 'tollhouselaw17.MainchainProves'. -/
def mainchainProvesCard : Claim7 := { stood := { row := mainchainProvesRow, standIns := [], harness := (true, "ad4b0e2eb19f7aa9767b854d4fe2c1d586d4716cf4847e50ddf9e01cfb4e27bc"), looks := false }, kinds := [], alts := [], laidByText := true, laidKinds := [.data, .data], laidTests := true, laidLooks := .later }
def MainchainProvesCardSaid : Prop := Claim7.holds Tryz.pinned (.plain (OpenSpec.ofChange mainchainProvesSpec)) mainchainProvesCard

/-- THE SECOND FORM's CARD OF 'tollhouselaw17.MainchainEvidence'. -/
def mainchainEvidenceUptoCard : Claim7 := { stood := { row := mainchainEvidenceUptoRow, standIns := [], harness := (true, "ad4b0e2eb19f7aa9767b854d4fe2c1d586d4716cf4847e50ddf9e01cfb4e27bc"), looks := false }, kinds := [], alts := [], laidByText := true, laidKinds := [.data, .data], laidTests := true, laidLooks := .later }
def MainchainEvidenceUptoCardSaid : Prop := Claim7.holds Tryz.pinned (.plain (OpenSpec.upto mainchainEvidenceSpec)) mainchainEvidenceUptoCard

/-- THE SECOND FORM's CARD OF 'tollhouselaw17.MainchainProves'. -/
def mainchainProvesUptoCard : Claim7 := { stood := { row := mainchainProvesUptoRow, standIns := [], harness := (true, "ad4b0e2eb19f7aa9767b854d4fe2c1d586d4716cf4847e50ddf9e01cfb4e27bc"), looks := false }, kinds := [], alts := [], laidByText := true, laidKinds := [.data, .data], laidTests := true, laidLooks := .later }
def MainchainProvesUptoCardSaid : Prop := Claim7.holds Tryz.pinned (.plain (OpenSpec.upto mainchainProvesSpec)) mainchainProvesUptoCard
end Rows
end Go.Proofs.YtmenchnjajpkmaaGreatDoor
