/-
  DERIVED. GIVEN WITH THE SEED: THE CARDS: each row of YtiaoifaglfhagaaDoorRows.lean that lists a variable, with what it lists TIED to the program's text (the seventh form; the later family's looks); each row that meets fmt, with fmt's text TOLD by the authors' own Lean function (tested against real Go, not proved from fmt's source: count such statements apart). THE CARD IS WHAT COUNTS. Prove the row's statement (the work); the ties are given (YtiaoifaglfhagaaDoorTie.lean); close each card by the builder's one call (the guide's Derived/Test/ToyasCard.lean, 'card_holds'). Laid BY PROGRAM, IN A SANDBOX (cutbox-door.mjs). By AI agents, Wed Nov 11 2026. No macro, syntax, notation, axiom, sorry.
-/
import Derived.Test.YtiaoifaglfhagaaDoorRows
import GoSem.ClaimSeven
namespace Go.Proofs.YtiaoifaglfhagaaDoor
namespace Rows

/-- THE TIED CARD OF 'tollhouselaw02.MerkleRoots'. -/
def merkleRootsCard : Claim7 := { stood := { row := merkleRootsRow, standIns := [], harness := (true, "db1c442da5b6654405fda67f9e086ca1cfd7cda53ca116edba48ca485ade37bc"), looks := false }, kinds := [], alts := [], laidByText := true, laidKinds := [.data, .data], laidTests := true, laidLooks := .later }
def MerkleRootsCardSaid : Prop := Claim7.holds Tryd.pinned (.plain (OpenSpec.ofChange merkleRootsSpec)) merkleRootsCard

/-- THE TIED CARD OF 'tollhouselaw02.MerklePaths'. -/
def merklePathsCard : Claim7 := { stood := { row := merklePathsRow, standIns := [], harness := (true, "db1c442da5b6654405fda67f9e086ca1cfd7cda53ca116edba48ca485ade37bc"), looks := false }, kinds := [], alts := [], laidByText := true, laidKinds := [.data, .data], laidTests := true, laidLooks := .later }
def MerklePathsCardSaid : Prop := Claim7.holds Tryd.pinned (.plain (OpenSpec.ofChange merklePathsSpec)) merklePathsCard

/-- THE TIED CARD OF 'tollhouselaw02.MerkleChecks'. -/
def merkleChecksCard : Claim7 := { stood := { row := merkleChecksRow, standIns := [], harness := (true, "db1c442da5b6654405fda67f9e086ca1cfd7cda53ca116edba48ca485ade37bc"), looks := false }, kinds := [], alts := [], laidByText := true, laidKinds := [.data, .data], laidTests := true, laidLooks := .later }
def MerkleChecksCardSaid : Prop := Claim7.holds Tryd.pinned (.plain (OpenSpec.ofChange merkleChecksSpec)) merkleChecksCard

/-- THE TIED CARD OF 'tollhouselaw02.MerkleTwo'. -/
def merkleTwoCard : Claim7 := { stood := { row := merkleTwoRow, standIns := [], harness := (true, "db1c442da5b6654405fda67f9e086ca1cfd7cda53ca116edba48ca485ade37bc"), looks := false }, kinds := [], alts := [], laidByText := true, laidKinds := [.data, .data], laidTests := true, laidLooks := .later }
def MerkleTwoCardSaid : Prop := Claim7.holds Tryd.pinned (.plain (OpenSpec.ofChange merkleTwoSpec)) merkleTwoCard

/-- THE TIED CARD OF 'tollhouselaw02.MerkleBack'. -/
def merkleBackCard : Claim7 := { stood := { row := merkleBackRow, standIns := [], harness := (true, "db1c442da5b6654405fda67f9e086ca1cfd7cda53ca116edba48ca485ade37bc"), looks := false }, kinds := [], alts := [], laidByText := true, laidKinds := [.data, .data], laidTests := true, laidLooks := .later }
def MerkleBackCardSaid : Prop := Claim7.holds Tryd.pinned (.plain (OpenSpec.ofChange merkleBackSpec)) merkleBackCard

/-- THE TIED CARD OF 'tollhouselaw02.MerkleFooled'. -/
def merkleFooledCard : Claim7 := { stood := { row := merkleFooledRow, standIns := [], harness := (true, "db1c442da5b6654405fda67f9e086ca1cfd7cda53ca116edba48ca485ade37bc"), looks := false }, kinds := [], alts := [], laidByText := true, laidKinds := [.data, .data], laidTests := true, laidLooks := .later }
def MerkleFooledCardSaid : Prop := Claim7.holds Tryd.pinned (.plain (OpenSpec.ofChange merkleFooledSpec)) merkleFooledCard

/-- THE SECOND FORM's CARD OF 'tollhouselaw02.MerkleRoots'. -/
def merkleRootsUptoCard : Claim7 := { stood := { row := merkleRootsUptoRow, standIns := [], harness := (true, "db1c442da5b6654405fda67f9e086ca1cfd7cda53ca116edba48ca485ade37bc"), looks := false }, kinds := [], alts := [], laidByText := true, laidKinds := [.data, .data], laidTests := true, laidLooks := .later }
def MerkleRootsUptoCardSaid : Prop := Claim7.holds Tryd.pinned (.plain (OpenSpec.upto merkleRootsSpec)) merkleRootsUptoCard

/-- THE SECOND FORM's CARD OF 'tollhouselaw02.MerklePaths'. -/
def merklePathsUptoCard : Claim7 := { stood := { row := merklePathsUptoRow, standIns := [], harness := (true, "db1c442da5b6654405fda67f9e086ca1cfd7cda53ca116edba48ca485ade37bc"), looks := false }, kinds := [], alts := [], laidByText := true, laidKinds := [.data, .data], laidTests := true, laidLooks := .later }
def MerklePathsUptoCardSaid : Prop := Claim7.holds Tryd.pinned (.plain (OpenSpec.upto merklePathsSpec)) merklePathsUptoCard

/-- THE SECOND FORM's CARD OF 'tollhouselaw02.MerkleChecks'. -/
def merkleChecksUptoCard : Claim7 := { stood := { row := merkleChecksUptoRow, standIns := [], harness := (true, "db1c442da5b6654405fda67f9e086ca1cfd7cda53ca116edba48ca485ade37bc"), looks := false }, kinds := [], alts := [], laidByText := true, laidKinds := [.data, .data], laidTests := true, laidLooks := .later }
def MerkleChecksUptoCardSaid : Prop := Claim7.holds Tryd.pinned (.plain (OpenSpec.upto merkleChecksSpec)) merkleChecksUptoCard

/-- THE SECOND FORM's CARD OF 'tollhouselaw02.MerkleTwo'. -/
def merkleTwoUptoCard : Claim7 := { stood := { row := merkleTwoUptoRow, standIns := [], harness := (true, "db1c442da5b6654405fda67f9e086ca1cfd7cda53ca116edba48ca485ade37bc"), looks := false }, kinds := [], alts := [], laidByText := true, laidKinds := [.data, .data], laidTests := true, laidLooks := .later }
def MerkleTwoUptoCardSaid : Prop := Claim7.holds Tryd.pinned (.plain (OpenSpec.upto merkleTwoSpec)) merkleTwoUptoCard

/-- THE SECOND FORM's CARD OF 'tollhouselaw02.MerkleBack'. -/
def merkleBackUptoCard : Claim7 := { stood := { row := merkleBackUptoRow, standIns := [], harness := (true, "db1c442da5b6654405fda67f9e086ca1cfd7cda53ca116edba48ca485ade37bc"), looks := false }, kinds := [], alts := [], laidByText := true, laidKinds := [.data, .data], laidTests := true, laidLooks := .later }
def MerkleBackUptoCardSaid : Prop := Claim7.holds Tryd.pinned (.plain (OpenSpec.upto merkleBackSpec)) merkleBackUptoCard

/-- THE SECOND FORM's CARD OF 'tollhouselaw02.MerkleFooled'. -/
def merkleFooledUptoCard : Claim7 := { stood := { row := merkleFooledUptoRow, standIns := [], harness := (true, "db1c442da5b6654405fda67f9e086ca1cfd7cda53ca116edba48ca485ade37bc"), looks := false }, kinds := [], alts := [], laidByText := true, laidKinds := [.data, .data], laidTests := true, laidLooks := .later }
def MerkleFooledUptoCardSaid : Prop := Claim7.holds Tryd.pinned (.plain (OpenSpec.upto merkleFooledSpec)) merkleFooledUptoCard
end Rows
end Go.Proofs.YtiaoifaglfhagaaDoor
