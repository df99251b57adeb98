/-
  DERIVED. GIVEN WITH THE SEED: THE CARDS: each row of YtmenchnjajpkmaaDoorRows.lean that lists a variable, with what it lists TIED to the program's text (the seventh form; the later family's looks); each row that meets fmt, with fmt's text TOLD by the authors' own Lean function (tested against real Go, not proved from fmt's source: count such statements apart). THE CARD IS WHAT COUNTS. Prove the row's statement (the work); the ties are given (YtmenchnjajpkmaaDoorTie.lean); close each card by the builder's one call (the guide's Derived/Test/ToyasCard.lean, 'card_holds'). Laid BY PROGRAM, IN A SANDBOX (cutbox-door.mjs). By AI agents, Wed Nov 11 2026. No macro, syntax, notation, axiom, sorry.
-/
import Derived.Test.YtmenchnjajpkmaaDoorRows
import GoSem.ClaimSeven
namespace Go.Proofs.YtmenchnjajpkmaaDoor
namespace Rows

/-- THE TIED CARD OF 'tollhouselaw17.MainchainDeeper'. -/
def mainchainDeeperCard : Claim7 := { stood := { row := mainchainDeeperRow, standIns := [], harness := (true, "c356e887721b185bca5409deb981f5127172ec0397de76e07fdcfc5c59ef3788"), looks := true }, kinds := [], alts := [], laidByText := true, laidKinds := [.data, .data], laidTests := true, laidLooks := .later }
def MainchainDeeperCardSaid : Prop := Claim7.holds Tryd.pinned (.plain (OpenSpec.ofChange mainchainDeeperSpec)) mainchainDeeperCard

/-- THE TIED CARD OF 'tollhouselaw17.MainchainAll'. -/
def mainchainAllCard : Claim7 := { stood := { row := mainchainAllRow, standIns := [], harness := (true, "c356e887721b185bca5409deb981f5127172ec0397de76e07fdcfc5c59ef3788"), looks := true }, kinds := [], alts := [], laidByText := true, laidKinds := [.data, .data], laidTests := true, laidLooks := .later }
def MainchainAllCardSaid : Prop := Claim7.holds Tryd.pinned (.plain (OpenSpec.ofChange mainchainAllSpec)) mainchainAllCard

/-- THE TIED CARD OF 'tollhouselaw17.MainchainClones'. -/
def mainchainClonesCard : Claim7 := { stood := { row := mainchainClonesRow, standIns := [], harness := (true, "c356e887721b185bca5409deb981f5127172ec0397de76e07fdcfc5c59ef3788"), looks := true }, kinds := [], alts := [], laidByText := true, laidKinds := [.data, .data], laidTests := true, laidLooks := .later }
def MainchainClonesCardSaid : Prop := Claim7.holds Tryd.pinned (.plain (OpenSpec.ofChange mainchainClonesSpec)) mainchainClonesCard

/-- THE SECOND FORM's CARD OF 'tollhouselaw17.MainchainDeeper'. -/
def mainchainDeeperUptoCard : Claim7 := { stood := { row := mainchainDeeperUptoRow, standIns := [], harness := (true, "c356e887721b185bca5409deb981f5127172ec0397de76e07fdcfc5c59ef3788"), looks := true }, kinds := [], alts := [], laidByText := true, laidKinds := [.data, .data], laidTests := true, laidLooks := .later }
def MainchainDeeperUptoCardSaid : Prop := Claim7.holds Tryd.pinned (.plain (OpenSpec.upto mainchainDeeperSpec)) mainchainDeeperUptoCard

/-- THE SECOND FORM's CARD OF 'tollhouselaw17.MainchainAll'. -/
def mainchainAllUptoCard : Claim7 := { stood := { row := mainchainAllUptoRow, standIns := [], harness := (true, "c356e887721b185bca5409deb981f5127172ec0397de76e07fdcfc5c59ef3788"), looks := true }, kinds := [], alts := [], laidByText := true, laidKinds := [.data, .data], laidTests := true, laidLooks := .later }
def MainchainAllUptoCardSaid : Prop := Claim7.holds Tryd.pinned (.plain (OpenSpec.upto mainchainAllSpec)) mainchainAllUptoCard

/-- THE SECOND FORM's CARD OF 'tollhouselaw17.MainchainClones'. -/
def mainchainClonesUptoCard : Claim7 := { stood := { row := mainchainClonesUptoRow, standIns := [], harness := (true, "c356e887721b185bca5409deb981f5127172ec0397de76e07fdcfc5c59ef3788"), looks := true }, kinds := [], alts := [], laidByText := true, laidKinds := [.data, .data], laidTests := true, laidLooks := .later }
def MainchainClonesUptoCardSaid : Prop := Claim7.holds Tryd.pinned (.plain (OpenSpec.upto mainchainClonesSpec)) mainchainClonesUptoCard
end Rows
end Go.Proofs.YtmenchnjajpkmaaDoor
