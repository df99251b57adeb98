/-
  No cell of these rows narrows 'for every input' (looked for: loops, veiled, ifaces, maps, wideKeys, modest, calm, conditions, laid).
  DERIVED. THE GIVEN ROWS OF THIS SEAT. 3 by the template 'for every input the law returns true; each argument reads behind the call as it read before'; 0 by the template 'total and deterministic' (their statements: YtmenchnjajpkmaaGreatTotals.lean).
  GIVEN WITH THE SEED: the statements are not yours to turn. If you find one false, say at which input.
  Laid BY PROGRAM, IN A SANDBOX (cutbox-rows.mjs): the forced cells as the released guide's own fill.sh prints them over the translation 10d453cb56bbbe4a… (all of the seat's roots in one cut). By AI agents, Wed Nov 11 2026. No macro, syntax, notation, axiom, sorry.
-/
import Derived.Test.YtmenchnjajpkmaaGreatChecked
import GoSem.Claim
import GoSem.ClaimJoined
import GoSem.ClaimMapViews
import Derived.JoinedTies
import Derived.KernelRfl
namespace Go.Proofs.YtmenchnjajpkmaaGreat
/- THE CELL 'sum', in the pinned program and in every row, IS THE sha256 OF THE DUMP (.gsa) THAT YtmenchnjajpkmaaGreatProg.lean LOADS. Nothing in Lean hashes anything: it is a label: what it is worth is what the hold of that sum in a sandbox is worth. -/
noncomputable def Tryz.pinned : Pinned := { name := "ytmenchnjajpkmaagreat", sum := "10d453cb56bbbe4a0a07dc40b0850ac98f2e9bcb016017c72679e39b1457dfdc", checked := Tryz.checked }
namespace Rows
def none {H : Type} : Left H := { results := [], args := [] }

/-- 'tollhouselaw12.WireMains': WHATEVER THE INPUT: true; the input reads as it did. -/
def wireMainsSpec : ChangeSpec := { name := "wireMains", fn := fun _ => fun
  | [d1, d2, d3] => { results := [.lit (.bool true)], args := [d1, d2, d3] }
  | _ => none }
def wireMainsRow : OpenClaim := { program := "ytmenchnjajpkmaagreat", sum := "10d453cb56bbbe4a0a07dc40b0850ac98f2e9bcb016017c72679e39b1457dfdc", func := "tollhouse/tollhouselaw12.WireMains", spec := "wireMains", inPlace := ["math/bits.Sub64", "math/bits.Add64"], unfollowed := true, recurses := true, apart := false }
def WireMainsSaid : Prop := wireMainsRow.holds Tryz.pinned (OpenSpec.ofChange wireMainsSpec)

/-- ITS FALSE NEIGHBOUR: 'it returns false'. Refute it at one input. -/
def wireMainsWrong : ChangeSpec := { name := "wireMains", fn := fun _ => fun
  | [d1, d2, d3] => { results := [.lit (.bool false)], args := [d1, d2, d3] }
  | _ => none }
def WireMainsWrongFalsely : Prop := wireMainsRow.holds Tryz.pinned (OpenSpec.ofChange wireMainsWrong)

/-- 'tollhouselaw12.WireParams': WHATEVER THE INPUT: true; the input reads as it did. -/
def wireParamsSpec : ChangeSpec := { name := "wireParams", fn := fun _ => fun
  | [d1, d2] => { results := [.lit (.bool true)], args := [d1, d2] }
  | _ => none }
def wireParamsRow : OpenClaim := { program := "ytmenchnjajpkmaagreat", sum := "10d453cb56bbbe4a0a07dc40b0850ac98f2e9bcb016017c72679e39b1457dfdc", func := "tollhouse/tollhouselaw12.WireParams", spec := "wireParams", inPlace := ["math/bits.Sub64", "math/bits.Add64"], unfollowed := true, recurses := true, apart := false }
def WireParamsSaid : Prop := wireParamsRow.holds Tryz.pinned (OpenSpec.ofChange wireParamsSpec)

/-- ITS FALSE NEIGHBOUR: 'it returns false'. Refute it at one input. -/
def wireParamsWrong : ChangeSpec := { name := "wireParams", fn := fun _ => fun
  | [d1, d2] => { results := [.lit (.bool false)], args := [d1, d2] }
  | _ => none }
def WireParamsWrongFalsely : Prop := wireParamsRow.holds Tryz.pinned (OpenSpec.ofChange wireParamsWrong)

/-- 'tollhouselaw12.WireHeaders': WHATEVER THE INPUT: true; the input reads as it did. -/
def wireHeadersSpec : ChangeSpec := { name := "wireHeaders", fn := fun _ => fun
  | [d1, d2] => { results := [.lit (.bool true)], args := [d1, d2] }
  | _ => none }
def wireHeadersRow : OpenClaim := { program := "ytmenchnjajpkmaagreat", sum := "10d453cb56bbbe4a0a07dc40b0850ac98f2e9bcb016017c72679e39b1457dfdc", func := "tollhouse/tollhouselaw12.WireHeaders", spec := "wireHeaders", inPlace := ["math/bits.Sub64", "math/bits.Add64"], unfollowed := true, recurses := true, apart := false }
def WireHeadersSaid : Prop := wireHeadersRow.holds Tryz.pinned (OpenSpec.ofChange wireHeadersSpec)

/-- ITS FALSE NEIGHBOUR: 'it returns false'. Refute it at one input. -/
def wireHeadersWrong : ChangeSpec := { name := "wireHeaders", fn := fun _ => fun
  | [d1, d2] => { results := [.lit (.bool false)], args := [d1, d2] }
  | _ => none }
def WireHeadersWrongFalsely : Prop := wireHeadersRow.holds Tryz.pinned (OpenSpec.ofChange wireHeadersWrong)

/- THE SECOND FORM. 'bulk': how many values and letters a reading holds, each counted each time it is reached (what is shared counts as often as it is met; a slice's spare places count too). A statement '..UptoSaid' is the law's where the arguments, and the package variables that the reading takes, are together of bulk at most 1048576: NARROWER than '..Said'. Prove '..Said' where nothing that the law and all that it calls make is longer than what came in: it says more and counts as full. Else prove '..UptoSaid'. A law counts once. -/
mutual
def uptoBulk {H : Type} : DataW H → Nat
  | .lit (.string bytes) => bytes.length + 1
  | .lit _ => 1
  | .nil => 1
  | .ptr d => uptoBulk d + 1
  | .slice elems spare => uptoBulkAll elems + uptoBulkAll spare + 1
  | .agg parts => uptoBulkAll parts + 1
  | .iface _ d => uptoBulk d + 1
  | .map entries => uptoBulkEntries entries + 1
  | .held _ => 1
def uptoBulkAll {H : Type} : List (DataW H) → Nat
  | [] => 0
  | d :: r => uptoBulk d + uptoBulkAll r
def uptoBulkEntries {H : Type} : List (Lit × DataW H) → Nat
  | [] => 0
  | x :: r => uptoBulkEntry x + uptoBulkEntries r
def uptoBulkEntry {H : Type} : Lit × DataW H → Nat
  | (.string bytes, d) => bytes.length + uptoBulk d + 1
  | (_, d) => uptoBulk d + 1
 end
def uptoSmall : (H : Type) → List (DataW H) → Bool := fun _ ds => decide (uptoBulkAll ds ≤ 1048576)
def OpenSpec.upto (s : _root_.Go.ChangeSpec) : _root_.Go.OpenSpec := { _root_.Go.OpenSpec.ofChange s with cond := some uptoSmall }

/-- 'tollhouselaw12.WireMains', WHERE WHAT IT READS IS OF BULK AT MOST 1048576: true; the input reads as it did. -/
def wireMainsUptoRow : OpenClaim := { program := "ytmenchnjajpkmaagreat", sum := "10d453cb56bbbe4a0a07dc40b0850ac98f2e9bcb016017c72679e39b1457dfdc", func := "tollhouse/tollhouselaw12.WireMains", spec := "wireMains", inPlace := ["math/bits.Sub64", "math/bits.Add64"], unfollowed := true, recurses := true, apart := false, narrowed := true }
def WireMainsUptoSaid : Prop := wireMainsUptoRow.holds Tryz.pinned (OpenSpec.upto wireMainsSpec)

/-- 'tollhouselaw12.WireParams', WHERE WHAT IT READS IS OF BULK AT MOST 1048576: true; the input reads as it did. -/
def wireParamsUptoRow : OpenClaim := { program := "ytmenchnjajpkmaagreat", sum := "10d453cb56bbbe4a0a07dc40b0850ac98f2e9bcb016017c72679e39b1457dfdc", func := "tollhouse/tollhouselaw12.WireParams", spec := "wireParams", inPlace := ["math/bits.Sub64", "math/bits.Add64"], unfollowed := true, recurses := true, apart := false, narrowed := true }
def WireParamsUptoSaid : Prop := wireParamsUptoRow.holds Tryz.pinned (OpenSpec.upto wireParamsSpec)

/-- 'tollhouselaw12.WireHeaders', WHERE WHAT IT READS IS OF BULK AT MOST 1048576: true; the input reads as it did. -/
def wireHeadersUptoRow : OpenClaim := { program := "ytmenchnjajpkmaagreat", sum := "10d453cb56bbbe4a0a07dc40b0850ac98f2e9bcb016017c72679e39b1457dfdc", func := "tollhouse/tollhouselaw12.WireHeaders", spec := "wireHeaders", inPlace := ["math/bits.Sub64", "math/bits.Add64"], unfollowed := true, recurses := true, apart := false, narrowed := true }
def WireHeadersUptoSaid : Prop := wireHeadersUptoRow.holds Tryz.pinned (OpenSpec.upto wireHeadersSpec)

end Rows
end Go.Proofs.YtmenchnjajpkmaaGreat
