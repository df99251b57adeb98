/- The walk of the law MerklePaths. Condition: at most 2^42 digests; the tables are laid. -/
import Derived.Test.YtiaoifaglfhagaaDoorMkP
import Derived.Test.YtiaoifaglfhagaaDoorShaLaid
import Derived.Test.YtiaoifaglfhagaaDoorCards
namespace Go.Proofs.YtiaoifaglfhagaaDoor.merklePaths
open Go Go.RowKit Mem Sha ShaW Mk Arr Row MkW
set_option linter.unusedVariables false

set_option maxHeartbeats 8000000 in
set_option maxRecDepth 100000 in
theorem walk0 (w : World) (v : Value) (ds : List Dg) (hA : Arr 32 Any w v (dcs ds)) (hD : ∀ d ∈ ds, d.length = 32) (hn : ds.length ≤ 4398046511104) (p : Int) (hT : TabB w 1) (hR : TabB w 0) :
    Calls Tryd.prog 4 #[v, .int .i64 p] w fun e w' => e = .returned (.bool true) ∧ Below w.heap.size w w' := by
  obtain ⟨pp, is, h1, h2, h3, h4⟩ := two w v ds hA hD hn hT hR p
  have H1 := Lib.hid h1
  have H2 := Lib.hid h2
  have H3 := Lib.hid h3
  have H4 := Lib.hid h4
  have HT := Lib.hid hT
  have HR := Lib.hid hR
  clear hA hD hT hR h1 h2 h3 h4
  go_enter Tryd.func4, Tryd.ntmps4
  go_wp2_with fail
  refine H3.out.mono ?_
  rintro e w1 ⟨vp, rfl, p1, b1⟩
  have P1 := Lib.hid p1
  have B1 := Lib.hid b1
  clear p1 b1
  go_wp2_with fail
  refine (H4.out w1 B1.out).mono ?_
  rintro e w2 ⟨vq, rfl, q1, b2⟩
  have P2 := Lib.hid (P1.out.below (by omega) b2)
  have Q2 := Lib.hid q1
  have B2 := Lib.hid (B1.out.trans (b2.mono B1.out.size))
  clear q1 b2
  go_wp2_with fail
  refine (alive_calls w2 (HT.out.below B2.out) (HR.out.below B2.out)).mono ?_
  rintro e w3 ⟨rfl, b3⟩
  have P3 := Lib.hid (P2.out.below (by omega) b3)
  have Q3 := Lib.hid (Q2.out.below (by omega) b3)
  have B3 := Lib.hid (B2.out.trans (b3.mono B2.out.size))
  clear b3
  go_wp2_with fail
  refine (same_calls w3 _ _ pp pp P3.out Q3.out H1.out H1.out H2.out H2.out).mono ?_
  rintro e w4 ⟨rfl, b4⟩
  have B4 := Lib.hid (B3.out.trans (b4.mono B3.out.size))
  clear b4
  rw [show decide (pp = pp) = true by simp]
  have hb : (is == is) = true := by simp
  go_wp2
  go_ret
  exact ⟨rfl, B4.out⟩
theorem walk (w : World) (v : Value) (ds : List Dg) (hA : Arr 32 Any w v (dcs ds)) (hD : ∀ d ∈ ds, d.length = 32) (hn : ds.length ≤ 4398046511104) (p : Int) (hp : (Lit.int .i64 p).wf = true) (hL : laidMetH Tryd.prog Rows.merklePathsRow.laid w) :
    Calls Tryd.prog 4 #[v, .int .i64 p] w fun e w' => e = .returned (.bool true) ∧ Below w.heap.size w w' :=
  walk0 w v ds hA hD hn p (tab_sha hL (by kernel_rfl) (List.Mem.tail _ (List.Mem.head _))) (tab_ref hL (by kernel_rfl) (List.Mem.head _))
end Go.Proofs.YtiaoifaglfhagaaDoor.merklePaths
