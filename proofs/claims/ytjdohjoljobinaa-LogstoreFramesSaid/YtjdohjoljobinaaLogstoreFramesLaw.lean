/- The walk of LogstoreFrames. Condition: each value has at most 2^47 bytes. -/
import Derived.Test.YtjdohjoljobinaaFrE
import Derived.Test.YtjdohjoljobinaaLsE
namespace Go.Proofs.Ytjdohjoljobinaa.logstoreFrames
open Go Go.RowKit Mem Maps Ops Reps Dk Fra Ls
set_option linter.unusedVariables false
set_option linter.unusedSimpArgs false

set_option maxHeartbeats 16000000 in
set_option maxRecDepth 100000 in
theorem walk (W : World) (v : Value) (l : List XCh) (hA : Sl 3 RCh Any W v l) (hv : ∀ c ∈ l, c.2.1.length ≤ 140737488351232) :
    Calls Try.prog 3 #[v] W fun e W' => e = .returned (.bool true) ∧ Below W.heap.size W W' := by
  have C1 := Lib.hid (frame_calls W v l hA)
  have C2 := Lib.hid (fun w1 (hA1 : Sl 3 RCh Any w1 v l) => rframe_calls w1 v l hA1 hv)
  have HA := Lib.hid hA
  have hv1 := hA.form
  obtain ⟨aa, ac, rfl, _⟩ := hv1
  obtain ⟨n, hn⟩ : ∃ n, l.length = n := ⟨_, rfl⟩
  obtain ⟨F, HF⟩ : ∃ x, frameT l = x := ⟨_, rfl⟩
  obtain ⟨E, HE⟩ : ∃ x, frameE l = x := ⟨_, rfl⟩
  obtain ⟨X, HX⟩ : ∃ x, str F = x := ⟨_, rfl⟩
  have HXX := Lib.hid HX
  unfold FrameT at C1 C2
  rw [hn, HF, HE] at C1 C2
  rw [hn] at HA ⊢
  clear hA hv HF HE hn HX
  go_enter Try.func3, Try.ntmps3
  go_wp2_with fail
  refine C1.out.mono ?_
  rintro e w1 ⟨b, rfl, hb, g1⟩
  obtain ⟨ba, bc, rfl, _⟩ := id hb
  have Y1 := Lib.hid hb.any
  have G1 := Lib.hid g1
  have A1 := Lib.hid (HA.out.below rep_Ch g1)
  have z1 := g1.size
  clear hb g1 C1 HA
  go_wp2_with fail
  refine (C2.out w1 A1.out).mono ?_
  clear C2
  rintro e w2 ⟨c, rfl, hc, g2⟩
  obtain ⟨ca, cc, rfl, _⟩ := id hc
  have Z2 := Lib.hid hc.any
  have Y2 := Lib.hid (Y1.out.below g2)
  have G2 := Lib.hid (G1.out.trans (g2.mono (by omega)))
  have z2 := g2.size
  clear hc g2 A1 Y1 G1
  go_wp2_with fail
  refine (begun_calls w2 9 (by omega)).mono ?_
  rintro e w3 ⟨q, b, s, mb, rfl, h1, h2, h3, h4, _, _, _, _, _, _, g3⟩
  have hy := run_convert_byt (P := Try.prog) (Y2.out.below g3) Try.underlying23 Try.underlying5 Try.underlying9
  have hz := run_convert_byt (P := Try.prog) (Z2.out.below g3) Try.underlying23 Try.underlying5 Try.underlying9
  rw [HXX.out] at hy hz
  have G3 := Lib.hid (G2.out.trans (g3.mono (by omega)))
  clear g3 G2 Y2 Z2
  go_wp2_with fail
  go_ret
  exact ⟨rfl, G3.out⟩
end Go.Proofs.Ytjdohjoljobinaa.logstoreFrames
