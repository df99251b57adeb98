/- CodecVars: what is read as a number is written as the same bytes. Condition: the text is of at most 2^47 - 4096 bytes. -/
import Derived.Test.YtodhhejliijdmabCodecL
import Derived.Test.YtodhhejliijdmabCodecBack
namespace Go.Proofs.Ytodhhejliijdmab.codecVars
open Go Go.RowKit Mem Codec CodecL
set_option linter.unusedVariables false
set_option maxHeartbeats 4000000 in
set_option maxRecDepth 100000 in
theorem walk (w : World) (v : Value) (b : List UInt8) (hB : Byt Any w v b) (hl : b.length ≤ 140737488351232) (most : Int) (hmost : (Lit.int .u64 most).wf = true) :
    Calls Try.prog 3 #[v, .int .u64 most] w fun e w' => e = .returned (.bool true) ∧ Below w.heap.size w w' := by
  obtain ⟨n0, rfl, hn0⟩ : ∃ n : Nat, most = (n : Int) ∧ n < 18446744073709551616 := by
    have := bounds_u64 hmost
    exact ⟨most.toNat, by omega, by omega⟩
  clear hmost
  obtain ⟨a, c, rfl, hk, _⟩ := id hB
  have HB0 := Lib.hid hB
  clear hB
  go_enter Try.func3, Try.ntmps3
  go_wp2_with fail
  refine (CodecR.read_calls _ w _ b HB0.out (by omega)).mono ?_
  rintro e w1 ⟨r, rfl, hr, g1, g2⟩
  have hs1 := g2.size
  have HR := Lib.hid g1
  have HB := Lib.hid g2
  clear g1 g2
  go_wp2_with fail
  refine (CodecW.new_calls w1).mono ?_
  rintro e w2 ⟨q, rfl, hq, g1, g2⟩
  have hs2 := g2.size
  have hrl := HR.out.lt
  have HR := Lib.hid (HR.out.below g2)
  have HB := Lib.hid (HB.out.trans (g2.mono (by omega)))
  have HW := Lib.hid (show CodecW.WriterIs (Rg w1.heap.size w2.heap.size) w2 q [] from g1.mono (fun k hk h => ⟨by omega, hk⟩))
  clear g1 g2
  go_wp2_with fail
  refine (alive_calls w2).mono ?_
  rintro e w3 ⟨rfl, g2⟩
  have hs3 := g2.size
  have HR := Lib.hid (HR.out.below g2)
  have HW := Lib.hid (HW.out.below g2)
  have HB := Lib.hid (HB.out.trans (g2.mono (by omega)))
  clear g2
  go_wp2_with fail
  refine (CodecR.var_calls _ w3 r _ n0 HR.out hn0).mono ?_
  rintro e w4 ⟨rfl, g1, g2⟩
  have hs4 := g2.size
  have HW := Lib.hid (HW.out.fr g2 (fun k hk h1 h2 => by have := h1.1; omega))
  have HB := Lib.hid (HB.out.trans (g2.below (by omega) (fun k h => by omega)))
  have HR := Lib.hid g1
  have HOK := Lib.hid (fun h => Rd.var_ok (r := ⟨b, 0⟩) (most := n0) h)
  have HBAD := Lib.hid (fun h => Rd.var_bad (r := ⟨b, 0⟩) (most := n0) h)
  have hyl := CodecR.var_lt ⟨b, 0⟩ n0
  obtain ⟨x, hx⟩ : ∃ x, Rd.var ⟨b, 0⟩ n0 = x := ⟨_, rfl⟩
  rw [hx] at hyl HR HOK HBAD ⊢
  obtain ⟨⟨l, e⟩, y⟩ := x
  dsimp only at hyl HR HOK HBAD ⊢
  clear hx g1 g2
  go_wp2_with fail
  refine (CodecR.err_calls _ w4 r _ HR.out).mono ?_
  rintro e2 wz ⟨rfl, rfl⟩
  dsimp only
  by_cases he : e = 0
  · subst he
    obtain ⟨_, hbb, _⟩ := HOK.out rfl
    have HBB := Lib.hid hbb
    have hbl : b.length = (Codec.var y).length + l.length := by
      have := congrArg List.length hbb
      simpa using this
    have hvl : (Codec.var y).length ≤ 9 := by rw [var_length]; exact vlen_le _
    have HBL := Lib.hid hbl
    clear hbb hbl
    go_wp2_with fail
    refine (CodecW.var_calls _ w4 q [] y (by omega) HW.out (by simp)).mono ?_
    rintro e w5 ⟨rfl, g1, g2⟩
    have hs5 := g2.size
    rw [List.nil_append] at g1
    have HW := Lib.hid g1
    have HR := Lib.hid (HR.out.fr g2 (fun h => by have := h.1; omega) (fun k hk h1 h2 => by have := h2.1; omega))
    have HB := Lib.hid (HB.out.trans (g2.below (by omega) (fun k h => by have := h.1; omega)))
    clear g1 g2
    have hyy : (y : Int) ≤ (n0 : Int) := by omega
    go_wp2_with fail
    refine (CodecR.bytes_calls _ w5 q _ HW.out (by omega)).mono ?_
    rintro e w6 ⟨xa, xc, rfl, g1, g2⟩
    have hs6 := g2.size
    have HX := Lib.hid g1.byt
    have HR := Lib.hid (HR.out.below g2)
    have HB := Lib.hid (HB.out.trans (g2.mono (by omega)))
    clear g1 g2
    go_wp2_with fail
    refine (CodecR.left_calls _ w6 r _ HR.out).mono ?_
    rintro e wz ⟨rfl, rfl⟩
    have htk : b.take (Codec.var y).length = Codec.var y := by rw [HBB.out]; simp
    obtain ⟨sa, scap, hs2', hs3'⟩ := run_slice_hi CodecW.elemB (HB0.out.below HB.out) (Codec.var y).length (by rw [HBL.out]; omega)
    rw [htk] at hs3'
    have HS := Lib.hid hs3'
    have hsub : (b.length : Int) - (l.length : Int) = ((Codec.var y).length : Int) := by rw [HBL.out]; omega
    clear hs3' htk
    generalize Codec.var y = z at *
    dsimp only
    go_wp2_with fail
    refine (same_calls _ _ w6 _ _ z z HX.out HS.out).mono ?_
    rintro e wz ⟨rfl, rfl⟩
    rw [beq_self_eq_true]
    clear hsub hs2'
    go_wp2
    go_ret
    exact ⟨rfl, HB.out⟩
  · have hne : (e != 0) = true := by simpa using he
    obtain ⟨h0, h1⟩ := HBAD.out he
    rw [h1] at HR
    rw [h0]
    clear h0 h1
    go_wp2_with fail
    refine (CodecR.left_calls _ w4 r _ HR.out).mono ?_
    rintro e wz ⟨rfl, rfl⟩
    go_wp2
    go_ret
    exact ⟨rfl, HB.out⟩
end Go.Proofs.Ytodhhejliijdmab.codecVars
