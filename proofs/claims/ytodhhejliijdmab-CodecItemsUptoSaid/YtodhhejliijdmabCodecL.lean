/- Walks of what the codec's laws use beside: same, alive. No condition. -/
import Derived.Test.YtodhhejliijdmabCodecR
import Derived.Lib.SlBytesConst
namespace Go.Proofs.Ytodhhejliijdmab.CodecL
open Go Go.RowKit Mem Codec CodecW CodecR

def Rg (a b : Nat) : Nat → Prop := fun k => a ≤ k ∧ k < b
theorem wrg {B : Nat} {w1 w2 : World} {q : Nat} {m m2 : List UInt8} (H : WriterIs (Plus (Rg B w1.heap.size) w1 w2) w2 q m) (hB : B ≤ w1.heap.size) (hm : m = m2) : WriterIs (Rg B w2.heap.size) w2 q m2 := by
  subst hm
  exact H.mono (fun k hk h => by
    rcases h with h | h
    · exact ⟨h.1, hk⟩
    · exact ⟨Nat.le_trans hB h.1, hk⟩)
theorem lit_byt (w : World) (l : List UInt8) (cs : Array Value) (f : Nat × Nat) (n : Nat) (hn : n = l.length) (hcs : cs = (l.map byt).toArray) (hm : l.length ≤ 1000000) : Byt (fun k => k = w.heap.size) (w.alloc (.cells cs 5 f)) (.slice (some ⟨w.heap.size, 0, none⟩) n n) l := by
  subst hcs
  exact Byt.newBlock w _ _ _ l n n hn ⟨by omega, by unfold maxLen; omega⟩ rfl (fun i hi => by simp [hi])
theorem same_calls (D E : Nat → Prop) (w : World) (va vb : Value) (a b : List UInt8) (hA : Byt D w va a) (hB : Byt E w vb b) :
    Calls Try.prog 17 #[va, vb] w fun e w' => e = .returned (.bool (a == b)) ∧ w = w' := by
  have h1 := run_convert_byt (P := Try.prog) hA (src := 22) (dst := 9) Try.underlying22 Try.underlying5 Try.underlying9
  have h2 := run_convert_byt (P := Try.prog) hB (src := 22) (dst := 9) Try.underlying22 Try.underlying5 Try.underlying9
  obtain ⟨a1, a2, rfl, _⟩ := id hA
  obtain ⟨b1, b2, rfl, _⟩ := id hB
  have HI := Lib.hid (show ((str a).toList == (str b).toList) = (a == b) by rw [ByteArray.toList_eq, ByteArray.toList_eq]; rfl)
  clear hA hB
  generalize str a = sa at *
  generalize str b = sb at *
  go_enter Try.func17, Try.ntmps17
  go_wp2
  go_ret
  exact ⟨by rw [← HI.out]; rfl, rfl⟩
set_option maxHeartbeats 4000000 in
set_option maxRecDepth 100000 in
theorem alive_calls (w : World) : Calls Try.prog 12 #[] w fun e w' => e = .returned (.bool true) ∧ Below w.heap.size w w' := by
  have kc := fun (w : World) (C : Array Value) (n c : Nat) => Lib.run_convert_bytes_const (P := Try.prog) w 22 5 C n c Try.underlying22 Try.underlying5
  go_enter Try.func12, Try.ntmps12
  go_wp2_with fail
  refine (CodecW.new_calls w).mono ?_
  rintro e w1 ⟨q, rfl, hq, hW, hb⟩
  have HB := Lib.hid hb
  have HW := Lib.hid (show WriterIs (Rg w.heap.size w1.heap.size) w1 q [] from hW.mono (fun k hk h => ⟨by omega, hk⟩))
  have hs1 := hb.size
  clear hW hb
  go_wp2_with fail
  refine (CodecW.var_calls _ w1 q [] 253 (by omega) HW.out (by simp)).mono ?_
  rintro e w2 ⟨rfl, g1, g2⟩
  have hs2 := g2.size
  have HW := Lib.hid (wrg g1 hs1 (show _ = [253, 0, 253] by rfl))
  have HB := Lib.hid (HB.out.trans (g2.below (by omega) (fun k h => h.1)))
  clear g1 g2
  go_wp2_with fail
  have hb3 : Below w2.heap.size w2 (w2.alloc (.cells #[.int .u8 97, .int .u8 98] 5 (2, 3))) := (Below.refl _ _).alloc (Nat.le_refl _) _
  have hs3 : (w2.alloc (.cells #[.int .u8 97, .int .u8 98] 5 (2, 3))).heap.size = w2.heap.size + 1 := by simp
  refine (CodecW.text_calls (Rg w.heap.size w2.heap.size) _ _ q [253, 0, 253] _ [97, 98] (HW.out.below hb3) (lit_byt w2 [97, 98] _ (2, 3) 2 rfl rfl (by decide)) (fun k _ h1 h2 => by have := h2.2; omega) (by decide)).mono ?_
  rintro e w3 ⟨rfl, g1, g2⟩
  have hs4 := g2.size
  rw [hs3] at hs4
  have HW := Lib.hid (show WriterIs (Rg w.heap.size w3.heap.size) w3 q [253, 0, 253, 2, 97, 98] from g1.mono (fun k hk h => by
    rcases h with h | h
    · exact ⟨h.1, hk⟩
    · exact ⟨by have := h.1; omega, hk⟩))
  have HB := Lib.hid (HB.out.trans ((hb3.mono (by omega)).trans (g2.below (by omega) (fun k h => h.1))))
  clear g1 g2 hb3 hs3
  go_wp2_with fail
  have hb3 : Below w3.heap.size w3 (w3.alloc (.cells #[.int .u8 253, .int .u8 0, .int .u8 253, .int .u8 2, .int .u8 97, .int .u8 98, .int .u8 9] 5)) := (Below.refl _ _).alloc (Nat.le_refl _) _
  have hs3 : (w3.alloc (.cells #[.int .u8 253, .int .u8 0, .int .u8 253, .int .u8 2, .int .u8 97, .int .u8 98, .int .u8 9] 5)).heap.size = w3.heap.size + 1 := by simp
  have hL := lit_byt w3 [253, 0, 253, 2, 97, 98, 9] #[.int .u8 253, .int .u8 0, .int .u8 253, .int .u8 2, .int .u8 97, .int .u8 98, .int .u8 9] (0, 0) 7 rfl rfl (by decide)
  generalize (w3.alloc (.cells #[.int .u8 253, .int .u8 0, .int .u8 253, .int .u8 2, .int .u8 97, .int .u8 98, .int .u8 9] 5)) = wl at *
  refine (CodecR.read_calls _ wl _ [253, 0, 253, 2, 97, 98, 9] hL (by decide)).mono ?_
  rintro e w4 ⟨r, rfl, g1, g2, g3⟩
  have hs5 := g3.size
  have HW := Lib.hid ((HW.out.below hb3).below g3)
  have HB := Lib.hid (HB.out.trans ((hb3.mono (by omega)).trans (g3.mono (by omega))))
  rw [hs3] at g1 g2 hs5
  have HR := Lib.hid g2
  clear g2 g3 hb3 hs3 hL
  go_wp2_with fail
  refine (CodecR.bytes_calls _ w4 q _ HW.out (by decide)).mono ?_
  rintro e w5 ⟨xa, xc, rfl, g2, g3⟩
  have hs6 := g3.size
  have HX := Lib.hid g2.byt
  have HW := Lib.hid (HW.out.below g3)
  have HR := Lib.hid (HR.out.below g3)
  have HB := Lib.hid (HB.out.trans (g3.mono (by omega)))
  clear g2 g3
  go_wp2_with fail
  have hb3 : Below w5.heap.size w5 (w5.alloc (.cells #[.int .u8 253, .int .u8 0, .int .u8 253, .int .u8 2, .int .u8 97, .int .u8 98] 5)) := (Below.refl _ _).alloc (Nat.le_refl _) _
  have hL := lit_byt w5 [253, 0, 253, 2, 97, 98] #[.int .u8 253, .int .u8 0, .int .u8 253, .int .u8 2, .int .u8 97, .int .u8 98] (0, 0) 6 rfl rfl (by decide)
  generalize (w5.alloc (.cells #[.int .u8 253, .int .u8 0, .int .u8 253, .int .u8 2, .int .u8 97, .int .u8 98] 5)) = w6 at *
  refine (same_calls _ _ w6 _ _ [253, 0, 253, 2, 97, 98] [253, 0, 253, 2, 97, 98] (HX.out.below hb3) hL).mono ?_
  rintro e wz ⟨rfl, rfl⟩
  have HW := Lib.hid (HW.out.below hb3)
  have HR := Lib.hid (HR.out.below hb3)
  have HB := Lib.hid (HB.out.trans (hb3.mono (by omega)))
  have hs7 := hb3.size
  clear hb3 HX hL
  go_wp2_with fail
  refine (CodecW.len_calls _ w6 q _ HW.out).mono ?_
  rintro e w7 ⟨rfl, rfl⟩
  go_wp2_with fail
  have e1 : Rd.var ⟨[253, 0, 253, 2, 97, 98, 9], 0⟩ 1000 = (⟨[2, 97, 98, 9], 0⟩, 253) := by rfl
  refine (CodecR.var_calls _ w6 r _ 1000 HR.out (by omega)).mono ?_
  rintro e w7 ⟨rfl, g2, g3⟩
  rw [e1] at g2 ⊢
  have hs8 := g3.size
  have HR := Lib.hid g2
  have HB := Lib.hid (HB.out.trans (g3.below (by omega) (fun k h => by omega)))
  clear g2 g3 e1 HW
  go_wp2_with fail
  have e1 : Rd.text ⟨[2, 97, 98, 9], 0⟩ 2 = (⟨[9], 0⟩, [97, 98]) := by rfl
  refine (CodecR.text_r_calls _ w7 r _ 2 HR.out (by omega) (by omega) (by decide)).mono ?_
  rintro e w8 ⟨ya, yc, rfl, g2, g3, g4⟩
  rw [e1] at g2 g3 ⊢
  have hs9 := g4.size
  have HX := Lib.hid g2.byt.any
  have HR := Lib.hid g3
  have HB := Lib.hid (HB.out.trans (g4.below (by omega) (fun k h => by omega)))
  clear g2 g3 g4 e1
  go_wp2_with fail
  have hb3 : Below w8.heap.size w8 (w8.alloc (.cells #[.int .u8 97, .int .u8 98] 5 (2, 3))) := (Below.refl _ _).alloc (Nat.le_refl _) _
  have hL := lit_byt w8 [97, 98] #[.int .u8 97, .int .u8 98] (2, 3) 2 rfl rfl (by decide)
  generalize (w8.alloc (.cells #[.int .u8 97, .int .u8 98] 5 (2, 3))) = w9 at *
  refine (same_calls _ _ w9 _ _ [97, 98] [97, 98] (HX.out.below hb3) hL).mono ?_
  rintro e wz ⟨rfl, rfl⟩
  have HR := Lib.hid (HR.out.below hb3)
  have HB := Lib.hid (HB.out.trans (hb3.mono (by omega)))
  have hs10 := hb3.size
  clear hb3 hL HX kc
  go_wp2_with fail
  refine (CodecR.left_calls _ w9 r _ HR.out).mono ?_
  rintro e wz ⟨rfl, rfl⟩
  go_wp2_with fail
  refine (CodecR.end_calls _ w9 r _ HR.out).mono ?_
  rintro e wz ⟨rfl, rfl⟩
  rw [show Rd.fin ⟨[9], 0⟩ = 113 from rfl]
  go_wp2_with fail
  refine (CodecR.byte_calls _ w9 r _ HR.out).mono ?_
  have e1 : Rd.num ⟨[9], 0⟩ 1 = (⟨[], 0⟩, 9) := by rfl
  rintro e w10 ⟨rfl, g2, g3⟩
  rw [e1] at g2 ⊢
  have HR := Lib.hid g2
  have HB := Lib.hid (HB.out.trans (g3.below (by omega) (fun k h => by omega)))
  clear g2 g3 e1
  go_wp2_with fail
  refine (CodecR.end_calls _ w10 r _ HR.out).mono ?_
  rintro e wz ⟨rfl, rfl⟩
  rw [show Rd.fin ⟨[], 0⟩ = 0 from rfl]
  go_wp2
  go_ret
  exact ⟨rfl, HB.out⟩
end Go.Proofs.Ytodhhejliijdmab.CodecL
