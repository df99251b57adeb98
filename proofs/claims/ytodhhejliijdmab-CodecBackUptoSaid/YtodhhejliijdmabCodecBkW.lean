/- The walk of the codec law's back: is a thing that was written read as it was? Condition: the bytes are at most 2^47. -/
import Derived.Test.YtodhhejliijdmabCodecBk
import Derived.Deep.RegionHeld3
namespace Go.Proofs.Ytodhhejliijdmab.CodecBk
open Go Go.RowKit Mem Codec CodecW CodecR CodecL CodecTh CodecN
set_option linter.unusedVariables false

set_option maxHeartbeats 4000000 in
set_option maxRecDepth 100000 in
theorem back_calls (D : Nat → Prop) (w : World) (q : Nat) (r : Rd) (t : Th) (bv : Value) (hw : t.wf) (H : ReaderIs D w q r) (hB : Byt (fun k => k ≠ q) w bv t.b) (hl : r.rest.length ≤ 140737488355328) :
    Calls Try.prog 25 #[.pointer (some ⟨q, 0, none⟩), thv t bv] w fun e w' => e = .returned (.bool (bstep r t).2) ∧ ReaderIs D w' q (bstep r t).1 ∧ Fr (fun k => k = q) w w' := by
  obtain ⟨bk, bn, bm, bl⟩ := t
  obtain ⟨x0, x1, x2, x3⟩ := hw
  dsimp only at *
  obtain ⟨ba, bc, rfl, hkb, _⟩ := id hB
  have hlb : bl.length < 9223372036854775808 := Nat.lt_of_le_of_lt (Nat.le_trans hkb.1 hkb.2.1) (by decide)
  have hql := H.lt
  have hbox : Below w.heap.size w (w.alloc (.cells #[.int .i64 bk, .int .u64 (bn : Int), .int .u64 (bm : Int), .slice ba bl.length bc] 39)) := (Below.refl _ _).alloc (Nat.le_refl _) _
  have hblk := Blk.new w #[.int .i64 bk, .int .u64 (bn : Int), .int .u64 (bm : Int), .slice ba bl.length bc] 39 [.int .i64 bk, .int .u64 (bn : Int), .int .u64 (bm : Int), .slice ba bl.length bc] rfl
  have HW := Lib.hid (H.below hbox)
  have HBb := Lib.hid (hB.below hbox)
  have HBX := Lib.hid hbox
  clear H hB hbox
  go_enter Try.func25, Try.ntmps25
  go_upto_region 1 with fail
  generalize (w.alloc (.cells #[.int .i64 bk, .int .u64 (bn : Int), .int .u64 (bm : Int), .slice ba bl.length bc] 39)) = w1 at *
  have c0 := hblk.cell (i := 0) rfl
  have HK := Lib.hid hblk
  clear hblk
  have HF := Lib.hid (show ∀ w2, Fr (fun k => k = q) w1.drew w2 → Fr (fun k => k = q) w w2 ∧ Blk w2 w.heap.size [.int .i64 bk, .int .u64 (bn : Int), .int .u64 (bm : Int), .slice ba bl.length bc] 39 from
    fun w2 h => ⟨(Fr.ofBelowAll HBX.out (Nat.le_refl _)).trans (((Fr.refl _ w1).drew).trans h), HK.out.drew.fr h (by omega)⟩)
  by_cases h0 : bk = 0
  · subst h0
    have HC := Lib.hid ((CodecR.byte_calls D w1.drew q r HW.out).mono (fun x w2 h => (⟨h.1, h.2.1, (HF.out w2 h.2.2).1, (HF.out w2 h.2.2).2.cell (i := 1) rfl⟩ : x = .returned (.int .u8 ((r.num 1).2 : Int)) ∧ ReaderIs D w2 q (r.num 1).1 ∧ Fr (fun k => k = q) w w2 ∧ w2.cell? ⟨w.heap.size, 1, none⟩ = some (.int .u64 (bn : Int)))))
    have HE := Lib.hid (show bstep r ⟨0, bn, bm, bl⟩ = ((r.num 1).1, decide ((r.num 1).2 = bn % 256)) from rfl)
    have HQ := Lib.hid (show (((r.num 1).2 : Int) == IntKind.u8.wrap (bn : Int)) = decide ((r.num 1).2 = bn % 256) by rw [Bool.eq_iff_iff]; simp [IntKind.wrap_u8]; omega)
    have c1 := HK.out.cell (i := 1) rfl
    go_wp2_with fail
    go_region_held3 (fun w' => w'.cell? ⟨w.heap.size, 1, none⟩ = some (.int .u64 (bn : Int)))
      (first | assumption)
      (first | (go_at_call 37; refine HC.out.mono ?_; rintro x wv ⟨rfl, q1, q2, q3⟩))
    go_wp2
    go_ret
    rw [HE.out]
    exact ⟨by show Ending.returned (.bool _) = _; rw [HQ.out], q1, q2⟩
  by_cases h1 : bk = 1
  · subst h1
    have HC := Lib.hid ((CodecR.word_calls D w1.drew q r HW.out).mono (fun x w2 h => (⟨h.1, h.2.1, (HF.out w2 h.2.2).1, (HF.out w2 h.2.2).2.cell (i := 1) rfl⟩ : x = .returned (.int .u32 ((r.num 4).2 : Int)) ∧ ReaderIs D w2 q (r.num 4).1 ∧ Fr (fun k => k = q) w w2 ∧ w2.cell? ⟨w.heap.size, 1, none⟩ = some (.int .u64 (bn : Int)))))
    have HE := Lib.hid (show bstep r ⟨1, bn, bm, bl⟩ = ((r.num 4).1, decide ((r.num 4).2 = bn % 4294967296)) from rfl)
    have HQ := Lib.hid (show (((r.num 4).2 : Int) == IntKind.u32.wrap (bn : Int)) = decide ((r.num 4).2 = bn % 4294967296) by rw [Bool.eq_iff_iff]; simp [IntKind.wrap_u32]; omega)
    have c1 := HK.out.cell (i := 1) rfl
    go_wp2_with fail
    go_region_held3 (fun w' => w'.cell? ⟨w.heap.size, 1, none⟩ = some (.int .u64 (bn : Int)))
      (first | assumption)
      (first | (go_at_call 46; refine HC.out.mono ?_; rintro x wv ⟨rfl, q1, q2, q3⟩))
    go_wp2
    go_ret
    rw [HE.out]
    exact ⟨by show Ending.returned (.bool _) = _; rw [HQ.out], q1, q2⟩
  by_cases h2 : bk = 2
  · subst h2
    have HC := Lib.hid ((CodecR.long_calls D w1.drew q r HW.out).mono (fun x w2 h => (⟨h.1, h.2.1, (HF.out w2 h.2.2).1, (HF.out w2 h.2.2).2.cell (i := 1) rfl⟩ : x = .returned (.int .u64 ((r.num 8).2 : Int)) ∧ ReaderIs D w2 q (r.num 8).1 ∧ Fr (fun k => k = q) w w2 ∧ w2.cell? ⟨w.heap.size, 1, none⟩ = some (.int .u64 (bn : Int)))))
    have HE := Lib.hid (show bstep r ⟨2, bn, bm, bl⟩ = ((r.num 8).1, decide ((r.num 8).2 = bn)) from rfl)
    have HQ := Lib.hid (show (((r.num 8).2 : Int) == (bn : Int)) = decide ((r.num 8).2 = bn) by rw [Bool.eq_iff_iff]; simp; omega)
    have c1 := HK.out.cell (i := 1) rfl
    go_wp2_with fail
    go_region_held3 (fun w' => w'.cell? ⟨w.heap.size, 1, none⟩ = some (.int .u64 (bn : Int)))
      (first | assumption)
      (first | (go_at_call 47; refine HC.out.mono ?_; rintro x wv ⟨rfl, q1, q2, q3⟩))
    go_wp2
    go_ret
    rw [HE.out]
    exact ⟨by show Ending.returned (.bool _) = _; rw [HQ.out], q1, q2⟩
  by_cases h3 : bk = 3
  · subst h3
    have HC := Lib.hid ((CodecR.var_calls D w1.drew q r bn HW.out (by omega)).mono (fun x w2 h => (⟨h.1, h.2.1, (HF.out w2 h.2.2).1, (HF.out w2 h.2.2).2.cell (i := 1) rfl⟩ : x = .returned (.int .u64 ((r.var bn).2 : Int)) ∧ ReaderIs D w2 q (r.var bn).1 ∧ Fr (fun k => k = q) w w2 ∧ w2.cell? ⟨w.heap.size, 1, none⟩ = some (.int .u64 (bn : Int)))))
    have HE := Lib.hid (show bstep r ⟨3, bn, bm, bl⟩ = ((r.var bn).1, decide ((r.var bn).2 = bn)) from rfl)
    have HQ := Lib.hid (show (((r.var bn).2 : Int) == (bn : Int)) = decide ((r.var bn).2 = bn) by rw [Bool.eq_iff_iff]; simp; omega)
    have c1 := HK.out.cell (i := 1) rfl
    go_wp2_with fail
    go_region_held3 (fun w' => w'.cell? ⟨w.heap.size, 1, none⟩ = some (.int .u64 (bn : Int)))
      (first | assumption)
      (first | (go_at_call 13; refine HC.out.mono ?_; rintro x wv ⟨rfl, q1, q2, q3⟩))
    go_wp2
    go_ret
    rw [HE.out]
    exact ⟨by show Ending.returned (.bool _) = _; rw [HQ.out], q1, q2⟩
  by_cases h4 : bk = 4
  · subst h4
    have HC := Lib.hid ((CodecR.raw_r_calls D w1.drew q r (bl.length : Int) HW.out (by omega) (by omega) hl).mono (fun x w2 h => (show ∃ a c, x = .returned (.slice a (r.raw (bl.length : Int)).2.length c) ∧ ReaderIs D w2 q (r.raw (bl.length : Int)).1 ∧ Fr (fun k => k = q) w w2 ∧ w2.cell? ⟨w.heap.size, 3, none⟩ = some (.slice ba bl.length bc) ∧ (Calls Try.prog 17 #[.slice a (r.raw (bl.length : Int)).2.length c, .slice ba bl.length bc] w2 fun e w' => e = .returned (.bool ((r.raw (bl.length : Int)).2 == bl)) ∧ w2 = w') from by
      obtain ⟨a, c, h1, h2, h3, h4⟩ := h
      exact ⟨a, c, h1, h3, (HF.out w2 h4).1, (HF.out w2 h4).2.cell (i := 3) rfl, same_calls _ (fun k => k ≠ q) w2 _ _ _ _ h2.byt (HBb.out.drew.fr h4 (fun k _ h1 h2 => h1 h2))⟩)))
    have HE := Lib.hid (show bstep r ⟨4, bn, bm, bl⟩ = ((r.raw (bl.length : Int)).1, (r.raw (bl.length : Int)).2 == bl) from rfl)
    generalize (r.raw (bl.length : Int)).2 = y at *
    generalize (r.raw (bl.length : Int)).1 = r2 at *
    have c3 := HK.out.cell (i := 3) rfl
    go_wp2_with fail
    go_region_held3 (fun w' => w'.cell? ⟨w.heap.size, 3, none⟩ = some (.slice ba bl.length bc))
      (first | assumption)
      (first | (go_at_call 50; refine HC.out.mono ?_; rintro x wv ⟨xa, xc, rfl, q1, q2, q3, q4⟩) | (go_at_call 17; refine q4.mono ?_; rintro x wz ⟨rfl, rfl⟩))
    go_wp2
    go_ret
    rw [HE.out]
    exact ⟨rfl, q1, q2⟩
  by_cases h5 : bk = 5
  · subst h5
    have HC := Lib.hid ((CodecR.text_r_calls D w1.drew q r (bl.length : Int) HW.out (by omega) (by omega) hl).mono (fun x w2 h => (show ∃ a c, x = .returned (.slice a (r.text (bl.length : Int)).2.length c) ∧ ReaderIs D w2 q (r.text (bl.length : Int)).1 ∧ Fr (fun k => k = q) w w2 ∧ w2.cell? ⟨w.heap.size, 3, none⟩ = some (.slice ba bl.length bc) ∧ (Calls Try.prog 17 #[.slice a (r.text (bl.length : Int)).2.length c, .slice ba bl.length bc] w2 fun e w' => e = .returned (.bool ((r.text (bl.length : Int)).2 == bl)) ∧ w2 = w') from by
      obtain ⟨a, c, h1, h2, h3, h4⟩ := h
      exact ⟨a, c, h1, h3, (HF.out w2 h4).1, (HF.out w2 h4).2.cell (i := 3) rfl, same_calls _ (fun k => k ≠ q) w2 _ _ _ _ h2.byt (HBb.out.drew.fr h4 (fun k _ h1 h2 => h1 h2))⟩)))
    have HE := Lib.hid (show bstep r ⟨5, bn, bm, bl⟩ = ((r.text (bl.length : Int)).1, (r.text (bl.length : Int)).2 == bl) from rfl)
    generalize (r.text (bl.length : Int)).2 = y at *
    generalize (r.text (bl.length : Int)).1 = r2 at *
    have c3 := HK.out.cell (i := 3) rfl
    go_wp2_with fail
    go_region_held3 (fun w' => w'.cell? ⟨w.heap.size, 3, none⟩ = some (.slice ba bl.length bc))
      (first | assumption)
      (first | (go_at_call 36; refine HC.out.mono ?_; rintro x wv ⟨xa, xc, rfl, q1, q2, q3, q4⟩) | (go_at_call 17; refine q4.mono ?_; rintro x wz ⟨rfl, rfl⟩))
    go_wp2
    go_ret
    rw [HE.out]
    exact ⟨rfl, q1, q2⟩
  have HE := Lib.hid (show bstep r ⟨bk, bn, bm, bl⟩ = (r, true) by unfold bstep; rw [if_neg h0, if_neg h1, if_neg h2, if_neg h3, if_neg h4, if_neg h5])
  have HFF := Lib.hid (Fr.ofBelowAll HBX.out (Nat.le_refl _) : Fr (fun k => k = q) w w1)
  go_wp2
  go_ret
  rw [HE.out]
  exact ⟨rfl, HW.out, HFF.out⟩
end Go.Proofs.Ytodhhejliijdmab.CodecBk
