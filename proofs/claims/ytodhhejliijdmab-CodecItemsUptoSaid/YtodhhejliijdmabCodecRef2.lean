/- Walks of the reference's GetText, End. Condition: the bytes are at most 2^47. -/
import Derived.Test.YtodhhejliijdmabCodecRef
namespace Go.Proofs.Ytodhhejliijdmab.CodecRef
open Go Go.RowKit Mem Codec CodecW CodecR CodecL CodecN

theorem end_calls (w : World) (a : Option Addr) (c : Nat) (B : List UInt8) (at' : Nat) (e : Int) (hat : at' ≤ B.length) :
    Calls Try.prog 24 #[rv a B.length c at' e] w fun x w' => x = .returned (.int .i64 (Rd.fin ⟨B.drop at', e⟩)) ∧ Below w.heap.size w w' := by
  have hbl : Below w.heap.size w (w.alloc (.cells #[.slice a B.length c, .int .i64 (at' : Int), .int .i64 e] 44)) := (Below.refl _ _).alloc (Nat.le_refl _) _
  have HBL := Lib.hid hbl
  clear hbl
  by_cases he : e = 0
  · subst he
    by_cases hl : at' < B.length
    · have ht : Rd.fin ⟨B.drop at', 0⟩ = 113 := by unfold Rd.fin; rw [if_pos ⟨rfl, by simp; omega⟩]
      rw [ht]
      have hz : (at' : Int) < (B.length : Int) := by omega
      go_enter Try.func24, Try.ntmps24
      go_wp2
      go_ret
      exact ⟨rfl, HBL.out⟩
    · have ht : Rd.fin ⟨B.drop at', 0⟩ = 0 := by unfold Rd.fin; rw [if_neg (fun h => hl (by have := h.2; simp at this; omega))]
      rw [ht]
      have hz : ¬ ((at' : Int) < (B.length : Int)) := by omega
      go_enter Try.func24, Try.ntmps24
      go_wp2
      go_ret
      exact ⟨rfl, HBL.out⟩
  · have ht : Rd.fin ⟨B.drop at', e⟩ = e := by unfold Rd.fin; rw [if_neg (fun h => he h.1)]
    rw [ht]
    have hb : (e == 0) = false := by simpa using he
    go_enter Try.func24, Try.ntmps24
    go_wp2
    go_ret
    exact ⟨rfl, HBL.out⟩
theorem Rd.more_suf (s : Rd) (c : Nat) : ∃ k, (s.more c).1.rest = s.rest.drop k := by
  unfold Rd.more
  split
  · exact Rd.num_suf s 2
  · split
    · exact Rd.num_suf s 4
    · split
      · exact Rd.num_suf s 8
      · exact ⟨0, by simp⟩
theorem Rd.var_suf (r : Rd) (most : Nat) : ∃ k, (r.var most).1.rest = r.rest.drop k := by
  unfold Rd.var
  dsimp only
  split
  · exact ⟨0, by simp⟩
  · split
    · exact ⟨0, by simp⟩
    · split
      · exact ⟨0, by simp⟩
      · obtain ⟨k, hk⟩ := Rd.more_suf (r.num 1).1 (r.num 1).2
        obtain ⟨j, hj⟩ := Rd.num_suf r 1
        exact ⟨j + k, by rw [hk, hj, List.drop_drop]⟩
theorem Rd.room_suf (r : Rd) (most : Int) : ∃ k, (r.room most).1.rest = r.rest.drop k := by
  unfold Rd.room
  dsimp only
  split
  · exact ⟨0, by simp⟩
  · exact Rd.var_suf r _
set_option maxHeartbeats 4000000 in
set_option maxRecDepth 100000 in
theorem gettext_calls (w : World) (a : Option Addr) (c : Nat) (B : List UInt8) (at' : Nat) (e : Int) (most : Int) (hB : Byt Any w (.slice a B.length c) B) (hat : at' ≤ B.length) (hl : B.length ≤ 140737488355328) (h1 : -9223372036854775808 ≤ most) (h2 : most < 9223372036854775808) :
    Calls Try.prog 51 #[rv a B.length c at' e, .int .i64 most] w fun x w' => ∃ v, x = .returned (.tuple #[rv a B.length c (B.length - (Rd.text ⟨B.drop at', e⟩ most).1.rest.length) (Rd.text ⟨B.drop at', e⟩ most).1.e, v]) ∧ Byt (fun k => w.heap.size ≤ k) w' v (Rd.text ⟨B.drop at', e⟩ most).2 ∧ Below w.heap.size w w' := by
  obtain ⟨hk1, hk2, hb2, hsw⟩ := two_blk w [.slice a B.length c, .int .i64 (at' : Int), .int .i64 e]
  obtain ⟨m2, hm2, hm3⟩ : ∃ m2 : Nat, IntKind.u64.wrap most = (m2 : Int) ∧ m2 < 18446744073709551616 := ⟨(IntKind.u64.wrap most).toNat, by rw [IntKind.wrap_u64]; omega, by rw [IntKind.wrap_u64]; omega⟩
  have HRV := Lib.hid (Rd.rvar_room ⟨B.drop at', e⟩ most m2 (fun h => by rw [← hm2, IntKind.wrap_u64]; omega))
  have hrl := room_le ⟨B.drop at', e⟩ most h2
  have HB0 := Lib.hid hB
  clear hB
  go_enter Try.func51, Try.ntmps51
  go_upto_region 1 with fail
  generalize ((w.alloc (.cells [.slice a B.length c, .int .i64 (at' : Int), .int .i64 e].toArray 44)).alloc (.cells #[.slice none 0 0, .int .i64 0, .int .i64 0] 44)) = W at *
  have c0 := hk1.cell (i := 0) rfl
  have c1 := hk1.cell (i := 1) rfl
  have c2 := hk1.cell (i := 2) rfl
  have HK1 := Lib.hid hk1
  have HK2 := Lib.hid hk2
  have HB2 := Lib.hid hb2
  clear hk1 hk2 hb2 h1
  go_wp2_with fail
  refine (getvar_calls W a c B at' e m2 (decide (most < 0)) (HB0.out.below HB2.out) hat hl hm3).mono ?_
  rintro x w3 ⟨rfl, g2⟩
  rw [HRV.out]
  have hsf := suf_at (Rd.room_suf ⟨B.drop at', e⟩ most) hat
  have HT := Lib.hid (show Rd.text ⟨B.drop at', e⟩ most = (if (Rd.room ⟨B.drop at', e⟩ most).1.e = 0 ∧ (Rd.room ⟨B.drop at', e⟩ most).1.rest.length < (Rd.room ⟨B.drop at', e⟩ most).2 then (⟨B.drop at', 110⟩ : Rd) else (Rd.room ⟨B.drop at', e⟩ most).1).take (Rd.room ⟨B.drop at', e⟩ most).2 from rfl)
  obtain ⟨⟨s, nn⟩, hy⟩ : ∃ y, Rd.room ⟨B.drop at', e⟩ most = y := ⟨_, rfl⟩
  rw [hy] at hsf hrl ⊢
  rw [hy] at HT
  dsimp only at hsf hrl HT ⊢
  have hs3 := g2.size
  have HG := Lib.hid (show GV w a c B at' e w3.heap.size s (w3.alloc (.cells [.slice a B.length c, .int .i64 ((B.length - s.rest.length : Nat) : Int), .int .i64 s.e].toArray 44)) from
    ⟨(HK1.out.below g2).alloc _, (HK2.out.below g2).alloc _, Blk.new w3 _ _ _ rfl, (HB2.out.trans (g2.mono (by omega))).alloc (by omega) _, by omega⟩)
  have hz0 : B.length - (B.drop at').length = at' := by simp; omega
  have HZ0 := Lib.hid hz0
  have HSF := Lib.hid hsf
  obtain ⟨z1, hz1⟩ : ∃ z1, B.length - s.rest.length = z1 := ⟨_, rfl⟩
  rw [hz1] at HG ⊢
  have HZ1 := Lib.hid hz1
  have hzl : z1 ≤ B.length := by rw [← hz1]; exact Nat.sub_le _ _
  clear hy hsf hz1 hz0 g2 c0 c1 c2 hm2
  go_upto_region 2 with fail
  generalize (w3.alloc (.cells [.slice a B.length c, .int .i64 (z1 : Int), .int .i64 s.e].toArray 44)) = w4 at *
  generalize w3.heap.size = p at *
  obtain ⟨x0, x1, x2, x3, x4⟩ := HG.out
  rw [HZ1.out] at x2
  have c0 := x0.cell (i := 0) rfl
  have c1 := x0.cell (i := 1) rfl
  have c2 := x0.cell (i := 2) rfl
  have d0 := x1.cell (i := 0) rfl
  have d1 := x1.cell (i := 1) rfl
  have d2 := x1.cell (i := 2) rfl
  have k0 := x2.cell (i := 0) rfl
  have k1 := x2.cell (i := 1) rfl
  have k2 := x2.cell (i := 2) rfl
  have f0 := x0.free
  have f1 := x1.free
  have X3 := Lib.hid x3
  clear x0 x1 x2 x3
  by_cases hse : s.e = 0
  · rw [hse] at k2
    have hrlz : s.rest.length = B.length - z1 := by have h1 := HZ1.out; have h2 := congrArg List.length HSF.out.1; rw [List.length_drop] at h2; omega
    by_cases hlt : B.length - z1 < nn
    · have HR := Lib.hid (show Rd.text ⟨B.drop at', e⟩ most = (⟨B.drop at', 110⟩, []) by rw [HT.out, if_pos ⟨hse, by omega⟩]; unfold Rd.take; rw [if_pos (show (110 : Int) ≠ 0 by decide)])
      have hzz : (B.length : Int) - (z1 : Int) < (nn : Int) := by omega
      obtain ⟨r1, r2⟩ := HG.out.ret 110
      have R1 := Lib.hid r1
      have R2 := Lib.hid r2
      clear r1 r2
      go_wp2
      rw [HR.out]
      dsimp only
      rw [HZ0.out]
      have r1 := R1.out
      have r2 := R2.out
      exact bodyPost_ret (results_row_tmp Try.results51 _ _ (w.heap.size + 1) 44 _ _ rfl r1 Try.underlying44 rfl (by kernel_rfl)) rfl ⟨.slice none 0 0, rfl, Byt.nil _ _, r2⟩
    · have HR := Lib.hid (show Rd.text ⟨B.drop at', e⟩ most = Rd.raw ⟨B.drop z1, 0⟩ (nn : Int) by
        rw [HT.out, if_neg (fun h => hlt (by omega))]
        unfold Rd.raw
        rw [if_neg (by omega), Int.toNat_natCast, ← HZ1.out, ← HSF.out.1]
        rw [show (⟨s.rest, 0⟩ : Rd) = s by rw [← hse]])
      have hzz : ¬ ((B.length : Int) - (z1 : Int) < (nn : Int)) := by omega
      go_wp2_with fail
      refine (raw_calls w4 a c B z1 0 (nn : Int) (HB0.out.below X3.out) hzl hl (by omega) (by omega)).mono ?_
      rintro x w6 ⟨v, rfl, g1, g2⟩
      rw [← HR.out] at g1 ⊢
      have HG6 := Lib.hid (HG.out.below g2)
      obtain ⟨⟨s2, got⟩, hy2⟩ : ∃ y, Rd.text ⟨B.drop at', e⟩ most = y := ⟨_, rfl⟩
      rw [hy2] at g1 ⊢
      have HY2 := Lib.hid hy2
      dsimp only at g1 ⊢
      obtain ⟨z2, hz2⟩ : ∃ z2, B.length - s2.rest.length = z2 := ⟨_, rfl⟩
      rw [hz2] at ⊢
      have HZ2 := Lib.hid hz2
      have d0 := HG6.out.2.1.cell (i := 0) rfl
      have d1 := HG6.out.2.1.cell (i := 1) rfl
      have d2 := HG6.out.2.1.cell (i := 2) rfl
      have f1 := HG6.out.2.1.free
      obtain ⟨r1, r2⟩ := HG6.out.ok (z2 : Int) s2.e
      have hsx := X3.out.size
      have hp4 := HG.out.2.2.1.lt
      have hv : Byt (fun k => w.heap.size ≤ k) (((w6.setCell ⟨w.heap.size + 1, 0, none⟩ (.slice a B.length c)).setCell ⟨w.heap.size + 1, 1, none⟩ (.int .i64 (z2 : Int))).setCell ⟨w.heap.size + 1, 2, none⟩ (.int .i64 s2.e)) v got :=
        (g1.fr (S := fun k => k = w.heap.size + 1) ((((Fr.refl (fun k => k = w.heap.size + 1) w6).setCell (p := ⟨w.heap.size + 1, 0, none⟩) (.inr rfl) _).setCell (p := ⟨w.heap.size + 1, 1, none⟩) (.inr rfl) _).setCell (p := ⟨w.heap.size + 1, 2, none⟩) (.inr rfl) _) (fun k _ h1 h2 => by omega)).mono (fun k _ h => by omega)
      have R1 := Lib.hid r1
      have R2 := Lib.hid r2
      have HV := Lib.hid hv
      obtain ⟨va, vc, rfl, _⟩ := id g1
      clear g1 g2 hy2 hz2 r1 r2 hv
      go_wp2
      rw [HY2.out]
      dsimp only
      rw [HZ2.out]
      have r1 := R1.out
      have r2 := R2.out
      exact bodyPost_ret (results_row_tmp Try.results51 _ _ (w.heap.size + 1) 44 _ _ rfl r1 Try.underlying44 rfl (by kernel_rfl)) rfl ⟨_, rfl, HV.out, r2⟩
  · have hse2 : (s.e != 0) = true := by simpa using hse
    have HR := Lib.hid (show Rd.text ⟨B.drop at', e⟩ most = (s, []) by rw [HT.out, if_neg (fun h => hse h.1)]; unfold Rd.take; rw [if_pos hse])
    obtain ⟨r1, r2⟩ := HG.out.ok (z1 : Int) s.e
    have R1 := Lib.hid r1
    have R2 := Lib.hid r2
    clear r1 r2
    go_wp2
    rw [HR.out]
    dsimp only
    rw [HZ1.out]
    have r1 := R1.out
    have r2 := R2.out
    exact bodyPost_ret (results_row_tmp Try.results51 _ _ (w.heap.size + 1) 44 _ _ rfl r1 Try.underlying44 rfl (by kernel_rfl)) rfl ⟨.slice none 0 0, rfl, Byt.nil _ _, r2⟩
end Go.Proofs.Ytodhhejliijdmab.CodecRef
