/- Walks of the reference's Number, Var, Text, and of the law's write and bytes. Condition: the bytes together are at most 2^47. -/
import Derived.Test.YtjdohjoljobinaaCodecL
import Derived.Test.YtjdohjoljobinaaCodecTh
namespace Go.Proofs.Ytjdohjoljobinaa.CodecN
open Go Go.RowKit Mem Codec CodecW CodecR CodecL CodecTh
set_option maxHeartbeats 4000000 in
set_option maxRecDepth 100000 in
theorem number_calls (w : World) (n many : Nat) (hn : n < 18446744073709551616) (hm : many ≤ 8) :
    Calls Try.prog 43 #[.int .u64 n, .int .i64 many] w fun e w' => ∃ a c, e = .returned (.slice a many c) ∧ OwnB w.heap.size 5 w' (.slice a many c) (num n many) ∧ Below w.heap.size w w' := by
  go_enter Try.func43, Try.ntmps43
  go_wp2
  go_loopw [5, 6] (fun v i wx => ∃ (j : Nat) (x : List UInt8), j ≤ many ∧ i = .int .i64 ((j : Int) - 1) ∧ num n many = x ++ num n j ∧ x.length + j = many ∧ OwnB w.heap.size 5 wx v x ∧ Below w.heap.size w wx) (fun _ i _ => (intOf i + 1).toNat)
  case atStart => exact ⟨many, [], Nat.le_refl _, rfl, rfl, by simp, OwnB.nil _ _ _, Below.refl _ _⟩
  case round =>
    obtain ⟨j, x, hj, rfl, hx, hxl, hO, hB⟩ := hrel
    obtain ⟨xa, xc, rfl, _⟩ := id hO.byt
    have HX := Lib.hid hx
    have HO := Lib.hid hO
    have HB := Lib.hid hB
    have hsz := hB.size
    clear hx hO hB
    by_cases h0 : 0 < j
    · obtain ⟨i, rfl⟩ : ∃ i, j = i + 1 := ⟨j - 1, by omega⟩
      go_wp2
      go_loop [7, 8] (fun k l => ∃ t : Nat, t ≤ i ∧ l = .int .i64 t ∧ k = .int .u64 ((n / 256 ^ t : Nat) : Int)) (fun _ l => i - (intOf l).toNat)
      case atStart => exact ⟨0, by omega, rfl, by simp⟩
      case round =>
        obtain ⟨t, ht, rfl, rfl⟩ := hrel
        have HT := Lib.hid (show n / 256 ^ (t + 1) = n / 256 ^ t / 256 by rw [Nat.pow_succ, Nat.div_div_eq_div_mul])
        have hty : n / 256 ^ t < 18446744073709551616 := Nat.lt_of_le_of_lt (Nat.div_le_self _ _) hn
        by_cases hlt : t < i
        · generalize n / 256 ^ t = y at *
          go_wp2
          go_round
          case rel => exact ⟨t + 1, by omega, by go_num, by rw [HT.out, Int.natCast_ediv]; rfl⟩
          case measure => simp [intOf]; omega
        · obtain rfl : t = i := by omega
          have HC := Lib.hid (show ((n / 256 ^ t : Nat) : Int) % 256 = ((UInt8.ofNat (n / 256 ^ t)).toNat : Int) by rw [UInt8.toNat_ofNat']; omega)
          have HN := Lib.hid (show num n (t + 1) = UInt8.ofNat (n / 256 ^ t) :: num n t from rfl)
          clear HT
          generalize n / 256 ^ t = y at *
          go_wp2_with (at_builtin; refine wpList_append_one _ rfl (.tmp 23) (.tmp 27) 23 rfl w.heap.size 5 elemB _ x rfl HO.out _ (UInt8.ofNat y) HC.out rfl (by omega) hsz ?_)
          intro va2 vc2 w2 o1 o2 o3
          have HB2 := Lib.hid (HB.out.trans (o2.below hsz (fun k hk => (HO.out.lt k hk).1)))
          have HO2 := Lib.hid o1
          clear o1 o2 o3 HO HB HC
          go_wp2
          go_roundw
          case rel => exact ⟨t, x ++ [UInt8.ofNat y], by omega, by simp, by rw [HX.out, HN.out]; simp, by simp; omega, HO2.out, HB2.out⟩
          case measure => simp [intOf]
    · obtain rfl : j = 0 := by omega
      have hxx : num n many = x := by rw [HX.out]; simp [num]
      have hxl2 : x.length = many := by omega
      have HXX := Lib.hid hxx
      have HXL := Lib.hid hxl2
      clear hxx hxl2
      go_wp2
      go_ret
      exact ⟨xa, xc, by rw [← HXL.out]; rfl, by rw [HXX.out, ← HXL.out]; exact HO.out, HB.out⟩
theorem own_one (w : World) (n : Int) (c : UInt8) (h : n = (c.toNat : Int)) : OwnB w.heap.size 5 (w.alloc (.cells #[.int .u8 n] 5)) (.slice (some ⟨w.heap.size, 0, none⟩) 1 1) [c] := by
  subst h
  exact World.ownsRow_lit w #[byt c] 1 (Nat.le_refl _) (by unfold maxLen; omega) rfl
set_option maxHeartbeats 4000000 in
set_option maxRecDepth 100000 in
theorem ref_var_calls (w : World) (n : Nat) (hn : n < 18446744073709551616) :
    Calls Try.prog 73 #[.int .u64 n] w fun e w' => ∃ v, e = .returned v ∧ OwnB w.heap.size 5 w' v (var n) ∧ Below w.heap.size w w' := by
  go_enter Try.func73, Try.ntmps73
  by_cases h1 : n < 253
  · have hv : var n = [UInt8.ofNat n] := by unfold var; rw [if_pos h1]
    have HO := Lib.hid (own_one w (n : Int) (UInt8.ofNat n) (by rw [UInt8.toNat_ofNat']; omega))
    have hz1 : (n : Int) < 253 := by omega
    go_wp2
    go_ret
    exact ⟨_, rfl, by rw [hv]; exact HO.out, (Below.refl _ _).alloc (Nat.le_refl _) _⟩
  by_cases h2 : n < 65536
  · have hv : var n = 253 :: num n 2 := by unfold var; rw [if_neg h1, if_pos h2]
    have hz1 : ¬ ((n : Int) < 253) := by omega
    have hz2 : ¬ ((65536 : Int) ≤ (n : Int)) := by omega
    have hz3 : ¬ ((4294967296 : Int) ≤ (n : Int)) := by omega
    have HO := Lib.hid (own_one w 253 253 rfl)
    have HB := Lib.hid (show Below w.heap.size w (w.alloc (.cells #[.int .u8 253] 5)) from (Below.refl _ _).alloc (Nat.le_refl _) _)
    have HV := Lib.hid hv
    have hs1 : (w.alloc (.cells #[.int .u8 253] 5)).heap.size = w.heap.size + 1 := by simp
    go_upto_region 10 with fail
    generalize (w.alloc (.cells #[.int .u8 253] 5)) = w1 at *
    go_wp2_with fail
    refine (number_calls w1 n 2 hn (by omega)).mono ?_
    rintro e w2 ⟨a, c, rfl, g1, g2⟩
    have hs2 := g2.size
    have HN := Lib.hid g1.byt
    have HO2 := Lib.hid (HO.out.below g2)
    have HB2 := Lib.hid (HB.out.trans (g2.mono (by omega)))
    have hnl : (num n 2).length = 2 := num_length n 2
    clear g1 g2 HO HB
    go_wp2_with (at_builtin; refine wpList_append_byt _ rfl (.tmp 17) (.tmp 20) 23 rfl w.heap.size 5 elemB _ [253] rfl HO2.out _ (num n 2) rfl HN.out (by rw [hnl]; simp) (by omega) ?_)
    intro va vc w3 o1 o2 o3
    have HB3 := Lib.hid (HB2.out.grown o2 (by omega) (fun k hk => (HO2.out.lt k hk).1))
    have HO3 := Lib.hid o1
    clear o1 o2 o3 HO2 HB2
    go_wp2
    go_ret
    exact ⟨_, rfl, by rw [HV.out]; exact HO3.out, HB3.out⟩
  by_cases h3 : n < 4294967296
  · have hv : var n = 254 :: num n 4 := by unfold var; rw [if_neg h1, if_neg h2, if_pos h3]
    have hz1 : ¬ ((n : Int) < 253) := by omega
    have hz2 : (65536 : Int) ≤ (n : Int) := by omega
    have hz3 : ¬ ((4294967296 : Int) ≤ (n : Int)) := by omega
    have HO := Lib.hid (own_one w 254 254 rfl)
    have HB := Lib.hid (show Below w.heap.size w (w.alloc (.cells #[.int .u8 254] 5)) from (Below.refl _ _).alloc (Nat.le_refl _) _)
    have HV := Lib.hid hv
    have hs1 : (w.alloc (.cells #[.int .u8 254] 5)).heap.size = w.heap.size + 1 := by simp
    go_upto_region 10 with fail
    generalize (w.alloc (.cells #[.int .u8 254] 5)) = w1 at *
    go_wp2_with fail
    refine (number_calls w1 n 4 hn (by omega)).mono ?_
    rintro e w2 ⟨a, c, rfl, g1, g2⟩
    have hs2 := g2.size
    have HN := Lib.hid g1.byt
    have HO2 := Lib.hid (HO.out.below g2)
    have HB2 := Lib.hid (HB.out.trans (g2.mono (by omega)))
    have hnl : (num n 4).length = 4 := num_length n 4
    clear g1 g2 HO HB
    go_wp2_with (at_builtin; refine wpList_append_byt _ rfl (.tmp 17) (.tmp 20) 23 rfl w.heap.size 5 elemB _ [254] rfl HO2.out _ (num n 4) rfl HN.out (by rw [hnl]; simp) (by omega) ?_)
    intro va vc w3 o1 o2 o3
    have HB3 := Lib.hid (HB2.out.grown o2 (by omega) (fun k hk => (HO2.out.lt k hk).1))
    have HO3 := Lib.hid o1
    clear o1 o2 o3 HO2 HB2
    go_wp2
    go_ret
    exact ⟨_, rfl, by rw [HV.out]; exact HO3.out, HB3.out⟩
  · have hv : var n = 255 :: num n 8 := by unfold var; rw [if_neg h1, if_neg h2, if_neg h3]
    have hz1 : ¬ ((n : Int) < 253) := by omega
    have hz2 : (65536 : Int) ≤ (n : Int) := by omega
    have hz3 : (4294967296 : Int) ≤ (n : Int) := by omega
    have HO := Lib.hid (own_one w 255 255 rfl)
    have HB := Lib.hid (show Below w.heap.size w (w.alloc (.cells #[.int .u8 255] 5)) from (Below.refl _ _).alloc (Nat.le_refl _) _)
    have HV := Lib.hid hv
    have hs1 : (w.alloc (.cells #[.int .u8 255] 5)).heap.size = w.heap.size + 1 := by simp
    go_upto_region 10 with fail
    generalize (w.alloc (.cells #[.int .u8 255] 5)) = w1 at *
    go_wp2_with fail
    refine (number_calls w1 n 8 hn (by omega)).mono ?_
    rintro e w2 ⟨a, c, rfl, g1, g2⟩
    have hs2 := g2.size
    have HN := Lib.hid g1.byt
    have HO2 := Lib.hid (HO.out.below g2)
    have HB2 := Lib.hid (HB.out.trans (g2.mono (by omega)))
    have hnl : (num n 8).length = 8 := num_length n 8
    clear g1 g2 HO HB
    go_wp2_with (at_builtin; refine wpList_append_byt _ rfl (.tmp 17) (.tmp 20) 23 rfl w.heap.size 5 elemB _ [255] rfl HO2.out _ (num n 8) rfl HN.out (by rw [hnl]; simp) (by omega) ?_)
    intro va vc w3 o1 o2 o3
    have HB3 := Lib.hid (HB2.out.grown o2 (by omega) (fun k hk => (HO2.out.lt k hk).1))
    have HO3 := Lib.hid o1
    clear o1 o2 o3 HO2 HB2
    go_wp2
    go_ret
    exact ⟨_, rfl, by rw [HV.out]; exact HO3.out, HB3.out⟩
set_option maxHeartbeats 4000000 in
theorem ref_text_calls (w : World) (D : Nat → Prop) (v : Value) (b : List UInt8) (hB : Byt D w v b) (hl : b.length + 9 ≤ 140737488355328) :
    Calls Try.prog 74 #[v] w fun e w' => ∃ v, e = .returned v ∧ OwnB w.heap.size 5 w' v (text b) ∧ Below w.heap.size w w' := by
  obtain ⟨a, c, rfl, _⟩ := id hB
  have HB0 := Lib.hid hB
  have hvl : (var b.length).length ≤ 9 := by rw [var_length]; exact vlen_le _
  have HT := Lib.hid (show text b = var b.length ++ b from rfl)
  clear hB
  go_enter Try.func74, Try.ntmps74
  go_wp2_with fail
  refine (ref_var_calls w b.length (by omega)).mono ?_
  rintro e w2 ⟨v, rfl, g1, g2⟩
  obtain ⟨va, vc, rfl, _⟩ := id g1.byt
  have hs2 := g2.size
  have HO := Lib.hid g1
  have HB := Lib.hid g2
  clear g1 g2
  go_wp2_with (at_builtin; refine wpList_append_byt _ rfl (.tmp 8) (.tmp 9) 23 rfl w.heap.size 5 elemB _ (var b.length) rfl HO.out _ b rfl (HB0.out.below HB.out) (by omega) hs2 ?_)
  intro va2 vc2 w3 o1 o2 o3
  have HB3 := Lib.hid (HB.out.grown o2 hs2 (fun k hk => (HO.out.lt k hk).1))
  have HO3 := Lib.hid o1
  clear o1 o2 o3 HO HB
  go_wp2
  go_ret
  exact ⟨_, rfl, by rw [HT.out]; exact HO3.out, HB3.out⟩
end Go.Proofs.Ytjdohjoljobinaa.CodecN
