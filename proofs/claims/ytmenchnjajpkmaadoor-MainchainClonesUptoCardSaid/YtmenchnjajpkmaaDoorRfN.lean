/- Walks of the reference's Number, Var, Text (as XCodecN, for seats without the codec's laws). Condition: the bytes together are at most 2^47. -/
import Derived.Test.YtmenchnjajpkmaaDoorCodecW
import Derived.Test.YtmenchnjajpkmaaDoorRead
namespace Go.Proofs.YtmenchnjajpkmaaDoor.CodecN
open Go Go.RowKit Mem Codec CodecW
set_option maxHeartbeats 4000000 in
set_option maxRecDepth 100000 in
theorem number_calls (w : World) (n many : Nat) (hn : n < 18446744073709551616) (hm : many ≤ 8) :
    Calls Tryd.prog 43 #[.int .u64 n, .int .i64 many] w fun e w' => ∃ a c, e = .returned (.slice a many c) ∧ OwnB w.heap.size 5 w' (.slice a many c) (num n many) ∧ Below w.heap.size w w' := by
  go_enter Tryd.func43, Tryd.ntmps43
  go_wp2
  go_loopw [5, 6] (fun v i wx => ∃ (j : Nat) (x : List UInt8), j ≤ many ∧ i = .int .i64 ((j : Int) - 1) ∧ num n many = x ++ num n j ∧ x.length + j = many ∧ OwnB w.heap.size 5 wx v x ∧ Below w.heap.size w wx) (fun _ i _ => (intOf i + 1).toNat)
  case atStart => exact ⟨many, [], Nat.le_refl _, rfl, rfl, by simp, OwnB.nil _ _ _, Below.refl _ _⟩
  case round =>
    obtain ⟨j, x, hj, rfl, hx, hxl, hO, hB⟩ := hrel
    obtain ⟨xa, xc, rfl, _⟩ := id hO.byt
    have HX := Lib.hid hx
    have HO := Lib.hid hO
    have HB := Lib.hid hB
    have hsz := hB.size
    clear hx hO hB
    by_cases h0 : 0 < j
    · obtain ⟨i, rfl⟩ : ∃ i, j = i + 1 := ⟨j - 1, by omega⟩
      go_wp2
      go_loop [7, 8] (fun k l => ∃ t : Nat, t ≤ i ∧ l = .int .i64 t ∧ k = .int .u64 ((n / 256 ^ t : Nat) : Int)) (fun _ l => i - (intOf l).toNat)
      case atStart => exact ⟨0, by omega, rfl, by simp⟩
      case round =>
        obtain ⟨t, ht, rfl, rfl⟩ := hrel
        have HT := Lib.hid (show n / 256 ^ (t + 1) = n / 256 ^ t / 256 by rw [Nat.pow_succ, Nat.div_div_eq_div_mul])
        have hty : n / 256 ^ t < 18446744073709551616 := Nat.lt_of_le_of_lt (Nat.div_le_self _ _) hn
        by_cases hlt : t < i
        · generalize n / 256 ^ t = y at *
          go_wp2
          go_round
          case rel => exact ⟨t + 1, by omega, by go_num, by rw [HT.out, Int.natCast_ediv]; rfl⟩
          case measure => simp [intOf]; omega
        · obtain rfl : t = i := by omega
          have HC := Lib.hid (show ((n / 256 ^ t : Nat) : Int) % 256 = ((UInt8.ofNat (n / 256 ^ t)).toNat : Int) by rw [UInt8.toNat_ofNat']; omega)
          have HN := Lib.hid (show num n (t + 1) = UInt8.ofNat (n / 256 ^ t) :: num n t from rfl)
          clear HT
          generalize n / 256 ^ t = y at *
          go_wp2_with (at_builtin; refine wpList_append_one _ rfl (.tmp 23) (.tmp 27) 56 rfl w.heap.size 5 elemB _ x rfl HO.out _ (UInt8.ofNat y) HC.out rfl (by omega) hsz ?_)
          intro va2 vc2 w2 o1 o2 o3
          have HB2 := Lib.hid (HB.out.trans (o2.below hsz (fun k hk => (HO.out.lt k hk).1)))
          have HO2 := Lib.hid o1
          clear o1 o2 o3 HO HB HC
          go_wp2
          go_roundw
          case rel => exact ⟨t, x ++ [UInt8.ofNat y], by omega, by simp, by rw [HX.out, HN.out]; simp, by simp; omega, HO2.out, HB2.out⟩
          case measure => simp [intOf]
    · obtain rfl : j = 0 := by omega
      have hxx : num n many = x := by rw [HX.out]; simp [num]
      have hxl2 : x.length = many := by omega
      have HXX := Lib.hid hxx
      have HXL := Lib.hid hxl2
      clear hxx hxl2
      go_wp2
      go_ret
      exact ⟨xa, xc, by rw [← HXL.out]; rfl, by rw [HXX.out, ← HXL.out]; exact HO.out, HB.out⟩
theorem own_one (w : World) (n : Int) (c : UInt8) (h : n = (c.toNat : Int)) : OwnB w.heap.size 5 (w.alloc (.cells #[.int .u8 n] 5)) (.slice (some ⟨w.heap.size, 0, none⟩) 1 1) [c] := by
  subst h
  exact World.ownsRow_lit w #[byt c] 1 (Nat.le_refl _) (by unfold maxLen; omega) rfl
end Go.Proofs.YtmenchnjajpkmaaDoor.CodecN
