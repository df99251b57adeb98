/- Walks of the reference of SHA-256. No condition. -/
import Derived.Test.YtmenchnjajpkmaaDoorShaC
namespace Go.Proofs.YtmenchnjajpkmaaDoor.ShaW
open Go Go.RowKit Mem Sha

theorem rot (x : W) (k : Int) (w : World) (h1 : 1 ≤ k) (h2 : k ≤ 31) :
    Calls Tryd.prog 33 #[.int .u32 (x.toNat : Int), .int .i64 k] w fun e w' => e = .returned (.int .u32 ((rotr x k.toNat).toNat : Int)) ∧ ∃ n, w' = w.drewN n := by
  have hx := x.isLt
  obtain ⟨n, rfl⟩ := Int.eq_ofNat_of_zero_le (by omega : 0 ≤ k)
  go_enter Tryd.func33, Tryd.ntmps33
  go_wp2
  go_quiet (fail)
  go_wp2
  go_ret
  exact ⟨ret_int (by rw [shl_int, shr_int, or_int, BitVec.or_comm]; rfl), _, rfl⟩

def PadR (B : Nat) (w : World) (v : Value) (bs : List UInt8) (wx : World) : Prop := OwnB B 5 wx v bs ∧ Below B w wx ∧ B ≤ wx.heap.size
theorem PadR.grows {B : Nat} {w w1 w2 : World} {v v2 : Value} {bs b2 : List UInt8} (h : PadR B w v bs w1) (o1 : OwnB B 5 w2 v2 b2) (o2 : Fr (fun k => v.ownBlock = some k) w1 w2) : PadR B w v2 b2 w2 :=
  ⟨o1, h.2.1.trans (o2.below h.2.2 (fun k hk => (h.1.lt k hk).1)), Nat.le_trans h.2.2 o2.size⟩

set_option maxHeartbeats 4000000 in
set_option maxRecDepth 100000 in
theorem padded_calls (w : World) (D : Nat → Prop) (v : Value) (l : List UInt8) (hB : Byt D w v l) (hlen : l.length ≤ 140737488355200) :
    Calls Tryd.prog 32 #[v] w fun e w' => ∃ a n c, e = .returned (.slice a n c) ∧ Byt (fun k => w.heap.size ≤ k) w' (.slice a n c) (l ++ padTail l.length) ∧ Below w.heap.size w w' := by
  obtain ⟨a, c, rfl, hk, _⟩ := id hB
  have HB0 := Lib.hid (hB.lt.below ((Below.refl _ _).alloc (Nat.le_refl _) (.cells #[] 5)))
  have hP0 : PadR w.heap.size w (.slice (some ⟨w.heap.size, 0, none⟩) 0 0) [] (w.alloc (.cells #[] 5)) :=
    ⟨World.ownsRow_lit w #[] 0 (Nat.le_refl _) (Nat.zero_le _) rfl, (Below.refl _ _).alloc (Nat.le_refl _) _, by simp⟩
  have HP0 := Lib.hid hP0
  clear hP0 hB
  go_enter Tryd.func32, Tryd.ntmps32
  go_wp2_with (at_builtin; refine wpList_append_byt _ rfl (.tmp 6) (.tmp 7) 56 rfl w.heap.size 5 elemB _ [] rfl HP0.out.1 _ l rfl HB0.out (by simp; omega) (by simp) ?_)
  intro va vc w1 o1 o2 o3
  have HP1 := Lib.hid (HP0.out.grows o1 (Fr.ofGrown o2))
  clear o1 o2 o3 HP0
  go_wp2_with (at_builtin; refine wpList_append_one _ rfl (.tmp 9) (.tmp 10) 56 rfl w.heap.size 5 elemB _ l rfl HP1.out.1 _ 128 rfl rfl (by omega) (by have := HP1.out.2.2; omega) ?_)
  intro va2 vc2 w2 o1 o2 o3
  have HP2 := Lib.hid (HP1.out.grows o1 o2)
  clear o1 o2 o3 HP1
  go_wp2
  go_loopw [3] (fun v wx => ∃ j bs, j ≤ zs l ∧ bs = l ++ [128] ++ List.replicate j 0 ∧ PadR w.heap.size w v bs wx) (fun v _ => l.length + 200 - vlen v)
  case atStart => exact ⟨0, _, Nat.zero_le _, by simp, HP2.out⟩
  case round =>
    obtain ⟨j, bs, hj, hbs, hP⟩ := hrel
    obtain ⟨xa, xc, rfl, _⟩ := id hP.1.byt
    have hz := hP.2.2
    have hb1 : bs.length = l.length + 1 + j := by rw [hbs]; simp; omega
    have hb2 : bs.length ≤ l.length + 1 + j := by omega
    have hb3 : l.length + 1 + j ≤ bs.length := by omega
    have hzs : zs l = (119 - l.length % 64) % 64 := rfl
    have hz63 : zs l ≤ 63 := by omega
    have HBS := Lib.hid hbs
    have HP := Lib.hid hP
    by_cases hjz : j = zs l
    · have ht : ((bs.length : Int) % 64 != 56) = false := by rw [bne_eq_false_iff_eq]; omega
      have hbz : bs = l ++ [128] ++ List.replicate (zs l) 0 := by rw [hbs, hjz]
      have hb4 : bs.length ≤ l.length + 64 := by omega
      have HBZ := Lib.hid hbz
      clear hbs hP hb1 hzs hjz HBS hbz hb2 hb3
      go_wp2
      go_loopw [3, 5] (fun v i wx => ∃ (k : Nat) (cs : List UInt8), k ≤ 8 ∧ i = .int .i64 k ∧ cs = bs ++ (be8 (8 * l.length)).take k ∧ PadR w.heap.size w v cs wx) (fun _ i _ => 8 - (intOf i).toNat)
      case atStart => exact ⟨0, _, by omega, rfl, by simp, HP.out⟩
      case round =>
        obtain ⟨k, cs, hk8, rfl, hcs, hP⟩ := hrel
        obtain ⟨ya, yc, rfl, _⟩ := id hP.1.byt
        have hz2 := hP.2.2
        have hcl : cs.length ≤ l.length + 72 := by rw [hcs]; simp; omega
        have HP2 := Lib.hid hP
        have HCS := Lib.hid hcs
        clear hP hcs HP
        by_cases hlt : k < 8
        · go_wp2_with (at_builtin; refine wpList_append_one _ rfl (.tmp 27) (.tmp 34) 56 rfl w.heap.size 5 elemB _ cs rfl HP2.out.1 _ (UInt8.ofNat (8 * l.length / 2 ^ (56 - 8 * k))) (byte_int _ _) rfl (by omega) (by omega) ?_)
          intro va2 vc2 w2 o1 o2 o3
          have HP3 := Lib.hid (HP2.out.grows o1 o2)
          clear o1 o2 o3 HP2
          go_wp2
          go_roundw
          case rel => exact ⟨k + 1, _, by omega, by go_num, by rw [HCS.out, be8_take _ k hlt, ← List.append_assoc], HP3.out⟩
          case measure => simp [intOf]; omega
        · obtain rfl : k = 8 := by omega
          have hfin : cs = l ++ padTail l.length := by
            rw [HCS.out, HBZ.out]
            unfold padTail zs
            rw [show 8 * l.length % 18446744073709551616 = 8 * l.length from by omega, show (be8 (8 * l.length)).take 8 = be8 (8 * l.length) from List.take_of_length_le (by rw [be8_length]; omega)]
            simp
          have HFIN := Lib.hid hfin
          clear hfin HBZ HCS
          go_wp2
          go_ret
          refine ⟨ya, cs.length, yc, rfl, ?_, HP2.out.2.1⟩
          rw [← HFIN.out]
          exact HP2.out.1.byt.mono fun k _ h => h.2
    · have ht : ((bs.length : Int) % 64 != 56) = true := by rw [bne_iff_ne]; omega
      have hm1 : j + 1 ≤ zs l := by omega
      clear hbs hP hb1 hzs
      go_wp2_with (at_builtin; refine wpList_append_one _ rfl (.tmp 16) (.tmp 17) 56 rfl w.heap.size 5 elemB _ bs rfl HP.out.1 _ 0 rfl rfl (by omega) (by omega) ?_)
      intro va2 vc2 w2 o1 o2 o3
      have HP2 := Lib.hid (HP.out.grows o1 o2)
      clear o1 o2 o3 HP
      go_wp2
      go_roundw
      case rel => exact ⟨j + 1, _, hm1, by rw [HBS.out, List.replicate_succ', ← List.append_assoc], HP2.out⟩
      case measure => simp [vlen]; omega
end Go.Proofs.YtmenchnjajpkmaaDoor.ShaW
