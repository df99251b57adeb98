/- A batch's frame; the walk of the program's Frame. Condition: the changes as they read. -/
import Derived.Test.YtjdohjoljobinaaFrC
import Derived.Test.YtjdohjoljobinaaCodecR
import Derived.Test.YtjdohjoljobinaaSum
namespace Go.Proofs.Ytjdohjoljobinaa.Fra
open Go Go.RowKit Mem Codec CodecW Ops Reps Arr Crc
set_option linter.unusedVariables false
set_option linter.unusedSimpArgs false

def frameE (l : List XCh) : Int := if 4096 < l.length then 152 else if rights l ≠ 0 then rights l else if 16777216 < tot l then 152 else if 16777216 < (bodyF l).length then 152 else 0
def frameB (b : List UInt8) : List UInt8 := num b.length 4 ++ num (crc (num b.length 4)).toNat 4 ++ b ++ num (crc b).toNat 4
def frameT (l : List XCh) : List UInt8 := if frameE l = 0 then frameB (bodyF l) else []
def FrameT (w : World) (l : List XCh) (e : Ending) (w' : World) : Prop := ∃ v, e = .returned (.tuple #[v, .int .i64 (frameE l)]) ∧ Byt (fun k => w.heap.size ≤ k) w' v (frameT l) ∧ Below w.heap.size w w'
theorem FrameT.bad {w w' : World} {l : List XCh} {n : Int} (h : frameE l = n) (h0 : n ≠ 0) (hb : Below w.heap.size w w') : FrameT w l (.returned (.tuple #[.slice none 0 0, .int .i64 n])) w' :=
  ⟨_, by rw [h], by unfold frameT; rw [if_neg (by rw [h]; exact h0)]; exact ⟨none, 0, rfl, ⟨Nat.le_refl _, Nat.zero_le _, fun _ => rfl⟩, .inl rfl⟩, hb⟩

set_option maxHeartbeats 4000000 in
set_option maxRecDepth 100000 in
theorem frame_calls (w : World) (va : Value) (l : List XCh) (hA : Sl 3 RCh Any w va l) : Calls Try.prog 10 #[va] w (FrameT w l) := by
  obtain ⟨a1, a2, rfl, hka, hkm, _⟩ := hA.form
  have HA := Lib.hid hA
  unfold maxLen at hkm
  clear hA
  by_cases hn : 4096 < l.length
  · have hnI : (4096 : Int) < (l.length : Int) := by omega
    have HE := Lib.hid (show frameE l = 152 from if_pos hn)
    go_enter Try.func10, Try.ntmps10
    go_wp2
    go_ret2
    exact FrameT.bad HE.out (by decide) (Below.refl _ _)
  have hnI : ¬ (4096 : Int) < (l.length : Int) := by omega
  have hn2 : l.length ≤ 4096 := by omega
  go_enter Try.func10, Try.ntmps10
  go_wp2
  go_loopw [19] (fun i wx => ∃ n : Nat, n ≤ l.length ∧ i = .int .i64 n ∧ rights (l.take n) = 0 ∧ Below w.heap.size w wx) (fun i _ => l.length - (intOf i).toNat)
  case atStart => exact ⟨0, by omega, rfl, rfl, Below.refl _ _⟩
  case round =>
    obtain ⟨n, hn1, rfl, hr, hB⟩ := hrel
    have HRI := Lib.hid hr
    have HB := Lib.hid hB
    clear hr hB
    by_cases hlt : n < l.length
    · have hltI : (n : Int) < (l.length : Int) := by omega
      have h0I : (0 : Int) ≤ (n : Int) := by omega
      obtain ⟨bb, ob, cap', cs, e0, hbo, hrx, hmx⟩ := HA.out.at n hlt
      cases e0
      obtain ⟨c, hc⟩ : ∃ c, l[n]'hlt = c := ⟨_, rfl⟩
      rw [hc] at hmx
      have hcl : l[n]? = some c := by rw [List.getElem?_eq_getElem hlt, hc]
      have HRN := Lib.hid (rights_take HRI.out hcl)
      have HCS := Lib.hid (rep_Ch.len hmx)
      have HONE := Lib.hid (rep_Ch.one hmx)
      have HSZ := Lib.hid (szC HCS.out)
      have HZ := Lib.hid (show [Value.slice none 0 0, .slice none 0 0, .bool false].length = cs.length from by rw [HCS.out]; rfl)
      have HRX := Lib.hid (show wr.rangeAt bb (ob + n * 3) cs from rangeAt_fr hrx (Fr.ofBelow HB.out) (by have := rangeAt_lt hrx (by intro e; have := HCS.out; rw [e] at this; simp at this); show ¬ w.heap.size ≤ bb; omega))
      have HCW := Lib.hid (show RCh Any wr cs c from rep_Ch.below hmx HB.out)
      clear hc hcl hrx hmx
      go_upto_region 6 with (first
        | (with_reducible refine wpList_load_mid rfl _ _ rfl bb (ob + n * 3) rfl cs _ HRX.out Try.underlying70 rfl HSZ.out ?_)
        | ((with_reducible refine wpList_alloc rfl _ rfl _ (zeroC _) (fun wa ka ca za => ?_)); have KA := Lib.hid ka; have CA := Lib.hid ca; clear ka ca)
        | ((with_reducible refine wpList_put rfl _ _ _ rfl wr.heap.size cs _ rfl rfl KA.out HSZ.out HZ.out HONE.out (fun wb kb fb zb => ?_)); have KB := Lib.hid kb; have CB := Lib.hid (show Below wr.heap.size wr wb from CA.out.trans (fb.below CA.out.size (fun k hk => by have hk : k = wr.heap.size := hk; omega))); clear kb fb))
      have HCB := Lib.hid (rep_Ch.below HCW.out CB.out)
      have BB := Lib.hid (HB.out.trans (CB.out.mono HB.out.size))
      clear KA CA za zb HRX HCW CB
      go_wp2_with (first
        | (with_reducible refine wpList_load_blk rfl _ _ rfl wr.heap.size cs rfl KB.out _ Try.underlying70 rfl HSZ.out ?_))
      refine (right_calls wb cs c HCB.out).mono ?_
      rintro e w7 ⟨rfl, g2⟩
      have B7 := Lib.hid (BB.out.trans (g2.mono BB.out.size))
      obtain ⟨r, hr⟩ : ∃ r, rightE c = r := ⟨_, rfl⟩
      have HRR := Lib.hid hr
      rw [hr]
      clear g2 hr BB
      by_cases h0 : r = 0
      · have HR00 := Lib.hid (show rightE c = 0 from by rw [HRR.out, h0])
        rw [h0]
        clear HRR h0
        go_wp2
        go_roundw
        case rel => exact ⟨n + 1, by omega, by go_num, HRN.out.1 HR00.out, B7.out⟩
        case measure => simp [intOf]; omega
      · have h0b : (r != 0) = true := by simp [h0]
        have HE := Lib.hid (show frameE l = r from by
          have := HRN.out.2 (by rw [HRR.out]; exact h0)
          rw [HRR.out] at this
          unfold frameE
          rw [if_neg (by omega), if_pos (by rw [this]; exact h0), this])
        go_wp2
        go_ret2
        exact FrameT.bad HE.out h0 B7.out
    · obtain rfl : n = l.length := by omega
      have hr0 : rights l = 0 := by have := HRI.out; rwa [List.take_length] at this
      have HR0 := Lib.hid hr0
      have HRA := Lib.hid (right_all hr0)
      clear hr0 HRI
      go_wp2
      go_loopw [7, 31] (fun s i wx => ∃ n : Nat, n ≤ l.length ∧ i = .int .i64 n ∧ s = .int .i64 ((tot (l.take n) : Nat) : Int) ∧ tot (l.take n) ≤ 16777216 ∧ Below w.heap.size w wx) (fun _ i _ => l.length - (intOf i).toNat)
      case atStart => exact ⟨0, by omega, rfl, rfl, by simp [tot], HB.out⟩
      case round =>
        obtain ⟨n, hn1, rfl, rfl, ht, hB⟩ := hrel
        have HB := Lib.hid hB
        clear hB
        by_cases hlt : n < l.length
        · have hltI : (n : Int) < (l.length : Int) := by omega
          have h0I : (0 : Int) ≤ (n : Int) := by omega
          obtain ⟨bb, ob, cap', cs, e0, hbo, hrx, hmx⟩ := HA.out.at n hlt
          cases e0
          obtain ⟨c, hc⟩ : ∃ c, l[n]'hlt = c := ⟨_, rfl⟩
          rw [hc] at hmx
          have hcl : l[n]? = some c := by rw [List.getElem?_eq_getElem hlt, hc]
          have HTT := Lib.hid (tot_take hcl)
          have HLE := Lib.hid (tot_le l (n + 1))
          have HRC := Lib.hid (HRA.out _ (List.mem_of_getElem? hcl))
          have HCS := Lib.hid (rep_Ch.len hmx)
          have HONE := Lib.hid (rep_Ch.one hmx)
          have HSZ := Lib.hid (szC HCS.out)
          have HZ := Lib.hid (show [Value.slice none 0 0, .slice none 0 0, .bool false].length = cs.length from by rw [HCS.out]; rfl)
          have HRX := Lib.hid (show wr.rangeAt bb (ob + n * 3) cs from rangeAt_fr hrx (Fr.ofBelow HB.out) (by have := rangeAt_lt hrx (by intro e; have := HCS.out; rw [e] at this; simp at this); show ¬ w.heap.size ≤ bb; omega))
          obtain ⟨k1, k2, v1, v2, hcs, _, _⟩ := chC hmx
          have HCC := Lib.hid hcs
          obtain ⟨k, v, d⟩ := c
          dsimp only at HCC
          obtain ⟨tn, htn⟩ : ∃ t, tot (l.take n) = t := ⟨_, rfl⟩
          rw [htn] at ht ⊢
          obtain ⟨vn, hvn⟩ : ∃ t, v.length = t := ⟨_, rfl⟩
          rw [hvn] at HCC
          have HTN := Lib.hid htn
          have HVN := Lib.hid hvn
          clear hc hcl hmx hrx hcs htn hvn
          go_upto_region 14 with (first
            | (with_reducible refine wpList_load_mid rfl _ _ rfl bb (ob + n * 3) rfl cs _ HRX.out Try.underlying70 rfl HSZ.out ?_)
            | ((with_reducible refine wpList_alloc rfl _ rfl _ (zeroC _) (fun wa ka ca za => ?_)); have KA := Lib.hid ka; have CA := Lib.hid ca; clear ka ca)
            | ((with_reducible refine wpList_put rfl _ _ _ rfl wr.heap.size cs _ rfl rfl KA.out HSZ.out HZ.out HONE.out (fun wb kb fb zb => ?_)); have KB := Lib.hid kb; have CB := Lib.hid (show Below wr.heap.size wr wb from CA.out.trans (fb.below CA.out.size (fun k hk => by have hk : k = wr.heap.size := hk; omega))); clear kb fb))
          have BB := Lib.hid (HB.out.trans (CB.out.mono HB.out.size))
          have c2 := KB.out.cell (i := 2) (by rw [HCC.out]; rfl)
          have c1 := KB.out.cell (i := 1) (by rw [HCC.out]; rfl)
          clear KA CA za zb HRX CB
          rcases d with _ | _
          · have hp : tot (l.take (n + 1)) = tn + vn := by rw [HTT.out, HTN.out, ← HVN.out]; rfl
            have HP := Lib.hid hp
            have hvl : vn ≤ 1048576 := by
              have := HRC.out
              rw [← HVN.out]
              unfold rightE at this
              split at this
              · cases this
              · split at this
                · cases this
                · rename_i h; simp at h; omega
            clear hp
            by_cases hx : 16777216 < tn + vn
            · have hxI : (16777216 : Int) < (tn : Int) + (vn : Int) := by omega
              have HE := Lib.hid (show frameE l = 152 from by
                unfold frameE
                rw [if_neg (by omega), if_neg (by rw [HR0.out]; decide), if_pos (by have := HLE.out; have := HP.out; omega)])
              go_wp2
              go_ret2
              exact FrameT.bad HE.out (by decide) BB.out
            · have hxI : ¬ (16777216 : Int) < (tn : Int) + (vn : Int) := by omega
              go_wp2
              go_roundw
              case rel => exact ⟨n + 1, by omega, by go_num, by rw [HP.out]; go_num, by rw [HP.out]; omega, BB.out⟩
              case measure => simp [intOf]; omega
          · have hp : tot (l.take (n + 1)) = tn := by rw [HTT.out, HTN.out]; rfl
            have HP := Lib.hid hp
            have hxI : ¬ (16777216 : Int) < (tn : Int) := by omega
            clear hp
            go_wp2
            go_roundw
            case rel => exact ⟨n + 1, by omega, by go_num, by rw [HP.out], by rw [HP.out]; omega, BB.out⟩
            case measure => simp [intOf]; omega
        · obtain rfl : n = l.length := by omega
          have HTO := Lib.hid (show tot l ≤ 16777216 from by rwa [List.take_length] at ht)
          clear ht
          go_upto_region 19 with fail
          have hws := HB.out.size
          go_wp2_with fail
          refine (CodecW.new_calls wr).mono ?_
          rintro e w1 ⟨q, rfl, hq, g1, g2⟩
          have W1 := Lib.hid g1
          have B1 := Lib.hid (HB.out.trans (g2.mono hws))
          clear g1 g2
          have hs1 := B1.out.size
          go_wp2_with fail
          refine (cput_calls w w1 (fun k => k = q) q (.slice a1 l.length a2) l HA.out B1.out W1.out (fun k hk => by omega) hn2 HRA.out HTO.out).mono ?_
          rintro e w2 ⟨rfl, g1, g2⟩
          have W2 := Lib.hid g1
          have B2 := Lib.hid (B1.out.trans (g2.below hs1 (fun k hk => by have hk : k = q := hk; omega)))
          have hs2 := B2.out.size
          clear g1 g2 W1 B1
          have HBL := Lib.hid (show (bodyF l).length ≤ 17117193 from by have := body_le hn2 HRA.out HTO.out l.length; rwa [List.take_length] at this)
          have HFE := Lib.hid (show frameE l = if 16777216 < (bodyF l).length then 152 else 0 from by
            unfold frameE
            rw [if_neg (by omega), if_neg (by rw [HR0.out]; decide), if_neg (by have := HTO.out; omega)])
          have HFT := Lib.hid (show ¬ 16777216 < (bodyF l).length → frameT l = frameB (bodyF l) from fun h => by
            unfold frameT
            rw [HFE.out, if_neg h, if_pos rfl])
          obtain ⟨bd, hbd⟩ : ∃ b, bodyF l = b := ⟨_, rfl⟩
          rw [hbd] at W2 HBL HFE HFT
          clear hbd
          have hbl := HBL.out
          go_wp2_with fail
          refine (CodecW.len_calls _ w2 q bd W2.out).mono ?_
          rintro e w2' ⟨rfl, rfl⟩
          by_cases hx : 16777216 < bd.length
          · have hxI : (16777216 : Int) < (bd.length : Int) := by omega
            have HE := Lib.hid (show frameE l = 152 from by rw [HFE.out, if_pos hx])
            go_wp2
            go_ret2
            exact FrameT.bad HE.out (by decide) B2.out
          have hxI : ¬ (16777216 : Int) < (bd.length : Int) := by omega
          have HE := Lib.hid (show frameE l = 0 from by rw [HFE.out, if_neg hx])
          have HTX := Lib.hid (HFT.out hx)
          clear HFE HFT
          go_wp2_with fail
          refine (CodecR.bytes_calls _ w2 q bd W2.out (by omega)).mono ?_
          rintro e w3 ⟨ab, cb, rfl, g1, g2⟩
          have OB := Lib.hid (show Byt (fun k => k < w3.heap.size) w3 (.slice ab bd.length cb) bd from g1.byt.lt.mono (fun k _ h => h.1))
          have B3 := Lib.hid (B2.out.trans (g2.mono hs2))
          have hs3 := B3.out.size
          clear g1 g2 W2 B2
          go_wp2_with fail
          refine (CodecW.new_calls w3).mono ?_
          rintro e w4 ⟨q2, rfl, hq2, g1, g2⟩
          have X2 := Lib.hid g1
          have B4 := Lib.hid g2
          have hs4 := g2.size
          clear g1 g2
          have hwr1 : IntKind.u32.wrap (bd.length : Int) = (bd.length : Int) := by rw [IntKind.wrap_u32]; omega
          go_wp2_with fail
          refine (CodecW.word_calls _ w4 q2 [] bd.length (by omega) X2.out (by simp)).mono ?_
          rintro e w5 ⟨rfl, g1, g2⟩
          rw [List.nil_append] at g1
          have hq25 := g1.lt
          have hs5 := g2.size
          obtain ⟨hd, hhd⟩ : ∃ h, num bd.length 4 = h := ⟨_, rfl⟩
          have HHD := Lib.hid hhd
          have HHL := Lib.hid (show hd.length = 4 from by rw [← hhd, num_length])
          rw [hhd] at g1
          have Y2 := Lib.hid (show WriterIs (fun k => w3.heap.size ≤ k ∧ k < w5.heap.size) w5 q2 hd from g1.mono (fun k hk h => by rcases h with h | h; exact ⟨by omega, hk⟩; exact ⟨by omega, h.2⟩))
          have BN := Lib.hid (show Below w3.heap.size w3 w5 from B4.out.trans (g2.below hs4 (fun k hk => by have hk : k = q2 := hk; omega)))
          have B5 := Lib.hid (B3.out.trans (BN.out.mono hs3))
          have V5 := Lib.hid (show Byt (fun k => k < w5.heap.size) w5 (.slice ab bd.length cb) bd from (OB.out.below BN.out).mono (fun k hk h => hk))
          clear g1 g2 hhd X2 B4 OB BN B3 hwr1
          have hhl : hd.length ≤ 4 := Nat.le_of_eq HHL.out
          go_wp2_with fail
          refine (CodecW.new_calls w5).mono ?_
          rintro e w6 ⟨q3, rfl, hq3, g1, g2⟩
          have Z6 := Lib.hid (show WriterIs (fun k => w5.heap.size ≤ k) w6 q3 [] from g1.mono (fun k _ h => by have h : k = q3 := h; omega))
          have C6 := Lib.hid g2
          clear g1 g2
          go_wp2_with fail
          refine (CodecR.bytes_calls _ w6 q2 hd (Y2.out.fr (Fr.ofBelow C6.out) (fun k _ h e => by omega)) (by omega)).mono ?_
          rintro e w7 ⟨ah, ch, rfl, g1, g2⟩
          have VH := Lib.hid g1.byt
          have C7 := Lib.hid (C6.out.trans (g2.mono C6.out.size))
          have Z7 := Lib.hid (Z6.out.below g2)
          clear g1 g2 C6 Z6
          have hs7 := C7.out.size
          go_wp2_with fail
          refine (CodecW.raw_calls _ _ w7 q3 [] _ hd Z7.out VH.out (by simp; omega)).mono ?_
          rintro e w8 ⟨rfl, g1, g2⟩
          rw [List.nil_append] at g1
          have C8 := Lib.hid (C7.out.trans (g2.below hs7 (fun k h => h)))
          have Z8 := Lib.hid (show WriterIs (fun k => w5.heap.size ≤ k) w8 q3 hd from g1.mono (fun k _ h => by rcases h with h | h; exact h; omega))
          have hs8 := C8.out.size
          clear g1 g2 C7 Z7 VH
          go_wp2_with fail
          refine (CodecR.bytes_calls _ w8 q2 hd (Y2.out.fr (Fr.ofBelow C8.out) (fun k _ h e => by omega)) (by omega)).mono ?_
          rintro e w9 ⟨ah, ch, rfl, g1, g2⟩
          have VH := Lib.hid g1.byt
          have C9 := Lib.hid (C8.out.trans (g2.mono hs8))
          have Z9 := Lib.hid (Z8.out.below g2)
          have hs9 := C9.out.size
          clear g1 g2 C8 Z8
          go_wp2_with fail
          refine (SumW.sum_prog _ hd w9 (by omega) VH.out).mono ?_
          rintro e w10 ⟨rfl, g2⟩
          have C10 := Lib.hid (C9.out.trans (g2.mono hs9))
          have Z10 := Lib.hid (Z9.out.below g2)
          have hs10 := C10.out.size
          clear g2 C9 Z9 VH
          obtain ⟨ck, hck⟩ : ∃ c, crc hd = c := ⟨_, rfl⟩
          have HCK := Lib.hid hck
          rw [hck]
          clear hck
          have hcl := ck.isLt
          go_wp2_with fail
          refine (CodecW.word_calls _ w10 q3 hd ck.toNat (by omega) Z10.out (by omega)).mono ?_
          rintro e w11 ⟨rfl, g1, g2⟩
          have C11 := Lib.hid (C10.out.trans (g2.below hs10 (fun k h => h)))
          have Z11 := Lib.hid (show WriterIs (fun k => w5.heap.size ≤ k) w11 q3 (hd ++ num ck.toNat 4) from g1.mono (fun k _ h => by rcases h with h | h; exact h; omega))
          have hs11 := C11.out.size
          clear g1 g2 C10 Z10
          go_wp2_with fail
          refine (CodecW.raw_calls _ _ w11 q3 _ _ bd Z11.out (V5.out.fr (Fr.ofBelow C11.out) (fun k _ h e => by omega)) (by simp [num_length]; omega)).mono ?_
          rintro e w12 ⟨rfl, g1, g2⟩
          have C12 := Lib.hid (C11.out.trans (g2.below hs11 (fun k h => h)))
          have Z12 := Lib.hid (show WriterIs (fun k => w5.heap.size ≤ k) w12 q3 (hd ++ num ck.toNat 4 ++ bd) from g1.mono (fun k _ h => by rcases h with h | h; exact h; omega))
          have hs12 := C12.out.size
          clear g1 g2 C11 Z11
          go_wp2_with fail
          refine (SumW.sum_prog _ bd w12 (by omega) (V5.out.fr (Fr.ofBelow C12.out) (fun k _ h e => by omega))).mono ?_
          rintro e w13 ⟨rfl, g2⟩
          have C13 := Lib.hid (C12.out.trans (g2.mono hs12))
          have Z13 := Lib.hid (Z12.out.below g2)
          have hs13 := C13.out.size
          clear g2 C12 Z12
          obtain ⟨cb2, hcb⟩ : ∃ c, crc bd = c := ⟨_, rfl⟩
          have HCB := Lib.hid hcb
          rw [hcb]
          clear hcb
          have hcl2 := cb2.isLt
          go_wp2_with fail
          refine (CodecW.word_calls _ w13 q3 _ cb2.toNat (by omega) Z13.out (by simp [num_length]; omega)).mono ?_
          rintro e w14 ⟨rfl, g1, g2⟩
          have C14 := Lib.hid (C13.out.trans (g2.below hs13 (fun k h => h)))
          have Z14 := Lib.hid g1
          have hs14 := C14.out.size
          clear g1 g2 C13 Z13
          have HFX := Lib.hid (show hd ++ num ck.toNat 4 ++ bd ++ num cb2.toNat 4 = frameT l from by rw [HTX.out]; unfold frameB; rw [HHD.out, HCK.out, HCB.out])
          rw [HFX.out] at Z14
          have HFL := Lib.hid (show (frameT l).length ≤ 17200000 from by rw [← HFX.out]; simp [num_length]; omega)
          go_wp2_with fail
          refine (CodecR.bytes_calls _ w14 q3 _ Z14.out (by have := HFL.out; omega)).mono ?_
          rintro e w15 ⟨ar, cr, rfl, g1, g2⟩
          have VR := Lib.hid (show Byt (fun k => w.heap.size ≤ k) w15 (.slice ar (frameT l).length cr) (frameT l) from g1.byt.mono (fun k _ h => by have := h.2; omega))
          have BR := Lib.hid (B5.out.trans ((C14.out.trans (g2.mono hs14)).mono (by omega)))
          clear g1 g2
          go_wp2
          go_ret2
          exact ⟨_, by rw [HE.out]; rfl, VR.out, BR.out⟩
end Go.Proofs.Ytjdohjoljobinaa.Fra
