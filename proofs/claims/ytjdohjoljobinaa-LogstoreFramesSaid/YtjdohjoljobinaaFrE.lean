/- The walk of the reference's Frame. Condition: the changes as they read; each value is of at most 2^47 bytes. -/
import Derived.Test.YtjdohjoljobinaaFrD
import Derived.Test.YtjdohjoljobinaaCodecN
namespace Go.Proofs.Ytjdohjoljobinaa.Fra
open Go Go.RowKit Mem Codec CodecW Ops Reps Arr Crc
set_option linter.unusedVariables false
set_option linter.unusedSimpArgs false

def vlen (l : List XCh) : Nat := (l.map fun c => c.2.1.length).sum
theorem vlen_take {l : List XCh} {n : Nat} {c : XCh} (hc : l[n]? = some c) : vlen (l.take (n + 1)) = vlen (l.take n) + c.2.1.length := by
  rw [List.take_add_one, hc]
  simp [vlen]
theorem vlen_le {K : Nat} {l : List XCh} (h : ∀ c ∈ l, c.2.1.length ≤ K) : ∀ n, vlen (l.take n) ≤ n * K
  | 0 => by rw [List.take_zero]; exact Nat.zero_le _
  | n + 1 => by
    have ih := vlen_le h n
    rw [Nat.succ_mul]
    cases hc : l[n]? with
    | none => rw [List.take_add_one, hc]; simp only [Option.toList_none, List.append_nil]; omega
    | some c => rw [vlen_take hc]; have := h c (List.mem_of_getElem? hc); omega
theorem tot_vlen : ∀ l : List XCh, tot l ≤ vlen l
  | [] => by simp [tot, vlen]
  | c :: r => by
    have := tot_vlen r
    have h : putLen c ≤ c.2.1.length := by unfold putLen; split <;> omega
    simp only [tot, vlen, List.map_cons, List.sum_cons] at this ⊢
    omega

set_option maxHeartbeats 4000000 in
set_option maxRecDepth 100000 in
theorem rframe_calls (w : World) (va : Value) (l : List XCh) (hA : Sl 3 RCh Any w va l) (hv : ∀ c ∈ l, c.2.1.length ≤ 140737488351232) : Calls Try.prog 11 #[va] w (FrameT w l) := by
  obtain ⟨a1, a2, rfl, hka, hkm, _⟩ := hA.form
  have HA := Lib.hid hA
  have HV := Lib.hid hv
  unfold maxLen at hkm
  clear hA hv
  by_cases hn : 4096 < l.length
  · have hnI : (4096 : Int) < (l.length : Int) := by omega
    have HE := Lib.hid (show frameE l = 152 from if_pos hn)
    go_enter Try.func11, Try.ntmps11
    go_wp2
    go_ret2
    exact FrameT.bad HE.out (by decide) (Below.refl _ _)
  have hnI : ¬ (4096 : Int) < (l.length : Int) := by omega
  have hn2 : l.length ≤ 4096 := by omega
  go_enter Try.func11, Try.ntmps11
  go_wp2
  go_loopw [4, 5] (fun s i wx => ∃ n : Nat, n ≤ l.length ∧ i = .int .i64 n ∧ s = .int .i64 ((vlen (l.take n) : Nat) : Int) ∧ rights (l.take n) = 0 ∧ Below w.heap.size w wx) (fun _ i _ => l.length - (intOf i).toNat)
  case atStart => exact ⟨0, by omega, rfl, rfl, rfl, Below.refl _ _⟩
  case round =>
    obtain ⟨n, hn1, rfl, rfl, hr, hB⟩ := hrel
    have HRI := Lib.hid hr
    have HB := Lib.hid hB
    clear hr hB
    by_cases hlt : n < l.length
    · have hltI : (n : Int) < (l.length : Int) := by omega
      have h0I : (0 : Int) ≤ (n : Int) := by omega
      obtain ⟨bb, ob, cap', cs, e0, hbo, hrx, hmx⟩ := HA.out.at n hlt
      cases e0
      obtain ⟨c, hc⟩ : ∃ c, l[n]'hlt = c := ⟨_, rfl⟩
      rw [hc] at hmx
      have hcl : l[n]? = some c := by rw [List.getElem?_eq_getElem hlt, hc]
      have HRN := Lib.hid (rights_take HRI.out hcl)
      have HVT := Lib.hid (vlen_take hcl)
      have HVL := Lib.hid (vlen_le HV.out n)
      have HVC := Lib.hid (HV.out c (List.mem_of_getElem? hcl))
      have HCS := Lib.hid (rep_Ch.len hmx)
      have HSZ := Lib.hid (szC HCS.out)
      have HRX := Lib.hid (show ∀ w', Below w.heap.size w w' → w'.rangeAt bb (ob + n * 3) cs from fun w' hb => rangeAt_fr hrx (Fr.ofBelow hb) (by have := rangeAt_lt hrx (by intro e; have := HCS.out; rw [e] at this; simp at this); show ¬ w.heap.size ≤ bb; omega))
      have HRW := Lib.hid (HRX.out _ HB.out)
      have HCW := Lib.hid (show RCh Any wr cs c from rep_Ch.below hmx HB.out)
      obtain ⟨k1, k2, v1, v2, hcs, _, _⟩ := chC hmx
      have HCC := Lib.hid hcs
      clear hc hcl hrx hmx hcs
      go_wp2_with (first
        | (with_reducible refine wpList_load_mid rfl _ _ rfl bb (ob + n * 3) rfl cs _ HRW.out Try.underlying70 rfl HSZ.out ?_))
      refine (rright_calls wr cs c HCW.out).mono ?_
      rintro e w7 ⟨rfl, g2⟩
      have B7 := Lib.hid (HB.out.trans (g2.mono HB.out.size))
      obtain ⟨r, hr⟩ : ∃ r, rightE c = r := ⟨_, rfl⟩
      have HRR := Lib.hid hr
      rw [hr]
      clear g2 hr
      by_cases h0 : r = 0
      · have HR00 := Lib.hid (show rightE c = 0 from by rw [HRR.out, h0])
        rw [h0]
        clear HRR h0
        obtain ⟨k, v, d⟩ := c
        dsimp only at HCC HVT HVC
        have c1 := HRX.out _ B7.out 1 (.slice v1 v.length v2) (by rw [HCC.out]; rfl)
        obtain ⟨tn, htn⟩ : ∃ t, vlen (l.take n) = t := ⟨_, rfl⟩
        have HTN := Lib.hid htn
        rw [htn]
        obtain ⟨vn, hvn⟩ : ∃ t, v.length = t := ⟨_, rfl⟩
        have HVN := Lib.hid hvn
        rw [hvn] at c1
        have hb1 : tn ≤ 4096 * 140737488351232 := by have := HVL.out; have := HTN.out; have h3 : n * 140737488351232 ≤ 4096 * 140737488351232 := Nat.mul_le_mul_right _ (by omega); omega
        have hb2 : vn ≤ 140737488351232 := by have := HVC.out; have := HVN.out; omega
        clear htn hvn
        go_wp2
        go_roundw
        case rel => exact ⟨n + 1, by omega, by go_num, by rw [HVT.out, HTN.out, HVN.out]; go_num, HRN.out.1 HR00.out, B7.out⟩
        case measure => simp [intOf]; omega
      · have h0b : (r != 0) = true := by simp [h0]
        have HE := Lib.hid (show frameE l = r from by
          have := HRN.out.2 (by rw [HRR.out]; exact h0)
          rw [HRR.out] at this
          unfold frameE
          rw [if_neg (by omega), if_pos (by rw [this]; exact h0), this])
        go_wp2
        go_ret2
        exact FrameT.bad HE.out h0 B7.out
    · obtain rfl : n = l.length := by omega
      have hr0 : rights l = 0 := by have := HRI.out; rwa [List.take_length] at this
      have HR0 := Lib.hid hr0
      have HRA := Lib.hid (right_all hr0)
      obtain ⟨vl, hvl⟩ : ∃ t, vlen (l.take l.length) = t := ⟨_, rfl⟩
      have HVL := Lib.hid (show tot l ≤ vl from by rw [← hvl, List.take_length]; exact tot_vlen l)
      rw [hvl]
      have hws := HB.out.size
      have HAW := Lib.hid (HA.out.below rep_Ch HB.out)
      clear hr0 HRI hvl
      go_upto_region 11 with fail
      go_cut [40] from 35 to 40 (fun c wx => c = .bool (decide (16777216 < tot l)) ∧ wx = wr)
      case first =>
        by_cases hvx : 16777216 < vl
        · have hvI : (16777216 : Int) < (vl : Int) := by omega
          go_wp2_with fail
          refine (heavy_calls wr (.slice a1 l.length a2) l HAW.out hn2 HRA.out).mono ?_
          rintro e w2 ⟨rfl, rfl⟩
          go_wp2
          go_meet
          case rel => exact ⟨rfl, rfl⟩
        · have hvI : ¬ (16777216 : Int) < (vl : Int) := by omega
          have HD := Lib.hid (show decide (16777216 < tot l) = false from decide_eq_false (by have := HVL.out; omega))
          go_wp2
          go_meet
          case rel => exact ⟨by rw [HD.out], rfl⟩
      case rest =>
        rename World => wc
        obtain ⟨rfl, rfl⟩ := hcut
        by_cases hx0 : 16777216 < tot l
        · have hd : decide (16777216 < tot l) = true := decide_eq_true hx0
          have HE := Lib.hid (show frameE l = 152 from by
            unfold frameE
            rw [if_neg (by omega), if_neg (by rw [HR0.out]; decide), if_pos hx0])
          rw [hd]
          clear hd hx0
          go_wp2
          go_ret2
          exact FrameT.bad HE.out (by decide) HB.out
        have hd : decide (16777216 < tot l) = false := decide_eq_false hx0
        have HTO := Lib.hid (show tot l ≤ 16777216 by omega)
        have HBL := Lib.hid (show (bodyF l).length ≤ 17117193 from by have := body_le hn2 HRA.out HTO.out l.length; rwa [List.take_length] at this)
        have HFE := Lib.hid (show frameE l = if 16777216 < (bodyF l).length then 152 else 0 from by
          unfold frameE
          rw [if_neg (by omega), if_neg (by rw [HR0.out]; decide), if_neg hx0])
        have HFT := Lib.hid (show ¬ 16777216 < (bodyF l).length → frameT l = frameB (bodyF l) from fun h => by
          unfold frameT
          rw [HFE.out, if_neg h, if_pos rfl])
        rw [hd]
        clear hd hx0
        go_wp2_with fail
        refine (body_calls wc (.slice a1 l.length a2) l HAW.out hn2 HRA.out HTO.out).mono ?_
        rintro e w2 ⟨v, rfl, g1, g2⟩
        have B2 := Lib.hid (HB.out.trans (g2.mono hws))
        have hs2 := B2.out.size
        obtain ⟨bd, hbd⟩ : ∃ b, bodyF l = b := ⟨_, rfl⟩
        rw [hbd] at g1 HBL HFE HFT
        obtain ⟨va, vc, rfl, _⟩ := id g1.byt
        have V2 := Lib.hid g1.byt
        have hbl := HBL.out
        clear hbd g1 g2
        by_cases hx : 16777216 < bd.length
        · have hxI : (16777216 : Int) < (bd.length : Int) := by omega
          have HE := Lib.hid (show frameE l = 152 from by rw [HFE.out, if_pos hx])
          go_wp2
          go_ret2
          exact FrameT.bad HE.out (by decide) B2.out
        have hxI : ¬ (16777216 : Int) < (bd.length : Int) := by omega
        have HE := Lib.hid (show frameE l = 0 from by rw [HFE.out, if_neg hx])
        have HTX := Lib.hid (HFT.out hx)
        have hwr1 : IntKind.u64.wrap (bd.length : Int) = (bd.length : Int) := by rw [IntKind.wrap_u64]; omega
        clear HFE HFT
        go_wp2_with fail
        refine (CodecN.number_calls w2 bd.length 4 (by omega) (by omega)).mono ?_
        rintro e w3 ⟨ha, hc, rfl, g1, g2⟩
        obtain ⟨hd, hhd⟩ : ∃ h, num bd.length 4 = h := ⟨_, rfl⟩
        have HHD := Lib.hid hhd
        have HHL := Lib.hid (show hd.length = 4 from by rw [← hhd, num_length])
        rw [hhd] at g1
        have V3 := Lib.hid (show Byt (fun k => k < w3.heap.size) w3 (.slice va bd.length vc) bd from (V2.out.below g2).lt.mono (fun k _ h => h.1))
        have H3 := Lib.hid (show Byt (fun k => k < w3.heap.size) w3 (.slice ha hd.length hc) hd from by rw [HHL.out]; exact g1.byt.lt.mono (fun k _ h => h.1))
        have B3 := Lib.hid (B2.out.trans (g2.mono hs2))
        have hs3 := B3.out.size
        clear g1 g2 hhd V2 B2 hwr1
        have hhl : hd.length ≤ 4 := Nat.le_of_eq HHL.out
        rw [show Value.slice ha 4 hc = Value.slice ha hd.length hc from by rw [HHL.out]]
        go_upto_region 19 with (at_builtin; refine wpList_append_byt _ rfl (.tmp 50) (.tmp 51) 23 rfl w3.heap.size 5 elemB _ [] rfl (OwnB.nil _ _ _) _ hd rfl H3.out (by simp; omega) (Nat.le_refl _) (fun fa fc w4 o1 o2 o3 => ?_); have O4 := Lib.hid (show OwnB w3.heap.size 5 w4 (.slice fa hd.length fc) hd from by simpa using o1); have C4 := Lib.hid (show Below w3.heap.size w3 w4 from (Fr.ofGrown o2).below (Nat.le_refl _) (fun k hk => by cases hk)); clear o1 o2 o3)
        have hs4 := C4.out.size
        go_wp2_with fail
        refine (SumW.sum_ref _ hd w4 (by omega) (H3.out.below C4.out)).mono ?_
        rintro e w4' ⟨rfl, rfl⟩
        obtain ⟨ck, hck⟩ : ∃ c, crc hd = c := ⟨_, rfl⟩
        have HCK := Lib.hid hck
        rw [hck]
        clear hck
        have hcl := ck.isLt
        have hwc1 : IntKind.u64.wrap (ck.toNat : Int) = (ck.toNat : Int) := by rw [IntKind.wrap_u64]; omega
        go_wp2_with fail
        refine (CodecN.number_calls w4 ck.toNat 4 (by omega) (by omega)).mono ?_
        rintro e w5 ⟨na, nc, rfl, g1, g2⟩
        obtain ⟨n1, hn1'⟩ : ∃ h, num ck.toNat 4 = h := ⟨_, rfl⟩
        have HN1 := Lib.hid hn1'
        have HNL := Lib.hid (show n1.length = 4 from by rw [← hn1', num_length])
        rw [hn1'] at g1
        have N5 := Lib.hid (show Byt Any w5 (.slice na n1.length nc) n1 from by rw [HNL.out]; exact g1.byt.any)
        have O5 := Lib.hid (O4.out.below g2)
        have C5 := Lib.hid (C4.out.trans (g2.mono hs4))
        have hs5 := C5.out.size
        have hnl1 : n1.length ≤ 4 := Nat.le_of_eq HNL.out
        rw [show Value.slice na 4 nc = Value.slice na n1.length nc from by rw [HNL.out]]
        clear g1 g2 hn1' O4 C4 hwc1
        obtain ⟨m2, hm2⟩ : ∃ x, hd ++ n1 = x := ⟨_, rfl⟩
        have e2 : hd.length + n1.length = m2.length := by rw [← hm2]; simp
        have HM2 := Lib.hid hm2
        have HE2 := Lib.hid e2
        clear hm2 e2
        go_upto_region 20 with (at_builtin; refine wpList_append_byt _ rfl (.tmp 53) (.tmp 57) 23 rfl w3.heap.size 5 elemB _ hd rfl O5.out _ n1 rfl N5.out (by omega) hs5 (fun fa6 fc6 w6 o1 o2 o3 => ?_); have O6 := Lib.hid (show OwnB w3.heap.size 5 w6 (.slice fa6 m2.length fc6) m2 from by rw [HM2.out] at o1; rw [← HE2.out]; exact o1); have C6 := Lib.hid (C5.out.grown o2 hs5 (fun k hk => (O5.out.lt k hk).1)); clear o1 o2 o3)
        rw [HE2.out]
        have hml2 : m2.length ≤ 8 := by rw [← HE2.out]; omega
        have hs6 := C6.out.size
        clear O5 N5 C5
        obtain ⟨m3, hm3⟩ : ∃ x, m2 ++ bd = x := ⟨_, rfl⟩
        have e3 : m2.length + bd.length = m3.length := by rw [← hm3]; simp
        have HM3 := Lib.hid hm3
        have HE3 := Lib.hid e3
        clear hm3 e3
        go_upto_region 21 with (at_builtin; refine wpList_append_byt _ rfl (.tmp 59) (.tmp 60) 23 rfl w3.heap.size 5 elemB _ m2 rfl O6.out _ bd rfl (V3.out.below C6.out) (by omega) hs6 (fun fa7 fc7 w7 o1 o2 o3 => ?_); have O7 := Lib.hid (show OwnB w3.heap.size 5 w7 (.slice fa7 m3.length fc7) m3 from by rw [HM3.out] at o1; rw [← HE3.out]; exact o1); have C7 := Lib.hid (C6.out.grown o2 hs6 (fun k hk => (O6.out.lt k hk).1)); clear o1 o2 o3)
        rw [HE3.out]
        have hml3 : m3.length ≤ 17117201 := by rw [← HE3.out]; omega
        have hs7 := C7.out.size
        clear O6 C6
        go_wp2_with fail
        refine (SumW.sum_ref _ bd w7 (by omega) (V3.out.below C7.out)).mono ?_
        rintro e w7' ⟨rfl, rfl⟩
        obtain ⟨cb, hcb⟩ : ∃ c, crc bd = c := ⟨_, rfl⟩
        have HCB := Lib.hid hcb
        rw [hcb]
        clear hcb
        have hcl2 := cb.isLt
        have hwc2 : IntKind.u64.wrap (cb.toNat : Int) = (cb.toNat : Int) := by rw [IntKind.wrap_u64]; omega
        go_wp2_with fail
        refine (CodecN.number_calls w7 cb.toNat 4 (by omega) (by omega)).mono ?_
        rintro e w8 ⟨na8, nc8, rfl, g1, g2⟩
        obtain ⟨n2, hn2'⟩ : ∃ h, num cb.toNat 4 = h := ⟨_, rfl⟩
        have HN2 := Lib.hid hn2'
        have HNL2 := Lib.hid (show n2.length = 4 from by rw [← hn2', num_length])
        rw [hn2'] at g1
        have N8 := Lib.hid (show Byt Any w8 (.slice na8 n2.length nc8) n2 from by rw [HNL2.out]; exact g1.byt.any)
        have O8 := Lib.hid (O7.out.below g2)
        have C8 := Lib.hid (C7.out.trans (g2.mono hs7))
        have hs8 := C8.out.size
        have hnl2 : n2.length ≤ 4 := Nat.le_of_eq HNL2.out
        rw [show Value.slice na8 4 nc8 = Value.slice na8 n2.length nc8 from by rw [HNL2.out]]
        clear g1 g2 hn2' O7 C7 hwc2
        have HFX := Lib.hid (show m3 ++ n2 = frameT l from by rw [HTX.out]; unfold frameB; rw [HHD.out, HCK.out, HCB.out, HN1.out, HN2.out, HM2.out, HM3.out])
        have HE4 := Lib.hid (show m3.length + n2.length = (frameT l).length from by rw [← HFX.out]; simp)
        go_wp2_with (at_builtin; refine wpList_append_byt _ rfl (.tmp 62) (.tmp 66) 23 rfl w3.heap.size 5 elemB _ m3 rfl O8.out _ n2 rfl N8.out (by omega) hs8 (fun fa9 fc9 w9 o1 o2 o3 => ?_); have O9 := Lib.hid (show OwnB w3.heap.size 5 w9 (.slice fa9 (frameT l).length fc9) (frameT l) from by rw [HFX.out] at o1; rw [← HE4.out]; exact o1); have C9 := Lib.hid (C8.out.grown o2 hs8 (fun k hk => (O8.out.lt k hk).1)); clear o1 o2 o3)
        rw [HE4.out]
        go_ret2
        exact ⟨_, by rw [HE.out]; rfl, O9.out.byt.mono (fun k _ h => by have := h.2; omega), B3.out.trans (C9.out.mono hs3)⟩
end Go.Proofs.Ytjdohjoljobinaa.Fra
