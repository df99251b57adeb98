/- The walks of the reference's heavy and body. Conditions: at most 4096 changes; for body none wrong, of at most 2^24 bytes. -/
import Derived.Test.YtjdohjoljobinaaFrB
namespace Go.Proofs.Ytjdohjoljobinaa.Fra
open Go Go.RowKit Mem Codec CodecW Ops Reps Arr
set_option linter.unusedVariables false
set_option linter.unusedSimpArgs false

theorem byt_blk {w : World} {g : Nat} {l : List UInt8} {e : TypeId} (h : Blk w g (l.map byt) e) (hm : l.length ≤ maxLen) : Byt (fun k => k = g) w (.slice (some ⟨g, 0, none⟩) l.length l.length) l :=
  ⟨_, _, rfl, ⟨Nat.le_refl _, hm, fun h => by cases h⟩, .inr ⟨g, 0, rfl, rfl, fun i hi => by rw [Nat.zero_add]; exact h.cell (by simp [hi])⟩⟩
section
variable {P : Program} {w : World} {ops : Array Oper} {rest : List Oper} {o : Oper} {a : Act} {K : Act → World → Prop} {Q : Exit → Act → World → Prop}
theorem wpList_bld1 (hgd : o.guard = none) {t e : TypeId} {z : Value} {bytes : Nat} (T : ElemT P t e z 1 bytes) (x : Operand) (ho : o.op = .buildSlice t 1 #[(0, x)]) (v : Value) (hx : a.eval x = v) (hs : v.oneCell' = true)
    (h : ∀ w', Blk w' w.heap.size [v] e → Below w.heap.size w w' → w.heap.size + 1 = w'.heap.size → wpList P ops Q rest (a.put o.dst (.slice (some ⟨w.heap.size, 0, none⟩) 1 1)) w') : wpList P ops Q (o :: rest) a w :=
  wpList_plain hgd fun _ hK => wp_build1c T x ho v hx hs (fun w' h1 h2 h3 => hK _ _ (h w' h1 h2 h3))
end
set_option maxHeartbeats 4000000 in
set_option maxRecDepth 100000 in
theorem heavy_calls (w : World) (va : Value) (l : List XCh) (hA : Sl 3 RCh Any w va l) (hn : l.length ≤ 4096) (hr : ∀ c ∈ l, rightE c = 0) :
    Calls Try.prog 41 #[va] w fun e w' => e = .returned (.bool (decide (16777216 < tot l))) ∧ w = w' := by
  obtain ⟨a1, a2, rfl, hka, hkm, _⟩ := hA.form
  have HA := Lib.hid hA
  have HR := Lib.hid hr
  unfold maxLen at hkm
  clear hA hr
  go_enter Try.func41, Try.ntmps41
  go_wp2
  go_loopw [3, 4] (fun s i wx => ∃ n : Nat, n ≤ l.length ∧ i = .int .i64 n ∧ s = .int .i64 ((tot (l.take n) : Nat) : Int) ∧ tot (l.take n) ≤ 16777216 ∧ wx = w) (fun _ i _ => l.length - (intOf i).toNat)
  case atStart => exact ⟨0, by omega, rfl, rfl, by simp [tot], rfl⟩
  case round =>
    obtain ⟨n, hn1, rfl, rfl, ht, rfl⟩ := hrel
    by_cases hlt : n < l.length
    · have hltI : (n : Int) < (l.length : Int) := by omega
      have h0I : (0 : Int) ≤ (n : Int) := by omega
      obtain ⟨bb, ob, cap', cs, e0, hbo, hrx, hmx⟩ := HA.out.at n hlt
      cases e0
      obtain ⟨c, hc⟩ : ∃ c, l[n]'hlt = c := ⟨_, rfl⟩
      rw [hc] at hmx
      have hcl : l[n]? = some c := by rw [List.getElem?_eq_getElem hlt, hc]
      obtain ⟨k1, k2, v1, v2, rfl, _, hv⟩ := chC hmx
      obtain ⟨k, v, d⟩ := c
      have hTT := tot_take hcl
      have HTT := Lib.hid hTT
      have HLE := Lib.hid (tot_le l (n + 1))
      have HRC := Lib.hid (HR.out _ (List.mem_of_getElem? hcl))
      dsimp only at hrx
      have c2 := hrx 2 (.bool d) rfl
      have c1 := hrx 1 (.slice v1 v.length v2) rfl
      obtain ⟨tn, htn⟩ : ∃ t, tot (l.take n) = t := ⟨_, rfl⟩
      rw [htn] at ht ⊢
      obtain ⟨vn, hvn⟩ : ∃ t, v.length = t := ⟨_, rfl⟩
      rw [hvn] at c1
      have HTN := Lib.hid htn
      have HVN := Lib.hid hvn
      clear hc hcl hmx hv hTT htn hvn hrx
      rcases d with _ | _
      · have hp : tot (l.take (n + 1)) = tn + vn := by rw [HTT.out, HTN.out, ← HVN.out]; rfl
        have HP := Lib.hid hp
        have hvl : vn ≤ 1048576 := by
          have := HRC.out
          rw [← HVN.out]
          unfold rightE at this
          split at this
          · cases this
          · split at this
            · cases this
            · rename_i h; simp at h; omega
        clear hp
        by_cases hx : 16777216 < tn + vn
        · have hxI : (16777216 : Int) < (tn : Int) + (vn : Int) := by omega
          have HD := Lib.hid (show decide (16777216 < tot l) = true from decide_eq_true (by have := HLE.out; have := HP.out; omega))
          go_wp2
          go_ret
          exact ⟨by rw [HD.out]; rfl, rfl⟩
        · have hxI : ¬ (16777216 : Int) < (tn : Int) + (vn : Int) := by omega
          go_wp2
          go_roundw
          case rel => exact ⟨n + 1, by omega, by go_num, by rw [HP.out]; go_num, by rw [HP.out]; omega, trivial⟩
          case measure => simp [intOf]; omega
      · have hp : tot (l.take (n + 1)) = tn := by rw [HTT.out, HTN.out]; rfl
        have HP := Lib.hid hp
        have hxI : ¬ (16777216 : Int) < (tn : Int) := by omega
        clear hp
        go_wp2
        go_roundw
        case rel => exact ⟨n + 1, by omega, by go_num, by rw [HP.out], by rw [HP.out]; omega, trivial⟩
        case measure => simp [intOf]; omega
    · obtain rfl : n = l.length := by omega
      have HD := Lib.hid (show decide (16777216 < tot l) = false from decide_eq_false (by have := ht; rw [List.take_length] at this; omega))
      go_wp2
      go_ret
      exact ⟨by rw [HD.out]; rfl, rfl⟩
set_option maxHeartbeats 4000000 in
set_option maxRecDepth 100000 in
theorem body_calls (w : World) (va : Value) (l : List XCh) (hA : Sl 3 RCh Any w va l) (hn : l.length ≤ 4096) (hr : ∀ c ∈ l, rightE c = 0) (ht : tot l ≤ 16777216) :
    Calls Try.prog 42 #[va] w fun e w' => ∃ v, e = .returned v ∧ OwnB w.heap.size 5 w' v (bodyF l) ∧ Below w.heap.size w w' := by
  obtain ⟨a1, a2, rfl, hka, hkm, _⟩ := hA.form
  have HA := Lib.hid hA
  have HR := Lib.hid hr
  have HT := Lib.hid ht
  unfold maxLen at hkm
  clear hA hr ht
  have hwr : IntKind.u64.wrap (l.length : Int) = (l.length : Int) := by rw [IntKind.wrap_u64]; omega
  go_enter Try.func42, Try.ntmps42
  go_wp2_with fail
  refine (CodecN.ref_var_calls w l.length (by omega)).mono ?_
  rintro e w1 ⟨v, rfl, g1, g2⟩
  have HO := Lib.hid g1
  have HB := Lib.hid g2
  clear g1 g2
  go_wp2
  go_loopw [3, 4] (fun s i wx => ∃ (n : Nat) (m : List UInt8), n ≤ l.length ∧ i = .int .i64 n ∧ m = var l.length ++ (l.take n).flatMap encCh ∧ OwnB w.heap.size 5 wx s m ∧ Below w.heap.size w wx) (fun _ i _ => l.length - (intOf i).toNat)
  case atStart => exact ⟨0, var l.length, by omega, rfl, by simp, HO.out, HB.out⟩
  case round =>
    obtain ⟨n, m, hn1, rfl, hm, hO, hB⟩ := hrel
    have HM := Lib.hid hm
    have HO2 := Lib.hid hO
    have HB2 := Lib.hid hB
    have hsz := hB.size
    obtain ⟨xa, xc, rfl, _⟩ := id hO.byt
    clear hm hO hB HO HB
    by_cases hlt : n < l.length
    · have hltI : (n : Int) < (l.length : Int) := by omega
      have h0I : (0 : Int) ≤ (n : Int) := by omega
      obtain ⟨bb, ob, cap', cs, e0, hbo, hrx, hmx⟩ := HA.out.at n hlt
      cases e0
      obtain ⟨c, hc⟩ : ∃ c, l[n]'hlt = c := ⟨_, rfl⟩
      rw [hc] at hmx
      have hcl : l[n]? = some c := by rw [List.getElem?_eq_getElem hlt, hc]
      have HRX := Lib.hid (show ∀ w', Below w.heap.size w w' → w'.rangeAt bb (ob + n * 3) cs from fun w' hb => rangeAt_fr hrx (Fr.ofBelow hb) (by have := rangeAt_lt hrx (by intro e; have := rep_Ch.len hmx; rw [e] at this; simp at this); show ¬ w.heap.size ≤ bb; omega))
      have HPL := Lib.hid (put_le HR.out HT.out hcl)
      have HX := Lib.hid (show var l.length ++ (l.take (n + 1)).flatMap encCh = m ++ encCh c from by rw [HM.out, body_succ hcl, List.append_assoc])
      have hml : m.length ≤ 17117193 := by rw [HM.out]; exact body_le hn HR.out HT.out n
      obtain ⟨k1, k2, v1, v2, rfl, hk, hv⟩ := chC hmx
      obtain ⟨k, v, d⟩ := c
      dsimp only at HRX hk hv
      have HK := Lib.hid hk
      have HV := Lib.hid hv
      clear hc hcl hrx hmx hk hv
      have c2 := HRX.out _ HB2.out 2 (.bool d) rfl
      have hxm : m.length + 40000000 ≤ 140737488355328 := by omega
      rcases d with _ | _
      · have hvl : v.length ≤ 16777216 := by have := HPL.out.2; simpa [putLen] using this
        have hkl : k.length ≤ 64 := HPL.out.1
        have HE := Lib.hid (show encCh (k, v, false) = [(1 : UInt8)] ++ (text k ++ text v) from rfl)
        have htl := text_len k
        obtain ⟨tk, htk⟩ : ∃ x, text k = x := ⟨_, rfl⟩
        rw [htk] at htl
        have HTK := Lib.hid htk
        clear htk
        obtain ⟨m3, hm3⟩ : ∃ x, m ++ [(1 : UInt8)] = x := ⟨_, rfl⟩
        have e3 : m.length + 1 = m3.length := by rw [← hm3]; simp
        have HM3 := Lib.hid hm3
        have HE3 := Lib.hid e3
        clear hm3 e3
        go_upto_region 9 with (first
          | ((with_reducible refine wpList_bld1 rfl elemB _ rfl (.int .u8 1) rfl rfl (fun w2 k2 b2 z2 => ?_)); have K2 := Lib.hid k2; have B2 := Lib.hid b2; have O2 := Lib.hid (HO2.out.below b2); clear k2 b2)
          | (at_builtin; refine wpList_append_byt _ rfl (.tmp 31) (.tmp 32) 23 rfl w.heap.size 5 elemB _ m rfl O2.out _ [(1 : UInt8)] rfl (byt_blk (l := [(1 : UInt8)]) K2.out (by simp [maxLen])) (by simp; omega) (by omega) (fun xa3 xc3 w3 o1 o2 o3 => ?_); have O3 := Lib.hid o1; have B3 := Lib.hid ((HB2.out.trans (B2.out.mono hsz)).grown o2 (by omega) (fun k hk => (O2.out.lt k hk).1)); clear o1 o2 o3))
        have hs3 := B3.out.size
        have O3' := Lib.hid (show OwnB w.heap.size 5 w3 (.slice xa3 m3.length xc3) m3 from by have := O3.out; rw [HM3.out] at this; rw [← HE3.out]; exact this)
        rw [HE3.out]
        have hm3l : m3.length ≤ 17117194 := by rw [← HE3.out]; omega
        clear HO2 K2 B2 O2 z2 O3
        have c0 := show w3.cell? ⟨bb, ob + n * 3, none⟩ = some (.slice k1 k.length k2) from HRX.out _ B3.out 0 (.slice k1 k.length k2) rfl
        go_wp2_with fail
        refine (CodecN.ref_text_calls w3 Any _ k (HK.out.below B3.out) (by omega)).mono ?_
        rintro e w4 ⟨tv, rfl, g1, g2⟩
        rw [HTK.out] at g1
        obtain ⟨ta, tc, rfl, _⟩ := id g1.byt
        have O4 := Lib.hid (O3'.out.below g2)
        have TX := Lib.hid g1.byt
        have B4 := Lib.hid (B3.out.trans (g2.mono hs3))
        have hs4 := B4.out.size
        clear g1 g2 O3' B3
        obtain ⟨m5, hm5⟩ : ∃ x, m3 ++ tk = x := ⟨_, rfl⟩
        have e5 : m3.length + tk.length = m5.length := by rw [← hm5]; simp
        have HM5 := Lib.hid hm5
        have HE5 := Lib.hid e5
        clear hm5 e5
        go_upto_region 10 with (at_builtin; refine wpList_append_byt _ rfl (.tmp 34) (.tmp 40) 23 rfl w.heap.size 5 elemB _ m3 rfl O4.out _ tk rfl TX.out (by omega) (by omega) (fun xa5 xc5 w5 o1 o2 o3 => ?_); have O5 := Lib.hid (show OwnB w.heap.size 5 w5 (.slice xa5 m5.length xc5) m5 from by rw [HM5.out] at o1; rw [← HE5.out]; exact o1); have B5 := Lib.hid (B4.out.grown o2 hs4 (fun k hk => (O4.out.lt k hk).1)); clear o1 o2 o3)
        rw [HE5.out]
        have hm5l : m5.length ≤ 17117194 + 80 := by rw [← HE5.out]; omega
        have hs5 := B5.out.size
        clear O4 TX B4
        have c1 := HRX.out _ B5.out 1 (.slice v1 v.length v2) rfl
        have htl2 := text_len v
        obtain ⟨tw, htw⟩ : ∃ x, text v = x := ⟨_, rfl⟩
        rw [htw] at htl2
        have HTW := Lib.hid htw
        clear htw
        go_wp2_with fail
        refine (CodecN.ref_text_calls w5 Any _ v (HV.out.below B5.out) (by omega)).mono ?_
        rintro e w6 ⟨tv, rfl, g1, g2⟩
        rw [HTW.out] at g1
        obtain ⟨ta6, tc6, rfl, _⟩ := id g1.byt
        have O6 := Lib.hid (O5.out.below g2)
        have TX := Lib.hid g1.byt
        have B6 := Lib.hid (B5.out.trans (g2.mono hs5))
        have hs6 := B6.out.size
        clear g1 g2 O5 B5
        obtain ⟨m7, hm7⟩ : ∃ x, m5 ++ tw = x := ⟨_, rfl⟩
        have e7 : m5.length + tw.length = m7.length := by rw [← hm7]; simp
        have HM7 := Lib.hid hm7
        have HE7 := Lib.hid e7
        clear hm7 e7
        go_wp2_with (at_builtin; refine wpList_append_byt _ rfl (.tmp 42) (.tmp 48) 23 rfl w.heap.size 5 elemB _ m5 rfl O6.out _ tw rfl TX.out (by omega) (by omega) (fun xa7 xc7 w7 o1 o2 o3 => ?_); have O7 := Lib.hid (show OwnB w.heap.size 5 w7 (.slice xa7 m7.length xc7) m7 from by rw [HM7.out] at o1; rw [← HE7.out]; exact o1); have B7 := Lib.hid (B6.out.grown o2 hs6 (fun k hk => (O6.out.lt k hk).1)); clear o1 o2 o3)
        rw [HE7.out]
        go_roundw
        case rel => exact ⟨n + 1, m7, by omega, by go_num, by rw [HX.out, HE.out, ← HM7.out, ← HM5.out, ← HM3.out, HTK.out, HTW.out]; simp, O7.out, B7.out⟩
        case measure => simp [intOf]; omega
      · have hkl : k.length ≤ 64 := HPL.out.1
        have HE := Lib.hid (show encCh (k, v, true) = [(0 : UInt8)] ++ text k from rfl)
        have htl := text_len k
        obtain ⟨tk, htk⟩ : ∃ x, text k = x := ⟨_, rfl⟩
        rw [htk] at htl
        have HTK := Lib.hid htk
        clear htk
        obtain ⟨m3, hm3⟩ : ∃ x, m ++ [(0 : UInt8)] = x := ⟨_, rfl⟩
        have e3 : m.length + 1 = m3.length := by rw [← hm3]; simp
        have HM3 := Lib.hid hm3
        have HE3 := Lib.hid e3
        clear hm3 e3
        go_upto_region 7 with (first
          | ((with_reducible refine wpList_bld1 rfl elemB _ rfl (.int .u8 0) rfl rfl (fun w2 k2 b2 z2 => ?_)); have K2 := Lib.hid k2; have B2 := Lib.hid b2; have O2 := Lib.hid (HO2.out.below b2); clear k2 b2)
          | (at_builtin; refine wpList_append_byt _ rfl (.tmp 20) (.tmp 21) 23 rfl w.heap.size 5 elemB _ m rfl O2.out _ [(0 : UInt8)] rfl (byt_blk (l := [(0 : UInt8)]) K2.out (by simp [maxLen])) (by simp; omega) (by omega) (fun xa3 xc3 w3 o1 o2 o3 => ?_); have O3 := Lib.hid o1; have B3 := Lib.hid ((HB2.out.trans (B2.out.mono hsz)).grown o2 (by omega) (fun k hk => (O2.out.lt k hk).1)); clear o1 o2 o3))
        have hs3 := B3.out.size
        have O3' := Lib.hid (show OwnB w.heap.size 5 w3 (.slice xa3 m3.length xc3) m3 from by have := O3.out; rw [HM3.out] at this; rw [← HE3.out]; exact this)
        rw [HE3.out]
        have hm3l : m3.length ≤ 17117194 := by rw [← HE3.out]; omega
        clear HO2 K2 B2 O2 z2 O3
        have c0 := show w3.cell? ⟨bb, ob + n * 3, none⟩ = some (.slice k1 k.length k2) from HRX.out _ B3.out 0 (.slice k1 k.length k2) rfl
        go_wp2_with fail
        refine (CodecN.ref_text_calls w3 Any _ k (HK.out.below B3.out) (by omega)).mono ?_
        rintro e w4 ⟨tv, rfl, g1, g2⟩
        rw [HTK.out] at g1
        obtain ⟨ta, tc, rfl, _⟩ := id g1.byt
        have O4 := Lib.hid (O3'.out.below g2)
        have TX := Lib.hid g1.byt
        have B4 := Lib.hid (B3.out.trans (g2.mono hs3))
        have hs4 := B4.out.size
        clear g1 g2 O3' B3
        obtain ⟨m5, hm5⟩ : ∃ x, m3 ++ tk = x := ⟨_, rfl⟩
        have e5 : m3.length + tk.length = m5.length := by rw [← hm5]; simp
        have HM5 := Lib.hid hm5
        have HE5 := Lib.hid e5
        clear hm5 e5
        go_wp2_with (at_builtin; refine wpList_append_byt _ rfl (.tmp 23) (.tmp 29) 23 rfl w.heap.size 5 elemB _ m3 rfl O4.out _ tk rfl TX.out (by omega) (by omega) (fun xa5 xc5 w5 o1 o2 o3 => ?_); have O5 := Lib.hid (show OwnB w.heap.size 5 w5 (.slice xa5 m5.length xc5) m5 from by rw [HM5.out] at o1; rw [← HE5.out]; exact o1); have B5 := Lib.hid (B4.out.grown o2 hs4 (fun k hk => (O4.out.lt k hk).1)); clear o1 o2 o3)
        rw [HE5.out]
        go_roundw
        case rel => exact ⟨n + 1, m5, by omega, by go_num, by rw [HX.out, HE.out, ← HM5.out, ← HM3.out, HTK.out]; simp, O5.out, B5.out⟩
        case measure => simp [intOf]; omega
    · obtain rfl : n = l.length := by omega
      have hmm : bodyF l = m := by rw [HM.out, List.take_length]; rfl
      have HMM := Lib.hid hmm
      clear hmm HM
      go_wp2
      go_ret
      exact ⟨_, rfl, by rw [HMM.out]; exact HO2.out, HB2.out⟩
end Go.Proofs.Ytjdohjoljobinaa.Fra
