/- The walks of the reference's R.mainTx and ReadMainTx. Condition: the bytes are at most 2^47. The walks of the wire's reader, and of the reference's, at a header of the main chain. Condition: the bytes are at most 2^47. Headers are compared: one with itself is the same. No condition. The walk of law12's same. No condition. What WireMains asks of transactions and headers of the main chain. No condition. -/
import Derived.Test.YtmenchnjajpkmaaGreatWMaig
import Derived.Test.YtmenchnjajpkmaaGreatWMaib
import Derived.DeepKeys
import Derived.Test.YtmenchnjajpkmaaGreatWMaif
import Derived.Lib.SlBytesConst
section
namespace Go.Proofs.YtmenchnjajpkmaaGreat.Rf
open Go Go.RowKit Wm Rm Mem Codec CodecR Ops Reps WtIt Arr Rr Wr
set_option linter.unusedVariables false
set_option linter.unusedSimpArgs false

set_option maxHeartbeats 16000000 in
set_option maxRecDepth 100000 in
theorem rfmt_calls (w : World) (q : Nat) (a : Option Addr) (c : Nat) (B : List UInt8) (r : Rd) (H : RfR w q a c B r) (hl : B.length ≤ 140737488355328) :
    Calls Tryz.prog 31 #[.pointer (some ⟨q, 0, none⟩)] w (GotR RMt w q a c B (RDmt r)) := by
  have hqw := H.lt
  have H0 := Lib.hid H
  have HY0 := Lib.hid H.byt
  obtain ⟨y1, hy1⟩ : ∃ z, ((fun r : Rd => r.num 8) r).2 = z := ⟨_, rfl⟩
  obtain ⟨r1, hr1⟩ : ∃ z, ((fun r : Rd => r.num 8) r).1 = z := ⟨_, rfl⟩
  have HC1 := Lib.hid (fun w h => number_calls w q a c B r 8 (by omega) h hl)
  have hr1' : (Rd.num r 8).1 = r1 := hr1
  have hy1' : (Rd.num r 8).2 = y1 := hy1
  rw [hr1', hy1'] at HC1
  have HW1 := Lib.hid (show y1 < 18446744073709551616 by rw [← hy1]; exact CodecR.num_lt _ _)
  clear hr1' hy1'
  obtain ⟨rm2, hrm2⟩ : ∃ z, (Rd.var r1 16).1 = z := ⟨_, rfl⟩
  obtain ⟨n2, hn2⟩ : ∃ z, (Rd.var r1 16).2 = z := ⟨_, rfl⟩
  have HZ2 := Lib.hid (show rm2.e = 0 ∨ n2 = 0 from by rw [← hrm2, ← hn2]; exact var_none r1 16)
  have hnm2 : n2 ≤ 16 := by rw [← hn2]; exact var_le r1 16
  have HC2 := Lib.hid (fun w h => many_calls w q a c B r1 16 (by omega) h hl)
  rw [hrm2, hn2] at HC2
  have hlsts2 : RmT.lsts r1 16 = ((items RDmo n2 rm2).2, lst (items RDmo n2 rm2)) := by unfold RmT.lsts; (try dsimp only); rw [show Rd.room r1 16 = Rd.var r1 16 from var_room r1 16, hrm2, hn2]
  obtain ⟨y2, hy2⟩ : ∃ z, ((fun r : Rd => RmT.lsts r 16) r1).2 = z := ⟨_, rfl⟩
  obtain ⟨r2, hr2⟩ : ∃ z, ((fun r : Rd => RmT.lsts r 16) r1).1 = z := ⟨_, rfl⟩
  have HLS2 := Lib.hid (show r2 = (items RDmo n2 rm2).2 ∧ y2 = lst (items RDmo n2 rm2) from ⟨by rw [← hr2]; exact congrArg Prod.fst hlsts2, by rw [← hy2]; exact congrArg Prod.snd hlsts2⟩)
  clear hlsts2 hrm2 hn2
  have HRD := Lib.hid (show RDmt r = (r2, y1, y2) by simp only [RDmt, seq, hr1, hy1, hr2, hy2])
  rw [HRD.out]
  clear H hr1 hy1 hr2 hy2
  go_enter Tryz.func31, Tryz.ntmps31
  go_upto_region 1 with (first
    | ((with_reducible refine wpList_alloc rfl _ rfl _ (zeroMt _) (fun wa ka ca za => ?_)); have KA := Lib.hid ka; have CA := Lib.hid ca; clear ka ca))
  go_upto_region 2 with (first
    | ((with_reducible refine wpList_alloc rfl _ rfl _ (zeroMt _) (fun wb ka ca zb => ?_)); have KB := Lib.hid ka; have CB := Lib.hid ca; clear ka ca))
  have CAB := Lib.hid (CA.out.trans (CB.out.mono (by omega)))
  have KA0 := Lib.hid (KA.out.below CB.out)
  have HR0 := Lib.hid (H0.out.below CAB.out)
  have HYv0 := Lib.hid (HY0.out.below CAB.out)
  have F0 := Lib.hid (Fr.ofBelowAll (S := fun k => k = q) CAB.out (Nat.le_refl _))
  have hgb : wa.heap.size < wb.heap.size := KB.out.lt
  have hgw0 : w.heap.size < wa.heap.size := by omega
  have hs0 : wa.heap.size < wb.heap.size := by omega
  clear CA CB KA CAB H0 HY0
  generalize wa.heap.size = gp at *
  obtain ⟨x0, hx0⟩ : ∃ x : World, x = wb := ⟨_, rfl⟩
  subst hx0
  have KB0 := KB
  clear KB
  go_wp2_with fail
  refine (HC1.out x0 HR0.out).mono ?_
  rintro e x1 ⟨rfl, o1, o2⟩
  have hsx1 := o2.size
  have KBm := Lib.hid (KB0.out.fr o2 (by omega))
  have KAm := Lib.hid (KA0.out.fr o2 (by omega))
  have HYm := Lib.hid (HYv0.out.fr o2 (fun k _ h e => h.2 e))
  have HRm := Lib.hid o1
  have Fm := Lib.hid (F0.out.trans o2)
  clear o1 o2 HC1 KB0 KA0 HYv0 HR0 F0
  have KBn := Lib.hid (show Blk x1 gp (([] : List Value) ++ ([Value.int .u64 0] ++ ([Value.slice none 0 0]))) 25 from by have h := KBm.out; (try simp only [List.append_assoc, List.nil_append, List.append_nil] at h); (try simp only [List.append_assoc, List.nil_append, List.append_nil]); exact h)
  have hnx1 : (([] : List Value) : List Value).length = 0 := rfl
  go_upto_region 3 with (first
    | ((with_reducible refine wpList_putc rfl _ _ _ rfl gp ([] : List Value) ([Value.slice none 0 0]) (Value.int .u64 0) 0 hnx1 rfl (Value.int .u64 (y1 : Int)) rfl rfl KBn.out (by kernel_rfl) (fun x2 kd fd zd => ?_)); have KD := Lib.hid kd; have FD := Lib.hid fd; clear kd fd))
  have KB1 := Lib.hid (show Blk x2 gp ([Value.int .u64 (y1 : Int)] ++ ([Value.slice none 0 0])) 25 from by have h := KD.out; (try simp only [List.append_assoc, List.nil_append, List.append_nil] at h); (try simp only [List.append_assoc, List.nil_append, List.append_nil]); exact h)
  have KA1 := Lib.hid (KAm.out.fr FD.out (by omega))
  have HYv1 := Lib.hid (HYm.out.fr FD.out (fun k _ h e => by have := h.1; omega))
  have HR1 := Lib.hid (HRm.out.frD HYm.out FD.out (by omega) (fun k h => ⟨h.2, by have := h.1; omega⟩))
  have F1 := Lib.hid (Fm.out.trans' FD.out (fun k hk e => by omega))
  have hsx2 := FD.out.size
  clear KBm KAm HYm HRm Fm KBn KD FD hnx1
  go_wp2_with fail
  refine (HC2.out x2 HR1.out).mono ?_
  rintro e we ⟨rfl, o1, o2⟩
  have RQ := Lib.hid o1
  have KP := Lib.hid (show Blk we gp (([Value.int .u64 (y1 : Int)]) ++ ([.slice none 0 0] ++ ([] : List Value))) 25 from by have h := KB1.out.fr o2 (by omega); (try simp only [List.append_assoc, List.nil_append, List.append_nil] at h); (try simp only [List.append_assoc, List.nil_append, List.append_nil]); exact h)
  have KA5 := Lib.hid (KA1.out.fr o2 (by omega))
  have HY := Lib.hid (HYv1.out.fr o2 (fun k _ h e => h.2 e))
  have F3 := Lib.hid (F1.out.trans o2)
  have hse := o2.size
  have hgw : gp < we.heap.size := by omega
  have hn6 : n2 ≤ 65536 := by omega
  have HZ := HZ2
  have hqw0 : q < gp := by omega
  clear o1 o2 HC2 HR1 KB1 KA1 HYv1 F1 HZ2
  go_wp2
  go_loopw [5] (fun i' wx => ∃ (i : Nat) (v : Value) (css : List (List Value)) (xs : List _) (r : Rd), i' = .int .i64 (i : Int) ∧ xs.length = i ∧ i ≤ n2 ∧ Blk wx gp (([Value.int .u64 (y1 : Int)]) ++ ([v] ++ ([] : List Value))) 25 ∧ OwnA 33 we.heap.size 76 wx v css ∧ All2 (RMo (fun b => we.heap.size ≤ b ∧ v.ownBlock ≠ some b) wx) css xs ∧ RfR wx q a c B r ∧ LSt RDmo n2 rm2 xs r ∧ Fr (fun k => k = q ∨ k = gp) we wx) (fun i' _ => n2 - (intOf i').toNat)
  case atStart => exact ⟨0, _, [], [], rm2, rfl, rfl, Nat.zero_le _, KP.out, OwnA.nil _ _ _ _, .nil, RQ.out, LSt.start HZ.out, Fr.refl _ _⟩
  case round =>
    obtain ⟨i, v, css, xs, rr, rfl, hxl, hin, hK, hO, hA, hR, hS, hF⟩ := hrel
    obtain ⟨va, vc, hve, hc1, hc2, _⟩ := hO.form
    have hcl : css.length = i := by rw [hA.length]; exact hxl
    rw [hcl] at hve hc1
    subst hve
    have HK := Lib.hid hK
    have HO := Lib.hid hO
    have HA := Lib.hid hA
    have HR := Lib.hid hR
    have HS := Lib.hid hS
    have HF := Lib.hid hF
    have HXL := Lib.hid hxl
    have HCS := Lib.hid hcl
    have hsr := hF.size
    have HYr := Lib.hid (HY.out.fr hF (fun k hk h e => by rcases e with e | e; exact h.2 e; omega))
    clear hK hO hA hR hS hF hxl hcl
    by_cases hgo : i < n2 ∧ rr.e = 0
    · obtain ⟨hlt, he⟩ := hgo
      have hltI : (i : Int) < (n2 : Int) := by omega
      have he2 : (rr.e == 0) = true := by simpa using he
      have HE := Lib.hid he
      have hnq : q ≠ gp := by omega
      clear he
      go_wp2_with (first
        | (refine (ok_calls wr q a c B rr HR.out).mono ?_; rintro e wo ⟨rfl, rfl⟩)
        | ((with_reducible refine wpList_alloc rfl _ rfl _ (zeroMo _) (fun v1 ka ca zv1 => ?_)); have KO0 := Lib.hid ka; have CO0 := Lib.hid ca; clear ka ca))
      have hnr : w.heap.size ≤ wr.heap.size := by omega
      have HN1 := Lib.hid (show (Rd.num rr 8).2 < 18446744073709551616 from CodecR.num_lt _ _)
      have HD1 := Lib.hid (Wr.Rd.dig_len (rr.num 8).1)
      obtain ⟨y, hy⟩ : ∃ y, (rr.num 8).2 = y := ⟨_, rfl⟩
      obtain ⟨ra, hra⟩ : ∃ y, (rr.num 8).1 = y := ⟨_, rfl⟩
      obtain ⟨d, hd⟩ : ∃ y, (Wr.Rd.dig ra).2 = y := ⟨_, rfl⟩
      obtain ⟨rb, hrb⟩ : ∃ y, (Wr.Rd.dig ra).1 = y := ⟨_, rfl⟩
      rw [hy] at HN1
      rw [hra, hd] at HD1
      have HC1 := Lib.hid (fun w h => number_calls w q a c B rr 8 (by omega) h hl)
      have HC2 := Lib.hid (fun w h => digest_calls w q a c B ra h hl)
      rw [hra, hy] at HC1
      rw [hrb, hd] at HC2
      have HRDe := Lib.hid (show Rm.RDmo rr = (rb, y, d) by simp only [Rm.RDmo, seq, hra, hy, hrb, hd])
      clear hy hra hd hrb
      go_wp2_with fail
      refine (HC1.out v1 (HR.out.below CO0.out)).mono ?_
      rintro e v2 ⟨rfl, o1, o2⟩
      have KO1 := Lib.hid (show Blk v2 wr.heap.size (([] : List Value) ++ ([Value.int .u64 0] ++ List.replicate 32 (Value.int .u8 0))) 76 from KO0.out.fr o2 (by omega))
      have O1 := Lib.hid o1
      have HYa := Lib.hid ((HYr.out.below CO0.out).fr o2 (fun k _ h e => h.2 e))
      have Fa := Lib.hid ((Fr.ofBelowAll CO0.out (Nat.le_refl _) : Fr (fun k => k = q) wr v1).trans o2)
      have hsv2 := o2.size
      clear o1 o2 HC1 KO0 CO0
      go_upto_region 9 with (first
        | ((with_reducible refine wpList_putc rfl _ _ _ rfl wr.heap.size ([] : List Value) (List.replicate 32 (Value.int .u8 0)) (Value.int .u64 0) 0 rfl rfl (Value.int .u64 (y : Int)) rfl rfl KO1.out (by kernel_rfl) (fun v3 kd fd zd => ?_)); have KO2 := Lib.hid kd; have FD := Lib.hid fd; clear kd fd))
      have HYb := Lib.hid (HYa.out.fr FD.out (fun k _ h e => by have := h.1; omega))
      have HRb := Lib.hid (O1.out.frD HYa.out FD.out (by omega) (fun k h => ⟨h.2, by have := h.1; omega⟩))
      have Fb := Lib.hid (Fa.out.trans' FD.out (fun k hk e => by omega))
      clear O1 HYa Fa FD KO1
      go_wp2_with fail
      refine (HC2.out v3 HRb.out).mono ?_
      rintro e v4 ⟨rfl, o1, o2⟩
      have KO3 := Lib.hid (show Blk v4 wr.heap.size ([Value.int .u64 (y : Int)] ++ (List.replicate 32 (Value.int .u8 0) ++ ([] : List Value))) 76 from by have h := KO2.out.fr o2 (by omega); simpa using h)
      have O2 := Lib.hid o1
      have HYc := Lib.hid (HYb.out.fr o2 (fun k _ h e => h.2 e))
      have Fc := Lib.hid (Fb.out.trans o2)
      have hsv4 := o2.size
      have HSD := Lib.hid (show (Tryz.prog.info? 27).map (·.size) = some (d.map byt).length by rw [List.length_map, HD1.out]; kernel_rfl)
      have HLD := Lib.hid (show (List.replicate 32 (Value.int .u8 0) : List Value).length = (d.map byt).length by simp [HD1.out])
      clear o1 o2 HC2 HYb HRb Fb KO2
      go_upto_region 10 with (first
        | ((with_reducible refine wpList_putMid rfl _ _ _ rfl wr.heap.size [Value.int .u64 (y : Int)] (List.replicate 32 (Value.int .u8 0)) ([] : List Value) (d.map byt) 1 rfl rfl rfl KO3.out HSD.out HLD.out (Wt.oneK d) (fun wc kd fd zd => ?_)); have KO4 := Lib.hid kd; have FD := Lib.hid fd; clear kd fd))
      obtain ⟨cs, hcs⟩ : ∃ cs, [Value.int .u64 (y : Int)] ++ d.map byt = cs := ⟨_, rfl⟩
      obtain ⟨x, hxx⟩ : ∃ x, (y, d) = x := ⟨_, rfl⟩
      have KO := Lib.hid (show Blk wc wr.heap.size cs 76 from by have h := KO4.out; rw [← hcs]; simpa using h)
      have ox : RMo (fun b => wr.heap.size ≤ b) wc cs x := by rw [← hcs, ← hxx]; exact ⟨_, _, rfl, ⟨HN1.out, rfl⟩, HD1.out, rfl⟩
      have oe : (Rm.RDmo rr).1.e = 0 → x = (Rm.RDmo rr).2 := fun _ => by rw [HRDe.out, ← hxx]
      have o1 : RfR wc q a c B (Rm.RDmo rr).1 := by rw [HRDe.out]; exact O2.out.frD HYc.out FD.out (by omega) (fun k h => ⟨h.2, by have := h.1; omega⟩)
      have o2 : Fr (fun k => k = q) wr wc := Fc.out.trans' FD.out (fun k hk e => by omega)
      clear hcs hxx O2 HYc Fc FD KO3 KO4 HN1 HD1 HSD HLD HRDe
      have HX := Lib.hid ox
      have HCL := Lib.hid (rep_Mo.len ox)
      have HC1 := Lib.hid (rep_Mo.one ox)
      have HXE := Lib.hid oe
      have HR2 := Lib.hid o1
      have HF2 := Lib.hid (show Fr (fun k => k = q) wr wc from o2)
      have hs2 : wr.heap.size ≤ wc.heap.size := o2.size
      have hgl : gp < wr.heap.size := HK.out.lt
      clear ox oe o1 o2
      have HK2 := Lib.hid (HK.out.fr HF2.out (fun e => hnq e.symm))
      have HO2 := Lib.hid (HO.out.fr HF2.out (fun k hk e => by have := (HO.out.lt k hk).1; omega))
      have HY2 := Lib.hid (HYr.out.fr HF2.out (fun k hk h e => h.2 e))
      have cl := blk_one HK2.out (([Value.int .u64 (y1 : Int)])) (([] : List Value)) _ rfl 1 ((by simp))
      have HSZO := Lib.hid (show (Tryz.prog.info? 76).map (·.size) = some cs.length by rw [HCL.out]; kernel_rfl)
      have HLOW := Lib.hid (show ∀ k, (Value.slice va i vc).ownBlock = some k → we.heap.size ≤ k from fun k hk => (HO.out.lt k hk).1)
      go_wp2_with (first
        | (with_reducible refine wpList_load_blk rfl _ _ rfl wr.heap.size cs rfl KO.out _ Tryz.underlying76 rfl HSZO.out ?_)
        | ((with_reducible refine wpList_build1 rfl RmT.elemT _ rfl cs rfl HCL.out (by omega) (fun wj kj bj zj => ?_)); have KJ := Lib.hid kj; have BJ := Lib.hid bj; have HK3 := Lib.hid (HK2.out.below bj); have HO3 := Lib.hid (HO2.out.below bj); clear kj bj)
        | (at_builtin; refine wpList_append_arr _ rfl (.tmp 28) (.tmp 30) 23 rfl we.heap.size 76 RmT.elemT _ css rfl HO3.out _ [cs] rfl (arr1 KJ.out HCL.out) (fun y hy u hu => by rw [List.mem_singleton.1 hy] at hu; exact HC1.out u hu) (by rw [HCS.out, List.length_singleton]; unfold maxLen; omega) (by rw [HCS.out, List.length_singleton]; omega) (by omega) (i + 1) (by rw [HCS.out, List.length_singleton]) ?_; intro a' cap' wk q1 q2 q3; have Q1 := Lib.hid q1; have Q2 := Lib.hid (show Fr (fun k => (Value.slice va i vc).ownBlock = some k) wc wk from (Fr.ofBelowAll BJ.out (Nat.le_refl _)).trans (Fr.ofGrown q2)); have Q3 := Lib.hid q3; have HK4 := Lib.hid (HK3.out.fr (Fr.ofGrown q2) (fun e => by have := HLOW.out _ e; omega)); have hsk : wj.heap.size ≤ wk.heap.size := (Fr.ofGrown q2).size; clear q1 q2 q3)
        | ((with_reducible refine wpList_putc rfl _ _ _ rfl gp (([Value.int .u64 (y1 : Int)])) (([] : List Value)) _ 1 ((by simp)) rfl _ rfl rfl HK4.out (by kernel_rfl) (fun wl kl fl zl => ?_)); have KL := Lib.hid kl; have FL := Lib.hid fl; clear kl fl))
      have HFF := Lib.hid (show Fr (fun k => (Value.slice va i vc).ownBlock = some k ∨ k = gp) wc wl from (Q2.out.mono (fun k _ h => .inl h)).trans (FL.out.mono (fun k _ h => .inr h)))
      go_roundw
      case rel =>
        have hll := HLOW.out
        exact ⟨i + 1, _, css ++ [cs], xs ++ [x], _, by go_num, by rw [List.length_append, HXL.out]; rfl, by omega, KL.out, Q1.out.fr FL.out (fun k hk e => by have := (Q1.out.lt k hk).1; omega),
          Reps.push rep_Mo HA.out HX.out HF2.out (fun k h e => by omega) (by omega) (fun k hk => (HO.out.lt k hk).2) HFF.out (fun k _ hN h => h.resolve_right (by omega)) (Q3.out.imp_right fun h => ⟨_, h, BJ.out.size⟩),
          HR2.out.frD HY2.out HFF.out (fun e => by rcases e with e | e; have := hll _ e; omega; omega) (fun k h => ⟨h.2, fun e => by rcases e with e | e; have := hll _ e; omega; omega⟩),
          HS.out.next HE.out (by rw [HXL.out]; exact hlt) x HXE.out,
          HF.out.trans' ((HF2.out.mono (T := fun k => k = q ∨ k = gp ∨ we.heap.size ≤ k) (fun k _ h => Or.inl h)).trans' HFF.out (fun k _ h => by rcases h with h | h; exact .inr (.inr (hll _ h)); exact .inr (.inl h))) (fun k hk h => by omega)⟩
      case measure => simp [intOf]; omega
    · have HD := Lib.hid (HS.out.done (by rw [HXL.out]; by_cases h : i < n2; exact .inr (fun e => hgo ⟨h, e⟩); exact .inl h))
      have HSL := Lib.hid (sl_own rep_Mo HO.out HA.out)
      rcases (show (¬ (i : Int) < (n2 : Int)) ∨ ((i : Int) < (n2 : Int) ∧ (rr.e == 0) = false) by by_cases h : i < n2; exact .inr ⟨by omega, by have : rr.e ≠ 0 := fun e => hgo ⟨h, e⟩; simpa using this⟩; exact .inl (by omega)) with hx | ⟨hx1, hx2⟩
      all_goals
        clear hgo HO HA HS HXL HCS
        have F4 := Lib.hid (F3.out.trans' HF.out (fun k hk e => by omega))
        have KAF := Lib.hid (KA5.out.fr HF.out (fun e => by omega))
        have hl1 : (Value.slice va i vc).oneCell' = true := rfl
        generalize Value.slice va i vc = lv at *
        have HKx := Lib.hid (show Blk wr gp ([Value.int .u64 (y1 : Int)] ++ ([lv])) 25 from by have h := HK.out; (try simp only [List.append_assoc, List.nil_append, List.append_nil] at h); (try simp only [List.append_assoc, List.nil_append, List.append_nil]); exact h)
        have HCE := Lib.hid (show ([Value.int .u64 (y1 : Int)] ++ ([lv]) : List Value).length = 2 by simp)
        have HSZ := Lib.hid (show (Tryz.prog.info? 25).map (·.size) = some ([Value.int .u64 (y1 : Int)] ++ ([lv]) : List Value).length by rw [HCE.out]; kernel_rfl)
        have HRR := Lib.hid (show RMt (fun b => gp < b) wr ([Value.int .u64 (y1 : Int)] ++ ([lv])) (y1, xs) from ⟨_, _, rfl, ⟨HW1.out, rfl⟩, ⟨lv, rfl, HSL.out.mono rep_Mo (fun b _ h => by omega)⟩⟩)
        have HOL := Lib.hid (rep_Mt.one HRR.out)
        go_wp2_with (first
          | (refine (ok_calls wr q a c B rr HR.out).mono ?_; rintro e wo ⟨rfl, rfl⟩)
          | (with_reducible refine wpList_load_blk rfl _ _ rfl gp ([Value.int .u64 (y1 : Int)] ++ ([lv])) rfl HKx.out _ Tryz.underlying25 rfl HSZ.out ?_)
          | ((with_reducible refine wpList_put rfl _ _ _ rfl w.heap.size ([Value.int .u64 (y1 : Int)] ++ ([lv])) _ rfl rfl KAF.out HSZ.out (zeroMt_len.trans HCE.out.symm) HOL.out (fun wz kz fz zz => ?_)); have KZ := Lib.hid kz; have FZ := Lib.hid fz; clear kz fz))
        have hxs := HD.out
        have hls := HLS2.out
        have hsz := HF.out.size
        refine bodyPost_ret (v := .agg ([Value.int .u64 (y1 : Int)] ++ ([lv])).toArray) (results_row1 Tryz.results31 _ _ w.heap.size _ _ rfl KZ.out Tryz.underlying25 rfl HSZ.out) rfl ⟨_, (y1, xs), rfl, rep_Mt.mono (rep_Mt.fr HRR.out FZ.out (fun b _ h (e : b = w.heap.size) => by omega)) (fun b _ h => by omega), ?_, ?_, F4.out.trans' FZ.out (fun k hk (e : k = w.heap.size) => by omega)⟩
        · exact fun h => by rw [hls.2, ← hxs.2 (by rw [hxs.1, ← hls.1]; exact h)]
        · have h6 := HR.out.frD HYr.out FZ.out (by omega) (fun k h => ⟨h.2, by have := h.1; omega⟩)
          rw [hxs.1, ← hls.1] at h6
          exact h6
set_option maxHeartbeats 8000000 in
set_option maxRecDepth 100000 in
theorem readMainTx_ref (D : Nat → Prop) (w : World) (a : Option Addr) (c : Nat) (B : List UInt8) (hB : Byt D w (.slice a B.length c) B) (hl : B.length ≤ 140737488355328) :
    Calls Tryz.prog 9 #[.slice a B.length c] w (GotT RMt w (got RDmt ((0 : Nat), ([] : List (Nat × List UInt8))) B)) := by
  have HB := Lib.hid hB
  obtain ⟨s, hs⟩ : ∃ s, RDmt ⟨B, 0⟩ = s := ⟨_, rfl⟩
  have HG := Lib.hid (show (s.1.fin = 0 → got RDmt ((0 : Nat), ([] : List (Nat × List UInt8))) B = (s.2, 0)) ∧ (¬ s.1.fin = 0 → got RDmt ((0 : Nat), ([] : List (Nat × List UInt8))) B = (((0 : Nat), ([] : List (Nat × List UInt8))), 120)) from ⟨fun h => by rw [got_yes (by rw [hs]; exact h), hs], fun h => by rw [got_no (by rw [hs]; exact h)]⟩)
  have HC := Lib.hid (fun w' q' h' => rfmt_calls w' q' a c B ⟨B, 0⟩ h' hl)
  rw [hs] at HC
  have hszT : ∀ cs : List Value, cs.length = 2 → (Tryz.prog.info? 25).map (·.size) = some cs.length := fun cs h => by rw [h]; kernel_rfl
  clear hB hs
  go_enter Tryz.func9, Tryz.ntmps9
  go_upto_region 1 with (first
    | ((with_reducible refine wpList_alloc rfl _ rfl _ (zeroMt _) (fun wa ka ca za => ?_)); have KA := Lib.hid ka; have CA := Lib.hid ca; clear ka ca))
  go_wp2_with fail
  refine (begin_calls _ wa a c B (HB.out.below CA.out)).mono ?_
  rintro e wb ⟨rfl, o1, o2⟩
  have O1 := Lib.hid o1
  have KA1 := Lib.hid (KA.out.below o2)
  have B1 := Lib.hid (CA.out.trans (o2.mono (by omega)))
  have hqw : w.heap.size < wa.heap.size := by omega
  have hsb := o2.size
  clear o1 o2 KA CA HB
  generalize wa.heap.size = q at *
  go_wp2_with fail
  refine (HC.out wb q O1.out).mono ?_
  rintro e wc ⟨cs, x, rfl, ox, oe, o1, o2⟩
  have HX := Lib.hid ox
  have HCL := Lib.hid (rep_Mt.len ox)
  have HC1 := Lib.hid (rep_Mt.one ox)
  have HSZ := Lib.hid (hszT cs (rep_Mt.len ox))
  have HXE := Lib.hid oe
  have O2 := Lib.hid o1
  have KA2 := Lib.hid (KA1.out.fr o2 (by omega))
  have B2 := Lib.hid (B1.out.trans (o2.below (B := w.heap.size) B1.out.size (fun k hk => by omega)))
  have hsc := o2.size
  clear ox oe o1 o2 HC KA1 B1 O1
  go_upto_region 3 with (first
    | ((with_reducible refine wpList_alloc rfl _ rfl _ (zeroMt _) (fun wd kd cd zd => ?_)); have KD := Lib.hid kd; have CD := Lib.hid cd; clear kd cd)
    | ((with_reducible refine wpList_put rfl _ _ _ rfl wc.heap.size cs _ rfl rfl KD.out HSZ.out (zeroMt_len.trans HCL.out.symm) HC1.out (fun we ke fe ze => ?_)); have KE := Lib.hid ke; have CE := Lib.hid (CD.out.trans (fe.below CD.out.size (fun k (hk : k = _) => by omega))); clear ke fe))
  have O3 := Lib.hid (O2.out.below CE.out)
  have KA3 := Lib.hid (KA2.out.below CE.out)
  have B3 := Lib.hid (B2.out.trans (CE.out.mono B2.out.size))
  have HX3 := Lib.hid (rep_Mt.below HX.out CE.out)
  clear O2 KA2 B2 HX KD CD CE
  go_wp2_with fail
  refine (ended_calls we q a c B _ O3.out).mono ?_
  rintro e wf ⟨rfl, o1⟩
  have KE4 := Lib.hid (KE.out.below o1)
  have KA4 := Lib.hid (KA3.out.below o1)
  have B4 := Lib.hid (B3.out.trans (o1.mono B3.out.size))
  have HX4 := Lib.hid (rep_Mt.below HX3.out o1)
  have hB4 := B4.out.size
  clear o1 O3 KE KA3 B3 HX3
  by_cases hf : s.1.fin = 0
  · have hf2 : finE s.1 = 0 := if_pos hf
    have HG2 := Lib.hid (HG.out.1 hf)
    have HXX := Lib.hid (HXE.out (fin_ok hf))
    rw [hf2]
    clear hf hf2 HG
    go_wp2_with (first
      | (with_reducible refine wpList_load_blk rfl _ _ rfl wc.heap.size cs rfl KE4.out _ Tryz.underlying25 rfl HSZ.out ?_)
      | ((with_reducible refine wpList_put rfl _ _ _ rfl w.heap.size cs _ rfl rfl KA4.out HSZ.out (zeroMt_len.trans HCL.out.symm) HC1.out (fun wi ki fi zi => ?_)); have KI := Lib.hid ki; have FI := Lib.hid fi; clear ki fi))
    refine bodyPost_ret (v := .tuple #[.agg cs.toArray, .int .i64 0]) (results_row2 Tryz.results9 _ _ w.heap.size _ _ rfl KI.out Tryz.underlying25 rfl HSZ.out _ rfl) rfl ?_
    rw [HG2.out, ← HXX.out]
    exact ⟨cs, rfl, rep_Mt.mono (rep_Mt.fr HX4.out FI.out (fun b _ h (e : b = w.heap.size) => by omega)) (fun b _ h => by omega), B4.out.trans (FI.out.below B4.out.size (fun k (hk : k = w.heap.size) => by omega))⟩
  · have hf2 : finE s.1 = 120 := if_neg hf
    have HG2 := Lib.hid (HG.out.2 hf)
    have HZL := Lib.hid (hszT ([Value.int .u64 0, .slice none 0 0]) zeroMt_len)
    rw [hf2]
    clear hf hf2 HG
    go_wp2_with (first
      | (with_reducible refine wpList_built rfl _ [] rfl ([Value.int .u64 0, .slice none 0 0]) (by kernel_rfl) ?_)
      | ((with_reducible refine wpList_put rfl _ _ _ rfl w.heap.size ([Value.int .u64 0, .slice none 0 0]) _ rfl rfl KA4.out HZL.out rfl zeroMt_one (fun wi ki fi zi => ?_)); have KI := Lib.hid ki; have FI := Lib.hid fi; clear ki fi))
    refine bodyPost_ret (v := .tuple #[.agg ([Value.int .u64 0, .slice none 0 0]).toArray, .int .i64 120]) (results_row2 Tryz.results9 _ _ w.heap.size _ _ rfl KI.out Tryz.underlying25 rfl HZL.out _ rfl) rfl ?_
    rw [HG2.out]
    exact ⟨_, rfl, zero_Mt _ _, B4.out.trans (FI.out.below B4.out.size (fun k (hk : k = w.heap.size) => by omega))⟩
end Go.Proofs.YtmenchnjajpkmaaGreat.Rf
end

section
namespace Go.Proofs.YtmenchnjajpkmaaGreat.Rh
open Go Go.RowKit Mem Codec CodecR Ops Reps WtIt Arr Rr Wr
set_option linter.unusedVariables false
set_option linter.unusedSimpArgs false

abbrev XMh := List UInt8 × List UInt8 × Nat × Nat
def RMh : (Nat → Prop) → World → List Value → XMh → Prop := (PairR (RDgs 32) (PairR (RDgs 32) (PairR RU64 RU64)))
theorem rep_Mh : Rep 66 RMh := (rep_pair (rep_dgs 32 (by omega)) (rep_pair (rep_dgs 32 (by omega)) (rep_pair rep_u64 rep_u64)))
set_option maxRecDepth 100000 in
theorem structMh : StructT Tryz.prog 29 [32, 32, 1, 1] := ⟨_, _, _, rfl, Tryz.underlying29, rfl, by kernel_rfl, by kernel_rfl⟩
theorem zeroMh (w : World) : (zeroValue 29).run Tryz.prog w = .ok (.agg (List.replicate 32 (Value.int .u8 0) ++ (List.replicate 32 (Value.int .u8 0) ++ ([Value.int .u64 0] ++ ([Value.int .u64 0])))).toArray) w := by kernel_rfl
theorem zeroMh_len : (List.replicate 32 (Value.int .u8 0) ++ (List.replicate 32 (Value.int .u8 0) ++ ([Value.int .u64 0] ++ ([Value.int .u64 0])))).length = 66 := rfl
theorem zero_Mh (D : Nat → Prop) (w : World) : RMh D w (List.replicate 32 (Value.int .u8 0) ++ (List.replicate 32 (Value.int .u8 0) ++ ([Value.int .u64 0] ++ ([Value.int .u64 0])))) (List.replicate 32 0, List.replicate 32 0, 0, 0) := ⟨_, _, rfl, ⟨rfl, by simp⟩, _, _, rfl, ⟨rfl, by simp⟩, _, _, rfl, ⟨(by show (0 : Nat) < 18446744073709551616; omega), rfl⟩, ⟨(by show (0 : Nat) < 18446744073709551616; omega), rfl⟩⟩
theorem zeroMh_one : ∀ v ∈ (List.replicate 32 (Value.int .u8 0) ++ (List.replicate 32 (Value.int .u8 0) ++ ([Value.int .u64 0] ++ ([Value.int .u64 0]))) : List Value), v.oneCell' = true := rep_Mh.one (zero_Mh Any default)
/-- a header, read -/
def RDmh (r : Rd) : Rd × XMh := seq Wr.Rd.dig (seq Wr.Rd.dig (seq (fun r : Rd => r.num 8) (fun r : Rd => r.num 8))) r
set_option maxHeartbeats 8000000 in
set_option maxRecDepth 100000 in
theorem rmh_calls (D : Nat → Prop) (w : World) (q : Nat) (r : Rd) (H : ReaderIs D w q r) (hl : r.rest.length ≤ 140737488355328) :
    Calls Tryz.prog 34 #[.agg #[.pointer (some ⟨q, 0, none⟩)]] w (GotD RMh D w q (RDmh r)) := by
  have hql := H.lt
  have H0 := Lib.hid ((rd_under H).below (below_alloc w (.cells #[.pointer (some ⟨q, 0, none⟩)] 68)))
  have HB := Lib.hid (Blk.new w #[.pointer (some ⟨q, 0, none⟩)] 68 _ rfl)
  have HA := Lib.hid (below_alloc w (.cells #[.pointer (some ⟨q, 0, none⟩)] 68))
  have hz : w.heap.size + 1 = (w.alloc (.cells #[.pointer (some ⟨q, 0, none⟩)] 68)).heap.size := by simp
  have HL0 := Lib.hid hl
  obtain ⟨y1, hy1⟩ : ∃ y, (Wr.Rd.dig r).2 = y := ⟨_, rfl⟩
  obtain ⟨r1, hr1⟩ : ∃ y, (Wr.Rd.dig r).1 = y := ⟨_, rfl⟩
  have HC1 := Lib.hid (fun D w h => Wr.digest_calls D w q r h HL0.out)
  have HW1 := Lib.hid (show y1.length = 32 by rw [← hy1]; exact Wr.Rd.dig_len r)
  have HL1 := Lib.hid (show r1.rest.length ≤ 140737488355328 by rw [← hr1]; exact Nat.le_trans (dig_rest _) HL0.out)
  rw [hr1, hy1] at HC1
  obtain ⟨y2, hy2⟩ : ∃ y, (Wr.Rd.dig r1).2 = y := ⟨_, rfl⟩
  obtain ⟨r2, hr2⟩ : ∃ y, (Wr.Rd.dig r1).1 = y := ⟨_, rfl⟩
  have HC2 := Lib.hid (fun D w h => Wr.digest_calls D w q r1 h HL1.out)
  have HW2 := Lib.hid (show y2.length = 32 by rw [← hy2]; exact Wr.Rd.dig_len r1)
  have HL2 := Lib.hid (show r2.rest.length ≤ 140737488355328 by rw [← hr2]; exact Nat.le_trans (dig_rest _) HL1.out)
  rw [hr2, hy2] at HC2
  obtain ⟨y3, hy3⟩ : ∃ y, ((r2).num 8).2 = y := ⟨_, rfl⟩
  obtain ⟨r3, hr3⟩ : ∃ y, ((r2).num 8).1 = y := ⟨_, rfl⟩
  have HC3 := Lib.hid (fun D w h => CodecR.long_calls D w q r2 h)
  have HW3 := Lib.hid (show y3 < 18446744073709551616 by rw [← hy3]; exact num_lt _ _)
  have HL3 := Lib.hid (show r3.rest.length ≤ 140737488355328 by rw [← hr3]; exact Nat.le_trans (num_rest _ _) HL2.out)
  rw [hr3, hy3] at HC3
  obtain ⟨y4, hy4⟩ : ∃ y, ((r3).num 8).2 = y := ⟨_, rfl⟩
  obtain ⟨r4, hr4⟩ : ∃ y, ((r3).num 8).1 = y := ⟨_, rfl⟩
  have HC4 := Lib.hid (fun D w h => CodecR.long_calls D w q r3 h)
  have HW4 := Lib.hid (show y4 < 18446744073709551616 by rw [← hy4]; exact num_lt _ _)
  have HL4 := Lib.hid (show r4.rest.length ≤ 140737488355328 by rw [← hr4]; exact Nat.le_trans (num_rest _ _) HL3.out)
  rw [hr4, hy4] at HC4
  have HRD := Lib.hid (show RDmh r = (r4, y1, y2, y3, y4) by simp only [RDmh, seq, hr1, hy1, hr2, hy2, hr3, hy3, hr4, hy4])
  rw [HRD.out]
  clear H hl hr1 hy1 hr2 hy2 hr3 hy3 hr4 hy4
  go_enter Tryz.func34, Tryz.ntmps34
  go_upto_region 1 with (first
    | ((with_reducible refine wpList_alloc rfl _ rfl _ (zeroMh _) (fun wb ka ca za => ?_)); have KA := Lib.hid ka; have CA := Lib.hid ca; clear ka ca))
  generalize (w.alloc (.cells #[.pointer (some ⟨q, 0, none⟩)] 68)) = wA at *
  have O0 := Lib.hid (H0.out.below CA.out)
  have HB2 := Lib.hid (HB.out.below CA.out)
  have B2 := Lib.hid (HA.out.trans (CA.out.mono (by omega)))
  have hg0 : w.heap.size < wA.heap.size := by omega
  have hg2 : wA.heap.size < wb.heap.size := by omega
  generalize wA.heap.size = g1 at *
  clear H0 HB HA CA
  refine wp_region_held_drew (S := (fun w' => Blk w' w.heap.size [.pointer (some ⟨q, 0, none⟩)] 68 ∧ (∃ l : List Value, l.length = 66 ∧ Blk w' g1 l 29) ∧ Fr (fun k => k = q) w w' ∧ wb.heap.size ≤ w'.heap.size)) (by kernel_rfl) ⟨HB2.out.drew, ⟨_, zeroMh_len, KA.out.drew⟩, (Fr.ofBelowAll B2.out (Nat.le_refl _)).drew, Nat.le_refl _⟩ (fun hHeld => ?_)
  refine wpAnyH_take (i := 0) (oi := ⟨_, _, _, _, _, _⟩) rfl (by kernel_rfl) (by kernel_rfl) (by kernel_rfl) (fun _ _ _ h => h) (yieldsIf_load_mid (by rfl) _ _ rfl w.heap.size 0 rfl [.pointer (some ⟨q, 0, none⟩)] _ (fun _ h => blk_range h.1) Tryz.underlying68 rfl (by kernel_rfl)) (by assumption) ?_
  try simp only [Act.put, List.setIfInBounds_toArray, List.set_cons_zero, List.set_cons_succ]
  refine wpAnyH_take (i := 2) (oi := ⟨_, _, _, _, _, _⟩) rfl (by kernel_rfl) (by kernel_rfl) (by kernel_rfl) (fun _ _ _ h => h) (yieldsIf_load_mid (by rfl) _ _ rfl w.heap.size 0 rfl [.pointer (some ⟨q, 0, none⟩)] _ (fun _ h => blk_range h.1) Tryz.underlying68 rfl (by kernel_rfl)) (by assumption) ?_
  try simp only [Act.put, List.setIfInBounds_toArray, List.set_cons_zero, List.set_cons_succ]
  refine wpAnyH_take (i := 4) (oi := ⟨_, _, _, _, _, _⟩) (v := ?_) rfl (by kernel_rfl) (by kernel_rfl) (by kernel_rfl) (fun _ _ _ h => h) (Or.inl ⟨by rfl, ?_⟩) (by assumption) ?_
  rotate_left
  · intro w hSw; go_simp; try (with_reducible rfl)
  try simp only [Act.put, List.setIfInBounds_toArray, List.set_cons_zero, List.set_cons_succ]
  refine wpAnyH_take (i := 5) (oi := ⟨_, _, _, _, _, _⟩) (v := .pointer (some ⟨q, 0, none⟩)) rfl (by kernel_rfl) (by kernel_rfl) (by kernel_rfl) (fun _ _ _ h => h) (Or.inl ⟨by rfl, fun wS hSw => (by have hc := hSw.1.cell (i := 0) rfl; go_simp; try (with_reducible rfl))⟩) (by assumption) ?_
  try simp only [Act.put, List.setIfInBounds_toArray, List.set_cons_zero, List.set_cons_succ]
  refine wpAnyH_take (i := 7) (oi := ⟨_, _, _, _, _, _⟩) (v := ?_) rfl (by kernel_rfl) (by kernel_rfl) (by kernel_rfl) (fun _ _ _ h => h) (Or.inl ⟨by rfl, ?_⟩) (by assumption) ?_
  rotate_left
  · intro w hSw; go_simp; try (with_reducible rfl)
  try simp only [Act.put, List.setIfInBounds_toArray, List.set_cons_zero, List.set_cons_succ]
  refine wpAnyH_take (i := 8) (oi := ⟨_, _, _, _, _, _⟩) (v := .pointer (some ⟨q, 0, none⟩)) rfl (by kernel_rfl) (by kernel_rfl) (by kernel_rfl) (fun _ _ _ h => h) (Or.inl ⟨by rfl, fun wS hSw => (by have hc := hSw.1.cell (i := 0) rfl; go_simp; try (with_reducible rfl))⟩) (by assumption) ?_
  try simp only [Act.put, List.setIfInBounds_toArray, List.set_cons_zero, List.set_cons_succ]
  refine wpAnyH_ready (rs := [1]) (by kernel_rfl) (by simp) ?_
  refine AllReadyH.cons (o := ⟨_, _, _, _, _, _⟩) rfl (fun K hK => ?_) AllReadyH.nil
  go_simp
  have kk1 := hHeld.1.lt
  have kk2 : g1 < _ := hHeld.2.1.choose_spec.2.lt
  have HH1 := hHeld.2.2.2
  refine (HC1.out _ wb.drew O0.out).mono ?_
  rintro e x1 ⟨rfl, o1, o2⟩
  have hsx1 := o2.size
  refine hK.out _ _ (by exact ⟨hHeld.1.fr o2 (by omega), hHeld.2.1.elim fun l h => ⟨l, h.1, h.2.fr o2 (by omega)⟩, hHeld.2.2.1.trans o2, Nat.le_trans hHeld.2.2.2 o2.size⟩) (fun hHeld => ?_)
  have O1 := Lib.hid o1
  clear o1 o2
  try simp only [Act.put, List.setIfInBounds_toArray, List.set_cons_zero, List.set_cons_succ]
  clear hK
  refine wpAnyH_ready (rs := [3]) (by kernel_rfl) (by simp) ?_
  refine AllReadyH.cons (o := ⟨_, _, _, _, _, _⟩) rfl (fun K hK => ?_) AllReadyH.nil
  go_simp
  have kk1 := hHeld.1.lt
  have kk2 : g1 < _ := hHeld.2.1.choose_spec.2.lt
  have HH2 := hHeld.2.2.2
  refine (HC2.out _ x1 O1.out).mono ?_
  rintro e x2 ⟨rfl, o1, o2⟩
  have hsx2 := o2.size
  refine hK.out _ _ (by exact ⟨hHeld.1.fr o2 (by omega), hHeld.2.1.elim fun l h => ⟨l, h.1, h.2.fr o2 (by omega)⟩, hHeld.2.2.1.trans o2, Nat.le_trans hHeld.2.2.2 o2.size⟩) (fun hHeld => ?_)
  have O2 := Lib.hid o1
  clear o1 o2
  try simp only [Act.put, List.setIfInBounds_toArray, List.set_cons_zero, List.set_cons_succ]
  clear hK
  refine wpAnyH_ready (rs := [6]) (by kernel_rfl) (by simp) ?_
  refine AllReadyH.cons (o := ⟨_, _, _, _, _, _⟩) rfl (fun K hK => ?_) AllReadyH.nil
  go_simp
  have kk1 := hHeld.1.lt
  have kk2 : g1 < _ := hHeld.2.1.choose_spec.2.lt
  have HH3 := hHeld.2.2.2
  refine (HC3.out _ x2 O2.out).mono ?_
  rintro e x3 ⟨rfl, o1, o2⟩
  have hsx3 := o2.size
  refine hK.out _ _ (by exact ⟨hHeld.1.fr o2 (by omega), hHeld.2.1.elim fun l h => ⟨l, h.1, h.2.fr o2 (by omega)⟩, hHeld.2.2.1.trans o2, Nat.le_trans hHeld.2.2.2 o2.size⟩) (fun hHeld => ?_)
  have O3 := Lib.hid o1
  clear o1 o2
  try simp only [Act.put, List.setIfInBounds_toArray, List.set_cons_zero, List.set_cons_succ]
  clear hK
  refine wpAnyH_ready (rs := [9]) (by kernel_rfl) (by simp) ?_
  refine AllReadyH.cons (o := ⟨_, _, _, _, _, _⟩) rfl (fun K hK => ?_) AllReadyH.nil
  go_simp
  have kk1 := hHeld.1.lt
  have kk2 : g1 < _ := hHeld.2.1.choose_spec.2.lt
  have HH4 := hHeld.2.2.2
  refine (HC4.out _ x3 O3.out).mono ?_
  rintro e x4 ⟨rfl, o1, o2⟩
  have hsx4 := o2.size
  refine hK.out _ _ (by exact ⟨hHeld.1.fr o2 (by omega), hHeld.2.1.elim fun l h => ⟨l, h.1, h.2.fr o2 (by omega)⟩, hHeld.2.2.1.trans o2, Nat.le_trans hHeld.2.2.2 o2.size⟩) (fun hHeld => ?_)
  have O4 := Lib.hid o1
  clear o1 o2
  try simp only [Act.put, List.setIfInBounds_toArray, List.set_cons_zero, List.set_cons_succ]
  clear hK
  have HCE := Lib.hid (show (y1.map byt ++ (y2.map byt ++ ([Value.int .u64 (y3 : Int)] ++ ([Value.int .u64 (y4 : Int)]))) : List Value).length = 66 by simp [HW1.out, HW2.out])
  refine wpAnyH_take (i := 10) (oi := ⟨_, _, _, _, _, _⟩) rfl (by kernel_rfl) (by kernel_rfl) (by kernel_rfl) (fun _ _ _ h => h) (yieldsIf_build (by rfl) structMh [(0, _), (1, _), (2, _), (3, _)] rfl [.agg (y1.map byt).toArray, .agg (y2.map byt).toArray, .int .u64 (y3 : Int), .int .u64 (y4 : Int)] rfl (by simp [Value.cells, HW1.out, HW2.out]) ((y1.map byt ++ (y2.map byt ++ ([Value.int .u64 (y3 : Int)] ++ ([Value.int .u64 (y4 : Int)])))).toArray) (by simp [Value.cells])) (by assumption) ?_
  try simp only [Act.put, List.setIfInBounds_toArray, List.set_cons_zero, List.set_cons_succ]
  refine wpAnyH_ready (rs := [11]) (by kernel_rfl) (by simp) ?_
  refine AllReadyH.cons (o := ⟨_, _, _, _, _, _⟩) rfl (fun K hK => ?_) AllReadyH.nil
  rw [if_pos (by rfl)]
  obtain ⟨l0, hl0, hb0⟩ := hHeld.2.1
  have HRR := Lib.hid (show ∀ W : World,  RMh (fun b => w.heap.size ≤ b ∧ b ≠ g1) W (y1.map byt ++ (y2.map byt ++ ([Value.int .u64 (y3 : Int)] ++ ([Value.int .u64 (y4 : Int)])))) (y1, y2, y3, y4) from fun W => ⟨_, _, rfl, ⟨HW1.out, rfl⟩, ⟨_, _, rfl, ⟨HW2.out, rfl⟩, ⟨_, _, rfl, ⟨HW3.out, rfl⟩, ⟨HW4.out, rfl⟩⟩⟩⟩)
  have HRF := Lib.hid (HRR.out x4)
  have HSZ := Lib.hid (show (Tryz.prog.info? 29).map (·.size) = some (y1.map byt ++ (y2.map byt ++ ([Value.int .u64 (y3 : Int)] ++ ([Value.int .u64 (y4 : Int)]))) : List Value).length by rw [HCE.out]; kernel_rfl)
  refine wp_put _ _ _ rfl g1 (y1.map byt ++ (y2.map byt ++ ([Value.int .u64 (y3 : Int)] ++ ([Value.int .u64 (y4 : Int)])))) l0 rfl rfl hb0 HSZ.out (hl0.trans HCE.out.symm) (rep_Mh.one HRF.out) (fun we ke fe ze => ?_)
  refine hK.out _ _ (by exact ⟨hHeld.1.fr fe (by omega), ⟨_, HCE.out, ke⟩, hHeld.2.2.1.trans' fe (fun i hi (e : i = g1) => by omega), by have := hHeld.2.2.2; omega⟩) (fun hHeld => ?_)
  have KE := Lib.hid ke
  have FE := Lib.hid fe
  clear ke fe
  clear hK
  refine wpAnyH_done (by kernel_rfl) ?_ _
  have FF := Lib.hid hHeld.2.2.1
  clear hHeld
  go_wp2
  exact bodyPost_ret (v := .agg (y1.map byt ++ (y2.map byt ++ ([Value.int .u64 (y3 : Int)] ++ ([Value.int .u64 (y4 : Int)])))).toArray) (results_row1 Tryz.results34 _ _ g1 _ _ rfl KE.out Tryz.underlying29 rfl HSZ.out) rfl ⟨_, rfl, rep_Mh.mono (rep_Mh.fr HRF.out FE.out (fun b _ h (e : b = g1) => h.2 e)) (fun b _ h => h.1), rd_back (O4.out.fr FE.out (by omega) (fun k _ h (e : k = g1) => by have := h.1; omega)) hql, FF.out⟩
set_option maxHeartbeats 8000000 in
set_option maxRecDepth 100000 in
theorem read_mh_calls (D : Nat → Prop) (w : World) (v : Value) (l : List UInt8) (hB : Byt D w v l) (hl : l.length ≤ 140737488355328) :
    Calls Tryz.prog 33 #[v, .func (.func 34) #[] #[]] w (GotT RMh w (got RDmh ((List.replicate 32 0, List.replicate 32 0, 0, 0) : XMh) l)) := by
  have HB := Lib.hid hB
  obtain ⟨s, hs⟩ : ∃ s, RDmh ⟨l, 0⟩ = s := ⟨_, rfl⟩
  have HG := Lib.hid (show (s.1.fin = 0 → got RDmh ((List.replicate 32 0, List.replicate 32 0, 0, 0) : XMh) l = (s.2, 0)) ∧ (¬ s.1.fin = 0 → got RDmh ((List.replicate 32 0, List.replicate 32 0, 0, 0) : XMh) l = (((List.replicate 32 0, List.replicate 32 0, 0, 0) : XMh), 120)) from ⟨fun h => by rw [got_yes (by rw [hs]; exact h), hs], fun h => by rw [got_no (by rw [hs]; exact h)]⟩)
  have HC := Lib.hid (fun D' w' q' h' => rmh_calls D' w' q' ⟨l, 0⟩ h' hl)
  rw [hs] at HC
  have hszT : ∀ cs : List Value, cs.length = 66 → (Tryz.prog.info? 29).map (·.size) = some cs.length := fun cs h => by rw [h]; kernel_rfl
  clear hB hs
  go_enter Tryz.func33, Tryz.ntmps33
  go_upto_region 1 with (first
    | ((with_reducible refine wpList_alloc rfl _ rfl _ (zeroMh _) (fun wa ka ca za => ?_)); have KA := Lib.hid ka; have CA := Lib.hid ca; clear ka ca))
  go_wp2_with fail
  refine (CodecR.read_calls D wa v l (HB.out.below CA.out) hl).mono ?_
  rintro e wb ⟨q, rfl, hq, o1, o2⟩
  have hql := o1.lt
  have O1 := Lib.hid o1
  have KA1 := Lib.hid (KA.out.below o2)
  have B1 := Lib.hid (CA.out.trans (o2.mono (by omega)))
  have hsb := o2.size
  clear o1 o2 KA CA
  go_upto_region 2 with (first
    | ((with_reducible refine wpList_alloc rfl _ rfl _ (zeroR _) (fun wc kc cc zc => ?_)); have KC := Lib.hid kc; have CC := Lib.hid cc; clear kc cc)
    | ((with_reducible refine wpList_put rfl _ _ _ rfl wb.heap.size [.pointer (some ⟨q, 0, none⟩)] _ rfl rfl KC.out (by kernel_rfl) rfl (one_ptr q) (fun wd kd fd zd => ?_)); have KD := Lib.hid kd; have CD := Lib.hid (CC.out.trans (fd.below CC.out.size (fun k (hk : k = _) => by omega))); clear kd fd))
  have O2 := Lib.hid (O1.out.below CD.out)
  have KA2 := Lib.hid (KA1.out.below CD.out)
  have B2 := Lib.hid (B1.out.trans (CD.out.mono (by omega)))
  have hsd := CD.out.size
  have hgr : wb.heap.size < wd.heap.size := KD.out.lt
  clear O1 KA1 B1 KC CC CD
  generalize wb.heap.size = gr at *
  go_wp2_with (first | (with_reducible refine wpList_load_blk rfl _ _ rfl gr [.pointer (some ⟨q, 0, none⟩)] rfl KD.out _ Tryz.underlying68 rfl (by kernel_rfl) ?_))
  refine (HC.out _ wd q O2.out).mono ?_
  rintro e we ⟨cs, rfl, ox, o2, o3⟩
  have HX := Lib.hid ox
  have HCL := Lib.hid (rep_Mh.len ox)
  have HC1 := Lib.hid (rep_Mh.one ox)
  have HSZ := Lib.hid (hszT cs (rep_Mh.len ox))
  have hse := o3.size
  have O3 := Lib.hid o2
  have KA3 := Lib.hid (KA2.out.fr o3 (by omega))
  have KD3 := Lib.hid (KD.out.fr o3 (by omega))
  have B3 := Lib.hid (B2.out.trans (o3.below (by omega) (fun k (hk : k = q) => by omega)))
  clear ox o2 o3 O2 KA2 KD B2 HC
  go_upto_region 3 with (first
    | ((with_reducible refine wpList_alloc rfl _ rfl _ (zeroMh _) (fun wf kf cf zf => ?_)); have KF := Lib.hid kf; have CF := Lib.hid cf; clear kf cf)
    | ((with_reducible refine wpList_put rfl _ _ _ rfl we.heap.size cs _ rfl rfl KF.out HSZ.out (zeroMh_len.trans HCL.out.symm) HC1.out (fun wg kg fg zg => ?_)); have KG := Lib.hid kg; have CG := Lib.hid (CF.out.trans (fg.below CF.out.size (fun k (hk : k = _) => by omega))); clear kg fg))
  have O5 := Lib.hid (O3.out.below CG.out)
  have HX5 := Lib.hid (rep_Mh.below HX.out CG.out)
  have KA5 := Lib.hid (KA3.out.below CG.out)
  have KD5 := Lib.hid (KD3.out.below CG.out)
  have B5 := Lib.hid (B3.out.trans (CG.out.mono (by omega)))
  have hsg := CG.out.size
  have c0 := KD5.out.cell (i := 0) rfl
  clear O3 HX KA3 KD3 B3 KF CF CG
  go_wp2_with fail
  refine (CodecR.end_calls _ wg q _ O5.out).mono ?_
  rintro e wh ⟨rfl, rfl⟩
  clear c0 O5
  by_cases hf : s.1.fin = 0
  · have hf2 : (s.1.fin != 0) = false := by simp [hf]
    have HG2 := Lib.hid (HG.out.1 hf)
    clear hf HG
    go_wp2_with (first
      | (with_reducible refine wpList_load_blk rfl _ _ rfl we.heap.size cs rfl KG.out _ Tryz.underlying29 rfl HSZ.out ?_)
      | ((with_reducible refine wpList_put rfl _ _ _ rfl w.heap.size cs _ rfl rfl KA5.out HSZ.out (zeroMh_len.trans HCL.out.symm) HC1.out (fun wi ki fi zi => ?_)); have KI := Lib.hid ki; have FI := Lib.hid fi; clear ki fi))
    refine bodyPost_ret (v := .tuple #[.agg cs.toArray, .int .i64 0]) (results_row2 Tryz.results33 _ _ w.heap.size _ _ rfl KI.out Tryz.underlying29 rfl HSZ.out _ rfl) rfl ?_
    rw [HG2.out]
    exact ⟨cs, rfl, rep_Mh.mono (rep_Mh.fr HX5.out FI.out (fun b _ h (e : b = w.heap.size) => by omega)) (fun b _ h => by omega), B5.out.trans (FI.out.below B5.out.size (fun k (hk : k = w.heap.size) => by omega))⟩
  · have hf2 : (s.1.fin != 0) = true := by simpa using hf
    have HG2 := Lib.hid (HG.out.2 hf)
    have HZL := Lib.hid (hszT (List.replicate 32 (Value.int .u8 0) ++ (List.replicate 32 (Value.int .u8 0) ++ ([Value.int .u64 0] ++ ([Value.int .u64 0])))) zeroMh_len)
    clear hf HG
    go_wp2_with (first
      | ((with_reducible refine wpList_alloc rfl _ rfl _ (zeroMh _) (fun wf' kf cf zf => ?_)); have KF := Lib.hid kf; have CF := Lib.hid cf; have KA6 := Lib.hid (KA5.out.below cf); clear kf cf)
      | (with_reducible refine wpList_load_blk rfl _ _ rfl wg.heap.size (List.replicate 32 (Value.int .u8 0) ++ (List.replicate 32 (Value.int .u8 0) ++ ([Value.int .u64 0] ++ ([Value.int .u64 0])))) rfl KF.out _ Tryz.underlying29 rfl HZL.out ?_)
      | ((with_reducible refine wpList_put rfl _ _ _ rfl w.heap.size (List.replicate 32 (Value.int .u8 0) ++ (List.replicate 32 (Value.int .u8 0) ++ ([Value.int .u64 0] ++ ([Value.int .u64 0])))) _ rfl rfl KA6.out HZL.out rfl zeroMh_one (fun wi ki fi zi => ?_)); have KI := Lib.hid ki; have FI := Lib.hid fi; clear ki fi))
    refine bodyPost_ret (v := .tuple #[.agg (List.replicate 32 (Value.int .u8 0) ++ (List.replicate 32 (Value.int .u8 0) ++ ([Value.int .u64 0] ++ ([Value.int .u64 0])))).toArray, .int .i64 120]) (results_row2 Tryz.results33 _ _ w.heap.size _ _ rfl KI.out Tryz.underlying29 rfl HZL.out _ rfl) rfl ?_
    rw [HG2.out]
    exact ⟨_, rfl, zero_Mh _ _, (B5.out.trans (CF.out.mono B5.out.size)).trans (FI.out.below (by have := B5.out.size; have := CF.out.size; omega) (fun k (hk : k = w.heap.size) => by omega))⟩
set_option maxHeartbeats 4000000 in
set_option maxRecDepth 100000 in
theorem ReadMainHeader_calls (D : Nat → Prop) (w : World) (v : Value) (l : List UInt8) (hB : Byt D w v l) (hl : l.length ≤ 140737488355328) :
    Calls Tryz.prog 10 #[v] w (GotT RMh w (got RDmh ((List.replicate 32 0, List.replicate 32 0, 0, 0) : XMh) l)) := by
  have HB := Lib.hid hB
  clear hB
  obtain ⟨g, hg⟩ : ∃ g, got RDmh ((List.replicate 32 0, List.replicate 32 0, 0, 0) : XMh) l = g := ⟨_, rfl⟩
  have HR := Lib.hid (fun w' h => read_mh_calls D w' v l h hl)
  rw [hg] at HR ⊢
  have hszT : ∀ cs : List Value, cs.length = 66 → (Tryz.prog.info? 29).map (·.size) = some cs.length := fun cs h => by rw [h]; kernel_rfl
  clear hg
  go_enter Tryz.func10, Tryz.ntmps10
  go_upto_region 1 with (first
    | ((with_reducible refine wpList_alloc rfl _ rfl _ (zeroMh _) (fun wa ka ca za => ?_)); have KA := Lib.hid ka; have CA := Lib.hid ca; clear ka ca))
  go_wp2_with fail
  refine (HR.out wa (HB.out.below CA.out)).mono ?_
  rintro e wb ⟨cs, rfl, ox, o2⟩
  have HX := Lib.hid ox
  have HCL := Lib.hid (rep_Mh.len ox)
  have HC1 := Lib.hid (rep_Mh.one ox)
  have HSZ := Lib.hid (hszT cs (rep_Mh.len ox))
  have B1 := Lib.hid (CA.out.trans (o2.mono (by omega)))
  have KA1 := Lib.hid (KA.out.below o2)
  clear ox o2 KA HR HB
  go_wp2_with (first
    | ((with_reducible refine wpList_put rfl _ _ _ rfl w.heap.size cs _ rfl rfl KA1.out HSZ.out (zeroMh_len.trans HCL.out.symm) HC1.out (fun wi ki fi zi => ?_)); have KI := Lib.hid ki; have FI := Lib.hid fi; clear ki fi))
  exact bodyPost_ret (v := .tuple #[.agg cs.toArray, .int .i64 g.2]) (results_row2 Tryz.results10 _ _ w.heap.size _ _ rfl KI.out Tryz.underlying29 rfl HSZ.out _ rfl) rfl ⟨cs, rfl, rep_Mh.mono (rep_Mh.fr HX.out FI.out (fun b _ h (e : b = w.heap.size) => by omega)) (fun b _ h => by omega), B1.out.trans (FI.out.below (by have := B1.out.size; omega) (fun k (hk : k = w.heap.size) => by omega))⟩
set_option maxHeartbeats 16000000 in
set_option maxRecDepth 100000 in
theorem rfmh_calls (w : World) (q : Nat) (a : Option Addr) (c : Nat) (B : List UInt8) (r : Rd) (H : RfR w q a c B r) (hl : B.length ≤ 140737488355328) :
    Calls Tryz.prog 35 #[.pointer (some ⟨q, 0, none⟩)] w (GotR RMh w q a c B (RDmh r)) := by
  have hqw := H.lt
  have H0 := Lib.hid H
  have HY0 := Lib.hid H.byt
  obtain ⟨y1, hy1⟩ : ∃ z, (Wr.Rd.dig r).2 = z := ⟨_, rfl⟩
  obtain ⟨r1, hr1⟩ : ∃ z, (Wr.Rd.dig r).1 = z := ⟨_, rfl⟩
  have HC1 := Lib.hid (fun w h => digest_calls w q a c B r h hl)
  rw [hr1, hy1] at HC1
  have HW1 := Lib.hid (show y1.length = 32 by rw [← hy1]; exact Wr.Rd.dig_len _)
  obtain ⟨y2, hy2⟩ : ∃ z, (Wr.Rd.dig r1).2 = z := ⟨_, rfl⟩
  obtain ⟨r2, hr2⟩ : ∃ z, (Wr.Rd.dig r1).1 = z := ⟨_, rfl⟩
  have HC2 := Lib.hid (fun w h => digest_calls w q a c B r1 h hl)
  rw [hr2, hy2] at HC2
  have HW2 := Lib.hid (show y2.length = 32 by rw [← hy2]; exact Wr.Rd.dig_len _)
  obtain ⟨y3, hy3⟩ : ∃ z, ((fun r : Rd => r.num 8) r2).2 = z := ⟨_, rfl⟩
  obtain ⟨r3, hr3⟩ : ∃ z, ((fun r : Rd => r.num 8) r2).1 = z := ⟨_, rfl⟩
  have HC3 := Lib.hid (fun w h => number_calls w q a c B r2 8 (by omega) h hl)
  have hr3' : (Rd.num r2 8).1 = r3 := hr3
  have hy3' : (Rd.num r2 8).2 = y3 := hy3
  rw [hr3', hy3'] at HC3
  have HW3 := Lib.hid (show y3 < 18446744073709551616 by rw [← hy3]; exact CodecR.num_lt _ _)
  clear hr3' hy3'
  obtain ⟨y4, hy4⟩ : ∃ z, ((fun r : Rd => r.num 8) r3).2 = z := ⟨_, rfl⟩
  obtain ⟨r4, hr4⟩ : ∃ z, ((fun r : Rd => r.num 8) r3).1 = z := ⟨_, rfl⟩
  have HC4 := Lib.hid (fun w h => number_calls w q a c B r3 8 (by omega) h hl)
  have hr4' : (Rd.num r3 8).1 = r4 := hr4
  have hy4' : (Rd.num r3 8).2 = y4 := hy4
  rw [hr4', hy4'] at HC4
  have HW4 := Lib.hid (show y4 < 18446744073709551616 by rw [← hy4]; exact CodecR.num_lt _ _)
  clear hr4' hy4'
  have HRD := Lib.hid (show RDmh r = (r4, y1, y2, y3, y4) by simp only [RDmh, seq, hr1, hy1, hr2, hy2, hr3, hy3, hr4, hy4])
  rw [HRD.out]
  clear H hr1 hy1 hr2 hy2 hr3 hy3 hr4 hy4
  go_enter Tryz.func35, Tryz.ntmps35
  go_upto_region 1 with (first
    | ((with_reducible refine wpList_alloc rfl _ rfl _ (zeroMh _) (fun wa ka ca za => ?_)); have KA := Lib.hid ka; have CA := Lib.hid ca; clear ka ca))
  go_upto_region 2 with (first
    | ((with_reducible refine wpList_alloc rfl _ rfl _ (zeroMh _) (fun wb ka ca zb => ?_)); have KB := Lib.hid ka; have CB := Lib.hid ca; clear ka ca))
  have CAB := Lib.hid (CA.out.trans (CB.out.mono (by omega)))
  have KA0 := Lib.hid (KA.out.below CB.out)
  have HR0 := Lib.hid (H0.out.below CAB.out)
  have HYv0 := Lib.hid (HY0.out.below CAB.out)
  have F0 := Lib.hid (Fr.ofBelowAll (S := fun k => k = q) CAB.out (Nat.le_refl _))
  have hgb : wa.heap.size < wb.heap.size := KB.out.lt
  have hgw0 : w.heap.size < wa.heap.size := by omega
  have hs0 : wa.heap.size < wb.heap.size := by omega
  clear CA CB KA CAB H0 HY0
  generalize wa.heap.size = gp at *
  obtain ⟨x0, hx0⟩ : ∃ x : World, x = wb := ⟨_, rfl⟩
  subst hx0
  have KB0 := KB
  clear KB
  go_wp2_with fail
  refine (HC1.out x0 HR0.out).mono ?_
  rintro e x1 ⟨rfl, o1, o2⟩
  have hsx1 := o2.size
  have KBm := Lib.hid (KB0.out.fr o2 (by omega))
  have KAm := Lib.hid (KA0.out.fr o2 (by omega))
  have HYm := Lib.hid (HYv0.out.fr o2 (fun k _ h e => h.2 e))
  have HRm := Lib.hid o1
  have Fm := Lib.hid (F0.out.trans o2)
  clear o1 o2 HC1 KB0 KA0 HYv0 HR0 F0
  have KBn := Lib.hid (show Blk x1 gp (([] : List Value) ++ (List.replicate 32 (Value.int .u8 0) ++ (List.replicate 32 (Value.int .u8 0) ++ ([Value.int .u64 0] ++ ([Value.int .u64 0]))))) 29 from by have h := KBm.out; (try simp only [List.append_assoc, List.nil_append, List.append_nil] at h); (try simp only [List.append_assoc, List.nil_append, List.append_nil]); exact h)
  have HSZ1 := Lib.hid (show (Tryz.prog.info? 27).map (·.size) = some (y1.map byt).length by rw [List.length_map, HW1.out]; kernel_rfl)
  have HLL := Lib.hid (show (List.replicate 32 (Value.int .u8 0) : List Value).length = (y1.map byt).length from by simp [HW1.out])
  have hnx1 : (([] : List Value) : List Value).length = 0 := rfl
  go_upto_region 3 with (first
    | ((with_reducible refine wpList_putMid rfl _ _ _ rfl gp ([] : List Value) (List.replicate 32 (Value.int .u8 0)) (List.replicate 32 (Value.int .u8 0) ++ ([Value.int .u64 0] ++ ([Value.int .u64 0]))) (y1.map byt) 0 hnx1 rfl rfl KBn.out HSZ1.out HLL.out (Wt.oneK y1) (fun x2 kd fd zd => ?_)); have KD := Lib.hid kd; have FD := Lib.hid fd; clear kd fd))
  have KB1 := Lib.hid (show Blk x2 gp (y1.map byt ++ (List.replicate 32 (Value.int .u8 0) ++ ([Value.int .u64 0] ++ ([Value.int .u64 0])))) 29 from by have h := KD.out; (try simp only [List.append_assoc, List.nil_append, List.append_nil] at h); (try simp only [List.append_assoc, List.nil_append, List.append_nil]); exact h)
  have KA1 := Lib.hid (KAm.out.fr FD.out (by omega))
  have HYv1 := Lib.hid (HYm.out.fr FD.out (fun k _ h e => by have := h.1; omega))
  have HR1 := Lib.hid (HRm.out.frD HYm.out FD.out (by omega) (fun k h => ⟨h.2, by have := h.1; omega⟩))
  have F1 := Lib.hid (Fm.out.trans' FD.out (fun k hk e => by omega))
  have hsx2 := FD.out.size
  clear KBm KAm HYm HRm Fm KBn KD FD hnx1
  clear HLL
  go_wp2_with fail
  refine (HC2.out x2 HR1.out).mono ?_
  rintro e x3 ⟨rfl, o1, o2⟩
  have hsx3 := o2.size
  have KBm := Lib.hid (KB1.out.fr o2 (by omega))
  have KAm := Lib.hid (KA1.out.fr o2 (by omega))
  have HYm := Lib.hid (HYv1.out.fr o2 (fun k _ h e => h.2 e))
  have HRm := Lib.hid o1
  have Fm := Lib.hid (F1.out.trans o2)
  clear o1 o2 HC2 KB1 KA1 HYv1 HR1 F1
  have KBn := Lib.hid (show Blk x3 gp ((y1.map byt) ++ (List.replicate 32 (Value.int .u8 0) ++ ([Value.int .u64 0] ++ ([Value.int .u64 0])))) 29 from by have h := KBm.out; (try simp only [List.append_assoc, List.nil_append, List.append_nil] at h); (try simp only [List.append_assoc, List.nil_append, List.append_nil]); exact h)
  have HSZ2 := Lib.hid (show (Tryz.prog.info? 27).map (·.size) = some (y2.map byt).length by rw [List.length_map, HW2.out]; kernel_rfl)
  have HLL := Lib.hid (show (List.replicate 32 (Value.int .u8 0) : List Value).length = (y2.map byt).length from by simp [HW2.out])
  have hnx3 : ((y1.map byt) : List Value).length = 32 := (by simp [HW1.out])
  go_upto_region 4 with (first
    | ((with_reducible refine wpList_putMid rfl _ _ _ rfl gp (y1.map byt) (List.replicate 32 (Value.int .u8 0)) ([Value.int .u64 0] ++ ([Value.int .u64 0])) (y2.map byt) 32 hnx3 rfl rfl KBn.out HSZ2.out HLL.out (Wt.oneK y2) (fun x4 kd fd zd => ?_)); have KD := Lib.hid kd; have FD := Lib.hid fd; clear kd fd))
  have KB2 := Lib.hid (show Blk x4 gp (y1.map byt ++ (y2.map byt ++ ([Value.int .u64 0] ++ ([Value.int .u64 0])))) 29 from by have h := KD.out; (try simp only [List.append_assoc, List.nil_append, List.append_nil] at h); (try simp only [List.append_assoc, List.nil_append, List.append_nil]); exact h)
  have KA2 := Lib.hid (KAm.out.fr FD.out (by omega))
  have HYv2 := Lib.hid (HYm.out.fr FD.out (fun k _ h e => by have := h.1; omega))
  have HR2 := Lib.hid (HRm.out.frD HYm.out FD.out (by omega) (fun k h => ⟨h.2, by have := h.1; omega⟩))
  have F2 := Lib.hid (Fm.out.trans' FD.out (fun k hk e => by omega))
  have hsx4 := FD.out.size
  clear KBm KAm HYm HRm Fm KBn KD FD hnx3
  clear HLL
  go_wp2_with fail
  refine (HC3.out x4 HR2.out).mono ?_
  rintro e x5 ⟨rfl, o1, o2⟩
  have hsx5 := o2.size
  have KBm := Lib.hid (KB2.out.fr o2 (by omega))
  have KAm := Lib.hid (KA2.out.fr o2 (by omega))
  have HYm := Lib.hid (HYv2.out.fr o2 (fun k _ h e => h.2 e))
  have HRm := Lib.hid o1
  have Fm := Lib.hid (F2.out.trans o2)
  clear o1 o2 HC3 KB2 KA2 HYv2 HR2 F2
  have KBn := Lib.hid (show Blk x5 gp ((y1.map byt ++ (y2.map byt)) ++ ([Value.int .u64 0] ++ ([Value.int .u64 0]))) 29 from by have h := KBm.out; (try simp only [List.append_assoc, List.nil_append, List.append_nil] at h); (try simp only [List.append_assoc, List.nil_append, List.append_nil]); exact h)
  have hnx5 : ((y1.map byt ++ (y2.map byt)) : List Value).length = 64 := (by simp [HW1.out, HW2.out])
  go_upto_region 5 with (first
    | ((with_reducible refine wpList_putc rfl _ _ _ rfl gp (y1.map byt ++ (y2.map byt)) ([Value.int .u64 0]) (Value.int .u64 0) 64 hnx5 rfl (Value.int .u64 (y3 : Int)) rfl rfl KBn.out (by kernel_rfl) (fun x6 kd fd zd => ?_)); have KD := Lib.hid kd; have FD := Lib.hid fd; clear kd fd))
  have KB3 := Lib.hid (show Blk x6 gp (y1.map byt ++ (y2.map byt ++ ([Value.int .u64 (y3 : Int)] ++ ([Value.int .u64 0])))) 29 from by have h := KD.out; (try simp only [List.append_assoc, List.nil_append, List.append_nil] at h); (try simp only [List.append_assoc, List.nil_append, List.append_nil]); exact h)
  have KA3 := Lib.hid (KAm.out.fr FD.out (by omega))
  have HYv3 := Lib.hid (HYm.out.fr FD.out (fun k _ h e => by have := h.1; omega))
  have HR3 := Lib.hid (HRm.out.frD HYm.out FD.out (by omega) (fun k h => ⟨h.2, by have := h.1; omega⟩))
  have F3 := Lib.hid (Fm.out.trans' FD.out (fun k hk e => by omega))
  have hsx6 := FD.out.size
  clear KBm KAm HYm HRm Fm KBn KD FD hnx5
  go_wp2_with fail
  refine (HC4.out x6 HR3.out).mono ?_
  rintro e x7 ⟨rfl, o1, o2⟩
  have hsx7 := o2.size
  have KBm := Lib.hid (KB3.out.fr o2 (by omega))
  have KAm := Lib.hid (KA3.out.fr o2 (by omega))
  have HYm := Lib.hid (HYv3.out.fr o2 (fun k _ h e => h.2 e))
  have HRm := Lib.hid o1
  have Fm := Lib.hid (F3.out.trans o2)
  clear o1 o2 HC4 KB3 KA3 HYv3 HR3 F3
  have KBn := Lib.hid (show Blk x7 gp ((y1.map byt ++ (y2.map byt ++ ([Value.int .u64 (y3 : Int)]))) ++ ([Value.int .u64 0] ++ ([] : List Value))) 29 from by have h := KBm.out; (try simp only [List.append_assoc, List.nil_append, List.append_nil] at h); (try simp only [List.append_assoc, List.nil_append, List.append_nil]); exact h)
  have hnx7 : ((y1.map byt ++ (y2.map byt ++ ([Value.int .u64 (y3 : Int)]))) : List Value).length = 65 := (by simp [HW1.out, HW2.out])
  go_upto_region 6 with (first
    | ((with_reducible refine wpList_putc rfl _ _ _ rfl gp (y1.map byt ++ (y2.map byt ++ ([Value.int .u64 (y3 : Int)]))) ([] : List Value) (Value.int .u64 0) 65 hnx7 rfl (Value.int .u64 (y4 : Int)) rfl rfl KBn.out (by kernel_rfl) (fun x8 kd fd zd => ?_)); have KD := Lib.hid kd; have FD := Lib.hid fd; clear kd fd))
  have KB4 := Lib.hid (show Blk x8 gp (y1.map byt ++ (y2.map byt ++ ([Value.int .u64 (y3 : Int)] ++ ([Value.int .u64 (y4 : Int)])))) 29 from by have h := KD.out; (try simp only [List.append_assoc, List.nil_append, List.append_nil] at h); (try simp only [List.append_assoc, List.nil_append, List.append_nil]); exact h)
  have KA4 := Lib.hid (KAm.out.fr FD.out (by omega))
  have HYv4 := Lib.hid (HYm.out.fr FD.out (fun k _ h e => by have := h.1; omega))
  have HR4 := Lib.hid (HRm.out.frD HYm.out FD.out (by omega) (fun k h => ⟨h.2, by have := h.1; omega⟩))
  have F4 := Lib.hid (Fm.out.trans' FD.out (fun k hk e => by omega))
  have hsx8 := FD.out.size
  clear KBm KAm HYm HRm Fm KBn KD FD hnx7
  have HCE := Lib.hid (show (y1.map byt ++ (y2.map byt ++ ([Value.int .u64 (y3 : Int)] ++ ([Value.int .u64 (y4 : Int)]))) : List Value).length = 66 by simp [HW1.out, HW2.out])
  have HSZ := Lib.hid (show (Tryz.prog.info? 29).map (·.size) = some (y1.map byt ++ (y2.map byt ++ ([Value.int .u64 (y3 : Int)] ++ ([Value.int .u64 (y4 : Int)]))) : List Value).length by rw [HCE.out]; kernel_rfl)
  have HRR := Lib.hid (show RMh (fun b => gp < b) x8 (y1.map byt ++ (y2.map byt ++ ([Value.int .u64 (y3 : Int)] ++ ([Value.int .u64 (y4 : Int)])))) (y1, y2, y3, y4) from ⟨_, _, rfl, ⟨HW1.out, rfl⟩, ⟨_, _, rfl, ⟨HW2.out, rfl⟩, ⟨_, _, rfl, ⟨HW3.out, rfl⟩, ⟨HW4.out, rfl⟩⟩⟩⟩)
  have HOL := Lib.hid (rep_Mh.one HRR.out)
  have KBF := KB4
  have KAF := KA4
  have HYF := HYv4
  have HRF := HR4
  have FF := F4
  go_wp2_with (first
    | (with_reducible refine wpList_load_blk rfl _ _ rfl gp (y1.map byt ++ (y2.map byt ++ ([Value.int .u64 (y3 : Int)] ++ ([Value.int .u64 (y4 : Int)])))) rfl KBF.out _ Tryz.underlying29 rfl HSZ.out ?_)
    | ((with_reducible refine wpList_put rfl _ _ _ rfl w.heap.size (y1.map byt ++ (y2.map byt ++ ([Value.int .u64 (y3 : Int)] ++ ([Value.int .u64 (y4 : Int)])))) _ rfl rfl KAF.out HSZ.out (zeroMh_len.trans HCE.out.symm) HOL.out (fun wz kz fz zz => ?_)); have KZ := Lib.hid kz; have FZ := Lib.hid fz; clear kz fz))
  refine bodyPost_ret (v := .agg (y1.map byt ++ (y2.map byt ++ ([Value.int .u64 (y3 : Int)] ++ ([Value.int .u64 (y4 : Int)])))).toArray) (results_row1 Tryz.results35 _ _ w.heap.size _ _ rfl KZ.out Tryz.underlying29 rfl HSZ.out) rfl ⟨_, (y1, y2, y3, y4), rfl, rep_Mh.mono (rep_Mh.fr HRR.out FZ.out (fun b _ h (e : b = w.heap.size) => by omega)) (fun b _ h => by omega), fun _ => rfl, HRF.out.frD HYF.out FZ.out (by omega) (fun k h => ⟨h.2, by have := h.1; omega⟩), FF.out.trans' FZ.out (fun k hk (e : k = w.heap.size) => by omega)⟩
set_option maxHeartbeats 8000000 in
set_option maxRecDepth 100000 in
theorem readMainHeader_ref (D : Nat → Prop) (w : World) (a : Option Addr) (c : Nat) (B : List UInt8) (hB : Byt D w (.slice a B.length c) B) (hl : B.length ≤ 140737488355328) :
    Calls Tryz.prog 11 #[.slice a B.length c] w (GotT RMh w (got RDmh ((List.replicate 32 0, List.replicate 32 0, 0, 0) : XMh) B)) := by
  have HB := Lib.hid hB
  obtain ⟨s, hs⟩ : ∃ s, RDmh ⟨B, 0⟩ = s := ⟨_, rfl⟩
  have HG := Lib.hid (show (s.1.fin = 0 → got RDmh ((List.replicate 32 0, List.replicate 32 0, 0, 0) : XMh) B = (s.2, 0)) ∧ (¬ s.1.fin = 0 → got RDmh ((List.replicate 32 0, List.replicate 32 0, 0, 0) : XMh) B = (((List.replicate 32 0, List.replicate 32 0, 0, 0) : XMh), 120)) from ⟨fun h => by rw [got_yes (by rw [hs]; exact h), hs], fun h => by rw [got_no (by rw [hs]; exact h)]⟩)
  have HC := Lib.hid (fun w' q' h' => rfmh_calls w' q' a c B ⟨B, 0⟩ h' hl)
  rw [hs] at HC
  have hszT : ∀ cs : List Value, cs.length = 66 → (Tryz.prog.info? 29).map (·.size) = some cs.length := fun cs h => by rw [h]; kernel_rfl
  clear hB hs
  go_enter Tryz.func11, Tryz.ntmps11
  go_upto_region 1 with (first
    | ((with_reducible refine wpList_alloc rfl _ rfl _ (zeroMh _) (fun wa ka ca za => ?_)); have KA := Lib.hid ka; have CA := Lib.hid ca; clear ka ca))
  go_wp2_with fail
  refine (begin_calls _ wa a c B (HB.out.below CA.out)).mono ?_
  rintro e wb ⟨rfl, o1, o2⟩
  have O1 := Lib.hid o1
  have KA1 := Lib.hid (KA.out.below o2)
  have B1 := Lib.hid (CA.out.trans (o2.mono (by omega)))
  have hqw : w.heap.size < wa.heap.size := by omega
  have hsb := o2.size
  clear o1 o2 KA CA HB
  generalize wa.heap.size = q at *
  go_wp2_with fail
  refine (HC.out wb q O1.out).mono ?_
  rintro e wc ⟨cs, x, rfl, ox, oe, o1, o2⟩
  have HX := Lib.hid ox
  have HCL := Lib.hid (rep_Mh.len ox)
  have HC1 := Lib.hid (rep_Mh.one ox)
  have HSZ := Lib.hid (hszT cs (rep_Mh.len ox))
  have HXE := Lib.hid oe
  have O2 := Lib.hid o1
  have KA2 := Lib.hid (KA1.out.fr o2 (by omega))
  have B2 := Lib.hid (B1.out.trans (o2.below (B := w.heap.size) B1.out.size (fun k hk => by omega)))
  have hsc := o2.size
  clear ox oe o1 o2 HC KA1 B1 O1
  go_upto_region 3 with (first
    | ((with_reducible refine wpList_alloc rfl _ rfl _ (zeroMh _) (fun wd kd cd zd => ?_)); have KD := Lib.hid kd; have CD := Lib.hid cd; clear kd cd)
    | ((with_reducible refine wpList_put rfl _ _ _ rfl wc.heap.size cs _ rfl rfl KD.out HSZ.out (zeroMh_len.trans HCL.out.symm) HC1.out (fun we ke fe ze => ?_)); have KE := Lib.hid ke; have CE := Lib.hid (CD.out.trans (fe.below CD.out.size (fun k (hk : k = _) => by omega))); clear ke fe))
  have O3 := Lib.hid (O2.out.below CE.out)
  have KA3 := Lib.hid (KA2.out.below CE.out)
  have B3 := Lib.hid (B2.out.trans (CE.out.mono B2.out.size))
  have HX3 := Lib.hid (rep_Mh.below HX.out CE.out)
  clear O2 KA2 B2 HX KD CD CE
  go_wp2_with fail
  refine (ended_calls we q a c B _ O3.out).mono ?_
  rintro e wf ⟨rfl, o1⟩
  have KE4 := Lib.hid (KE.out.below o1)
  have KA4 := Lib.hid (KA3.out.below o1)
  have B4 := Lib.hid (B3.out.trans (o1.mono B3.out.size))
  have HX4 := Lib.hid (rep_Mh.below HX3.out o1)
  have hB4 := B4.out.size
  clear o1 O3 KE KA3 B3 HX3
  by_cases hf : s.1.fin = 0
  · have hf2 : finE s.1 = 0 := if_pos hf
    have HG2 := Lib.hid (HG.out.1 hf)
    have HXX := Lib.hid (HXE.out (fin_ok hf))
    rw [hf2]
    clear hf hf2 HG
    go_wp2_with (first
      | (with_reducible refine wpList_load_blk rfl _ _ rfl wc.heap.size cs rfl KE4.out _ Tryz.underlying29 rfl HSZ.out ?_)
      | ((with_reducible refine wpList_put rfl _ _ _ rfl w.heap.size cs _ rfl rfl KA4.out HSZ.out (zeroMh_len.trans HCL.out.symm) HC1.out (fun wi ki fi zi => ?_)); have KI := Lib.hid ki; have FI := Lib.hid fi; clear ki fi))
    refine bodyPost_ret (v := .tuple #[.agg cs.toArray, .int .i64 0]) (results_row2 Tryz.results11 _ _ w.heap.size _ _ rfl KI.out Tryz.underlying29 rfl HSZ.out _ rfl) rfl ?_
    rw [HG2.out, ← HXX.out]
    exact ⟨cs, rfl, rep_Mh.mono (rep_Mh.fr HX4.out FI.out (fun b _ h (e : b = w.heap.size) => by omega)) (fun b _ h => by omega), B4.out.trans (FI.out.below B4.out.size (fun k (hk : k = w.heap.size) => by omega))⟩
  · have hf2 : finE s.1 = 120 := if_neg hf
    have HG2 := Lib.hid (HG.out.2 hf)
    have HZL := Lib.hid (hszT (List.replicate 32 (Value.int .u8 0) ++ (List.replicate 32 (Value.int .u8 0) ++ ([Value.int .u64 0] ++ ([Value.int .u64 0])))) zeroMh_len)
    rw [hf2]
    clear hf hf2 HG
    go_wp2_with (first
      | (with_reducible refine wpList_built rfl _ [] rfl (List.replicate 32 (Value.int .u8 0) ++ (List.replicate 32 (Value.int .u8 0) ++ ([Value.int .u64 0] ++ ([Value.int .u64 0])))) (by kernel_rfl) ?_)
      | ((with_reducible refine wpList_put rfl _ _ _ rfl w.heap.size (List.replicate 32 (Value.int .u8 0) ++ (List.replicate 32 (Value.int .u8 0) ++ ([Value.int .u64 0] ++ ([Value.int .u64 0])))) _ rfl rfl KA4.out HZL.out rfl zeroMh_one (fun wi ki fi zi => ?_)); have KI := Lib.hid ki; have FI := Lib.hid fi; clear ki fi))
    refine bodyPost_ret (v := .tuple #[.agg (List.replicate 32 (Value.int .u8 0) ++ (List.replicate 32 (Value.int .u8 0) ++ ([Value.int .u64 0] ++ ([Value.int .u64 0])))).toArray, .int .i64 120]) (results_row2 Tryz.results11 _ _ w.heap.size _ _ rfl KI.out Tryz.underlying29 rfl HZL.out _ rfl) rfl ?_
    rw [HG2.out]
    exact ⟨_, rfl, zero_Mh _ _, B4.out.trans (FI.out.below B4.out.size (fun k (hk : k = w.heap.size) => by omega))⟩
end Go.Proofs.YtmenchnjajpkmaaGreat.Rh
end

section
namespace Go.Proofs.YtmenchnjajpkmaaGreat.HdEq
open Go Go.RowKit Mem Codec Mh Wh
theorem mapM_isSome {α β : Type} (f : α → Option β) : ∀ xs : List α, (∀ x ∈ xs, (f x).isSome = true) → (xs.mapM f).isSome = true
  | [], _ => rfl
  | x :: xs, h => by
    obtain ⟨y, hy⟩ := Option.isSome_iff_exists.1 (h x (by simp))
    obtain ⟨ys, hys⟩ := Option.isSome_iff_exists.1 (mapM_isSome f xs (fun z hz => h z (by simp [hz])))
    rw [List.mapM_cons, hy, hys]; rfl
theorem lits_u8 {P : Program} {e : TypeId} (he : P.underlying e = some (.int .u8)) (m : Nat) (c : UInt8) : (P.keyLits (m + 1) e [byt c]).isSome = true := by
  have hw : (Lit.int .u8 (c.toNat : Int)).wf = true := by
    have := c.toNat_lt
    have e1 : IntKind.u8.min = 0 := by kernel_rfl
    have e2 : IntKind.u8.max = 255 := by kernel_rfl
    simp only [Lit.wf, e1, e2, decide_eq_true_eq, Bool.and_eq_true]
    omega
  unfold Program.keyLits
  simp only [he]
  simp [hw]
theorem lits_bytes {P : Program} {k e : TypeId} {n : Nat} (hk : P.underlying k = some (.array n e)) (he : P.underlying e = some (.int .u8)) (hc : P.cellsOf k = n) (hce : P.cellsOf e = 1) (m : Nat) (d : List UInt8) (hd : d.length = n) : (P.keyLits (m + 2) k (d.map byt)).isSome = true := by
  unfold Program.keyLits
  simp only [hk]
  rw [if_pos (by simp [hd, hc]), Option.isSome_map]
  refine mapM_isSome _ _ (fun i hi => ?_)
  have hi : i < d.length := by rw [hd]; exact List.mem_range.1 hi
  have hdt : ((d.map byt).drop (i * P.cellsOf e)).take (P.cellsOf e) = [byt (d[i]'hi)] := by
    rw [hce, Nat.mul_one, List.drop_eq_getElem_cons (by simpa using hi)]
    simp
  rw [hdt]
  exact lits_u8 he m _
theorem lits_u64 {P : Program} {e : TypeId} (he : P.underlying e = some (.int .u64)) (m : Nat) (n : Nat) (hn : n < 18446744073709551616) : (P.keyLits (m + 1) e [.int .u64 (n : Int)]).isSome = true := by
  have hw : (Lit.int .u64 (n : Int)).wf = true := by
    have e1 : IntKind.u64.min = 0 := by kernel_rfl
    have e2 : IntKind.u64.max = 18446744073709551615 := by kernel_rfl
    simp only [Lit.wf, e1, e2, decide_eq_true_eq, Bool.and_eq_true]
    omega
  unfold Program.keyLits
  simp only [he]
  simp [hw]
theorem keyH (h : Hd) (ok : h.Ok) : ∃ kl, keyOf Tryz.prog 29 (hv h) = some kl := by
  have hf : (hv h).formed Tryz.prog 29 = true := by
    have : Tryz.prog.cellsOf 29 = 66 := by kernel_rfl
    simp [Value.formed, Tryz.underlying29, this, ok.len]
  have hkt : Tryz.prog.keyType 29 = true := by kernel_rfl
  obtain ⟨m, hm⟩ : ∃ m, Tryz.prog.types.size = m + 2 := ⟨Tryz.prog.types.size - 2, by have : 2 ≤ Tryz.prog.types.size := of_decide_eq_true (by kernel_rfl); omega⟩
  unfold keyOf
  simp only [Tryz.underlying29, hkt, hf, Bool.and_self, if_true, Value.cells, hm]
  refine Option.isSome_iff_exists.1 ?_
  rw [Option.isSome_map]
  unfold Program.keyLits
  simp only [Tryz.underlying29]
  have hl : h.cells.toArray.toList.length = Tryz.prog.cellsOf 29 := by
    have : Tryz.prog.cellsOf 29 = 66 := by kernel_rfl
    rw [this]; exact ok.len
  rw [if_pos ⟨hl, by simp⟩, Option.isSome_map]
  refine mapM_isSome _ _ (fun f hf => ?_)
  have cD : Tryz.prog.cellsOf 27 = 32 := by kernel_rfl
  have cU : Tryz.prog.cellsOf 22 = 1 := by kernel_rfl
  have e0 : (h.cells.drop 0).take 32 = h.prev.map byt := by simp [Hd.cells, ok.1]
  have e1 : (h.cells.drop 32).take 32 = h.root.map byt := by simp [Hd.cells, ok.1, ok.2.1]
  have e2 : (h.cells.drop 64).take 1 = [.int .u64 (h.height : Int)] := by rw [List.take_one, List.head?_drop, Hd.cell_height ok]; rfl
  have e3 : (h.cells.drop 65).take 1 = [.int .u64 (h.nonce : Int)] := by rw [List.take_one, List.head?_drop, Hd.cell_nonce ok]; rfl
  simp only [List.mem_cons, List.not_mem_nil, or_false] at hf
  rcases hf with rfl | rfl | rfl | rfl
  · show (Program.keyLits _ (m + 2) 27 ((h.cells.drop 0).take (Tryz.prog.cellsOf 27))).isSome = true
    rw [cD, e0]; exact lits_bytes Tryz.underlying27 Tryz.underlying5 cD (by kernel_rfl) m _ ok.1
  · show (Program.keyLits _ (m + 2) 27 ((h.cells.drop 32).take (Tryz.prog.cellsOf 27))).isSome = true
    rw [cD, e1]; exact lits_bytes Tryz.underlying27 Tryz.underlying5 cD (by kernel_rfl) m _ ok.2.1
  · show (Program.keyLits _ (m + 2) 22 ((h.cells.drop 64).take (Tryz.prog.cellsOf 22))).isSome = true
    rw [cU, e2]; exact lits_u64 Tryz.underlying22 (m + 1) _ ok.2.2.1
  · show (Program.keyLits _ (m + 2) 22 ((h.cells.drop 65).take (Tryz.prog.cellsOf 22))).isSome = true
    rw [cU, e3]; exact lits_u64 Tryz.underlying22 (m + 1) _ ok.2.2.2
theorem equalH (h : Hd) (ok : h.Ok) (w : World) : (Op.equalIn 10000 29 (hv h) (hv h)).run Tryz.prog w = .ok true w := by
  obtain ⟨kl, hk⟩ := keyH h ok
  obtain ⟨r, h1, h2⟩ := run_equal_deep (P := Tryz.prog) w (m := 3) (by omega) (by kernel_rfl) (by kernel_rfl) hk hk
  rw [h2.2 rfl] at h1
  exact h1
end Go.Proofs.YtmenchnjajpkmaaGreat.HdEq
end

section
namespace Go.Proofs.YtmenchnjajpkmaaGreat.Wt
open Go Go.RowKit Mem Codec CodecW CodecR

theorem lit_byt (w : World) (l : List UInt8) (cs : Array Value) (f : Nat × Nat) (n : Nat) (hn : n = l.length) (hcs : cs = (l.map byt).toArray) (hm : l.length ≤ 1000000) : Byt (fun k => k = w.heap.size) (w.alloc (.cells cs 5 f)) (.slice (some ⟨w.heap.size, 0, none⟩) n n) l := by
  subst hcs
  exact Byt.newBlock w _ _ _ l n n hn ⟨by omega, by unfold maxLen; omega⟩ rfl (fun i hi => by simp [hi])
theorem same_calls (D E : Nat → Prop) (w : World) (va vb : Value) (a b : List UInt8) (hA : Byt D w va a) (hB : Byt E w vb b) :
    Calls Tryz.prog 13 #[va, vb] w fun e w' => e = .returned (.bool (a == b)) ∧ w = w' := by
  have h1 := run_convert_byt (P := Tryz.prog) hA (src := 30) (dst := 9) Tryz.underlying30 Tryz.underlying5 Tryz.underlying9
  have h2 := run_convert_byt (P := Tryz.prog) hB (src := 30) (dst := 9) Tryz.underlying30 Tryz.underlying5 Tryz.underlying9
  obtain ⟨a1, a2, rfl, _⟩ := id hA
  obtain ⟨b1, b2, rfl, _⟩ := id hB
  have HI := Lib.hid (show ((str a).toList == (str b).toList) = (a == b) by rw [ByteArray.toList_eq, ByteArray.toList_eq]; rfl)
  clear hA hB
  generalize str a = sa at *
  generalize str b = sb at *
  go_enter Tryz.func13, Tryz.ntmps13
  go_wp2
  go_ret
  exact ⟨by rw [← HI.out]; rfl, rfl⟩
end Go.Proofs.YtmenchnjajpkmaaGreat.Wt
end

section
namespace Go.Proofs.YtmenchnjajpkmaaGreat.Wmm
open Go Go.RowKit Mem Codec CodecW Arr Reps Rr WtIt Wm Rm Rh Mh
set_option linter.unusedVariables false

def Fits (x : XMt) : Prop := (encMt x).length + 9 ≤ 140737488355328
theorem told_p (w : World) (cs : List Value) (x : XMt) (hR : RMt Any w cs x) (hn : Fits x) :
    Calls Tryz.prog 6 #[.agg cs.toArray] w fun e w' => Wt.Told w.heap.size (encMt x) (badMt x) e w' ∧ Below w.heap.size w w' := MainTx_told w cs x hR hn
theorem told_r (w : World) (cs : List Value) (x : XMt) (hR : RMt Any w cs x) (hn : Fits x) :
    Calls Tryz.prog 7 #[.agg cs.toArray] w fun e w' => Wt.Told 0 (encMt x) (badMt x) e w' ∧ Below w.heap.size w w' := rMainTx_told w cs x hR hn
theorem flat_le {α : Type} (enc : α → List UInt8) (k : Nat) : ∀ l : List α, (∀ x ∈ l, (enc x).length ≤ k) → (l.flatMap enc).length ≤ l.length * k
  | [], _ => by simp
  | x :: r, h => by
    have h1 := h x (by simp)
    have h2 := flat_le enc k r (fun y hy => h y (by simp [hy]))
    rw [List.flatMap_cons, List.length_append, List.length_cons, Nat.succ_mul]
    omega
theorem items_mem {α : Type} {one : Rd → Rd × α} {Q : α → Prop} (h : ∀ r, Q (one r).2) : ∀ (n : Nat) (r : Rd), ∀ x ∈ (items one n r).1, Q x
  | 0, r, x, hx => by simp [items] at hx
  | n + 1, r, x, hx => by
    unfold items at hx
    split at hx
    · simp at hx
    · rcases List.mem_cons.1 hx with rfl | hx
      · exact h r
      · exact items_mem h n _ x hx
theorem lst_mem {α : Type} {p : List α × Rd} {x : α} (h : x ∈ lst p) : x ∈ p.1 := by
  unfold lst at h
  split at h
  · simp at h
  · exact h
theorem lsts_len (r : Rd) (most : Nat) : (RmT.lsts r (most : Int)).2.length ≤ most := by
  have h : (r.room (most : Int)).2 ≤ most := by rw [var_room]; exact var_le r most
  unfold RmT.lsts lst
  dsimp only
  split
  · simp
  · exact Nat.le_trans (lst_len _ _ _) h
theorem got_fits (l : List UInt8) : Fits (got RDmt ((0 : Nat), ([] : List (Nat × List UInt8))) l).1 := by
  have hv : ∀ n, (var n).length ≤ 9 := Wt.var_len9
  unfold got Fits
  split
  · have h1 := lsts_len ((⟨l, 0⟩ : Rd).num 8).1 16
    have h2 := flat_le encMo 40 (RmT.lsts ((⟨l, 0⟩ : Rd).num 8).1 16).2 (fun x hx => by
      have h3 : x.2.length = 32 := items_mem (Q := fun x : Nat × List UInt8 => x.2.length = 32) (fun r => Wr.Rd.dig_len _) _ _ x (lst_mem hx)
      simp [encMo, num_length, h3])
    have h4 := hv (RmT.lsts ((⟨l, 0⟩ : Rd).num 8).1 16).2.length
    show (num _ 8 ++ (var (RmT.lsts ((⟨l, 0⟩ : Rd).num 8).1 16).2.length ++ (RmT.lsts ((⟨l, 0⟩ : Rd).num 8).1 16).2.flatMap encMo)).length + 9 ≤ _
    simp only [List.length_append, num_length]
    have h5 : (RmT.lsts ((⟨l, 0⟩ : Rd).num 8).1 16).2.length ≤ 16 := h1
    omega
  · have h4 := hv 0
    simp [encMt, num_length]
    omega
def hd (x : XMh) : Hd := ⟨x.1, x.2.1, x.2.2.1, x.2.2.2⟩
theorem hd_of {D : Nat → Prop} {w : World} {cs : List Value} {x : XMh} (h : RMh D w cs x) : cs = (hd x).cells ∧ (hd x).Ok := by
  obtain ⟨a1, b1, rfl, ⟨k1, rfl⟩, a2, b2, rfl, ⟨k2, rfl⟩, a3, b3, rfl, ⟨k3, rfl⟩, k4, rfl⟩ := h
  exact ⟨by simp [Hd.cells, hd], k1, k2, k3, k4⟩
theorem same_cells {D D' : Nat → Prop} {w w' : World} {cs cs' : List Value} {x : XMh} (h : RMh D w cs x) (h' : RMh D' w' cs' x) : cs = cs' := (hd_of h).1.trans (hd_of h').1.symm
end Go.Proofs.YtmenchnjajpkmaaGreat.Wmm
end
