/- Walks of Claim and MainTxId, the program's and the reference's. Conditions: texts of at most 2^47 - 4096 bytes; the tables are laid. The walks of the reference's R.mainTx and ReadMainTx. Condition: the bytes are at most 2^47. Walks of Node, the program's and the reference's. Condition: the tables are laid. The library's Len of a number, laid at this program out of the contracts that are proved once (written by the kit's tools lay-shelf, lay-plain). No condition. Walks of the cut and of the root, the program's and the reference's. Conditions: as many digests as memory holds; the tables are laid. Walks of the root, the program's and the reference's. Conditions: at most 2^42 digests; the tables are laid. The walk of slices.Reverse over digests. No condition. The walk of the program's Path. Conditions: at most 2^42 digests; the tables are laid. The walk of the reference's Path. Conditions: at most 2^42 digests; the tables are laid. Walks of the law's same, of the sides and of the way up. Conditions: at most 2^42 digests; the tables are laid. The walk of the sides of a way. Condition: the numbers are below 2^62. -/
import Derived.Test.YtmenchnjajpkmaaGreatDoorEvih
import Derived.Test.YtmenchnjajpkmaaGreatDoorEvii
import Derived.Test.YtmenchnjajpkmaaGreatDoorEvik
import Derived.Shelf.Small.Bits
import Derived.Shelf.Strconv.Itoa0
import Derived.Test.YtmenchnjajpkmaaGreatDoorProg
import Derived.Test.YtmenchnjajpkmaaGreatDoorEvie
section
namespace Go.Proofs.YtmenchnjajpkmaaGreatDoor.Ev
open Go Go.RowKit Mem Sha ShaW Mk MkW Arr Reps Rr Wm Codec Wt
set_option linter.unusedVariables false

def claimD (b : List UInt8) : List UInt8 := tagged ⟨#[116, 111, 108, 108, 104, 111, 117, 115, 101, 47, 99, 108, 97, 105, 109]⟩ [b]
def mtName : ByteArray := ⟨#[116, 111, 108, 108, 104, 111, 117, 115, 101, 47, 109, 97, 105, 110, 116, 120]⟩
def mtId (x : XMt) : List UInt8 := tagged mtName [told (encMt x) (badMt x)]
theorem claimD_length (b : List UInt8) : (claimD b).length = 32 := tagged_length _ _
theorem mtId_length (x : XMt) : (mtId x).length = 32 := tagged_length _ _
/-- what an id asks of a transaction -/
def Fits (x : XMt) : Prop := (encMt x).length + 4200 ≤ 140737488355328
theorem fits9 {x : XMt} (h : Fits x) : (encMt x).length + 9 ≤ 140737488355328 := by unfold Fits at h; omega
theorem told_len {x : XMt} (h : Fits x) : (told (encMt x) (badMt x)).length + 4200 ≤ 140737488355328 := by
  unfold Fits at h
  unfold told
  split <;> simp <;> omega
set_option maxHeartbeats 4000000 in
set_option maxRecDepth 100000 in
theorem claim_calls (w : World) (v : Value) (b : List UInt8) (hB : Byt Any w v b) (hl : b.length ≤ 140737488351232) (hT : TabB w 1) :
    Calls Tryz.prog 8 #[v] w fun e w' => e = .returned (dv (claimD b)) ∧ Below w.heap.size w w' := by
  obtain ⟨a, c, rfl, hk, _⟩ := id hB
  obtain ⟨W, hW, H0, HB, hs⟩ := start32 w
  have HBW := Lib.hid (hB.below HB.out)
  have HT := Lib.hid (hT.below HB.out)
  clear hB hT
  go_enter Tryz.func8, Tryz.ntmps8
  go_upto_region 1 with fail
  clear hW
  have hal : Below W.heap.size W (W.alloc (.cells #[.slice a b.length c] 25)) := (Below.refl _ _).alloc (Nat.le_refl _) _
  have HY := Lib.hid (byts_one W (.slice a b.length c) b 25 HBW.out)
  have HAL := Lib.hid hal
  have H1 := Lib.hid (H0.out.below hal)
  clear hal
  go_wp2_with fail
  refine (tagged_calls _ _ _ [b] HY.out (by decide) (by simp; omega) (by simp) (HT.out.below HAL.out)).mono ?_
  rintro e w2 ⟨rfl, g⟩
  have H2 := Lib.hid (H1.out.below g)
  have HB2 := Lib.hid (HB.out.trans ((HAL.out.trans (g.mono HAL.out.size)).mono (by omega)))
  have HE := Lib.hid (show claimD b = tagged _ [b] from rfl)
  have HML := Lib.hid (claimD_length b)
  have HONE := Lib.hid (one_cells (claimD b))
  rw [← HE.out]
  obtain ⟨m, hm⟩ : ∃ m, claimD b = m := ⟨_, rfl⟩
  rw [hm] at HML HONE ⊢
  have HM := Lib.hid hm
  clear g H1 HB hm HE
  go_wp2_with (with_reducible refine wpList_store_blk rfl _ _ _ rfl w.heap.size (m.map byt) _ rfl _ rfl rfl H2.out (szD' HML.out) (by simp [HML.out]) HONE.out ?_)
  exact bodyPost_ret (v := dv m) (results_cell_row Tryz.results8 _ _ w.heap.size 24 _ (0, 0) _ rfl (H2.out.row _) Tryz.underlying24 rfl (szD'' HML.out)) rfl ⟨by rw [HM.out], below_setRow HB2.out (Nat.le_refl _) _⟩

set_option maxHeartbeats 4000000 in
set_option maxRecDepth 100000 in
theorem ref_claim_calls (w : World) (v : Value) (b : List UInt8) (hB : Byt Any w v b) (hl : b.length ≤ 140737488351232) (hT : TabB w 0) :
    Calls Tryz.prog 9 #[v] w fun e w' => e = .returned (dv (claimD b)) ∧ Below w.heap.size w w' := by
  obtain ⟨a, c, rfl, hk, _⟩ := id hB
  obtain ⟨W, hW, H0, HB, hs⟩ := start32 w
  have HBW := Lib.hid (hB.below HB.out)
  have HT := Lib.hid (hT.below HB.out)
  clear hB hT
  go_enter Tryz.func9, Tryz.ntmps9
  go_upto_region 1 with fail
  clear hW
  have hal : Below W.heap.size W (W.alloc (.cells #[.slice a b.length c] 25)) := (Below.refl _ _).alloc (Nat.le_refl _) _
  have HY := Lib.hid (byts_one W (.slice a b.length c) b 25 HBW.out)
  have HAL := Lib.hid hal
  have H1 := Lib.hid (H0.out.below hal)
  clear hal
  go_wp2_with fail
  refine (ref_tagged_calls _ _ _ [b] HY.out (by decide) (by simp; omega) (by simp) (HT.out.below HAL.out)).mono ?_
  rintro e w2 ⟨rfl, g⟩
  have H2 := Lib.hid (H1.out.below g)
  have HB2 := Lib.hid (HB.out.trans ((HAL.out.trans (g.mono HAL.out.size)).mono (by omega)))
  have HE := Lib.hid (show claimD b = tagged _ [b] from rfl)
  have HML := Lib.hid (claimD_length b)
  have HONE := Lib.hid (one_cells (claimD b))
  rw [← HE.out]
  obtain ⟨m, hm⟩ : ∃ m, claimD b = m := ⟨_, rfl⟩
  rw [hm] at HML HONE ⊢
  have HM := Lib.hid hm
  clear g H1 HB hm HE
  go_wp2_with (with_reducible refine wpList_store_blk rfl _ _ _ rfl w.heap.size (m.map byt) _ rfl _ rfl rfl H2.out (szD' HML.out) (by simp [HML.out]) HONE.out ?_)
  exact bodyPost_ret (v := dv m) (results_cell_row Tryz.results9 _ _ w.heap.size 24 _ (0, 0) _ rfl (H2.out.row _) Tryz.underlying24 rfl (szD'' HML.out)) rfl ⟨by rw [HM.out], below_setRow HB2.out (Nat.le_refl _) _⟩
set_option maxHeartbeats 4000000 in
set_option maxRecDepth 100000 in
theorem mtid_calls (w : World) (cs : List Value) (x : XMt) (hR : RMt Any w cs x) (hn : Fits x) (hT : TabB w 1) :
    Calls Tryz.prog 27 #[.agg cs.toArray] w fun e w' => e = .returned (dv (mtId x)) ∧ Below w.heap.size w w' := by
  have HSZ := Lib.hid (show (Tryz.prog.info? 56).map (·.size) = some cs.length by rw [rep_Mt.len hR]; kernel_rfl)
  obtain ⟨ca, hca⟩ : ∃ ca, cs.toArray = ca := ⟨_, rfl⟩
  obtain ⟨w1, hw1⟩ : ∃ w1, w.alloc (.cells ca 56) = w1 := ⟨_, rfl⟩
  have HB := Lib.hid (show Blk w1 w.heap.size cs 56 from by rw [← hw1]; exact Blk.new w _ _ _ hca.symm)
  have B1 := Lib.hid (show Below w.heap.size w w1 from by rw [← hw1]; exact (Below.refl _ _).alloc (Nat.le_refl _) _)
  have hz : w.heap.size + 1 = w1.heap.size := by rw [← hw1]; simp
  obtain ⟨W, hW, H0, BW, hs⟩ := start32 w1
  have HB2 := Lib.hid (HB.out.below BW.out)
  have B2 := Lib.hid (B1.out.trans (BW.out.mono (by omega)))
  have HT := Lib.hid (hT.below B2.out)
  have HR := Lib.hid (rep_Mt.below hR B2.out)
  have hsz := BW.out.size
  have HTL := Lib.hid (told_len hn)
  obtain ⟨B, hB⟩ : ∃ B, told (encMt x) (badMt x) = B := ⟨_, rfl⟩
  have TP := Lib.hid (fun w' h => MainTx_told w' cs x h (fits9 hn))
  unfold Wt.Told at TP
  have HE := Lib.hid (show mtId x = tagged mtName [B] by rw [← hB]; rfl)
  rw [hB] at TP HTL
  rw [hca]
  clear hca hT hR HB B1 hn hB
  go_enter Tryz.func27, Tryz.ntmps27
  go_upto_region 1 with fail
  clear hw1 hW
  go_wp2_with (first | (with_reducible refine wpList_load_blk rfl _ _ rfl w.heap.size cs rfl HB2.out _ Tryz.underlying56 rfl HSZ.out ?_))
  refine (TP.out W HR.out).mono ?_
  rintro e w2 ⟨⟨a, c, rfl, g1⟩, g2⟩
  have HBW := Lib.hid (show Byt Any w2 (.slice a B.length c) B from g1.byt.mono (fun _ _ _ => trivial))
  have H2 := Lib.hid (H0.out.below g2)
  have HT2 := Lib.hid (HT.out.below g2)
  have B3 := Lib.hid (B2.out.trans (g2.mono (by omega)))
  have hs2 := g2.size
  clear g1 g2 HB2 H0
  have HAL := Lib.hid (show Below w2.heap.size w2 (w2.alloc (.cells #[.slice a B.length c] 25)) from (Below.refl _ _).alloc (Nat.le_refl _) _)
  have HY := Lib.hid (byts_one w2 (.slice a B.length c) B 25 HBW.out)
  have HT3 := Lib.hid (HT2.out.below HAL.out)
  go_wp2_with fail
  refine (tagged_calls _ mtName _ [B] HY.out (by decide) (by have hbl : B.length + 4200 ≤ 140737488355328 := HTL.out; simp only [List.map_cons, List.map_nil, List.sum_cons, List.sum_nil]; omega) (by simp) HT3.out).mono ?_
  rintro e w3 ⟨rfl, g⟩
  have H3 := Lib.hid ((H2.out.below HAL.out).below g)
  have B4 := Lib.hid (B3.out.trans ((HAL.out.trans (g.mono HAL.out.size)).mono (by omega)))
  have HML := Lib.hid (mtId_length x)
  have HONE := Lib.hid (one_cells (mtId x))
  rw [← HE.out]
  obtain ⟨m, hm⟩ : ∃ m, mtId x = m := ⟨_, rfl⟩
  rw [hm] at HML HONE ⊢
  have HM := Lib.hid hm
  clear g H2 B2 B3 HAL HY HBW hm HE
  go_wp2_with (with_reducible refine wpList_store_blk rfl _ _ _ rfl w1.heap.size (m.map byt) _ rfl _ rfl rfl H3.out (szD' HML.out) (by simp [HML.out]) HONE.out ?_)
  exact bodyPost_ret (v := dv m) (results_cell_row Tryz.results27 _ _ w1.heap.size 24 _ (0, 0) _ rfl (H3.out.row _) Tryz.underlying24 rfl (szD'' HML.out)) rfl ⟨by rw [HM.out], below_setRow B4.out (by omega) _⟩
set_option maxHeartbeats 4000000 in
set_option maxRecDepth 100000 in
theorem rmtid_calls (w : World) (cs : List Value) (x : XMt) (hR : RMt Any w cs x) (hn : Fits x) (hT : TabB w 0) :
    Calls Tryz.prog 19 #[.agg cs.toArray] w fun e w' => e = .returned (dv (mtId x)) ∧ Below w.heap.size w w' := by
  have HSZ := Lib.hid (show (Tryz.prog.info? 56).map (·.size) = some cs.length by rw [rep_Mt.len hR]; kernel_rfl)
  obtain ⟨ca, hca⟩ : ∃ ca, cs.toArray = ca := ⟨_, rfl⟩
  obtain ⟨w1, hw1⟩ : ∃ w1, w.alloc (.cells ca 56) = w1 := ⟨_, rfl⟩
  have HB := Lib.hid (show Blk w1 w.heap.size cs 56 from by rw [← hw1]; exact Blk.new w _ _ _ hca.symm)
  have B1 := Lib.hid (show Below w.heap.size w w1 from by rw [← hw1]; exact (Below.refl _ _).alloc (Nat.le_refl _) _)
  have hz : w.heap.size + 1 = w1.heap.size := by rw [← hw1]; simp
  obtain ⟨W, hW, H0, BW, hs⟩ := start32 w1
  have HB2 := Lib.hid (HB.out.below BW.out)
  have B2 := Lib.hid (B1.out.trans (BW.out.mono (by omega)))
  have HT := Lib.hid (hT.below B2.out)
  have HR := Lib.hid (rep_Mt.below hR B2.out)
  have hsz := BW.out.size
  have HTL := Lib.hid (told_len hn)
  obtain ⟨B, hB⟩ : ∃ B, told (encMt x) (badMt x) = B := ⟨_, rfl⟩
  have TP := Lib.hid (fun w' h => rMainTx_told w' cs x h (fits9 hn))
  unfold Wt.Told at TP
  have HE := Lib.hid (show mtId x = tagged mtName [B] by rw [← hB]; rfl)
  rw [hB] at TP HTL
  rw [hca]
  clear hca hT hR HB B1 hn hB
  go_enter Tryz.func19, Tryz.ntmps19
  go_upto_region 1 with fail
  clear hw1 hW
  go_wp2_with (first | (with_reducible refine wpList_load_blk rfl _ _ rfl w.heap.size cs rfl HB2.out _ Tryz.underlying56 rfl HSZ.out ?_))
  refine (TP.out W HR.out).mono ?_
  rintro e w2 ⟨⟨a, c, rfl, g1⟩, g2⟩
  have HBW := Lib.hid (show Byt Any w2 (.slice a B.length c) B from g1.byt.mono (fun _ _ _ => trivial))
  have H2 := Lib.hid (H0.out.below g2)
  have HT2 := Lib.hid (HT.out.below g2)
  have B3 := Lib.hid (B2.out.trans (g2.mono (by omega)))
  have hs2 := g2.size
  clear g1 g2 HB2 H0
  have HAL := Lib.hid (show Below w2.heap.size w2 (w2.alloc (.cells #[.slice a B.length c] 25)) from (Below.refl _ _).alloc (Nat.le_refl _) _)
  have HY := Lib.hid (byts_one w2 (.slice a B.length c) B 25 HBW.out)
  have HT3 := Lib.hid (HT2.out.below HAL.out)
  go_wp2_with fail
  refine (ref_tagged_calls _ mtName _ [B] HY.out (by decide) (by have hbl : B.length + 4200 ≤ 140737488355328 := HTL.out; simp only [List.map_cons, List.map_nil, List.sum_cons, List.sum_nil]; omega) (by simp) HT3.out).mono ?_
  rintro e w3 ⟨rfl, g⟩
  have H3 := Lib.hid ((H2.out.below HAL.out).below g)
  have B4 := Lib.hid (B3.out.trans ((HAL.out.trans (g.mono HAL.out.size)).mono (by omega)))
  have HML := Lib.hid (mtId_length x)
  have HONE := Lib.hid (one_cells (mtId x))
  rw [← HE.out]
  obtain ⟨m, hm⟩ : ∃ m, mtId x = m := ⟨_, rfl⟩
  rw [hm] at HML HONE ⊢
  have HM := Lib.hid hm
  clear g H2 B2 B3 HAL HY HBW hm HE
  go_wp2_with (with_reducible refine wpList_store_blk rfl _ _ _ rfl w1.heap.size (m.map byt) _ rfl _ rfl rfl H3.out (szD' HML.out) (by simp [HML.out]) HONE.out ?_)
  exact bodyPost_ret (v := dv m) (results_cell_row Tryz.results19 _ _ w1.heap.size 24 _ (0, 0) _ rfl (H3.out.row _) Tryz.underlying24 rfl (szD'' HML.out)) rfl ⟨by rw [HM.out], below_setRow B4.out (by omega) _⟩
end Go.Proofs.YtmenchnjajpkmaaGreatDoor.Ev
end

section
namespace Go.Proofs.YtmenchnjajpkmaaGreatDoor.Rf
open Go Go.RowKit Wm Rm Mem Codec CodecR Ops Reps WtIt Arr Rr Wr
set_option linter.unusedVariables false
set_option linter.unusedSimpArgs false

set_option maxHeartbeats 16000000 in
set_option maxRecDepth 100000 in
theorem rfmt_calls (w : World) (q : Nat) (a : Option Addr) (c : Nat) (B : List UInt8) (r : Rd) (H : RfR w q a c B r) (hl : B.length ≤ 140737488355328) :
    Calls Tryz.prog 43 #[.pointer (some ⟨q, 0, none⟩)] w (GotR RMt w q a c B (RDmt r)) := by
  have hqw := H.lt
  have H0 := Lib.hid H
  have HY0 := Lib.hid H.byt
  obtain ⟨y1, hy1⟩ : ∃ z, ((fun r : Rd => r.num 8) r).2 = z := ⟨_, rfl⟩
  obtain ⟨r1, hr1⟩ : ∃ z, ((fun r : Rd => r.num 8) r).1 = z := ⟨_, rfl⟩
  have HC1 := Lib.hid (fun w h => number_calls w q a c B r 8 (by omega) h hl)
  have hr1' : (Rd.num r 8).1 = r1 := hr1
  have hy1' : (Rd.num r 8).2 = y1 := hy1
  rw [hr1', hy1'] at HC1
  have HW1 := Lib.hid (show y1 < 18446744073709551616 by rw [← hy1]; exact CodecR.num_lt _ _)
  clear hr1' hy1'
  obtain ⟨rm2, hrm2⟩ : ∃ z, (Rd.var r1 16).1 = z := ⟨_, rfl⟩
  obtain ⟨n2, hn2⟩ : ∃ z, (Rd.var r1 16).2 = z := ⟨_, rfl⟩
  have HZ2 := Lib.hid (show rm2.e = 0 ∨ n2 = 0 from by rw [← hrm2, ← hn2]; exact var_none r1 16)
  have hnm2 : n2 ≤ 16 := by rw [← hn2]; exact var_le r1 16
  have HC2 := Lib.hid (fun w h => many_calls w q a c B r1 16 (by omega) h hl)
  rw [hrm2, hn2] at HC2
  have hlsts2 : RmT.lsts r1 16 = ((items RDmo n2 rm2).2, lst (items RDmo n2 rm2)) := by unfold RmT.lsts; (try dsimp only); rw [show Rd.room r1 16 = Rd.var r1 16 from var_room r1 16, hrm2, hn2]
  obtain ⟨y2, hy2⟩ : ∃ z, ((fun r : Rd => RmT.lsts r 16) r1).2 = z := ⟨_, rfl⟩
  obtain ⟨r2, hr2⟩ : ∃ z, ((fun r : Rd => RmT.lsts r 16) r1).1 = z := ⟨_, rfl⟩
  have HLS2 := Lib.hid (show r2 = (items RDmo n2 rm2).2 ∧ y2 = lst (items RDmo n2 rm2) from ⟨by rw [← hr2]; exact congrArg Prod.fst hlsts2, by rw [← hy2]; exact congrArg Prod.snd hlsts2⟩)
  clear hlsts2 hrm2 hn2
  have HRD := Lib.hid (show RDmt r = (r2, y1, y2) by simp only [RDmt, seq, hr1, hy1, hr2, hy2])
  rw [HRD.out]
  clear H hr1 hy1 hr2 hy2
  go_enter Tryz.func43, Tryz.ntmps43
  go_upto_region 1 with (first
    | ((with_reducible refine wpList_alloc rfl _ rfl _ (zeroMt _) (fun wa ka ca za => ?_)); have KA := Lib.hid ka; have CA := Lib.hid ca; clear ka ca))
  go_upto_region 2 with (first
    | ((with_reducible refine wpList_alloc rfl _ rfl _ (zeroMt _) (fun wb ka ca zb => ?_)); have KB := Lib.hid ka; have CB := Lib.hid ca; clear ka ca))
  have CAB := Lib.hid (CA.out.trans (CB.out.mono (by omega)))
  have KA0 := Lib.hid (KA.out.below CB.out)
  have HR0 := Lib.hid (H0.out.below CAB.out)
  have HYv0 := Lib.hid (HY0.out.below CAB.out)
  have F0 := Lib.hid (Fr.ofBelowAll (S := fun k => k = q) CAB.out (Nat.le_refl _))
  have hgb : wa.heap.size < wb.heap.size := KB.out.lt
  have hgw0 : w.heap.size < wa.heap.size := by omega
  have hs0 : wa.heap.size < wb.heap.size := by omega
  clear CA CB KA CAB H0 HY0
  generalize wa.heap.size = gp at *
  obtain ⟨x0, hx0⟩ : ∃ x : World, x = wb := ⟨_, rfl⟩
  subst hx0
  have KB0 := KB
  clear KB
  go_wp2_with fail
  refine (HC1.out x0 HR0.out).mono ?_
  rintro e x1 ⟨rfl, o1, o2⟩
  have hsx1 := o2.size
  have KBm := Lib.hid (KB0.out.fr o2 (by omega))
  have KAm := Lib.hid (KA0.out.fr o2 (by omega))
  have HYm := Lib.hid (HYv0.out.fr o2 (fun k _ h e => h.2 e))
  have HRm := Lib.hid o1
  have Fm := Lib.hid (F0.out.trans o2)
  clear o1 o2 HC1 KB0 KA0 HYv0 HR0 F0
  have KBn := Lib.hid (show Blk x1 gp (([] : List Value) ++ ([Value.int .u64 0] ++ ([Value.slice none 0 0]))) 56 from by have h := KBm.out; (try simp only [List.append_assoc, List.nil_append, List.append_nil] at h); (try simp only [List.append_assoc, List.nil_append, List.append_nil]); exact h)
  have hnx1 : (([] : List Value) : List Value).length = 0 := rfl
  go_upto_region 3 with (first
    | ((with_reducible refine wpList_putc rfl _ _ _ rfl gp ([] : List Value) ([Value.slice none 0 0]) (Value.int .u64 0) 0 hnx1 rfl (Value.int .u64 (y1 : Int)) rfl rfl KBn.out (by kernel_rfl) (fun x2 kd fd zd => ?_)); have KD := Lib.hid kd; have FD := Lib.hid fd; clear kd fd))
  have KB1 := Lib.hid (show Blk x2 gp ([Value.int .u64 (y1 : Int)] ++ ([Value.slice none 0 0])) 56 from by have h := KD.out; (try simp only [List.append_assoc, List.nil_append, List.append_nil] at h); (try simp only [List.append_assoc, List.nil_append, List.append_nil]); exact h)
  have KA1 := Lib.hid (KAm.out.fr FD.out (by omega))
  have HYv1 := Lib.hid (HYm.out.fr FD.out (fun k _ h e => by have := h.1; omega))
  have HR1 := Lib.hid (HRm.out.frD HYm.out FD.out (by omega) (fun k h => ⟨h.2, by have := h.1; omega⟩))
  have F1 := Lib.hid (Fm.out.trans' FD.out (fun k hk e => by omega))
  have hsx2 := FD.out.size
  clear KBm KAm HYm HRm Fm KBn KD FD hnx1
  go_wp2_with fail
  refine (HC2.out x2 HR1.out).mono ?_
  rintro e we ⟨rfl, o1, o2⟩
  have RQ := Lib.hid o1
  have KP := Lib.hid (show Blk we gp (([Value.int .u64 (y1 : Int)]) ++ ([.slice none 0 0] ++ ([] : List Value))) 56 from by have h := KB1.out.fr o2 (by omega); (try simp only [List.append_assoc, List.nil_append, List.append_nil] at h); (try simp only [List.append_assoc, List.nil_append, List.append_nil]); exact h)
  have KA5 := Lib.hid (KA1.out.fr o2 (by omega))
  have HY := Lib.hid (HYv1.out.fr o2 (fun k _ h e => h.2 e))
  have F3 := Lib.hid (F1.out.trans o2)
  have hse := o2.size
  have hgw : gp < we.heap.size := by omega
  have hn6 : n2 ≤ 65536 := by omega
  have HZ := HZ2
  have hqw0 : q < gp := by omega
  clear o1 o2 HC2 HR1 KB1 KA1 HYv1 F1 HZ2
  go_wp2
  go_loopw [5] (fun i' wx => ∃ (i : Nat) (v : Value) (css : List (List Value)) (xs : List _) (r : Rd), i' = .int .i64 (i : Int) ∧ xs.length = i ∧ i ≤ n2 ∧ Blk wx gp (([Value.int .u64 (y1 : Int)]) ++ ([v] ++ ([] : List Value))) 56 ∧ OwnA 33 we.heap.size 58 wx v css ∧ All2 (RMo (fun b => we.heap.size ≤ b ∧ v.ownBlock ≠ some b) wx) css xs ∧ RfR wx q a c B r ∧ LSt RDmo n2 rm2 xs r ∧ Fr (fun k => k = q ∨ k = gp) we wx) (fun i' _ => n2 - (intOf i').toNat)
  case atStart => exact ⟨0, _, [], [], rm2, rfl, rfl, Nat.zero_le _, KP.out, OwnA.nil _ _ _ _, .nil, RQ.out, LSt.start HZ.out, Fr.refl _ _⟩
  case round =>
    obtain ⟨i, v, css, xs, rr, rfl, hxl, hin, hK, hO, hA, hR, hS, hF⟩ := hrel
    obtain ⟨va, vc, hve, hc1, hc2, _⟩ := hO.form
    have hcl : css.length = i := by rw [hA.length]; exact hxl
    rw [hcl] at hve hc1
    subst hve
    have HK := Lib.hid hK
    have HO := Lib.hid hO
    have HA := Lib.hid hA
    have HR := Lib.hid hR
    have HS := Lib.hid hS
    have HF := Lib.hid hF
    have HXL := Lib.hid hxl
    have HCS := Lib.hid hcl
    have hsr := hF.size
    have HYr := Lib.hid (HY.out.fr hF (fun k hk h e => by rcases e with e | e; exact h.2 e; omega))
    clear hK hO hA hR hS hF hxl hcl
    by_cases hgo : i < n2 ∧ rr.e = 0
    · obtain ⟨hlt, he⟩ := hgo
      have hltI : (i : Int) < (n2 : Int) := by omega
      have he2 : (rr.e == 0) = true := by simpa using he
      have HE := Lib.hid he
      have hnq : q ≠ gp := by omega
      clear he
      go_wp2_with (first
        | (refine (ok_calls wr q a c B rr HR.out).mono ?_; rintro e wo ⟨rfl, rfl⟩)
        | ((with_reducible refine wpList_alloc rfl _ rfl _ (zeroMo _) (fun v1 ka ca zv1 => ?_)); have KO0 := Lib.hid ka; have CO0 := Lib.hid ca; clear ka ca))
      have hnr : w.heap.size ≤ wr.heap.size := by omega
      have HN1 := Lib.hid (show (Rd.num rr 8).2 < 18446744073709551616 from CodecR.num_lt _ _)
      have HD1 := Lib.hid (Wr.Rd.dig_len (rr.num 8).1)
      obtain ⟨y, hy⟩ : ∃ y, (rr.num 8).2 = y := ⟨_, rfl⟩
      obtain ⟨ra, hra⟩ : ∃ y, (rr.num 8).1 = y := ⟨_, rfl⟩
      obtain ⟨d, hd⟩ : ∃ y, (Wr.Rd.dig ra).2 = y := ⟨_, rfl⟩
      obtain ⟨rb, hrb⟩ : ∃ y, (Wr.Rd.dig ra).1 = y := ⟨_, rfl⟩
      rw [hy] at HN1
      rw [hra, hd] at HD1
      have HC1 := Lib.hid (fun w h => number_calls w q a c B rr 8 (by omega) h hl)
      have HC2 := Lib.hid (fun w h => digest_calls w q a c B ra h hl)
      rw [hra, hy] at HC1
      rw [hrb, hd] at HC2
      have HRDe := Lib.hid (show Rm.RDmo rr = (rb, y, d) by simp only [Rm.RDmo, seq, hra, hy, hrb, hd])
      clear hy hra hd hrb
      go_wp2_with fail
      refine (HC1.out v1 (HR.out.below CO0.out)).mono ?_
      rintro e v2 ⟨rfl, o1, o2⟩
      have KO1 := Lib.hid (show Blk v2 wr.heap.size (([] : List Value) ++ ([Value.int .u64 0] ++ List.replicate 32 (Value.int .u8 0))) 58 from KO0.out.fr o2 (by omega))
      have O1 := Lib.hid o1
      have HYa := Lib.hid ((HYr.out.below CO0.out).fr o2 (fun k _ h e => h.2 e))
      have Fa := Lib.hid ((Fr.ofBelowAll CO0.out (Nat.le_refl _) : Fr (fun k => k = q) wr v1).trans o2)
      have hsv2 := o2.size
      clear o1 o2 HC1 KO0 CO0
      go_upto_region 9 with (first
        | ((with_reducible refine wpList_putc rfl _ _ _ rfl wr.heap.size ([] : List Value) (List.replicate 32 (Value.int .u8 0)) (Value.int .u64 0) 0 rfl rfl (Value.int .u64 (y : Int)) rfl rfl KO1.out (by kernel_rfl) (fun v3 kd fd zd => ?_)); have KO2 := Lib.hid kd; have FD := Lib.hid fd; clear kd fd))
      have HYb := Lib.hid (HYa.out.fr FD.out (fun k _ h e => by have := h.1; omega))
      have HRb := Lib.hid (O1.out.frD HYa.out FD.out (by omega) (fun k h => ⟨h.2, by have := h.1; omega⟩))
      have Fb := Lib.hid (Fa.out.trans' FD.out (fun k hk e => by omega))
      clear O1 HYa Fa FD KO1
      go_wp2_with fail
      refine (HC2.out v3 HRb.out).mono ?_
      rintro e v4 ⟨rfl, o1, o2⟩
      have KO3 := Lib.hid (show Blk v4 wr.heap.size ([Value.int .u64 (y : Int)] ++ (List.replicate 32 (Value.int .u8 0) ++ ([] : List Value))) 58 from by have h := KO2.out.fr o2 (by omega); simpa using h)
      have O2 := Lib.hid o1
      have HYc := Lib.hid (HYb.out.fr o2 (fun k _ h e => h.2 e))
      have Fc := Lib.hid (Fb.out.trans o2)
      have hsv4 := o2.size
      have HSD := Lib.hid (show (Tryz.prog.info? 24).map (·.size) = some (d.map byt).length by rw [List.length_map, HD1.out]; kernel_rfl)
      have HLD := Lib.hid (show (List.replicate 32 (Value.int .u8 0) : List Value).length = (d.map byt).length by simp [HD1.out])
      clear o1 o2 HC2 HYb HRb Fb KO2
      go_upto_region 10 with (first
        | ((with_reducible refine wpList_putMid rfl _ _ _ rfl wr.heap.size [Value.int .u64 (y : Int)] (List.replicate 32 (Value.int .u8 0)) ([] : List Value) (d.map byt) 1 rfl rfl rfl KO3.out HSD.out HLD.out (Wt.oneK d) (fun wc kd fd zd => ?_)); have KO4 := Lib.hid kd; have FD := Lib.hid fd; clear kd fd))
      obtain ⟨cs, hcs⟩ : ∃ cs, [Value.int .u64 (y : Int)] ++ d.map byt = cs := ⟨_, rfl⟩
      obtain ⟨x, hxx⟩ : ∃ x, (y, d) = x := ⟨_, rfl⟩
      have KO := Lib.hid (show Blk wc wr.heap.size cs 58 from by have h := KO4.out; rw [← hcs]; simpa using h)
      have ox : RMo (fun b => wr.heap.size ≤ b) wc cs x := by rw [← hcs, ← hxx]; exact ⟨_, _, rfl, ⟨HN1.out, rfl⟩, HD1.out, rfl⟩
      have oe : (Rm.RDmo rr).1.e = 0 → x = (Rm.RDmo rr).2 := fun _ => by rw [HRDe.out, ← hxx]
      have o1 : RfR wc q a c B (Rm.RDmo rr).1 := by rw [HRDe.out]; exact O2.out.frD HYc.out FD.out (by omega) (fun k h => ⟨h.2, by have := h.1; omega⟩)
      have o2 : Fr (fun k => k = q) wr wc := Fc.out.trans' FD.out (fun k hk e => by omega)
      clear hcs hxx O2 HYc Fc FD KO3 KO4 HN1 HD1 HSD HLD HRDe
      have HX := Lib.hid ox
      have HCL := Lib.hid (rep_Mo.len ox)
      have HC1 := Lib.hid (rep_Mo.one ox)
      have HXE := Lib.hid oe
      have HR2 := Lib.hid o1
      have HF2 := Lib.hid (show Fr (fun k => k = q) wr wc from o2)
      have hs2 : wr.heap.size ≤ wc.heap.size := o2.size
      have hgl : gp < wr.heap.size := HK.out.lt
      clear ox oe o1 o2
      have HK2 := Lib.hid (HK.out.fr HF2.out (fun e => hnq e.symm))
      have HO2 := Lib.hid (HO.out.fr HF2.out (fun k hk e => by have := (HO.out.lt k hk).1; omega))
      have HY2 := Lib.hid (HYr.out.fr HF2.out (fun k hk h e => h.2 e))
      have cl := blk_one HK2.out (([Value.int .u64 (y1 : Int)])) (([] : List Value)) _ rfl 1 ((by simp))
      have HSZO := Lib.hid (show (Tryz.prog.info? 58).map (·.size) = some cs.length by rw [HCL.out]; kernel_rfl)
      have HLOW := Lib.hid (show ∀ k, (Value.slice va i vc).ownBlock = some k → we.heap.size ≤ k from fun k hk => (HO.out.lt k hk).1)
      go_wp2_with (first
        | (with_reducible refine wpList_load_blk rfl _ _ rfl wr.heap.size cs rfl KO.out _ Tryz.underlying58 rfl HSZO.out ?_)
        | ((with_reducible refine wpList_build1 rfl RmT.elemT _ rfl cs rfl HCL.out (by omega) (fun wj kj bj zj => ?_)); have KJ := Lib.hid kj; have BJ := Lib.hid bj; have HK3 := Lib.hid (HK2.out.below bj); have HO3 := Lib.hid (HO2.out.below bj); clear kj bj)
        | (at_builtin; refine wpList_append_arr _ rfl (.tmp 28) (.tmp 30) 54 rfl we.heap.size 58 RmT.elemT _ css rfl HO3.out _ [cs] rfl (arr1 KJ.out HCL.out) (fun y hy u hu => by rw [List.mem_singleton.1 hy] at hu; exact HC1.out u hu) (by rw [HCS.out, List.length_singleton]; unfold maxLen; omega) (by rw [HCS.out, List.length_singleton]; omega) (by omega) (i + 1) (by rw [HCS.out, List.length_singleton]) ?_; intro a' cap' wk q1 q2 q3; have Q1 := Lib.hid q1; have Q2 := Lib.hid (show Fr (fun k => (Value.slice va i vc).ownBlock = some k) wc wk from (Fr.ofBelowAll BJ.out (Nat.le_refl _)).trans (Fr.ofGrown q2)); have Q3 := Lib.hid q3; have HK4 := Lib.hid (HK3.out.fr (Fr.ofGrown q2) (fun e => by have := HLOW.out _ e; omega)); have hsk : wj.heap.size ≤ wk.heap.size := (Fr.ofGrown q2).size; clear q1 q2 q3)
        | ((with_reducible refine wpList_putc rfl _ _ _ rfl gp (([Value.int .u64 (y1 : Int)])) (([] : List Value)) _ 1 ((by simp)) rfl _ rfl rfl HK4.out (by kernel_rfl) (fun wl kl fl zl => ?_)); have KL := Lib.hid kl; have FL := Lib.hid fl; clear kl fl))
      have HFF := Lib.hid (show Fr (fun k => (Value.slice va i vc).ownBlock = some k ∨ k = gp) wc wl from (Q2.out.mono (fun k _ h => .inl h)).trans (FL.out.mono (fun k _ h => .inr h)))
      go_roundw
      case rel =>
        have hll := HLOW.out
        exact ⟨i + 1, _, css ++ [cs], xs ++ [x], _, by go_num, by rw [List.length_append, HXL.out]; rfl, by omega, KL.out, Q1.out.fr FL.out (fun k hk e => by have := (Q1.out.lt k hk).1; omega),
          Reps.push rep_Mo HA.out HX.out HF2.out (fun k h e => by omega) (by omega) (fun k hk => (HO.out.lt k hk).2) HFF.out (fun k _ hN h => h.resolve_right (by omega)) (Q3.out.imp_right fun h => ⟨_, h, BJ.out.size⟩),
          HR2.out.frD HY2.out HFF.out (fun e => by rcases e with e | e; have := hll _ e; omega; omega) (fun k h => ⟨h.2, fun e => by rcases e with e | e; have := hll _ e; omega; omega⟩),
          HS.out.next HE.out (by rw [HXL.out]; exact hlt) x HXE.out,
          HF.out.trans' ((HF2.out.mono (T := fun k => k = q ∨ k = gp ∨ we.heap.size ≤ k) (fun k _ h => Or.inl h)).trans' HFF.out (fun k _ h => by rcases h with h | h; exact .inr (.inr (hll _ h)); exact .inr (.inl h))) (fun k hk h => by omega)⟩
      case measure => simp [intOf]; omega
    · have HD := Lib.hid (HS.out.done (by rw [HXL.out]; by_cases h : i < n2; exact .inr (fun e => hgo ⟨h, e⟩); exact .inl h))
      have HSL := Lib.hid (sl_own rep_Mo HO.out HA.out)
      rcases (show (¬ (i : Int) < (n2 : Int)) ∨ ((i : Int) < (n2 : Int) ∧ (rr.e == 0) = false) by by_cases h : i < n2; exact .inr ⟨by omega, by have : rr.e ≠ 0 := fun e => hgo ⟨h, e⟩; simpa using this⟩; exact .inl (by omega)) with hx | ⟨hx1, hx2⟩
      all_goals
        clear hgo HO HA HS HXL HCS
        have F4 := Lib.hid (F3.out.trans' HF.out (fun k hk e => by omega))
        have KAF := Lib.hid (KA5.out.fr HF.out (fun e => by omega))
        have hl1 : (Value.slice va i vc).oneCell' = true := rfl
        generalize Value.slice va i vc = lv at *
        have HKx := Lib.hid (show Blk wr gp ([Value.int .u64 (y1 : Int)] ++ ([lv])) 56 from by have h := HK.out; (try simp only [List.append_assoc, List.nil_append, List.append_nil] at h); (try simp only [List.append_assoc, List.nil_append, List.append_nil]); exact h)
        have HCE := Lib.hid (show ([Value.int .u64 (y1 : Int)] ++ ([lv]) : List Value).length = 2 by simp)
        have HSZ := Lib.hid (show (Tryz.prog.info? 56).map (·.size) = some ([Value.int .u64 (y1 : Int)] ++ ([lv]) : List Value).length by rw [HCE.out]; kernel_rfl)
        have HRR := Lib.hid (show RMt (fun b => gp < b) wr ([Value.int .u64 (y1 : Int)] ++ ([lv])) (y1, xs) from ⟨_, _, rfl, ⟨HW1.out, rfl⟩, ⟨lv, rfl, HSL.out.mono rep_Mo (fun b _ h => by omega)⟩⟩)
        have HOL := Lib.hid (rep_Mt.one HRR.out)
        go_wp2_with (first
          | (refine (ok_calls wr q a c B rr HR.out).mono ?_; rintro e wo ⟨rfl, rfl⟩)
          | (with_reducible refine wpList_load_blk rfl _ _ rfl gp ([Value.int .u64 (y1 : Int)] ++ ([lv])) rfl HKx.out _ Tryz.underlying56 rfl HSZ.out ?_)
          | ((with_reducible refine wpList_put rfl _ _ _ rfl w.heap.size ([Value.int .u64 (y1 : Int)] ++ ([lv])) _ rfl rfl KAF.out HSZ.out (zeroMt_len.trans HCE.out.symm) HOL.out (fun wz kz fz zz => ?_)); have KZ := Lib.hid kz; have FZ := Lib.hid fz; clear kz fz))
        have hxs := HD.out
        have hls := HLS2.out
        have hsz := HF.out.size
        refine bodyPost_ret (v := .agg ([Value.int .u64 (y1 : Int)] ++ ([lv])).toArray) (results_row1 Tryz.results43 _ _ w.heap.size _ _ rfl KZ.out Tryz.underlying56 rfl HSZ.out) rfl ⟨_, (y1, xs), rfl, rep_Mt.mono (rep_Mt.fr HRR.out FZ.out (fun b _ h (e : b = w.heap.size) => by omega)) (fun b _ h => by omega), ?_, ?_, F4.out.trans' FZ.out (fun k hk (e : k = w.heap.size) => by omega)⟩
        · exact fun h => by rw [hls.2, ← hxs.2 (by rw [hxs.1, ← hls.1]; exact h)]
        · have h6 := HR.out.frD HYr.out FZ.out (by omega) (fun k h => ⟨h.2, by have := h.1; omega⟩)
          rw [hxs.1, ← hls.1] at h6
          exact h6
set_option maxHeartbeats 8000000 in
set_option maxRecDepth 100000 in
theorem readMainTx_ref (D : Nat → Prop) (w : World) (a : Option Addr) (c : Nat) (B : List UInt8) (hB : Byt D w (.slice a B.length c) B) (hl : B.length ≤ 140737488355328) :
    Calls Tryz.prog 18 #[.slice a B.length c] w (GotT RMt w (got RDmt ((0 : Nat), ([] : List (Nat × List UInt8))) B)) := by
  have HB := Lib.hid hB
  obtain ⟨s, hs⟩ : ∃ s, RDmt ⟨B, 0⟩ = s := ⟨_, rfl⟩
  have HG := Lib.hid (show (s.1.fin = 0 → got RDmt ((0 : Nat), ([] : List (Nat × List UInt8))) B = (s.2, 0)) ∧ (¬ s.1.fin = 0 → got RDmt ((0 : Nat), ([] : List (Nat × List UInt8))) B = (((0 : Nat), ([] : List (Nat × List UInt8))), 120)) from ⟨fun h => by rw [got_yes (by rw [hs]; exact h), hs], fun h => by rw [got_no (by rw [hs]; exact h)]⟩)
  have HC := Lib.hid (fun w' q' h' => rfmt_calls w' q' a c B ⟨B, 0⟩ h' hl)
  rw [hs] at HC
  have hszT : ∀ cs : List Value, cs.length = 2 → (Tryz.prog.info? 56).map (·.size) = some cs.length := fun cs h => by rw [h]; kernel_rfl
  clear hB hs
  go_enter Tryz.func18, Tryz.ntmps18
  go_upto_region 1 with (first
    | ((with_reducible refine wpList_alloc rfl _ rfl _ (zeroMt _) (fun wa ka ca za => ?_)); have KA := Lib.hid ka; have CA := Lib.hid ca; clear ka ca))
  go_wp2_with fail
  refine (begin_calls _ wa a c B (HB.out.below CA.out)).mono ?_
  rintro e wb ⟨rfl, o1, o2⟩
  have O1 := Lib.hid o1
  have KA1 := Lib.hid (KA.out.below o2)
  have B1 := Lib.hid (CA.out.trans (o2.mono (by omega)))
  have hqw : w.heap.size < wa.heap.size := by omega
  have hsb := o2.size
  clear o1 o2 KA CA HB
  generalize wa.heap.size = q at *
  go_wp2_with fail
  refine (HC.out wb q O1.out).mono ?_
  rintro e wc ⟨cs, x, rfl, ox, oe, o1, o2⟩
  have HX := Lib.hid ox
  have HCL := Lib.hid (rep_Mt.len ox)
  have HC1 := Lib.hid (rep_Mt.one ox)
  have HSZ := Lib.hid (hszT cs (rep_Mt.len ox))
  have HXE := Lib.hid oe
  have O2 := Lib.hid o1
  have KA2 := Lib.hid (KA1.out.fr o2 (by omega))
  have B2 := Lib.hid (B1.out.trans (o2.below (B := w.heap.size) B1.out.size (fun k hk => by omega)))
  have hsc := o2.size
  clear ox oe o1 o2 HC KA1 B1 O1
  go_upto_region 3 with (first
    | ((with_reducible refine wpList_alloc rfl _ rfl _ (zeroMt _) (fun wd kd cd zd => ?_)); have KD := Lib.hid kd; have CD := Lib.hid cd; clear kd cd)
    | ((with_reducible refine wpList_put rfl _ _ _ rfl wc.heap.size cs _ rfl rfl KD.out HSZ.out (zeroMt_len.trans HCL.out.symm) HC1.out (fun we ke fe ze => ?_)); have KE := Lib.hid ke; have CE := Lib.hid (CD.out.trans (fe.below CD.out.size (fun k (hk : k = _) => by omega))); clear ke fe))
  have O3 := Lib.hid (O2.out.below CE.out)
  have KA3 := Lib.hid (KA2.out.below CE.out)
  have B3 := Lib.hid (B2.out.trans (CE.out.mono B2.out.size))
  have HX3 := Lib.hid (rep_Mt.below HX.out CE.out)
  clear O2 KA2 B2 HX KD CD CE
  go_wp2_with fail
  refine (ended_calls we q a c B _ O3.out).mono ?_
  rintro e wf ⟨rfl, o1⟩
  have KE4 := Lib.hid (KE.out.below o1)
  have KA4 := Lib.hid (KA3.out.below o1)
  have B4 := Lib.hid (B3.out.trans (o1.mono B3.out.size))
  have HX4 := Lib.hid (rep_Mt.below HX3.out o1)
  have hB4 := B4.out.size
  clear o1 O3 KE KA3 B3 HX3
  by_cases hf : s.1.fin = 0
  · have hf2 : finE s.1 = 0 := if_pos hf
    have HG2 := Lib.hid (HG.out.1 hf)
    have HXX := Lib.hid (HXE.out (fin_ok hf))
    rw [hf2]
    clear hf hf2 HG
    go_wp2_with (first
      | (with_reducible refine wpList_load_blk rfl _ _ rfl wc.heap.size cs rfl KE4.out _ Tryz.underlying56 rfl HSZ.out ?_)
      | ((with_reducible refine wpList_put rfl _ _ _ rfl w.heap.size cs _ rfl rfl KA4.out HSZ.out (zeroMt_len.trans HCL.out.symm) HC1.out (fun wi ki fi zi => ?_)); have KI := Lib.hid ki; have FI := Lib.hid fi; clear ki fi))
    refine bodyPost_ret (v := .tuple #[.agg cs.toArray, .int .i64 0]) (results_row2 Tryz.results18 _ _ w.heap.size _ _ rfl KI.out Tryz.underlying56 rfl HSZ.out _ rfl) rfl ?_
    rw [HG2.out, ← HXX.out]
    exact ⟨cs, rfl, rep_Mt.mono (rep_Mt.fr HX4.out FI.out (fun b _ h (e : b = w.heap.size) => by omega)) (fun b _ h => by omega), B4.out.trans (FI.out.below B4.out.size (fun k (hk : k = w.heap.size) => by omega))⟩
  · have hf2 : finE s.1 = 120 := if_neg hf
    have HG2 := Lib.hid (HG.out.2 hf)
    have HZL := Lib.hid (hszT ([Value.int .u64 0, .slice none 0 0]) zeroMt_len)
    rw [hf2]
    clear hf hf2 HG
    go_wp2_with (first
      | (with_reducible refine wpList_built rfl _ [] rfl ([Value.int .u64 0, .slice none 0 0]) (by kernel_rfl) ?_)
      | ((with_reducible refine wpList_put rfl _ _ _ rfl w.heap.size ([Value.int .u64 0, .slice none 0 0]) _ rfl rfl KA4.out HZL.out rfl zeroMt_one (fun wi ki fi zi => ?_)); have KI := Lib.hid ki; have FI := Lib.hid fi; clear ki fi))
    refine bodyPost_ret (v := .tuple #[.agg ([Value.int .u64 0, .slice none 0 0]).toArray, .int .i64 120]) (results_row2 Tryz.results18 _ _ w.heap.size _ _ rfl KI.out Tryz.underlying56 rfl HZL.out _ rfl) rfl ?_
    rw [HG2.out]
    exact ⟨_, rfl, zero_Mt _ _, B4.out.trans (FI.out.below B4.out.size (fun k (hk : k = w.heap.size) => by omega))⟩
end Go.Proofs.YtmenchnjajpkmaaGreatDoor.Rf
end

section
namespace Go.Proofs.YtmenchnjajpkmaaGreatDoor.MkW
open Go Go.RowKit Mem Sha ShaW Mk Arr
set_option linter.unusedVariables false

/-- a whole row is stored, inside a region that draws -/
theorem wp_store_blk {P : Program} {o : Oper} {a : Act} {w : World} {K : Act → World → Prop} {Q : Exit → Act → World → Prop} (ty : TypeId) (x y : Operand) (ho : o.op = .store ty x y)
    (g : Nat) (l old : List Value) (hx : a.eval x = .pointer (some ⟨g, 0, none⟩)) (hy : a.eval y = .agg l.toArray) {t : TypeId} (hB : Blk w g old t)
    (hi : (P.info? ty).map (·.size) = some l.length) (hl : old.length = l.length) (h1 : ∀ v ∈ l, v.oneCell' = true)
    (h : K (a.put o.dst undef) (w.setRow g l.toArray)) : o.wp P a w K Q :=
  wp_store_row ty x y ho g l.toArray hx hy t old.toArray hB (by simpa using hi) (by simpa using hl) (by rw [Array.all_eq_true']; intro v hv; exact h1 v (by simpa using hv)) h
/-- what Node keeps: its two digests, its result's block, a table -/
structure NS (w : World) (l r : Dg) (tab : Nat) (w' : World) : Prop where
  l' : Blk w' w.heap.size (l.map byt) 24
  r' : Blk w' (w.heap.size + 1) (r.map byt) 24
  z' : ∃ z : List Value, z.length = 32 ∧ Blk w' (w.heap.size + 1 + 1) z 24
  b' : Below w.heap.size w w'
  t' : TabB w' tab
theorem NS.below {w : World} {l r : Dg} {tab : Nat} {a b : World} (h : NS w l r tab a) (hb : Below a.heap.size a b) : NS w l r tab b :=
  ⟨h.l'.below hb, h.r'.below hb, (by obtain ⟨z, h1, h2⟩ := h.z'; exact ⟨z, h1, h2.below hb⟩), h.b'.trans (hb.mono h.b'.size), h.t'.below hb⟩
theorem NS.drew {w : World} {l r : Dg} {tab : Nat} {a : World} (h : NS w l r tab a) : NS w l r tab a.drew :=
  ⟨h.l', h.r', h.z', ⟨h.b'.os, h.b'.tape, h.b'.output, h.b'.size, h.b'.block⟩, h.t'⟩
theorem NS.store {w : World} {l r m : Dg} {tab : Nat} {a : World} (h : NS w l r tab a) (hm : m.length = 32) (ht : tab < w.heap.size) : NS w l r tab (a.setRow (w.heap.size + 1 + 1) (m.map byt).toArray) ∧ Blk (a.setRow (w.heap.size + 1 + 1) (m.map byt).toArray) (w.heap.size + 1 + 1) (m.map byt) 24 := by
  obtain ⟨z, h1, h2⟩ := h.z'
  have hf : Fr (fun k => k = w.heap.size + 1 + 1) a (a.setRow (w.heap.size + 1 + 1) (m.map byt).toArray) := (Fr.refl (fun k => k = w.heap.size + 1 + 1) a).setRow (.inr rfl) _
  exact ⟨⟨h.l'.fr hf (by omega), h.r'.fr hf (by omega), ⟨_, by simp [hm], h2.row _⟩, below_setRow h.b' (by omega) _, h.t'.fr hf (by omega)⟩, h2.row _⟩
theorem NS.alloc {w : World} {l r : Dg} {tab : Nat} {a : World} (h : NS w l r tab a) (o : Obj) : NS w l r tab (a.alloc o) := h.below ((Below.refl _ _).alloc (Nat.le_refl _) _)
theorem NS.start (w : World) (l r : Dg) (tab : Nat) (hT : TabB w tab) : ∃ W, ((w.alloc (.cells (l.map byt).toArray 24)).alloc (.cells (r.map byt).toArray 24)).alloc (.cells #[.int .u8 0, .int .u8 0, .int .u8 0, .int .u8 0, .int .u8 0, .int .u8 0, .int .u8 0, .int .u8 0, .int .u8 0, .int .u8 0, .int .u8 0, .int .u8 0, .int .u8 0, .int .u8 0, .int .u8 0, .int .u8 0, .int .u8 0, .int .u8 0, .int .u8 0, .int .u8 0, .int .u8 0, .int .u8 0, .int .u8 0, .int .u8 0, .int .u8 0, .int .u8 0, .int .u8 0, .int .u8 0, .int .u8 0, .int .u8 0, .int .u8 0, .int .u8 0] 24) = W ∧ Hid (NS w l r tab W) := by
  refine ⟨_, rfl, Lib.hid ⟨((Blk.new w _ _ _ rfl).alloc _).alloc _, ?_, ?_, ?_, ?_⟩⟩
  · have := (Blk.new (w.alloc (.cells (l.map byt).toArray 24)) (r.map byt).toArray 24 _ rfl)
    rw [World.size_alloc] at this
    exact this.alloc _
  · have := new32 ((w.alloc (.cells (l.map byt).toArray 24)).alloc (.cells (r.map byt).toArray 24))
    rw [World.size_alloc, World.size_alloc] at this
    exact ⟨_, rfl, this⟩
  · exact (((Below.refl _ _).alloc (Nat.le_refl _) _).alloc (by simp) _).alloc (by simp; omega) _
  · exact hT.below ((((Below.refl _ _).alloc (Nat.le_refl _) _).alloc (by simp) _).alloc (by simp; omega) _)

theorem blk_range {w : World} {b : Nat} {l : List Value} {e : TypeId} (h : Blk w b l e) : w.rangeAt b 0 l := fun j v hv => by rw [Nat.zero_add]; exact h.cell hv
set_option maxHeartbeats 4000000 in
set_option maxRecDepth 100000 in
theorem node_calls (w : World) (l r : Dg) (hl : l.length = 32) (hr : r.length = 32) (hT : TabB w 1) :
    Calls Tryz.prog 75 #[dv l, dv r] w fun e w' => e = .returned (dv (nodeD l r)) ∧ Below w.heap.size w w' := by
  obtain ⟨W, hW, HN⟩ := NS.start w l r 1 hT
  have HTL := Lib.hid (show 1 < w.heap.size from (Array.getElem?_eq_some_iff.1 hT.choose_spec.choose_spec).1)
  have HL := Lib.hid hl
  have HR := Lib.hid hr
  clear hT
  obtain ⟨m, hm⟩ : ∃ m, nodeD l r = m := ⟨_, rfl⟩
  have HML := Lib.hid (show m.length = 32 by rw [← hm]; exact nodeD_length l r)
  have HM := Lib.hid hm
  have HONE := Lib.hid (one_cells m)
  clear hm hl hr
  go_enter Tryz.func75, Tryz.ntmps75
  go_upto_region 1 with fail
  clear hW
  refine wp_region_held_drew (S := (fun w' => NS w l r 1 w')) (by kernel_rfl) HN.out.drew (fun hHeld => ?_)
  refine wpAnyH_take (i := 0) (oi := ⟨_, _, _, _, _, _⟩) (v := ?_) rfl (by kernel_rfl) (by kernel_rfl) (by kernel_rfl) (fun _ _ _ h => h) (Or.inl ⟨by rfl, ?_⟩) (by assumption) ?_
  rotate_left
  · intro w hSw; go_simp; try (with_reducible rfl)
  try simp only [Act.put, List.setIfInBounds_toArray, List.set_cons_zero, List.set_cons_succ]
  refine wpAnyH_take (i := 1) (oi := ⟨_, _, _, _, _, _⟩) (v := ?_) rfl (by kernel_rfl) (by kernel_rfl) (by kernel_rfl) (fun _ _ _ h => h) (Or.inl ⟨by rfl, ?_⟩) (by assumption) ?_
  rotate_left
  · intro w hSw; go_simp; try (with_reducible rfl)
  try simp only [Act.put, List.setIfInBounds_toArray, List.set_cons_zero, List.set_cons_succ]
  have hA : Byt Any _ (.slice (some ⟨w.heap.size, 0, none⟩) 32 32) l := hHeld.l'.byt HL.out (by unfold maxLen; omega) trivial
  have hB : Byt Any _ (.slice (some ⟨w.heap.size + 1, 0, none⟩) 32 32) r := hHeld.r'.byt HR.out (by unfold maxLen; omega) trivial
  have HBB := Lib.hid (byts_two _ _ _ l r 25 hA hB)
  clear hA hB
  refine wpAnyH_ready (rs := [2]) (by kernel_rfl) (by simp) ?_
  refine AllReadyH.cons (o := ⟨_, _, _, _, _, _⟩) rfl (fun K hK => ?_) AllReadyH.nil
  go_simp
  refine hK.out _ _ (by exact (NS.alloc hHeld _)) (fun hHeld => ?_)
  clear hK
  try simp only [Act.put, List.setIfInBounds_toArray, List.set_cons_zero, List.set_cons_succ]
  refine wpAnyH_ready (rs := [3]) (by kernel_rfl) (by simp) ?_
  refine AllReadyH.cons (o := ⟨_, _, _, _, _, _⟩) rfl (fun K hK => ?_) AllReadyH.nil
  go_simp
  refine (tagged_calls _ _ _ [l, r] HBB.out (by decide) (by simp [HL.out, HR.out]) (by simp) hHeld.t').mono ?_
  rintro e w2 ⟨rfl, g⟩
  rw [show tagged _ [l, r] = nodeD l r from rfl, HM.out]
  refine hK.out _ _ (by exact hHeld.below g) (fun hHeld => ?_)
  clear hK
  try simp only [Act.put, List.setIfInBounds_toArray, List.set_cons_zero, List.set_cons_succ]
  refine wpAnyH_ready (rs := [4]) (by kernel_rfl) (by simp) ?_
  refine AllReadyH.cons (o := ⟨_, _, _, _, _, _⟩) rfl (fun K hK => ?_) AllReadyH.nil
  obtain ⟨z, hz1, hz2⟩ := hHeld.z'
  rw [if_pos (by rfl)]
  refine wp_store_blk _ _ _ rfl (w.heap.size + 1 + 1) (m.map byt) z rfl rfl hz2 (szD' HML.out) (by rw [List.length_map, HML.out]; exact hz1) HONE.out ?_
  have hfin := (hHeld.store HML.out HTL.out).2
  refine hK.out _ _ (hHeld.store HML.out HTL.out).1 (fun hHeld => ?_)
  clear hK
  refine wpAnyH_done (by kernel_rfl) ?_ _
  go_wp2
  exact bodyPost_ret (v := dv m) (results_cell_row Tryz.results75 _ _ (w.heap.size + 1 + 1) 24 _ (0, 0) _ rfl hfin Tryz.underlying24 rfl (szD'' HML.out)) rfl ⟨by rw [HM.out], hHeld.b'⟩
set_option maxHeartbeats 4000000 in
set_option maxRecDepth 100000 in
theorem ref_node_calls (w : World) (l r : Dg) (hl : l.length = 32) (hr : r.length = 32) (hT : TabB w 0) :
    Calls Tryz.prog 40 #[dv l, dv r] w fun e w' => e = .returned (dv (nodeD l r)) ∧ Below w.heap.size w w' := by
  obtain ⟨W, hW, HN⟩ := NS.start w l r 0 hT
  have HTL := Lib.hid (show 0 < w.heap.size from (Array.getElem?_eq_some_iff.1 hT.choose_spec.choose_spec).1)
  have HL := Lib.hid hl
  have HR := Lib.hid hr
  clear hT
  obtain ⟨m, hm⟩ : ∃ m, nodeD l r = m := ⟨_, rfl⟩
  have HML := Lib.hid (show m.length = 32 by rw [← hm]; exact nodeD_length l r)
  have HM := Lib.hid hm
  have HONE := Lib.hid (one_cells m)
  clear hm hl hr
  go_enter Tryz.func40, Tryz.ntmps40
  go_upto_region 1 with fail
  clear hW
  refine wp_region_held_drew (S := (fun w' => NS w l r 0 w')) (by kernel_rfl) HN.out.drew (fun hHeld => ?_)
  refine wpAnyH_take (i := 0) (oi := ⟨_, _, _, _, _, _⟩) rfl (by kernel_rfl) (by kernel_rfl) (by kernel_rfl) (fun _ _ _ h => h) (yieldsIf_load_mid (by rfl) _ _ rfl (w.heap.size) 0 rfl (l.map byt) _ (fun _ h => blk_range h.l') Tryz.underlying24 rfl (szD' HL.out)) (by assumption) ?_
  try simp only [Act.put, List.setIfInBounds_toArray, List.set_cons_zero, List.set_cons_succ]
  refine wpAnyH_take (i := 2) (oi := ⟨_, _, _, _, _, _⟩) rfl (by kernel_rfl) (by kernel_rfl) (by kernel_rfl) (fun _ _ _ h => h) (yieldsIf_load_mid (by rfl) _ _ rfl (w.heap.size + 1) 0 rfl (r.map byt) _ (fun _ h => blk_range h.r') Tryz.underlying24 rfl (szD' HR.out)) (by assumption) ?_
  try simp only [Act.put, List.setIfInBounds_toArray, List.set_cons_zero, List.set_cons_succ]
  refine wpAnyH_ready (rs := [1]) (by kernel_rfl) (by simp) ?_
  refine AllReadyH.cons (o := ⟨_, _, _, _, _, _⟩) rfl (fun K hK => ?_) AllReadyH.nil
  go_simp
  refine (text_calls _ l HL.out).mono ?_
  rintro e w2 ⟨xa, xc, rfl, hO, g⟩
  refine hK.out _ _ (by exact hHeld.below g) (fun hHeld => ?_)
  clear hK
  try simp only [Act.put, List.setIfInBounds_toArray, List.set_cons_zero, List.set_cons_succ]
  have hA := hO.byt.any
  clear hO g
  refine wpAnyH_ready (rs := [3]) (by kernel_rfl) (by simp) ?_
  refine AllReadyH.cons (o := ⟨_, _, _, _, _, _⟩) rfl (fun K hK => ?_) AllReadyH.nil
  go_simp
  refine (text_calls _ r HR.out).mono ?_
  rintro e w3 ⟨ya, yc, rfl, hO, g⟩
  refine hK.out _ _ (by exact hHeld.below g) (fun hHeld => ?_)
  clear hK
  try simp only [Act.put, List.setIfInBounds_toArray, List.set_cons_zero, List.set_cons_succ]
  have HBB := Lib.hid (byts_two _ _ _ l r 25 (hA.below g) hO.byt.any)
  clear hA hO g
  refine wpAnyH_ready (rs := [4]) (by kernel_rfl) (by simp) ?_
  refine AllReadyH.cons (o := ⟨_, _, _, _, _, _⟩) rfl (fun K hK => ?_) AllReadyH.nil
  go_simp
  refine hK.out _ _ (by exact (NS.alloc hHeld _)) (fun hHeld => ?_)
  clear hK
  try simp only [Act.put, List.setIfInBounds_toArray, List.set_cons_zero, List.set_cons_succ]
  refine wpAnyH_ready (rs := [5]) (by kernel_rfl) (by simp) ?_
  refine AllReadyH.cons (o := ⟨_, _, _, _, _, _⟩) rfl (fun K hK => ?_) AllReadyH.nil
  go_simp
  refine (ref_tagged_calls _ _ _ [l, r] HBB.out (by decide) (by simp [HL.out, HR.out]) (by simp) hHeld.t').mono ?_
  rintro e w2 ⟨rfl, g⟩
  rw [show tagged _ [l, r] = nodeD l r from rfl, HM.out]
  refine hK.out _ _ (by exact hHeld.below g) (fun hHeld => ?_)
  clear hK
  try simp only [Act.put, List.setIfInBounds_toArray, List.set_cons_zero, List.set_cons_succ]
  refine wpAnyH_ready (rs := [6]) (by kernel_rfl) (by simp) ?_
  refine AllReadyH.cons (o := ⟨_, _, _, _, _, _⟩) rfl (fun K hK => ?_) AllReadyH.nil
  obtain ⟨z, hz1, hz2⟩ := hHeld.z'
  rw [if_pos (by rfl)]
  refine wp_store_blk _ _ _ rfl (w.heap.size + 1 + 1) (m.map byt) z rfl rfl hz2 (szD' HML.out) (by rw [List.length_map, HML.out]; exact hz1) HONE.out ?_
  have hfin := (hHeld.store HML.out HTL.out).2
  refine hK.out _ _ (hHeld.store HML.out HTL.out).1 (fun hHeld => ?_)
  clear hK
  refine wpAnyH_done (by kernel_rfl) ?_ _
  go_wp2
  exact bodyPost_ret (v := dv m) (results_cell_row Tryz.results40 _ _ (w.heap.size + 1 + 1) 24 _ (0, 0) _ rfl hfin Tryz.underlying24 rfl (szD'' HML.out)) rfl ⟨by rw [HM.out], hHeld.b'⟩
end Go.Proofs.YtmenchnjajpkmaaGreatDoor.MkW
end

section
namespace Go.Proofs.YtmenchnjajpkmaaGreatDoor.Shelf
open Go Go.Proofs Go.Shelf
def lays128_ren : Go.Shelf.Ren := ⟨fun | 128 => 117 | n => n, fun | 51 => 26 | 3 => 3 | 4 => 4 | 46 => 149 | 5 => 5 | 9 => 9 | n => n, fun | n => n⟩
theorem lays128 : Go.Proofs.Lays.n128 Tryz.prog lays128_ren := {
  mixed := by kernel_rfl
  f128 := Tryz.func117.trans (congrArg some (by kernel_rfl))
  t3 := Tryz.underlying3
  a3 := Tryz.isAgg3
  z3 := Tryz.sizeOf3
  v3 := Tryz.zeroValue3
  t4 := Tryz.underlying4
  a4 := Tryz.isAgg4
  z4 := Tryz.sizeOf4
  v4 := Tryz.zeroValue4
  t5 := Tryz.underlying5
  a5 := Tryz.isAgg5
  z5 := Tryz.sizeOf5
  v5 := Tryz.zeroValue5
  t9 := Tryz.underlying9
  a9 := Tryz.isAgg9
  z9 := Tryz.sizeOf9
  v9 := Tryz.zeroValue9
  t46 := Tryz.underlying149
  a46 := Tryz.isAgg149
  z46 := Tryz.sizeOf149
  v46 := Tryz.zeroValue149
  t51 := Tryz.underlying26
  a51 := Tryz.isAgg26
  z51 := Tryz.sizeOf26
  v51 := Tryz.zeroValue26 }
theorem bits_Len32 (x : Int) (w : World) (h0 : 0 ≤ x) (h1 : x ≤ 4294967295) :
    Calls Tryz.prog 117 #[.int .u32 x] w fun e w' => e = .returned (.int .i64 (Lib.bitLen x.toNat)) ∧ w' = w := Any.bits_Len32 lays128 x w h0 h1
def lays125_ren : Go.Shelf.Ren := ⟨fun | 125 => 110 | 128 => 117 | 129 => 118 | n => n, fun | 46 => 149 | 3 => 3 | 51 => 26 | 53 => 32 | 4 => 4 | 5 => 5 | 9 => 9 | n => n, fun | n => n⟩
theorem lays125 : Go.Proofs.Lays.n125 Tryz.prog lays125_ren := {
  mixed := by kernel_rfl
  f125 := Tryz.func110.trans (congrArg some (by kernel_rfl))
  f128 := Tryz.func117.trans (congrArg some (by kernel_rfl))
  f129 := Tryz.func118.trans (congrArg some (by kernel_rfl))
  t3 := Tryz.underlying3
  a3 := Tryz.isAgg3
  z3 := Tryz.sizeOf3
  v3 := Tryz.zeroValue3
  t4 := Tryz.underlying4
  a4 := Tryz.isAgg4
  z4 := Tryz.sizeOf4
  v4 := Tryz.zeroValue4
  t5 := Tryz.underlying5
  a5 := Tryz.isAgg5
  z5 := Tryz.sizeOf5
  v5 := Tryz.zeroValue5
  t9 := Tryz.underlying9
  a9 := Tryz.isAgg9
  z9 := Tryz.sizeOf9
  v9 := Tryz.zeroValue9
  t46 := Tryz.underlying149
  a46 := Tryz.isAgg149
  z46 := Tryz.sizeOf149
  v46 := Tryz.zeroValue149
  t51 := Tryz.underlying26
  a51 := Tryz.isAgg26
  z51 := Tryz.sizeOf26
  v51 := Tryz.zeroValue26
  t53 := Tryz.underlying32
  a53 := Tryz.isAgg32
  z53 := Tryz.sizeOf32
  v53 := Tryz.zeroValue32 }
theorem bits_Len (x : Int) (w : World) (h0 : 0 ≤ x) (h1 : x ≤ 18446744073709551615) :
    Calls Tryz.prog 110 #[.int .u64 x] w fun e w' => e = .returned (.int .i64 (Lib.bitLen x.toNat)) ∧ w' = w := Any.bits_Len lays125 x w h0 h1
def lays129_ren : Go.Shelf.Ren := ⟨fun | 129 => 118 | n => n, fun | 53 => 32 | 3 => 3 | 4 => 4 | 46 => 149 | 5 => 5 | 9 => 9 | n => n, fun | n => n⟩
theorem lays129 : Go.Proofs.Lays.n129 Tryz.prog lays129_ren := {
  mixed := by kernel_rfl
  f129 := Tryz.func118.trans (congrArg some (by kernel_rfl))
  t3 := Tryz.underlying3
  a3 := Tryz.isAgg3
  z3 := Tryz.sizeOf3
  v3 := Tryz.zeroValue3
  t4 := Tryz.underlying4
  a4 := Tryz.isAgg4
  z4 := Tryz.sizeOf4
  v4 := Tryz.zeroValue4
  t5 := Tryz.underlying5
  a5 := Tryz.isAgg5
  z5 := Tryz.sizeOf5
  v5 := Tryz.zeroValue5
  t9 := Tryz.underlying9
  a9 := Tryz.isAgg9
  z9 := Tryz.sizeOf9
  v9 := Tryz.zeroValue9
  t46 := Tryz.underlying149
  a46 := Tryz.isAgg149
  z46 := Tryz.sizeOf149
  v46 := Tryz.zeroValue149
  t53 := Tryz.underlying32
  a53 := Tryz.isAgg32
  z53 := Tryz.sizeOf32
  v53 := Tryz.zeroValue32 }
theorem bits_Len64 (x : Int) (w : World) (h0 : 0 ≤ x) (h1 : x ≤ 18446744073709551615) :
    Calls Tryz.prog 118 #[.int .u64 x] w fun e w' => e = .returned (.int .i64 (Lib.bitLen x.toNat)) ∧ w' = w := Any.bits_Len64 lays129 x w h0 h1
end Go.Proofs.YtmenchnjajpkmaaGreatDoor.Shelf
end

section
namespace Go.Proofs.YtmenchnjajpkmaaGreatDoor.MkW
open Go Go.RowKit Mem Sha ShaW Mk Arr
set_option linter.unusedVariables false

set_option maxHeartbeats 4000000 in
theorem cut_calls (n : Nat) (w : World) (h : 2 ≤ n) (h2 : n < 9223372036854775808) :
    Calls Tryz.prog 99 #[.int .i64 (n : Int)] w fun e w' => e = .returned (.int .i64 (cutN n : Int)) ∧ w = w' := by
  have hcv : IntKind.u64.wrap ((n : Int) - 1) = (n : Int) - 1 := by rw [IntKind.wrap_u64]; omega
  obtain ⟨b1, b2, b3⟩ := bitLenAux_bounds 64 (n - 1) (by omega) (by omega)
  have e0 : ((n : Int) - 1).toNat = n - 1 := by omega
  have hcut : cutN n = 2 ^ (Lib.bitLen (n - 1) - 1) := rfl
  have HC := Lib.hid hcut
  clear hcut
  go_enter Tryz.func99, Tryz.ntmps99
  go_wp2_with fail
  refine (Shelf.bits_Len _ w (by omega) (by omega)).mono ?_
  rintro e w' ⟨rfl, rfl⟩
  rw [e0]
  have hb : Lib.bitLenAux 64 (n - 1) = Lib.bitLen (n - 1) := rfl
  rw [hb] at b1 b2 b3
  obtain ⟨c, hc⟩ : ∃ c, Lib.bitLen (n - 1) = c + 1 := ⟨Lib.bitLen (n - 1) - 1, by omega⟩
  rw [hc] at b2 b3 HC ⊢
  have hc63 : c < 63 := by
    rcases Nat.lt_or_ge c 63 with h | h
    · exact h
    · have := Nat.pow_le_pow_right (n := 2) (by omega) h
      rw [show c + 1 - 1 = c from rfl] at b2; omega
  clear hc e0 hb hcv b1
  go_wp2
  go_ret
  rw [show c + 1 - 1 = c from rfl] at b2
  refine ⟨ret_int ?_, rfl⟩
  rw [HC.out, show c + 1 - 1 = c from rfl, Int.natCast_pow]
  refine IntWalk.wrap64_in _ ⟨?_, ?_⟩
  · exact Int.le_trans (by decide) (Int.le_of_lt (Int.pow_pos (by decide)))
  · have hp : (2 : Nat) ^ c ≤ 9223372036854775807 := by omega
    have hp2 : (((2 : Nat) ^ c : Nat) : Int) ≤ 9223372036854775807 := by omega
    rw [Int.natCast_pow] at hp2
    exact hp2
theorem pow_unique {a b n : Nat} (h1 : 2 ^ a < n) (h2 : n ≤ 2 * 2 ^ a) (h3 : 2 ^ b < n) (h4 : n ≤ 2 * 2 ^ b) : a = b := by
  rcases Nat.lt_trichotomy a b with h | h | h
  · have := Nat.pow_le_pow_right (n := 2) (by omega) h
    rw [Nat.pow_succ] at this; omega
  · exact h
  · have := Nat.pow_le_pow_right (n := 2) (by omega) h
    rw [Nat.pow_succ] at this; omega
set_option maxHeartbeats 4000000 in
theorem ref_cut_calls (n : Nat) (w : World) (h : 2 ≤ n) (h2 : n < 4611686018427387904) :
    Calls Tryz.prog 39 #[.int .i64 (n : Int)] w fun e w' => e = .returned (.int .i64 (cutN n : Int)) ∧ w = w' := by
  obtain ⟨c1, c2, c3⟩ := cutN_bounds h (by omega)
  have hcut : cutN n = 2 ^ (Lib.bitLen (n - 1) - 1) := rfl
  have HC := Lib.hid hcut
  clear hcut
  go_enter Tryz.func39, Tryz.ntmps39
  go_wp2
  go_loop [3] (fun v => ∃ k j : Nat, v = .int .i64 (k : Int) ∧ k = 2 ^ j ∧ k < n) (fun v => n - (intOf v).toNat)
  case atStart => exact ⟨1, 0, rfl, rfl, by omega⟩
  case round =>
    obtain ⟨k, j, rfl, hk, hkn⟩ := hrel
    have hk1 : 1 ≤ k := by rw [hk]; exact Nat.one_le_two_pow
    have HK := Lib.hid hk
    clear hk
    by_cases hlt : 2 * k < n
    · have hI : 2 * (k : Int) < (n : Int) := by omega
      go_wp2
      go_round
      case rel => exact ⟨2 * k, j + 1, by go_num, by rw [HK.out, Nat.pow_succ]; omega, hlt⟩
      case measure => simp [intOf]; omega
    · have hI : ¬ 2 * (k : Int) < (n : Int) := by omega
      go_wp2
      go_ret
      have hj := HK.out
      have hC := HC.out
      have : j = Lib.bitLen (n - 1) - 1 := pow_unique (n := n) (by omega) (by omega) (by omega) (by omega)
      exact ⟨ret_int (by rw [hC, ← this, ← hj]), rfl⟩
end Go.Proofs.YtmenchnjajpkmaaGreatDoor.MkW
end

section
namespace Go.Proofs.YtmenchnjajpkmaaGreatDoor.MkW
open Go Go.RowKit Mem Sha ShaW Mk Arr
set_option linter.unusedVariables false

set_option maxRecDepth 100000 in
theorem elemD : ElemT Tryz.prog 27 24 (.agg #[.int .u8 0, .int .u8 0, .int .u8 0, .int .u8 0, .int .u8 0, .int .u8 0, .int .u8 0, .int .u8 0, .int .u8 0, .int .u8 0, .int .u8 0, .int .u8 0, .int .u8 0, .int .u8 0, .int .u8 0, .int .u8 0, .int .u8 0, .int .u8 0, .int .u8 0, .int .u8 0, .int .u8 0, .int .u8 0, .int .u8 0, .int .u8 0, .int .u8 0, .int .u8 0, .int .u8 0, .int .u8 0, .int .u8 0, .int .u8 0, .int .u8 0, .int .u8 0]) 32 32 :=
  ⟨Tryz.underlying27, ⟨_, rfl, rfl, rfl, rfl⟩, rfl, by omega⟩
/-- digests as cells -/
abbrev dcs (ds : List Dg) : List (List Value) := ds.map (fun d => d.map byt)
theorem dcs_len {ds : List Dg} (h : ∀ d ∈ ds, d.length = 32) : ∀ x ∈ dcs ds, x.length = 32 := by
  intro x hx; obtain ⟨d, hd, rfl⟩ := List.mem_map.1 hx; rw [List.length_map]; exact h d hd
/-- what Root keeps: its digests, its result's block, a table -/
structure RS (w : World) (v : Value) (ds : List Dg) (tab : Nat) (w' : World) : Prop where
  a' : Arr 32 (fun b => b < w.heap.size) w' v (dcs ds)
  z' : ∃ z : List Value, z.length = 32 ∧ Blk w' w.heap.size z 24
  b' : Below w.heap.size w w'
  t' : TabB w' tab
theorem RS.below {w : World} {v : Value} {ds : List Dg} {tab : Nat} {a b : World} (h : RS w v ds tab a) (hb : Below a.heap.size a b) : RS w v ds tab b :=
  ⟨h.a'.below (by omega) hb, (by obtain ⟨z, h1, h2⟩ := h.z'; exact ⟨z, h1, h2.below hb⟩), h.b'.trans (hb.mono h.b'.size), h.t'.below hb⟩
theorem RS.drew {w : World} {v : Value} {ds : List Dg} {tab : Nat} {a : World} (h : RS w v ds tab a) : RS w v ds tab a.drew := ⟨h.a', h.z', ⟨h.b'.os, h.b'.tape, h.b'.output, h.b'.size, h.b'.block⟩, h.t'⟩
theorem RS.start {w : World} {v : Value} {ds : List Dg} {tab : Nat} (hA : Arr 32 Any w v (dcs ds)) (hT : TabB w tab) : ∃ W, w.alloc (.cells #[.int .u8 0, .int .u8 0, .int .u8 0, .int .u8 0, .int .u8 0, .int .u8 0, .int .u8 0, .int .u8 0, .int .u8 0, .int .u8 0, .int .u8 0, .int .u8 0, .int .u8 0, .int .u8 0, .int .u8 0, .int .u8 0, .int .u8 0, .int .u8 0, .int .u8 0, .int .u8 0, .int .u8 0, .int .u8 0, .int .u8 0, .int .u8 0, .int .u8 0, .int .u8 0, .int .u8 0, .int .u8 0, .int .u8 0, .int .u8 0, .int .u8 0, .int .u8 0] 24) = W ∧ Hid (RS w v ds tab W) :=
  ⟨_, rfl, Lib.hid ⟨(hA.mono (by omega) (fun b h _ => h)).below (by omega) ((Below.refl _ _).alloc (Nat.le_refl _) _), ⟨_, rfl, new32 w⟩, (Below.refl _ _).alloc (Nat.le_refl _) _, hT.below ((Below.refl _ _).alloc (Nat.le_refl _) _)⟩⟩
theorem RS.store {w : World} {v : Value} {ds : List Dg} {m : Dg} {tab : Nat} {a : World} (h : RS w v ds tab a) (hm : m.length = 32) (ht : tab < w.heap.size) : RS w v ds tab (a.setRow w.heap.size (m.map byt).toArray) := by
  obtain ⟨z, h1, h2⟩ := h.z'
  have hf : Fr (fun k => k = w.heap.size) a (a.setRow w.heap.size (m.map byt).toArray) := (Fr.refl (fun k => k = w.heap.size) a).setRow (.inr rfl) _
  exact ⟨h.a'.fr (by omega) hf (fun b _ h e => by omega), ⟨_, by simp [hm], h2.row _⟩, below_setRow h.b' (Nat.le_refl _) _, h.t'.fr hf (by omega)⟩
theorem dcs_take (ds : List Dg) (k : Nat) : dcs (ds.take k) = (dcs ds).take k := by simp [dcs, List.map_take]
theorem dcs_drop (ds : List Dg) (k : Nat) : dcs (ds.drop k) = (dcs ds).drop k := by simp [dcs, List.map_drop]

set_option maxHeartbeats 8000000 in
set_option maxRecDepth 100000 in
theorem ref_root_calls (n : Nat) : ∀ (w : World) (v : Value) (ds : List Dg), ds.length = n → Arr 32 Any w v (dcs ds) → (∀ d ∈ ds, d.length = 32) → TabB w 0 → ds.length ≤ 4398046511104 →
    Calls Tryz.prog 14 #[v] w fun e w' => e = .returned (dv (root ds)) ∧ Below w.heap.size w w' := by
  induction n using Nat.strongRecOn with
  | ind n ih =>
  intro w v ds hn hA hD hT hbd
  subst hn
  obtain ⟨a, c, rfl, hk1, hk2, hk3⟩ := hA.form
  simp only [List.length_map] at hA hk1 ⊢
  have HTL := Lib.hid (show 0 < w.heap.size from (Array.getElem?_eq_some_iff.1 hT.choose_spec.choose_spec).1)
  obtain ⟨W, hW, HN⟩ := RS.start hA hT
  obtain ⟨m, hm⟩ : ∃ m, root ds = m := ⟨_, rfl⟩
  have HML := Lib.hid (show m.length = 32 by rw [← hm]; exact root_length _ ds rfl hD)
  have HM := Lib.hid hm
  have HONE := Lib.hid (one_cells m)
  have HD := Lib.hid hD
  clear hT hA hm hD
  by_cases h0 : ds = []
  · subst h0
    clear ih
    simp only [List.length_nil] at HN ⊢
    go_enter Tryz.func14, Tryz.ntmps14
    go_wp2_with fail
    clear hW
    refine (ref_tagged_calls _ _ _ [] ⟨none, 0, rfl, ⟨Nat.le_refl _, Nat.zero_le _, fun _ => rfl⟩, .inl rfl⟩ (by decide) (by simp) (by simp) HN.out.t').mono ?_
    rintro e w2 ⟨rfl, g⟩
    have HN2 := Lib.hid (HN.out.below g)
    rw [show tagged _ [] = root [] from root_nil.symm, HM.out]
    obtain ⟨z, hz1, hz2⟩ := HN2.out.z'
    have HZ := Lib.hid hz2
    have HZ1 := Lib.hid hz1
    clear hz1 hz2 g
    go_wp2_with (with_reducible refine wpList_store_blk rfl _ _ _ rfl w.heap.size (m.map byt) _ rfl _ rfl rfl HZ.out (szD' HML.out) (by simp [HML.out, HZ1.out]) HONE.out ?_)
    exact bodyPost_ret (v := dv m) (results_cell_row Tryz.results14 _ _ w.heap.size 24 _ (0, 0) _ rfl (HZ.out.row _) Tryz.underlying24 rfl (szD'' HML.out)) rfl ⟨by rw [HM.out], below_setRow HN2.out.b' (Nat.le_refl _) _⟩
  · by_cases h1 : ds.length = 1
    · obtain ⟨d, rfl⟩ : ∃ d, ds = [d] := List.length_eq_one_iff.1 h1
      clear ih
      have hd : m = d := by rw [← HM.out, root_one]
      subst hd
      obtain ⟨b, off, cap, he, _, hr⟩ := HN.out.a'.at 0 (by simp)
      simp only [List.length_map, Value.slice.injEq] at he
      obtain ⟨rfl, _, rfl⟩ := he
      simp only [Nat.zero_mul, Nat.add_zero, List.map_cons, List.getElem_cons_zero] at hr
      have HRG := Lib.hid hr
      obtain ⟨z, hz1, hz2⟩ := HN.out.z'
      have HZ := Lib.hid hz2
      have HZ1 := Lib.hid hz1
      have HSZ := Lib.hid (szD' HML.out)
      clear hr hz1 hz2 h0 h1
      simp only [List.length_singleton] at HN ⊢
      go_enter Tryz.func14, Tryz.ntmps14
      go_wp2_with (first
        | (with_reducible refine wpList_load_mid rfl _ _ rfl b off rfl (m.map byt) _ HRG.out Tryz.underlying24 rfl HSZ.out ?_)
        | (with_reducible refine wpList_store_blk rfl _ _ _ rfl w.heap.size (m.map byt) _ rfl _ rfl rfl HZ.out HSZ.out (by simp [HML.out, HZ1.out]) HONE.out ?_))
      exact bodyPost_ret (v := dv m) (results_cell_row Tryz.results14 _ _ w.heap.size 24 _ (0, 0) _ rfl (HZ.out.row _) Tryz.underlying24 rfl (szD'' HML.out)) rfl ⟨by rw [HM.out], below_setRow HN.out.b' (Nat.le_refl _) _⟩
    · have h2 : 2 ≤ ds.length := by
        rcases ds with _ | ⟨x, _ | ⟨y, r⟩⟩
        · exact absurd rfl h0
        · exact absurd rfl h1
        · simp
      have hcb := cutN_bounds h2 (by omega)
      have hce := cutAt_eq h2 (by omega)
      have HRT := Lib.hid (root_many h2)
      rw [hce] at HRT
      have HD1 := Lib.hid (fun d hd => HD.out d (List.mem_of_mem_take hd) : ∀ d ∈ ds.take (cutN ds.length), d.length = 32)
      have HD2 := Lib.hid (fun d hd => HD.out d (List.mem_of_mem_drop hd) : ∀ d ∈ ds.drop (cutN ds.length), d.length = 32)
      have HR1 := Lib.hid (root_length _ _ rfl HD1.out)
      have HR2 := Lib.hid (root_length _ _ rfl HD2.out)
      obtain ⟨sa, sc, _, hs1, _, ha1⟩ := run_slice_arr elemD HN.out.a' 0 (cutN ds.length) (Nat.zero_le _) (by simp; omega)
      have hs1 := hs1 rfl
      rw [List.drop_zero] at ha1
      simp only [Nat.sub_zero] at hs1 ha1
      obtain ⟨sb, sd, _, _, hs2, ha2⟩ := run_slice_arr elemD HN.out.a' (cutN ds.length) (dcs ds).length (by simp; omega) (Nat.le_refl _)
      have hs2 := hs2 rfl
      rw [List.take_length] at ha2
      simp only [List.length_map] at hs2 ha2
      
      have HA1 := Lib.hid (show Arr 32 Any W (.slice sa (cutN ds.length) sc) (dcs (ds.take (cutN ds.length))) by rw [dcs_take]; exact ha1.any)
      have HA2 := Lib.hid (show Arr 32 Any W (.slice sb (ds.length - cutN ds.length) sd) (dcs (ds.drop (cutN ds.length))) by rw [dcs_drop]; exact ha2.any)
      have hcI : (0 : Int) ≤ (cutN ds.length : Int) := by omega
      have HI := Lib.hid ih
      have hl0 : ((ds.length : Int) == 0) = false := by simp; omega
      have hl1 : ((ds.length : Int) == 1) = false := by simp; omega
      clear ha1 ha2 hce h0 h1 ih
      go_enter Tryz.func14, Tryz.ntmps14
      go_wp2_with fail
      refine (ref_cut_calls _ _ h2 (by omega)).mono ?_
      rintro e w2 ⟨rfl, rfl⟩
      have ih := HI.out
      clear hW HI
      go_upto_region 6 with fail
      refine wp_region_held_drew (S := (fun w' => RS w (.slice a ds.length c) ds 0 w')) (by kernel_rfl) HN.out.drew (fun hHeld => ?_)
      refine wpAnyH_take (i := 0) (oi := ⟨_, _, _, _, _, _⟩) (v := ?_) rfl (by kernel_rfl) (by kernel_rfl) (by kernel_rfl) (fun _ _ _ h => h) (Or.inl ⟨by rfl, ?_⟩) (by assumption) ?_
      rotate_left
      · intro w hSw; go_simp; try (with_reducible rfl)
      try simp only [Act.put, List.setIfInBounds_toArray, List.set_cons_zero, List.set_cons_succ]
      refine wpAnyH_take (i := 1) (oi := ⟨_, _, _, _, _, _⟩) (v := ?_) rfl (by kernel_rfl) (by kernel_rfl) (by kernel_rfl) (fun _ _ _ h => h) (Or.inl ⟨by rfl, ?_⟩) (by assumption) ?_
      rotate_left
      · intro w hSw; go_simp; try (with_reducible rfl)
      try simp only [Act.put, List.setIfInBounds_toArray, List.set_cons_zero, List.set_cons_succ]
      refine wpAnyH_take (i := 2) (oi := ⟨_, _, _, _, _, _⟩) (v := ?_) rfl (by kernel_rfl) (by kernel_rfl) (by kernel_rfl) (fun _ _ _ h => h) (Or.inl ⟨by rfl, ?_⟩) (by assumption) ?_
      rotate_left
      · intro w hSw; go_simp; try (with_reducible rfl)
      try simp only [Act.put, List.setIfInBounds_toArray, List.set_cons_zero, List.set_cons_succ]
      refine wpAnyH_take (i := 4) (oi := ⟨_, _, _, _, _, _⟩) (v := ?_) rfl (by kernel_rfl) (by kernel_rfl) (by kernel_rfl) (fun _ _ _ h => h) (Or.inl ⟨by rfl, ?_⟩) (by assumption) ?_
      rotate_left
      · intro w hSw; go_simp; try (with_reducible rfl)
      try simp only [Act.put, List.setIfInBounds_toArray, List.set_cons_zero, List.set_cons_succ]
      refine wpAnyH_take (i := 5) (oi := ⟨_, _, _, _, _, _⟩) (v := ?_) rfl (by kernel_rfl) (by kernel_rfl) (by kernel_rfl) (fun _ _ _ h => h) (Or.inl ⟨by rfl, ?_⟩) (by assumption) ?_
      rotate_left
      · intro w hSw; go_simp; try (with_reducible rfl)
      try simp only [Act.put, List.setIfInBounds_toArray, List.set_cons_zero, List.set_cons_succ]
      refine wpAnyH_take (i := 6) (oi := ⟨_, _, _, _, _, _⟩) (v := ?_) rfl (by kernel_rfl) (by kernel_rfl) (by kernel_rfl) (fun _ _ _ h => h) (Or.inl ⟨by rfl, ?_⟩) (by assumption) ?_
      rotate_left
      · intro w hSw; go_simp; try (with_reducible rfl)
      try simp only [Act.put, List.setIfInBounds_toArray, List.set_cons_zero, List.set_cons_succ]
      have hBW : Below W.heap.size W W.drew := (Below.refl _ _).drew
      refine wpAnyH_ready (rs := [3]) (by kernel_rfl) (by simp) ?_
      refine AllReadyH.cons (o := ⟨_, _, _, _, _, _⟩) rfl (fun K hK => ?_) AllReadyH.nil
      go_simp
      refine (ih _ (by simp; omega) _ _ (ds.take (cutN ds.length)) rfl (HA1.out.below (by omega) hBW) HD1.out hHeld.t' (by simp; omega)).mono ?_
      rintro e w2 ⟨rfl, g⟩
      refine hK.out _ _ (by exact hHeld.below g) (fun hHeld => ?_)
      clear hK
      try simp only [Act.put, List.setIfInBounds_toArray, List.set_cons_zero, List.set_cons_succ]
      replace hBW := hBW.trans (g.mono hBW.size)
      clear g
      refine wpAnyH_ready (rs := [7]) (by kernel_rfl) (by simp) ?_
      refine AllReadyH.cons (o := ⟨_, _, _, _, _, _⟩) rfl (fun K hK => ?_) AllReadyH.nil
      go_simp
      refine (ih _ (by simp; omega) _ _ (ds.drop (cutN ds.length)) rfl (HA2.out.below (by omega) hBW) HD2.out hHeld.t' (by simp; omega)).mono ?_
      rintro e w2 ⟨rfl, g⟩
      refine hK.out _ _ (by exact hHeld.below g) (fun hHeld => ?_)
      clear hK
      try simp only [Act.put, List.setIfInBounds_toArray, List.set_cons_zero, List.set_cons_succ]
      clear g
      refine wpAnyH_ready (rs := [8]) (by kernel_rfl) (by simp) ?_
      refine AllReadyH.cons (o := ⟨_, _, _, _, _, _⟩) rfl (fun K hK => ?_) AllReadyH.nil
      go_simp
      refine (ref_node_calls _ (root (ds.take (cutN ds.length))) (root (ds.drop (cutN ds.length))) HR1.out HR2.out hHeld.t').mono ?_
      rintro e w2 ⟨rfl, g⟩
      rw [← HRT.out, HM.out]
      refine hK.out _ _ (by exact hHeld.below g) (fun hHeld => ?_)
      clear hK
      try simp only [Act.put, List.setIfInBounds_toArray, List.set_cons_zero, List.set_cons_succ]
      refine wpAnyH_ready (rs := [9]) (by kernel_rfl) (by simp) ?_
      refine AllReadyH.cons (o := ⟨_, _, _, _, _, _⟩) rfl (fun K hK => ?_) AllReadyH.nil
      obtain ⟨z, hz1, hz2⟩ := hHeld.z'
      rw [if_pos (by rfl)]
      refine wp_store_blk _ _ _ rfl w.heap.size (m.map byt) z rfl rfl hz2 (szD' HML.out) (by rw [List.length_map, HML.out]; exact hz1) HONE.out ?_
      have hfin : Blk _ w.heap.size (m.map byt) 24 := hz2.row (m.map byt)
      have hbl := below_setRow hHeld.b' (Nat.le_refl w.heap.size) (m.map byt).toArray
      refine hK.out _ _ (hHeld.store HML.out HTL.out) (fun hHeld => ?_)
      clear hK
      refine wpAnyH_done (by kernel_rfl) ?_ _
      go_wp2
      exact bodyPost_ret (v := dv m) (results_cell_row Tryz.results14 _ _ w.heap.size 24 _ (0, 0) _ rfl hfin Tryz.underlying24 rfl (szD'' HML.out)) rfl ⟨by rw [HM.out], hbl⟩
end Go.Proofs.YtmenchnjajpkmaaGreatDoor.MkW
end

section
namespace Go.Proofs.YtmenchnjajpkmaaGreatDoor.MkW
open Go Go.RowKit Mem Sha ShaW Mk Arr
set_option linter.unusedVariables false

end Go.Proofs.YtmenchnjajpkmaaGreatDoor.MkW
end

section
namespace Go.Proofs.YtmenchnjajpkmaaGreatDoor.MkW
open Go Go.RowKit Mem Sha ShaW Mk Arr Row
set_option linter.unusedVariables false

/-- what Path keeps from round to round -/
structure PR (w : World) (ds0 : List Dg) (p0 : Nat) (tab : Nat) (v : Value) (ls : List Dg) (p : Nat) (dv' : Value) (down : List Dg) (wx : World) : Prop where
  a' : Arr 32 (fun b => b < w.heap.size) wx v (dcs ls)
  l' : ∀ d ∈ ls, d.length = 32
  o' : OwnA 32 w.heap.size 24 wx dv' (dcs down)
  d' : ∀ d ∈ down, d.length = 32
  p' : p < ls.length
  n' : ls.length + down.length ≤ ds0.length
  e' : path ds0 p0 = path ls p ++ down.reverse
  b' : Below w.heap.size w wx
  t' : TabB wx tab
  h' : tab < w.heap.size
def sliceLen : Value → Nat
  | .slice _ n _ => n
  | _ => 0
theorem dcs_one {ds : List Dg} : ∀ x ∈ dcs ds, ∀ c ∈ x, c.oneCell' = true := by
  intro x hx c hc
  obtain ⟨d, _, rfl⟩ := List.mem_map.1 hx
  obtain ⟨b, _, rfl⟩ := List.mem_map.1 hc
  rfl

set_option maxHeartbeats 4000000 in
set_option maxRecDepth 100000 in
theorem ref_path_none (w : World) (v : Value) (ds : List Dg) (hA : Arr 32 Any w v (dcs ds)) (hn : ds.length ≤ 4398046511104) (p : Int) (hp : p < 0 ∨ (ds.length : Int) ≤ p) :
    Calls Tryz.prog 17 #[v, .int .i64 p] w fun e w' => e = .returned (.tuple #[.slice none 0 0, .bool false]) ∧ w = w' := by
  obtain ⟨a, c, rfl, hk1, hk2, hk3⟩ := hA.form
  simp only [List.length_map] at hA hk1 ⊢
  clear hA
  by_cases h0 : p < 0
  · go_enter Tryz.func17, Tryz.ntmps17
    go_wp2
    go_ret2
    exact ⟨rfl, rfl⟩
  · have h1 : (ds.length : Int) ≤ p := by omega
    go_enter Tryz.func17, Tryz.ntmps17
    go_wp2
    go_ret2
    exact ⟨rfl, rfl⟩
end Go.Proofs.YtmenchnjajpkmaaGreatDoor.MkW
end

section
namespace Go.Proofs.YtmenchnjajpkmaaGreatDoor.MkW
open Go Go.RowKit Mem Sha ShaW Mk Arr Row
set_option linter.unusedVariables false

theorem path_le : ∀ (ds : List Dg) (p : Nat), (path ds p).length ≤ ds.length := by
  have key : ∀ (n : Nat) (ds : List Dg) (p : Nat), ds.length = n → (path ds p).length ≤ n - 1 := by
    intro n
    induction n using Nat.strongRecOn with
    | ind n ih =>
      intro ds p hn
      by_cases h : ds.length ≤ 1
      · rw [path_one h]; simp
      · have hc := cutAt_lt (n := n) (by omega)
        by_cases hp : p < cutAt ds.length
        · rw [path_left (by omega) hp, List.length_append, List.length_singleton, hn]
          have := ih (cutAt n) hc.2 (ds.take (cutAt n)) p (by simp; omega)
          omega
        · rw [path_right (by omega) hp, List.length_append, List.length_singleton, hn]
          have := ih (n - cutAt n) (by omega) (ds.drop (cutAt n)) (p - cutAt n) (by simp; omega)
          omega
  intro ds p
  have := key _ ds p rfl
  omega

set_option maxHeartbeats 8000000 in
set_option maxRecDepth 100000 in
theorem ref_path_calls (n : Nat) : ∀ (w : World) (v : Value) (ds : List Dg), ds.length = n → Arr 32 Any w v (dcs ds) → (∀ d ∈ ds, d.length = 32) → TabB w 0 → ds.length ≤ 4398046511104 → ∀ p : Nat, p < ds.length →
    Calls Tryz.prog 17 #[v, .int .i64 (p : Int)] w fun e w' => ∃ v', e = .returned (.tuple #[v', .bool true]) ∧ Arr 32 (fun b => w.heap.size ≤ b) w' v' (dcs (path ds p)) ∧ Below w.heap.size w w' := by
  induction n using Nat.strongRecOn with
  | ind n ih0 =>
  intro w v ds hn hA hD hT hbd p hp
  subst hn
  obtain ⟨a, c, rfl, hk1, hk2, hk3⟩ := hA.form
  simp only [List.length_map] at hA hk1 ⊢
  have HT := Lib.hid hT
  have h0 : ((p : Int) < 0) = False := by simp
  have hpI : (p : Int) < (ds.length : Int) := by omega
  by_cases h1 : ds.length = 1
  · have HE := Lib.hid (show path ds p = [] from path_one (by omega))
    have hl1 : (ds.length : Int) = 1 := by omega
    clear hA hD hT ih0 h1
    go_enter Tryz.func17, Tryz.ntmps17
    go_wp2
    go_ret2
    exact ⟨_, rfl, by rw [HE.out]; exact Arr.nil _ _ _, Below.refl _ _⟩
  · have h2 : 2 ≤ ds.length := by omega
    have hcb := cutN_bounds h2 (by omega)
    have hce := cutAt_eq h2 (by omega)
    have HD1 := Lib.hid (fun d hd => hD d (List.mem_of_mem_take hd) : ∀ d ∈ ds.take (cutN ds.length), d.length = 32)
    have HD2 := Lib.hid (fun d hd => hD d (List.mem_of_mem_drop hd) : ∀ d ∈ ds.drop (cutN ds.length), d.length = 32)
    obtain ⟨sa, sc, _, hs1, _, ha1⟩ := run_slice_arr elemD hA 0 (cutN ds.length) (Nat.zero_le _) (by simp; omega)
    have hs1 := hs1 rfl
    rw [List.drop_zero, ← dcs_take] at ha1
    simp only [Nat.sub_zero] at hs1 ha1
    obtain ⟨sb, sd, _, _, hs2, ha2⟩ := run_slice_arr elemD hA (cutN ds.length) (dcs ds).length (by simp; omega) (Nat.le_refl _)
    have hs2 := hs2 rfl
    rw [List.take_length, ← dcs_drop] at ha2
    simp only [List.length_map] at hs2 ha2
    have HA1 := Lib.hid ha1
    have HA2 := Lib.hid ha2
    have hcI : (0 : Int) ≤ (cutN ds.length : Int) := by omega
    have hcL : (cutN ds.length : Int) ≤ (ds.length : Int) := by omega
    have hl1 : ((ds.length : Int) == 1) = false := by simp; omega
    have HI := Lib.hid ih0
    clear ha1 ha2 hA hD hT ih0
    go_enter Tryz.func17, Tryz.ntmps17
    go_wp2_with fail
    refine (ref_cut_calls _ _ h2 (by omega)).mono ?_
    rintro e wz ⟨rfl, rfl⟩
    have ih := HI.out
    clear HI
    by_cases hq : p < cutN ds.length
    · have hqI : (p : Int) < (cutN ds.length : Int) := by omega
      have HPE := Lib.hid (show path ds p = path (ds.take (cutN ds.length)) p ++ [root (ds.drop (cutN ds.length))] by rw [path_left h2 (by rw [hce]; exact hq), hce])
      have HPL := Lib.hid (show (path (ds.take (cutN ds.length)) p).length ≤ 4398046511103 by
        have h3 := path_le (ds.take (cutN ds.length)) p
        have h4 : (ds.take (cutN ds.length)).length ≤ ds.length - 1 := by simp <;> omega
        omega)
      clear hce
      go_wp2_with fail
      refine (ih _ (by simp; omega) w _ (ds.take (cutN ds.length)) rfl HA1.out.any HD1.out HT.out (by simp; omega) p (by simp; omega)).mono ?_
      rintro e w1 ⟨v1, rfl, g1, g2⟩
      obtain ⟨a1, n1, rfl, _⟩ := g1.form
      have hs1 := g2.size
      have HV1 := Lib.hid g1
      have HB1 := Lib.hid g2
      have HAB := Lib.hid (HA2.out.any.below (by omega) g2)
      have HT1 := Lib.hid (HT.out.below g2)
      have HPD := Lib.hid (dcs_one (ds := path (ds.take (cutN ds.length)) p))
      obtain ⟨pp, hpp⟩ : ∃ pp, path (ds.take (cutN ds.length)) p = pp := ⟨_, rfl⟩
      rw [hpp] at HV1 HPD HPL HPE ⊢
      simp only [List.length_map] at HV1 ⊢
      clear hpp g1 g2
      go_wp2_with (at_builtin; refine wpList_append_arr _ rfl (.tmp 37) (.tmp 38) 27 rfl w1.heap.size 24 elemD _ [] rfl (OwnA.nil _ _ _ _) _ (dcs pp) rfl HV1.out HPD.out (by have := HPL.out; simp; unfold maxLen; omega) (by have := HPL.out; simp; omega) (Nat.le_refl _) pp.length (by simp) ?_)
      intro a2 c2 w2 q1 q2 q3
      have hb12 : Below w1.heap.size w1 w2 := (Below.refl _ _).grown q2 (Nat.le_refl _) (fun k hk => by cases hk)
      have hs2 := hb12.size
      have HO2 := Lib.hid q1
      have HAB2 := Lib.hid (HAB.out.below (by omega) hb12)
      have HB2 := Lib.hid (HB1.out.trans (hb12.mono hs1))
      have HT2 := Lib.hid (HT1.out.below hb12)
      clear q1 q2 q3 hb12
      go_wp2_with fail
      refine (ref_root_calls _ w2 _ (ds.drop (cutN ds.length)) rfl HAB2.out HD2.out HT2.out (by simp; omega)).mono ?_
      rintro e w3 ⟨rfl, g⟩
      have hs3 := g.size
      obtain ⟨m, hm⟩ : ∃ m, root (ds.drop (cutN ds.length)) = m := ⟨_, rfl⟩
      have HML := Lib.hid (show m.length = 32 by rw [← hm]; exact root_length _ _ rfl HD2.out)
      have HSM := Lib.hid (show ((m.map byt).toArray).size = 32 by rw [List.size_toArray, List.length_map]; exact HML.out)
      rw [hm] at HPE ⊢
      have HO3 := Lib.hid ((HO2.out.below g).alloc (.cells (m.map byt).toArray 24))
      have HB3 := Lib.hid ((HB2.out.trans (g.mono (by omega))).alloc (by omega) (.cells (m.map byt).toArray 24))
      have HAM := Lib.hid (arr_one (k := 32) (D := Any) w3 (m.map byt).toArray 24 (0, 0) (m.map byt) (by rw [List.length_map]; exact HML.out) rfl trivial)
      have HMO := Lib.hid (dcs_one (ds := [m]))
      have hpl := HPL.out
      clear hm g
      go_wp2_with (first | (with_reducible refine wpList_buildSlice1 _ rfl elemD _ rfl _ rfl HSM.out (by decide) ?_) | (at_builtin; refine wpList_append_arr _ rfl (.tmp 40) (.tmp 45) 27 rfl w1.heap.size 24 elemD _ (dcs pp) rfl HO3.out _ [m.map byt] rfl HAM.out HMO.out (by simp; unfold maxLen; omega) (by simp; omega) (by simp; omega) (pp.length + 1) (by simp) ?_))
      intro a4 c4 w4 q1 q2 q3
      have hlo := HO3.out.lt
      have HB4 := Lib.hid (HB3.out.grown q2 (by simp; omega) (fun k hk => by have := (hlo k hk).1; omega))
      have HR := Lib.hid (show Arr 32 (fun b => w.heap.size ≤ b) w4 (.slice a4 (pp.length + 1) c4) (dcs (path ds p)) by
        rw [HPE.out, show dcs (pp ++ [m]) = dcs pp ++ [m.map byt] by simp [dcs]]
        exact q1.arr.mono (by omega) (fun b _ h => by omega))
      clear q1 q2 q3 hlo hpl
      go_wp2
      go_ret2
      exact ⟨_, rfl, HR.out, HB4.out⟩
    · have hqI : ¬ (p : Int) < (cutN ds.length : Int) := by omega
      have HPE := Lib.hid (show path ds p = path (ds.drop (cutN ds.length)) (p - cutN ds.length) ++ [root (ds.take (cutN ds.length))] by rw [path_right h2 (by rw [hce]; exact hq), hce])
      have HPL := Lib.hid (show (path (ds.drop (cutN ds.length)) (p - cutN ds.length)).length ≤ 4398046511103 by
        have h3 := path_le (ds.drop (cutN ds.length)) (p - cutN ds.length)
        have h4 : (ds.drop (cutN ds.length)).length ≤ ds.length - 1 := by simp <;> omega
        omega)
      clear hce
      go_wp2_with fail
      rw [show ((p : Int) - (cutN ds.length : Int)) = ((p - cutN ds.length : Nat) : Int) from by omega]
      refine (ih _ (by simp; omega) w _ (ds.drop (cutN ds.length)) rfl HA2.out.any HD2.out HT.out (by simp; omega) (p - cutN ds.length) (by simp; omega)).mono ?_
      rintro e w1 ⟨v1, rfl, g1, g2⟩
      obtain ⟨a1, n1, rfl, _⟩ := g1.form
      have hs1 := g2.size
      have HV1 := Lib.hid g1
      have HB1 := Lib.hid g2
      have HAB := Lib.hid (HA1.out.any.below (by omega) g2)
      have HT1 := Lib.hid (HT.out.below g2)
      have HPD := Lib.hid (dcs_one (ds := path (ds.drop (cutN ds.length)) (p - cutN ds.length)))
      obtain ⟨pp, hpp⟩ : ∃ pp, path (ds.drop (cutN ds.length)) (p - cutN ds.length) = pp := ⟨_, rfl⟩
      rw [hpp] at HV1 HPD HPL HPE ⊢
      simp only [List.length_map] at HV1 ⊢
      clear hpp g1 g2
      go_wp2_with (at_builtin; refine wpList_append_arr _ rfl (.tmp 57) (.tmp 58) 27 rfl w1.heap.size 24 elemD _ [] rfl (OwnA.nil _ _ _ _) _ (dcs pp) rfl HV1.out HPD.out (by have := HPL.out; simp; unfold maxLen; omega) (by have := HPL.out; simp; omega) (Nat.le_refl _) pp.length (by simp) ?_)
      intro a2 c2 w2 q1 q2 q3
      have hb12 : Below w1.heap.size w1 w2 := (Below.refl _ _).grown q2 (Nat.le_refl _) (fun k hk => by cases hk)
      have hs2 := hb12.size
      have HO2 := Lib.hid q1
      have HAB2 := Lib.hid (HAB.out.below (by omega) hb12)
      have HB2 := Lib.hid (HB1.out.trans (hb12.mono hs1))
      have HT2 := Lib.hid (HT1.out.below hb12)
      clear q1 q2 q3 hb12
      go_wp2_with fail
      refine (ref_root_calls _ w2 _ (ds.take (cutN ds.length)) rfl HAB2.out HD1.out HT2.out (by simp; omega)).mono ?_
      rintro e w3 ⟨rfl, g⟩
      have hs3 := g.size
      obtain ⟨m, hm⟩ : ∃ m, root (ds.take (cutN ds.length)) = m := ⟨_, rfl⟩
      have HML := Lib.hid (show m.length = 32 by rw [← hm]; exact root_length _ _ rfl HD1.out)
      have HSM := Lib.hid (show ((m.map byt).toArray).size = 32 by rw [List.size_toArray, List.length_map]; exact HML.out)
      rw [hm] at HPE ⊢
      have HO3 := Lib.hid ((HO2.out.below g).alloc (.cells (m.map byt).toArray 24))
      have HB3 := Lib.hid ((HB2.out.trans (g.mono (by omega))).alloc (by omega) (.cells (m.map byt).toArray 24))
      have HAM := Lib.hid (arr_one (k := 32) (D := Any) w3 (m.map byt).toArray 24 (0, 0) (m.map byt) (by rw [List.length_map]; exact HML.out) rfl trivial)
      have HMO := Lib.hid (dcs_one (ds := [m]))
      have hpl := HPL.out
      clear hm g
      go_wp2_with (first | (with_reducible refine wpList_buildSlice1 _ rfl elemD _ rfl _ rfl HSM.out (by decide) ?_) | (at_builtin; refine wpList_append_arr _ rfl (.tmp 60) (.tmp 65) 27 rfl w1.heap.size 24 elemD _ (dcs pp) rfl HO3.out _ [m.map byt] rfl HAM.out HMO.out (by simp; unfold maxLen; omega) (by simp; omega) (by simp; omega) (pp.length + 1) (by simp) ?_))
      intro a4 c4 w4 q1 q2 q3
      have hlo := HO3.out.lt
      have HB4 := Lib.hid (HB3.out.grown q2 (by simp; omega) (fun k hk => by have := (hlo k hk).1; omega))
      have HR := Lib.hid (show Arr 32 (fun b => w.heap.size ≤ b) w4 (.slice a4 (pp.length + 1) c4) (dcs (path ds p)) by
        rw [HPE.out, show dcs (pp ++ [m]) = dcs pp ++ [m.map byt] by simp [dcs]]
        exact q1.arr.mono (by omega) (fun b _ h => by omega))
      clear q1 q2 q3 hlo hpl
      go_wp2
      go_ret2
      exact ⟨_, rfl, HR.out, HB4.out⟩
end Go.Proofs.YtmenchnjajpkmaaGreatDoor.MkW
end

section
namespace Go.Proofs.YtmenchnjajpkmaaGreatDoor.MkW
open Go Go.RowKit Mem Sha ShaW Mk Arr Row
set_option linter.unusedVariables false

theorem below_drew {B : Nat} {w w' : World} (h : Below B w w') : Below B w w'.drew := ⟨h.os, h.tape, h.output, h.size, h.block⟩
end Go.Proofs.YtmenchnjajpkmaaGreatDoor.MkW
end

section
namespace Go.Proofs.YtmenchnjajpkmaaGreatDoor.MkW
open Go Go.RowKit Mem Sha ShaW Mk Arr Row
set_option linter.unusedVariables false

set_option maxRecDepth 100000 in
theorem elemB : ElemT Tryz.prog 136 4 (.bool false) 1 1 := ⟨Tryz.underlying136, ⟨_, rfl, rfl, rfl, rfl⟩, rfl, by omega⟩
abbrev bcs (l : List Bool) : List (List Value) := l.map (fun b => [.bool b])
theorem sides_le : ∀ (n p : Nat), (sides p n).length ≤ n - 1 := by
  intro n
  induction n using Nat.strongRecOn with
  | ind n ih =>
    intro p
    unfold sides
    split
    · simp
    · have hc := cutAt_lt (n := n) (by omega)
      split
      · have := ih (cutAt n) hc.2 p; simp; omega
      · have := ih (n - cutAt n) (by omega) (p - cutAt n); simp; omega
theorem bcs_one {l : List Bool} : ∀ x ∈ bcs l, ∀ c ∈ x, c.oneCell' = true := by
  intro x hx c hc
  obtain ⟨b, _, rfl⟩ := List.mem_map.1 hx
  rw [List.mem_singleton.1 hc]; rfl

set_option maxHeartbeats 8000000 in
set_option maxRecDepth 100000 in
theorem sides_calls (w : World) (p n : Nat) (hn : n < 4294967296) (hp : p < n) :
    Calls Tryz.prog 74 #[.int .i64 (p : Int), .int .i64 (n : Int)] w fun e w' => ∃ v, e = .returned v ∧ Arr 1 (fun b => w.heap.size ≤ b) w' v (bcs (sides p n)) ∧ Below w.heap.size w w' := by
  go_enter Tryz.func74, Tryz.ntmps74
  go_wp2
  go_loopw [0, 1, 5] (fun s0 s1 s5 wx => ∃ (q m : Nat) (acc : List Bool), s0 = .int .i64 (q : Int) ∧ s1 = .int .i64 (m : Int) ∧ q < m ∧ m ≤ n ∧ acc.length + m ≤ n ∧ sides p n = acc ++ sides q m ∧ OwnA 1 w.heap.size 4 wx s5 (bcs acc) ∧ Below w.heap.size w wx) (fun _ s1 _ _ => (intOf s1).toNat)
  case atStart => exact ⟨p, n, [], rfl, rfl, hp, Nat.le_refl _, by simp, rfl, OwnA.nil _ _ _ _, Below.refl _ _⟩
  case round =>
    obtain ⟨q, m, acc, rfl, rfl, hqm, hmn, hal, hE, hO, hB⟩ := hrel
    obtain ⟨oa, oc, rfl, _⟩ := hO.form
    simp only [List.length_map] at hO ⊢
    have hsw := hB.size
    have HE := Lib.hid hE
    have HO := Lib.hid hO
    have HB := Lib.hid hB
    clear hE hO hB
    by_cases hlt : 1 < m
    · have hltI : (1 : Int) < (m : Int) := by omega
      have hcb := cutN_bounds (n := m) (by omega) (by omega)
      have hce := cutAt_eq (n := m) (by omega) (by omega)
      have HL := Lib.hid (show q < cutN m → sides p n = (acc ++ [false]) ++ sides q (cutN m) from fun h => by rw [HE.out, sides, if_neg (by omega), if_pos (by omega), hce]; simp)
      have HR := Lib.hid (show ¬ q < cutN m → sides p n = (acc ++ [true]) ++ sides (q - cutN m) (m - cutN m) from fun h => by rw [HE.out, sides, if_neg (by omega), if_neg (by omega), hce]; simp)
      clear hce
      go_wp2_with fail
      refine (cut_calls _ _ (by omega) (by omega)).mono ?_
      rintro e wz ⟨rfl, rfl⟩
      have key : ∀ b : Bool, ∃ W, wr.alloc (.cells #[.bool b] 4) = W ∧ Hid (OwnA 1 w.heap.size 4 W (.slice oa acc.length oc) (bcs acc)) ∧ Hid (Arr 1 Any W (.slice (some ⟨wr.heap.size, 0, none⟩) 1 1) [[.bool b]]) ∧ Hid (Below w.heap.size w W) ∧ w.heap.size ≤ W.heap.size := fun b =>
        ⟨_, rfl, Lib.hid (HO.out.alloc _), Lib.hid (arr_one (k := 1) wr _ _ _ [.bool b] rfl rfl trivial), Lib.hid (HB.out.alloc hsw _), by simp; omega⟩
      have HN := Lib.hid (bcs_one (l := [true]))
      have HN2 := Lib.hid (bcs_one (l := [false]))
      by_cases hq : q < cutN m
      · have hqI : ¬ ((cutN m : Int) ≤ (q : Int)) := by omega
        have hE2 := HL.out hq
        have HE2 := Lib.hid hE2
        obtain ⟨W, hW, h1, h2, h3, h4⟩ := key false
        have hB : decide (cutN m ≤ q) = false := by simp; omega
        clear key hE2 HL HR
        go_wp2_with (at_builtin; refine wpList_append_arr _ rfl (.tmp 15) (.tmp 17) 136 rfl w.heap.size 4 elemB _ (bcs acc) rfl h1.out _ [[.bool false]] rfl h2.out HN2.out (by simp; unfold maxLen; omega) (by simp; omega) h4 (acc.length + 1) (by simp) ?_)
        intro a2 c2 w2 q1 q2 q3
        have hlo := h1.out.lt
        have HO2 := Lib.hid (show OwnA 1 w.heap.size 4 w2 (.slice a2 (acc.length + 1) c2) (bcs (acc ++ [false])) by rw [show bcs (acc ++ [false]) = bcs acc ++ [[.bool false]] by simp [bcs]]; exact q1)
        have HB2 := Lib.hid (h3.out.grown q2 h4 (fun k hk => (hlo k hk).1))
        clear q1 q2 q3 hlo hW
        go_wp2
        go_roundw
        case rel => exact ⟨q, cutN m, acc ++ [false], rfl, rfl, hq, by omega, by simp; omega, HE2.out, HO2.out, HB2.out⟩
        case measure => simp [intOf]; omega
      · have hqI : ((cutN m : Int) ≤ (q : Int)) := by omega
        have hE2 := HR.out hq
        have HE2 := Lib.hid hE2
        obtain ⟨W, hW, h1, h2, h3, h4⟩ := key true
        have hB : decide (cutN m ≤ q) = true := by simp; omega
        clear key hE2 HL HR
        go_wp2_with (at_builtin; refine wpList_append_arr _ rfl (.tmp 15) (.tmp 17) 136 rfl w.heap.size 4 elemB _ (bcs acc) rfl h1.out _ [[.bool true]] rfl h2.out HN.out (by simp; unfold maxLen; omega) (by simp; omega) h4 (acc.length + 1) (by simp) ?_)
        intro a2 c2 w2 q1 q2 q3
        have hlo := h1.out.lt
        have HO2 := Lib.hid (show OwnA 1 w.heap.size 4 w2 (.slice a2 (acc.length + 1) c2) (bcs (acc ++ [true])) by rw [show bcs (acc ++ [true]) = bcs acc ++ [[.bool true]] by simp [bcs]]; exact q1)
        have HB2 := Lib.hid (h3.out.grown q2 h4 (fun k hk => (hlo k hk).1))
        clear q1 q2 q3 hlo hW
        go_wp2
        go_roundw
        case rel => exact ⟨q - cutN m, m - cutN m, acc ++ [true], by rw [show ((q : Int) - (cutN m : Int)) = ((q - cutN m : Nat) : Int) from by omega], by rw [show ((m : Int) - (cutN m : Int)) = ((m - cutN m : Nat) : Int) from by omega], by omega, by omega, by simp; omega, HE2.out, HO2.out, HB2.out⟩
        case measure => simp [intOf]; omega
    · have hltI : ¬ (1 : Int) < (m : Int) := by omega
      have HE2 := Lib.hid (show sides p n = acc by rw [HE.out, sides, if_pos (by omega)]; simp)
      go_wp2
      go_ret
      exact ⟨_, rfl, by rw [HE2.out]; exact HO.out.arr.mono (by omega) (fun b _ h => h.2), HB.out⟩
end Go.Proofs.YtmenchnjajpkmaaGreatDoor.MkW
end
