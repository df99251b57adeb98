/- The walk of WireMains. Condition: the outputs, told in bytes, and the bytes at most 2^47. What the second form's bulk says of arguments that are slices of bytes. No condition. How arguments read: a slice of arrays of bytes, as the words of Arr. Program-independent; no condition. How arguments read: readings put together of readings: numbers, truths, arrays, slices, structs. Program-independent; no condition. How arguments read, over ways in which cells read as plain data. Program-independent; no condition. How transactions and headers of the main chain read as arguments. No condition. -/
import Derived.Test.YtmenchnjajpkmaaGreatWMaih
import Derived.Test.YtmenchnjajpkmaaGreatWMaid
import Derived.Test.YtmenchnjajpkmaaGreatRows
import Derived.Test.YtmenchnjajpkmaaGreatWMaia
import Derived.Test.YtmenchnjajpkmaaGreatWMaic
import Derived.Deep.Slices
section
namespace Go.Proofs.YtmenchnjajpkmaaGreat.wireMains
open Go Go.RowKit Mem Codec CodecW Ops Reps Rr Wt Wm Rm Rf Rh
set_option linter.unusedVariables false

set_option maxHeartbeats 16000000 in
set_option maxRecDepth 100000 in
theorem walk (W : World) (cs : List Value) (x : XMt) (hR : RMt Any W cs x) (hc : Wmm.Fits x) (hc2 : List Value) (hx : XMh) (hRh : RMh Any W hc2 hx) (v : Value) (l : List UInt8) (hB : Byt Any W v l) (hl : l.length ≤ 140737488351232) :
    Calls Tryz.prog 3 #[.agg cs.toArray, .agg hc2.toArray, v] W fun e W' => e = .returned (.bool true) ∧ Below W.heap.size W W' := by
  obtain ⟨ra, rc, rfl, _⟩ := id hB
  obtain ⟨g, hg⟩ : ∃ g, got RDmt ((0 : Nat), ([] : List (Nat × List UInt8))) l = g := ⟨_, rfl⟩
  have hgc : Wmm.Fits g.1 := by rw [← hg]; exact Wmm.got_fits l
  obtain ⟨B1, hB1⟩ : ∃ B, told (encMt x) (badMt x) = B := ⟨_, rfl⟩
  obtain ⟨E1, hE1⟩ : ∃ E, toldE (badMt x) = E := ⟨_, rfl⟩
  obtain ⟨B2, hB2⟩ : ∃ B, told (encMt g.1) (badMt g.1) = B := ⟨_, rfl⟩
  obtain ⟨E2, hE2⟩ : ∃ E, toldE (badMt g.1) = E := ⟨_, rfl⟩
  have TP := Lib.hid (fun w' h => Wmm.told_p w' cs x h hc)
  have TR := Lib.hid (fun w' h => Wmm.told_r w' cs x h hc)
  have TG := Lib.hid (fun w' cs' h => Wmm.told_r w' cs' g.1 h hgc)
  have GP := Lib.hid (fun w' h => ReadMainTx_calls Any w' (.slice ra l.length rc) l h (by omega))
  have GR := Lib.hid (fun w' h => readMainTx_ref Any w' ra rc l h (by omega))
  unfold Wt.Told at TP TR TG
  rw [hB1, hE1] at TP TR
  rw [hB2, hE2] at TG
  rw [hg] at GP GR
  clear hB1 hE1 hB2 hE2 hg hc hgc
  obtain ⟨gx, ge⟩ := g
  dsimp only at TG GP GR
  have HSZ := Lib.hid (show (Tryz.prog.info? 25).map (·.size) = some cs.length by rw [rep_Mt.len hR]; kernel_rfl)
  have hszT : Hid (∀ cs : List Value, cs.length = 2 → (Tryz.prog.info? 25).map (·.size) = some cs.length) := Lib.hid (fun cs h => by rw [h]; kernel_rfl)
  obtain ⟨h1e, hok⟩ := Wmm.hd_of hRh
  have HOK := Lib.hid hok
  have HH1 := Lib.hid h1e
  have HSZH := Lib.hid (show (Tryz.prog.info? 29).map (·.size) = some hc2.length by rw [rep_Mh.len hRh]; kernel_rfl)
  have hszH : Hid (∀ cs : List Value, cs.length = 66 → (Tryz.prog.info? 29).map (·.size) = some cs.length) := Lib.hid (fun cs h => by rw [h]; kernel_rfl)
  obtain ⟨gm, hgm⟩ : ∃ g, got RDmh ((List.replicate 32 0, List.replicate 32 0, 0, 0) : XMh) l = g := ⟨_, rfl⟩
  have MP := Lib.hid (fun w' h => ReadMainHeader_calls Any w' (.slice ra l.length rc) l h (by omega))
  have MR := Lib.hid (fun w' h => readMainHeader_ref Any w' ra rc l h (by omega))
  rw [hgm] at MP MR
  clear hgm
  obtain ⟨mx, me⟩ := gm
  obtain ⟨ca, hca⟩ : ∃ ca, cs.toArray = ca := ⟨_, rfl⟩
  obtain ⟨cb, hcb⟩ : ∃ ca, hc2.toArray = ca := ⟨_, rfl⟩
  have HB := Lib.hid (show Blk ((W.alloc (.cells ca 25)).alloc (.cells cb 29)) W.heap.size cs 25 from (Blk.new W _ _ _ hca.symm).alloc _)
  have HH := Lib.hid (show Blk ((W.alloc (.cells ca 25)).alloc (.cells cb 29)) (W.heap.size + 1) hc2 29 from by have := Blk.new (W.alloc (.cells ca 25)) cb 29 hc2 hcb.symm; rwa [World.size_alloc] at this)
  have B1w := Lib.hid ((below_alloc W (.cells ca 25)).alloc (by simp) (.cells cb 29))
  have hz : W.heap.size + 2 = ((W.alloc (.cells ca 25)).alloc (.cells cb 29)).heap.size := by simp
  have HR := Lib.hid (rep_Mt.below hR B1w.out)
  have HY := Lib.hid (hB.below B1w.out)
  rw [hca, hcb]
  clear hR hB hca hcb hRh hok h1e
  go_enter Tryz.func3, Tryz.ntmps3
  go_upto_region 1 with fail
  generalize (W.alloc (.cells ca 25)).alloc (.cells cb 29) = w1 at *
  go_wp2_with (first | (with_reducible refine wpList_load_blk rfl _ _ rfl W.heap.size cs rfl HB.out _ Tryz.underlying25 rfl HSZ.out ?_))
  refine (TP.out w1 HR.out).mono ?_
  rintro e w2 ⟨⟨a1, c1, rfl, g1⟩, g2⟩
  have O1 := Lib.hid (g1.byt.mono (E := Any) (fun _ _ _ => trivial))
  have HB2 := Lib.hid (HB.out.below g2)
  have HR2 := Lib.hid (rep_Mt.below HR.out g2)
  have HY2 := Lib.hid (HY.out.below g2)
  have HH := Lib.hid (HH.out.below g2)
  have BW2 := Lib.hid (B1w.out.trans (g2.mono (by omega)))
  clear g1 g2 HB HR HY B1w TP
  go_wp2_with (first | (with_reducible refine wpList_load_blk rfl _ _ rfl W.heap.size cs rfl HB2.out _ Tryz.underlying25 rfl HSZ.out ?_))
  refine (TR.out w2 HR2.out).mono ?_
  rintro e w3 ⟨⟨a2, c2, rfl, g1⟩, g2⟩
  have P1 := Lib.hid (g1.byt.mono (E := Any) (fun _ _ _ => trivial))
  have O1 := Lib.hid (O1.out.below g2)
  have HY3 := Lib.hid (HY2.out.below g2)
  have HH := Lib.hid (HH.out.below g2)
  have BW3 := Lib.hid (BW2.out.trans (g2.mono BW2.out.size))
  clear g1 g2 HB2 HR2 HY2 BW2 TR
  go_wp2_with fail
  refine (GP.out w3 HY3.out).mono ?_
  rintro e w4 ⟨cu, rfl, g1, g2⟩
  have UL := Lib.hid (rep_Mt.len g1)
  have U1 := Lib.hid (rep_Mt.one g1)
  have USZ := Lib.hid (hszT.out cu (rep_Mt.len g1))
  have UR := Lib.hid (rep_Mt.any g1)
  have O1 := Lib.hid (O1.out.below g2)
  have P1 := Lib.hid (P1.out.below g2)
  have HY4 := Lib.hid (HY3.out.below g2)
  have HH := Lib.hid (HH.out.below g2)
  have BW4 := Lib.hid (BW3.out.trans (g2.mono BW3.out.size))
  clear g1 g2 HY3 BW3 GP
  go_upto_region 4 with (first
    | ((with_reducible refine wpList_alloc rfl _ rfl _ (zeroMt _) (fun wd kd cd zd => ?_)); have KD := Lib.hid kd; have CD := Lib.hid cd; clear kd cd)
    | ((with_reducible refine wpList_put rfl _ _ _ rfl w4.heap.size cu _ rfl rfl KD.out USZ.out (zeroMt_len.trans UL.out.symm) U1.out (fun w5 ke fe ze => ?_)); have KU := Lib.hid ke; have CE := Lib.hid (CD.out.trans (fe.below CD.out.size (fun k (hk : k = _) => by omega))); clear ke fe))
  have UR := Lib.hid (rep_Mt.below UR.out CE.out)
  have O1 := Lib.hid (O1.out.below CE.out)
  have P1 := Lib.hid (P1.out.below CE.out)
  have HY5 := Lib.hid (HY4.out.below CE.out)
  have HH := Lib.hid (HH.out.below CE.out)
  have BW5 := Lib.hid (BW4.out.trans (CE.out.mono BW4.out.size))
  clear KD CD CE HY4 BW4
  generalize w4.heap.size = gu at *
  go_wp2_with fail
  refine (GR.out w5 HY5.out).mono ?_
  rintro e w6 ⟨cv, rfl, g1, g2⟩
  have VL := Lib.hid (rep_Mt.len g1)
  have V1 := Lib.hid (rep_Mt.one g1)
  have VSZ := Lib.hid (hszT.out cv (rep_Mt.len g1))
  have VR := Lib.hid (rep_Mt.any g1)
  have UR := Lib.hid (rep_Mt.below UR.out g2)
  have KU := Lib.hid (KU.out.below g2)
  have O1 := Lib.hid (O1.out.below g2)
  have P1 := Lib.hid (P1.out.below g2)
  have HY6 := Lib.hid (HY5.out.below g2)
  have HH := Lib.hid (HH.out.below g2)
  have BW6 := Lib.hid (BW5.out.trans (g2.mono BW5.out.size))
  clear g1 g2 HY5 BW5 GR
  go_upto_region 5 with (first
    | ((with_reducible refine wpList_alloc rfl _ rfl _ (zeroMt _) (fun wd kd cd zd => ?_)); have KD := Lib.hid kd; have CD := Lib.hid cd; clear kd cd)
    | ((with_reducible refine wpList_put rfl _ _ _ rfl w6.heap.size cv _ rfl rfl KD.out VSZ.out (zeroMt_len.trans VL.out.symm) V1.out (fun w7 ke fe ze => ?_)); have KV := Lib.hid ke; have CE := Lib.hid (CD.out.trans (fe.below CD.out.size (fun k (hk : k = _) => by omega))); clear ke fe))
  have VR := Lib.hid (rep_Mt.below VR.out CE.out)
  have UR := Lib.hid (rep_Mt.below UR.out CE.out)
  have KU := Lib.hid (KU.out.below CE.out)
  have O1 := Lib.hid (O1.out.below CE.out)
  have P1 := Lib.hid (P1.out.below CE.out)
  have HY7 := Lib.hid (HY6.out.below CE.out)
  have HH := Lib.hid (HH.out.below CE.out)
  have BW7 := Lib.hid (BW6.out.trans (CE.out.mono BW6.out.size))
  clear KD CD CE BW6
  generalize w6.heap.size = gv at *
  go_wp2_with (first | (with_reducible refine wpList_load_blk rfl _ _ rfl gu cu rfl KU.out _ Tryz.underlying25 rfl USZ.out ?_))
  refine (TG.out w7 cu UR.out).mono ?_
  rintro e w8 ⟨⟨a3, c3, rfl, g1⟩, g2⟩
  have X1 := Lib.hid (g1.byt.mono (E := Any) (fun _ _ _ => trivial))
  have VR := Lib.hid (rep_Mt.below VR.out g2)
  have KV := Lib.hid (KV.out.below g2)
  have O1 := Lib.hid (O1.out.below g2)
  have P1 := Lib.hid (P1.out.below g2)
  have HY8 := Lib.hid (HY7.out.below g2)
  have HH := Lib.hid (HH.out.below g2)
  have BW8 := Lib.hid (BW7.out.trans (g2.mono BW7.out.size))
  clear g1 g2 BW7 KU UR
  go_wp2_with (first | (with_reducible refine wpList_load_blk rfl _ _ rfl gv cv rfl KV.out _ Tryz.underlying25 rfl VSZ.out ?_))
  refine (TG.out w8 cv VR.out).mono ?_
  rintro e w9 ⟨⟨a4, c4, rfl, g1⟩, g2⟩
  have Y1 := Lib.hid (g1.byt.mono (E := Any) (fun _ _ _ => trivial))
  have X1 := Lib.hid (X1.out.below g2)
  have O1 := Lib.hid (O1.out.below g2)
  have P1 := Lib.hid (P1.out.below g2)
  have HY9 := Lib.hid (HY8.out.below g2)
  have HH := Lib.hid (HH.out.below g2)
  have BW9 := Lib.hid (BW8.out.trans (g2.mono BW8.out.size))
  clear g1 g2 BW8 KV VR TG
  go_wp2_with fail
  refine (MP.out w9 HY9.out).mono ?_
  rintro e w10 ⟨cm, rfl, g1, g2⟩
  have MCL := Lib.hid (rep_Mh.len g1)
  have MC1 := Lib.hid (rep_Mh.one g1)
  have MSZ := Lib.hid (hszH.out cm (rep_Mh.len g1))
  have HM1 := Lib.hid g1
  have X1 := Lib.hid (X1.out.below g2)
  have Y1 := Lib.hid (Y1.out.below g2)
  have O1 := Lib.hid (O1.out.below g2)
  have P1 := Lib.hid (P1.out.below g2)
  have HY10 := Lib.hid (HY9.out.below g2)
  have HH := Lib.hid (HH.out.below g2)
  have BW10 := Lib.hid (BW9.out.trans (g2.mono BW9.out.size))
  clear g1 g2 BW9 HY9 MP
  go_upto_region 8 with (first
    | ((with_reducible refine wpList_alloc rfl _ rfl _ (zeroMh _) (fun wd kd cd zd => ?_)); have KD := Lib.hid kd; have CD := Lib.hid cd; clear kd cd)
    | ((with_reducible refine wpList_put rfl _ _ _ rfl w10.heap.size cm _ rfl rfl KD.out MSZ.out (zeroMh_len.trans MCL.out.symm) MC1.out (fun w11 ke fe ze => ?_)); have KM := Lib.hid ke; have CE := Lib.hid (CD.out.trans (fe.below CD.out.size (fun k (hk : k = _) => by omega))); clear ke fe))
  have X1 := Lib.hid (X1.out.below CE.out)
  have Y1 := Lib.hid (Y1.out.below CE.out)
  have O1 := Lib.hid (O1.out.below CE.out)
  have P1 := Lib.hid (P1.out.below CE.out)
  have HY11 := Lib.hid (HY10.out.below CE.out)
  have HH := Lib.hid (HH.out.below CE.out)
  have BW11 := Lib.hid (BW10.out.trans (CE.out.mono BW10.out.size))
  clear KD CD CE BW10 HY10
  generalize w10.heap.size = gm at *
  go_wp2_with fail
  refine (MR.out w11 HY11.out).mono ?_
  rintro e w12 ⟨cn, rfl, g1, g2⟩
  have hcn : cn = cm := Wmm.same_cells g1 HM1.out
  subst hcn
  have X1 := Lib.hid (X1.out.below g2)
  have Y1 := Lib.hid (Y1.out.below g2)
  have O1 := Lib.hid (O1.out.below g2)
  have P1 := Lib.hid (P1.out.below g2)
  have KM := Lib.hid (KM.out.below g2)
  have HH := Lib.hid (HH.out.below g2)
  have BW12 := Lib.hid (BW11.out.trans (g2.mono BW11.out.size))
  obtain ⟨m1e, mok⟩ := Wmm.hd_of (g1)
  have hqe : ∀ w, (Op.equalIn 10000 29 (.agg cn.toArray) (.agg cn.toArray)).run Tryz.prog w = .ok true w := fun w => by rw [m1e]; exact HdEq.equalH _ mok w
  have HQE := Lib.hid hqe
  clear g1 g2 BW11 HY11 MR m1e mok hqe HM1
  go_upto_region 9 with (first
    | ((with_reducible refine wpList_alloc rfl _ rfl _ (zeroMh _) (fun wd kd cd zd => ?_)); have KD := Lib.hid kd; have CD := Lib.hid cd; clear kd cd)
    | ((with_reducible refine wpList_put rfl _ _ _ rfl w12.heap.size cn _ rfl rfl KD.out MSZ.out (zeroMh_len.trans MCL.out.symm) MC1.out (fun w13 ke fe ze => ?_)); have KN := Lib.hid ke; have CE := Lib.hid (CD.out.trans (fe.below CD.out.size (fun k (hk : k = _) => by omega))); clear ke fe))
  have X1 := Lib.hid (X1.out.below CE.out)
  have Y1 := Lib.hid (Y1.out.below CE.out)
  have O1 := Lib.hid (O1.out.below CE.out)
  have P1 := Lib.hid (P1.out.below CE.out)
  have KM := Lib.hid (KM.out.below CE.out)
  have HH := Lib.hid (HH.out.below CE.out)
  have BW13 := Lib.hid (BW12.out.trans (CE.out.mono BW12.out.size))
  clear KD CD CE BW12
  generalize w12.heap.size = gn at *
  refine wp_region_held_drew (S := (fun w' => Below w13.heap.size w13 w')) (by kernel_rfl) (below_drew (Below.refl _ _)) (fun hHeld => ?_)
  refine wpAnyH_ready (rs := [0]) (by kernel_rfl) (by simp) ?_
  refine AllReadyH.cons (o := ⟨_, _, _, _, _, _⟩) rfl (fun K hK => ?_) AllReadyH.nil
  go_simp
  refine (Wa.alive_calls _).mono ?_
  rintro e wA ⟨rfl, gA⟩
  refine hK.out _ _ (by exact hHeld.trans (gA.mono hHeld.size)) (fun hHeld => ?_)
  clear hK
  try simp only [Act.put, List.setIfInBounds_toArray, List.set_cons_zero, List.set_cons_succ]
  clear gA
  refine wpAnyH_take (i := 1) (oi := ⟨_, _, _, _, _, _⟩) (v := ?_) rfl (by kernel_rfl) (by kernel_rfl) (by kernel_rfl) (fun _ _ _ h => h) (Or.inl ⟨by rfl, ?_⟩) (by assumption) ?_
  rotate_left
  · intro w hSw; go_simp; try (with_reducible rfl)
  try simp only [Act.put, List.setIfInBounds_toArray, List.set_cons_zero, List.set_cons_succ]
  refine wpAnyH_take (i := 2) (oi := ⟨_, _, _, _, _, _⟩) (v := ?_) rfl (by kernel_rfl) (by kernel_rfl) (by kernel_rfl) (fun _ _ _ h => h) (Or.inl ⟨by rfl, ?_⟩) (by assumption) ?_
  rotate_left
  · intro w hSw; go_simp; try (with_reducible rfl)
  try simp only [Act.put, List.setIfInBounds_toArray, List.set_cons_zero, List.set_cons_succ]
  refine wpAnyH_take (i := 3) (oi := ⟨_, _, _, _, _, _⟩) (v := ?_) rfl (by kernel_rfl) (by kernel_rfl) (by kernel_rfl) (fun _ _ _ h => h) (Or.inl ⟨by rfl, ?_⟩) (by assumption) ?_
  rotate_left
  · intro w hSw; go_simp; try (with_reducible rfl)
  try simp only [Act.put, List.setIfInBounds_toArray, List.set_cons_zero, List.set_cons_succ]
  refine wpAnyH_ready (rs := [4]) (by kernel_rfl) (by simp) ?_
  refine AllReadyH.cons (o := ⟨_, _, _, _, _, _⟩) rfl (fun K hK => ?_) AllReadyH.nil
  go_simp
  refine (Wt.same_calls Any Any _ _ _ B1 B1 (O1.out.below hHeld) (P1.out.below hHeld)).mono ?_
  rintro e wZ ⟨rfl, rfl⟩
  rw [show (B1 == B1) = true from beq_self_eq_true B1]
  refine hK.out _ _ (by exact hHeld) (fun hHeld => ?_)
  clear hK
  try simp only [Act.put, List.setIfInBounds_toArray, List.set_cons_zero, List.set_cons_succ]
  refine wpAnyH_take (i := 5) (oi := ⟨_, _, _, _, _, _⟩) (v := ?_) rfl (by kernel_rfl) (by kernel_rfl) (by kernel_rfl) (fun _ _ _ h => h) (Or.inl ⟨by rfl, ?_⟩) (by assumption) ?_
  rotate_left
  · intro w hSw; go_simp; try (with_reducible rfl)
  try simp only [Act.put, List.setIfInBounds_toArray, List.set_cons_zero, List.set_cons_succ]
  refine wpAnyH_take (i := 6) (oi := ⟨_, _, _, _, _, _⟩) (v := ?_) rfl (by kernel_rfl) (by kernel_rfl) (by kernel_rfl) (fun _ _ _ h => h) (Or.inl ⟨by rfl, ?_⟩) (by assumption) ?_
  rotate_left
  · intro w hSw; go_simp; try (with_reducible rfl)
  try simp only [Act.put, List.setIfInBounds_toArray, List.set_cons_zero, List.set_cons_succ]
  refine wpAnyH_take (i := 7) (oi := ⟨_, _, _, _, _, _⟩) (v := ?_) rfl (by kernel_rfl) (by kernel_rfl) (by kernel_rfl) (fun _ _ _ h => h) (Or.inl ⟨by rfl, ?_⟩) (by assumption) ?_
  rotate_left
  · intro w hSw; go_simp; try (with_reducible rfl)
  try simp only [Act.put, List.setIfInBounds_toArray, List.set_cons_zero, List.set_cons_succ]
  refine wpAnyH_take (i := 8) (oi := ⟨_, _, _, _, _, _⟩) (v := ?_) rfl (by kernel_rfl) (by kernel_rfl) (by kernel_rfl) (fun _ _ _ h => h) (Or.inl ⟨by rfl, ?_⟩) (by assumption) ?_
  rotate_left
  · intro w hSw; go_simp; try (with_reducible rfl)
  try simp only [Act.put, List.setIfInBounds_toArray, List.set_cons_zero, List.set_cons_succ]
  refine wpAnyH_take (i := 9) (oi := ⟨_, _, _, _, _, _⟩) (v := ?_) rfl (by kernel_rfl) (by kernel_rfl) (by kernel_rfl) (fun _ _ _ h => h) (Or.inl ⟨by rfl, ?_⟩) (by assumption) ?_
  rotate_left
  · intro w hSw; go_simp; try (with_reducible rfl)
  try simp only [Act.put, List.setIfInBounds_toArray, List.set_cons_zero, List.set_cons_succ]
  refine wpAnyH_take (i := 10) (oi := ⟨_, _, _, _, _, _⟩) (v := ?_) rfl (by kernel_rfl) (by kernel_rfl) (by kernel_rfl) (fun _ _ _ h => h) (Or.inl ⟨by rfl, ?_⟩) (by assumption) ?_
  rotate_left
  · intro w hSw; go_simp; try (with_reducible rfl)
  try simp only [Act.put, List.setIfInBounds_toArray, List.set_cons_zero, List.set_cons_succ]
  refine wpAnyH_take (i := 11) (oi := ⟨_, _, _, _, _, _⟩) (v := ?_) rfl (by kernel_rfl) (by kernel_rfl) (by kernel_rfl) (fun _ _ _ h => h) (Or.inl ⟨by rfl, ?_⟩) (by assumption) ?_
  rotate_left
  · intro w hSw; go_simp; try (with_reducible rfl)
  try simp only [Act.put, List.setIfInBounds_toArray, List.set_cons_zero, List.set_cons_succ]
  refine wpAnyH_take (i := 12) (oi := ⟨_, _, _, _, _, _⟩) (v := ?_) rfl (by kernel_rfl) (by kernel_rfl) (by kernel_rfl) (fun _ _ _ h => h) (Or.inl ⟨by rfl, ?_⟩) (by assumption) ?_
  rotate_left
  · intro w hSw; go_simp; try (with_reducible rfl)
  try simp only [Act.put, List.setIfInBounds_toArray, List.set_cons_zero, List.set_cons_succ]
  refine wpAnyH_take (i := 13) (oi := ⟨_, _, _, _, _, _⟩) (v := ?_) rfl (by kernel_rfl) (by kernel_rfl) (by kernel_rfl) (fun _ _ _ h => h) (Or.inl ⟨by rfl, ?_⟩) (by assumption) ?_
  rotate_left
  · intro w hSw; go_simp; try (with_reducible rfl)
  try simp only [Act.put, List.setIfInBounds_toArray, List.set_cons_zero, List.set_cons_succ]
  refine wpAnyH_take (i := 14) (oi := ⟨_, _, _, _, _, _⟩) (v := ?_) rfl (by kernel_rfl) (by kernel_rfl) (by kernel_rfl) (fun _ _ _ h => h) (Or.inl ⟨by rfl, ?_⟩) (by assumption) ?_
  rotate_left
  · intro w hSw; go_simp; try (with_reducible rfl)
  try simp only [Act.put, List.setIfInBounds_toArray, List.set_cons_zero, List.set_cons_succ]
  refine wpAnyH_take (i := 15) (oi := ⟨_, _, _, _, _, _⟩) (v := ?_) rfl (by kernel_rfl) (by kernel_rfl) (by kernel_rfl) (fun _ _ _ h => h) (Or.inl ⟨by rfl, ?_⟩) (by assumption) ?_
  rotate_left
  · intro w hSw; go_simp; try (with_reducible rfl)
  try simp only [Act.put, List.setIfInBounds_toArray, List.set_cons_zero, List.set_cons_succ]
  refine wpAnyH_take (i := 16) (oi := ⟨_, _, _, _, _, _⟩) (v := ?_) rfl (by kernel_rfl) (by kernel_rfl) (by kernel_rfl) (fun _ _ _ h => h) (Or.inl ⟨by rfl, ?_⟩) (by assumption) ?_
  rotate_left
  · intro w hSw; go_simp; try (with_reducible rfl)
  try simp only [Act.put, List.setIfInBounds_toArray, List.set_cons_zero, List.set_cons_succ]
  refine wpAnyH_take (i := 17) (oi := ⟨_, _, _, _, _, _⟩) (v := ?_) rfl (by kernel_rfl) (by kernel_rfl) (by kernel_rfl) (fun _ _ _ h => h) (Or.inl ⟨by rfl, ?_⟩) (by assumption) ?_
  rotate_left
  · intro w hSw; go_simp; try (with_reducible rfl)
  try simp only [Act.put, List.setIfInBounds_toArray, List.set_cons_zero, List.set_cons_succ]
  refine wpAnyH_take (i := 18) (oi := ⟨_, _, _, _, _, _⟩) (v := ?_) rfl (by kernel_rfl) (by kernel_rfl) (by kernel_rfl) (fun _ _ _ h => h) (Or.inl ⟨by rfl, ?_⟩) (by assumption) ?_
  rotate_left
  · intro w hSw; go_simp; try (with_reducible rfl)
  try simp only [Act.put, List.setIfInBounds_toArray, List.set_cons_zero, List.set_cons_succ]
  refine wpAnyH_ready (rs := [19]) (by kernel_rfl) (by simp) ?_
  refine AllReadyH.cons (o := ⟨_, _, _, _, _, _⟩) rfl (fun K hK => ?_) AllReadyH.nil
  go_simp
  refine (Wt.same_calls Any Any _ _ _ B2 B2 (X1.out.below hHeld) (Y1.out.below hHeld)).mono ?_
  rintro e wZ ⟨rfl, rfl⟩
  rw [show (B2 == B2) = true from beq_self_eq_true B2]
  refine hK.out _ _ (by exact hHeld) (fun hHeld => ?_)
  clear hK
  try simp only [Act.put, List.setIfInBounds_toArray, List.set_cons_zero, List.set_cons_succ]
  refine wpAnyH_take (i := 20) (oi := ⟨_, _, _, _, _, _⟩) (v := ?_) rfl (by kernel_rfl) (by kernel_rfl) (by kernel_rfl) (fun _ _ _ h => h) (Or.inl ⟨by rfl, ?_⟩) (by assumption) ?_
  rotate_left
  · intro w hSw; go_simp; try (with_reducible rfl)
  try simp only [Act.put, List.setIfInBounds_toArray, List.set_cons_zero, List.set_cons_succ]
  refine wpAnyH_take (i := 21) (oi := ⟨_, _, _, _, _, _⟩) (v := ?_) rfl (by kernel_rfl) (by kernel_rfl) (by kernel_rfl) (fun _ _ _ h => h) (Or.inl ⟨by rfl, ?_⟩) (by assumption) ?_
  rotate_left
  · intro w hSw; go_simp; try (with_reducible rfl)
  try simp only [Act.put, List.setIfInBounds_toArray, List.set_cons_zero, List.set_cons_succ]
  refine wpAnyH_take (i := 22) (oi := ⟨_, _, _, _, _, _⟩) rfl (by kernel_rfl) (by kernel_rfl) (by kernel_rfl) (fun _ _ _ h => h) (yieldsIf_load_mid (by rfl) _ _ rfl (W.heap.size + 1) 0 rfl (hc2) _ (fun _ h => blk_range (HH.out.below h)) Tryz.underlying29 rfl HSZH.out) (by assumption) ?_
  try simp only [Act.put, List.setIfInBounds_toArray, List.set_cons_zero, List.set_cons_succ]
  refine wpAnyH_take (i := 24) (oi := ⟨_, _, _, _, _, _⟩) rfl (by kernel_rfl) (by kernel_rfl) (by kernel_rfl) (fun _ _ _ h => h) (yieldsIf_load_mid (by rfl) _ _ rfl (W.heap.size + 1) 0 rfl (hc2) _ (fun _ h => blk_range (HH.out.below h)) Tryz.underlying29 rfl HSZH.out) (by assumption) ?_
  try simp only [Act.put, List.setIfInBounds_toArray, List.set_cons_zero, List.set_cons_succ]
  refine wpAnyH_ready (rs := [23]) (by kernel_rfl) (by simp) ?_
  refine AllReadyH.cons (o := ⟨_, _, _, _, _, _⟩) rfl (fun K hK => ?_) AllReadyH.nil
  go_simp
  rw [HH1.out]
  refine (Wh.mainHeader_calls _ _ HOK.out).mono ?_
  rintro e wA ⟨ma, mc, rfl, gO, gA⟩
  have MO := Lib.hid (gO.byt.mono (E := Any) (fun _ _ _ => trivial))
  have hMA := gA
  refine hK.out _ _ (by exact hHeld.trans (gA.mono hHeld.size)) (fun hHeld => ?_)
  clear hK
  try simp only [Act.put, List.setIfInBounds_toArray, List.set_cons_zero, List.set_cons_succ]
  clear gO gA
  refine wpAnyH_ready (rs := [25]) (by kernel_rfl) (by simp) ?_
  refine AllReadyH.cons (o := ⟨_, _, _, _, _, _⟩) rfl (fun K hK => ?_) AllReadyH.nil
  go_simp
  refine (Wh.ref_mainHeader_calls _ _ HOK.out).mono ?_
  rintro e wB ⟨na, nc, rfl, gO, gA⟩
  have NO := Lib.hid (gO.byt.mono (E := Any) (fun _ _ _ => trivial))
  have MO := Lib.hid (MO.out.below gA)
  refine hK.out _ _ (by exact hHeld.trans (gA.mono hHeld.size)) (fun hHeld => ?_)
  clear hK
  try simp only [Act.put, List.setIfInBounds_toArray, List.set_cons_zero, List.set_cons_succ]
  clear gO gA
  refine wpAnyH_ready (rs := [26]) (by kernel_rfl) (by simp) ?_
  refine AllReadyH.cons (o := ⟨_, _, _, _, _, _⟩) rfl (fun K hK => ?_) AllReadyH.nil
  go_simp
  refine (Wt.same_calls Any Any _ _ _ (Mh.encH (Wmm.hd hx)) (Mh.encH (Wmm.hd hx)) MO.out NO.out).mono ?_
  rintro e wZ ⟨rfl, rfl⟩
  rw [show (Mh.encH (Wmm.hd hx) == Mh.encH (Wmm.hd hx)) = true from beq_self_eq_true _]
  refine hK.out _ _ (by exact hHeld) (fun hHeld => ?_)
  clear hK
  try simp only [Act.put, List.setIfInBounds_toArray, List.set_cons_zero, List.set_cons_succ]
  refine wpAnyH_take (i := 27) (oi := ⟨_, _, _, _, _, _⟩) (v := ?_) rfl (by kernel_rfl) (by kernel_rfl) (by kernel_rfl) (fun _ _ _ h => h) (Or.inl ⟨by rfl, ?_⟩) (by assumption) ?_
  rotate_left
  · intro w hSw; go_simp; try (with_reducible rfl)
  try simp only [Act.put, List.setIfInBounds_toArray, List.set_cons_zero, List.set_cons_succ]
  refine wpAnyH_take (i := 28) (oi := ⟨_, _, _, _, _, _⟩) (v := ?_) rfl (by kernel_rfl) (by kernel_rfl) (by kernel_rfl) (fun _ _ _ h => h) (Or.inl ⟨by rfl, ?_⟩) (by assumption) ?_
  rotate_left
  · intro w hSw; go_simp; try (with_reducible rfl)
  try simp only [Act.put, List.setIfInBounds_toArray, List.set_cons_zero, List.set_cons_succ]
  refine wpAnyH_take (i := 29) (oi := ⟨_, _, _, _, _, _⟩) rfl (by kernel_rfl) (by kernel_rfl) (by kernel_rfl) (fun _ _ _ h => h) (yieldsIf_load_mid (by rfl) _ _ rfl (gm) 0 rfl (cn) _ (fun _ h => blk_range (KM.out.below h)) Tryz.underlying29 rfl MSZ.out) (by assumption) ?_
  try simp only [Act.put, List.setIfInBounds_toArray, List.set_cons_zero, List.set_cons_succ]
  refine wpAnyH_take (i := 30) (oi := ⟨_, _, _, _, _, _⟩) rfl (by kernel_rfl) (by kernel_rfl) (by kernel_rfl) (fun _ _ _ h => h) (yieldsIf_load_mid (by rfl) _ _ rfl (gn) 0 rfl (cn) _ (fun _ h => blk_range (KN.out.below h)) Tryz.underlying29 rfl MSZ.out) (by assumption) ?_
  try simp only [Act.put, List.setIfInBounds_toArray, List.set_cons_zero, List.set_cons_succ]
  refine wpAnyH_take (i := 31) (oi := ⟨_, _, _, _, _, _⟩) rfl (by kernel_rfl) (by kernel_rfl) (by kernel_rfl) (fun _ _ _ h => h) (yieldsIf_run (by rfl) _ (fun wS _ => exec_eql (by kernel_rfl) rfl rfl rfl (HQE.out wS))) (by assumption) ?_
  try simp only [Act.put, List.setIfInBounds_toArray, List.set_cons_zero, List.set_cons_succ]
  refine wpAnyH_take (i := 32) (oi := ⟨_, _, _, _, _, _⟩) (v := ?_) rfl (by kernel_rfl) (by kernel_rfl) (by kernel_rfl) (fun _ _ _ h => h) (Or.inl ⟨by rfl, ?_⟩) (by assumption) ?_
  rotate_left
  · intro w hSw; go_simp; try (with_reducible rfl)
  try simp only [Act.put, List.setIfInBounds_toArray, List.set_cons_zero, List.set_cons_succ]
  refine wpAnyH_take (i := 33) (oi := ⟨_, _, _, _, _, _⟩) (v := ?_) rfl (by kernel_rfl) (by kernel_rfl) (by kernel_rfl) (fun _ _ _ h => h) (Or.inl ⟨by rfl, ?_⟩) (by assumption) ?_
  rotate_left
  · intro w hSw; go_simp; try (with_reducible rfl)
  try simp only [Act.put, List.setIfInBounds_toArray, List.set_cons_zero, List.set_cons_succ]
  refine wpAnyH_take (i := 34) (oi := ⟨_, _, _, _, _, _⟩) (v := ?_) rfl (by kernel_rfl) (by kernel_rfl) (by kernel_rfl) (fun _ _ _ h => h) (Or.inl ⟨by rfl, ?_⟩) (by assumption) ?_
  rotate_left
  · intro w hSw; go_simp; try (with_reducible rfl)
  try simp only [Act.put, List.setIfInBounds_toArray, List.set_cons_zero, List.set_cons_succ]
  refine wpAnyH_take (i := 35) (oi := ⟨_, _, _, _, _, _⟩) (v := ?_) rfl (by kernel_rfl) (by kernel_rfl) (by kernel_rfl) (fun _ _ _ h => h) (Or.inl ⟨by rfl, ?_⟩) (by assumption) ?_
  rotate_left
  · intro w hSw; go_simp; try (with_reducible rfl)
  try simp only [Act.put, List.setIfInBounds_toArray, List.set_cons_zero, List.set_cons_succ]
  refine wpAnyH_take (i := 36) (oi := ⟨_, _, _, _, _, _⟩) (v := ?_) rfl (by kernel_rfl) (by kernel_rfl) (by kernel_rfl) (fun _ _ _ h => h) (Or.inl ⟨by rfl, ?_⟩) (by assumption) ?_
  rotate_left
  · intro w hSw; go_simp; try (with_reducible rfl)
  try simp only [Act.put, List.setIfInBounds_toArray, List.set_cons_zero, List.set_cons_succ]
  refine wpAnyH_take (i := 37) (oi := ⟨_, _, _, _, _, _⟩) (v := ?_) rfl (by kernel_rfl) (by kernel_rfl) (by kernel_rfl) (fun _ _ _ h => h) (Or.inl ⟨by rfl, ?_⟩) (by assumption) ?_
  rotate_left
  · intro w hSw; go_simp; try (with_reducible rfl)
  try simp only [Act.put, List.setIfInBounds_toArray, List.set_cons_zero, List.set_cons_succ]
  refine wpAnyH_take (i := 38) (oi := ⟨_, _, _, _, _, _⟩) (v := ?_) rfl (by kernel_rfl) (by kernel_rfl) (by kernel_rfl) (fun _ _ _ h => h) (Or.inl ⟨by rfl, ?_⟩) (by assumption) ?_
  rotate_left
  · intro w hSw; go_simp; try (with_reducible rfl)
  try simp only [Act.put, List.setIfInBounds_toArray, List.set_cons_zero, List.set_cons_succ]
  refine wpAnyH_done (by kernel_rfl) ?_ _
  have BF := Lib.hid (BW13.out.trans (hHeld.mono BW13.out.size))
  clear hHeld
  go_wp2
  go_ret
  exact ⟨rfl, BF.out⟩
end Go.Proofs.YtmenchnjajpkmaaGreat.wireMains
end

section
namespace Go.Proofs.YtmenchnjajpkmaaGreat.Bulk
open Go
variable {H : Type}
theorem one (d : DataW H) : 1 ≤ Rows.uptoBulk d := by
  cases d with
  | lit x => cases x <;> simp [Rows.uptoBulk]
  | _ => simp [Rows.uptoBulk]
theorem all : ∀ (l : List (DataW H)), l.length ≤ Rows.uptoBulkAll l
  | [] => by simp [Rows.uptoBulkAll]
  | d :: r => by
    have h1 := one d
    have h2 := all r
    simp only [Rows.uptoBulkAll, List.length_cons]
    omega
theorem bytes {d : DataW H} {l : List UInt8} (h : (d = .nil ∧ l = []) ∨ ∃ el sp, d = .slice el sp ∧ el.length = l.length) : l.length ≤ Rows.uptoBulk d := by
  rcases h with ⟨rfl, rfl⟩ | ⟨el, sp, rfl, hl⟩
  · simp
  · have := all el
    simp only [Rows.uptoBulk]
    omega
theorem three {d0 d1 d2 : DataW H} {gs : List (DataW H)} (h : Rows.uptoSmall H ([d0, d1, d2] ++ gs) = true) : Rows.uptoBulk d0 + Rows.uptoBulk d1 + Rows.uptoBulk d2 ≤ 1048576 := by
  have h := of_decide_eq_true h
  simp only [List.cons_append, List.nil_append, Rows.uptoBulkAll] at h
  omega
theorem two {d0 d1 : DataW H} {gs : List (DataW H)} (h : Rows.uptoSmall H ([d0, d1] ++ gs) = true) : Rows.uptoBulk d0 + Rows.uptoBulk d1 ≤ 1048576 := by
  have h := of_decide_eq_true h
  simp only [List.cons_append, List.nil_append, Rows.uptoBulkAll] at h
  omega
theorem single {d0 : DataW H} {gs : List (DataW H)} (h : Rows.uptoSmall H ([d0] ++ gs) = true) : Rows.uptoBulk d0 ≤ 1048576 := by
  have h := of_decide_eq_true h
  simp only [List.cons_append, List.nil_append, Rows.uptoBulkAll] at h
  omega
end Go.Proofs.YtmenchnjajpkmaaGreat.Bulk
end

section
namespace Go.Proofs.YtmenchnjajpkmaaGreat.Read
open Go Go.RowKit Go.ChangeShapes Go.WideShapes Mem Arr
variable {H : Type} {enc : TypeId × Value → H} {P : Program} {W : World}

/-- an array of bytes, as cells -/
theorem cells_arr {t e : TypeId} {n : Nat} {cs : List Value} {d : DataW H} {ps : List MemPlace} {held spare} {base fuel : Nat} (ht : P.underlying t = some (.array n e)) (he : P.underlying e = some (.int .u8)) (hc : P.cellsOf e = 1)
    (hsz : cs.length = n) (hf : DataW.trod enc P W base spare held fuel t cs = some (d, ps)) :
    ∃ l : List UInt8, cs = l.map byt ∧ l.length = n := by
  obtain ⟨xs, m, hxe, _, _, hx, hall⟩ := DataW.trod_array ht hf
  have hcell : ∀ i, (hi : i < n) → ∃ c : UInt8, cs[i]'(by omega) = byt c := by
    intro i hi
    have h1 := hall i hi
    rw [hc, Nat.mul_one, List.getElem?_eq_getElem (by omega : i < xs.length)] at h1
    obtain ⟨z, hz, _, hw⟩ := DataW.trod_int he h1
    refine ⟨u8of z, ?_⟩
    have h2 : (cs.drop i).take 1 = [cs[i]'(by omega)] := by
      rw [List.take_one, List.head?_drop]
      simp [hsz, hi]
    rw [h2] at hz
    simp only [List.cons.injEq, and_true] at hz
    rw [hz, byt, u8of_eq hw]
  refine ⟨(List.range n).map fun i => if h : i < n then (hcell i h).choose else 0, ?_, by simp⟩
  apply List.ext_getElem
  · simp [hsz]
  · intro i h1 h2
    have hi : i < n := by omega
    have := (hcell i hi).choose_spec
    rw [this]
    simp [hi]
/-- a slice of arrays of bytes -/
theorem cells_arrs {t e f : TypeId} {k : Nat} {cs : List Value} {d : DataW H} {ps : List MemPlace} {held spare} {base fuel : Nat} (ht : P.underlying t = some (.slice e)) (he : P.underlying e = some (.array k f)) (hf8 : P.underlying f = some (.int .u8)) (hcf : P.cellsOf f = 1) (hce : P.cellsOf e = k) (hk0 : 0 < k)
    (hf : DataW.trod enc P W base spare held fuel t cs = some (d, ps)) :
    ∃ v ds, cs = [v] ∧ Arr k Any W v (ds.map fun (x : List UInt8) => x.map byt) ∧ (∀ x ∈ ds, x.length = k) ∧ ((d = .nil ∧ ds = []) ∨ ∃ el sp, d = .slice el sp ∧ el.length = ds.length) := by
  rcases Deep.open_slice ht hf with ⟨rfl, hx⟩ | ⟨x, l, c, m, n, D, Pl, rfl, _, hl, hm, hmm, hx, hall⟩
  · simp only [Prod.mk.injEq] at hx
    exact ⟨_, [], rfl, ⟨none, 0, rfl, ⟨Nat.le_refl _, Nat.zero_le _, fun _ => rfl⟩, by simp, .inl rfl⟩, by simp, .inl ⟨hx.1, rfl⟩⟩
  · simp only [Prod.mk.injEq] at hx
    have hml : l ≤ m := by rw [hmm]; split <;> omega
    obtain ⟨X, hX⟩ := Deep.choose_lt (n := l) (p := fun i (y : List UInt8) => W.cells? base (x.add (i * k)) k = some (y.map byt) ∧ y.length = k) (fun i hi => by
      obtain ⟨cs', h1, h2⟩ := hall i (by omega)
      rw [hce] at h1
      obtain ⟨_, hlen, _⟩ := World.cells?_some h1
      obtain ⟨y, rfl, hy⟩ := cells_arr he hf8 hcf hlen h2
      exact ⟨y, h1, hy⟩)
    refine ⟨_, (List.range l).map X, rfl, ⟨some x, c, by simp, ⟨by simpa using hl, hm, fun h => by cases h⟩, ?_, ?_⟩, ?_, .inr ⟨_, _, hx.1, by simp⟩⟩
    · intro z hz
      simp only [List.mem_map, List.mem_range] at hz
      obtain ⟨_, ⟨i, hi, rfl⟩, rfl⟩ := hz
      simpa using (hX i hi).2
    · by_cases h0 : l = 0
      · left; subst h0; rfl
      right
      obtain ⟨b, off, spot⟩ := x
      have h00 := (World.cells?_some (hX 0 (by omega)).1).2.2 0 hk0
      have hlen0 := (hX 0 (by omega)).2
      rw [List.getElem?_eq_getElem (by simpa [hlen0] using hk0)] at h00
      have hspot : spot = none := by simpa [Addr.add] using World.cell?_spot h00
      subst hspot
      refine ⟨b, off, rfl, trivial, fun i hi j u hu => ?_⟩
      have hi' : i < l := by simpa using hi
      simp only [List.getElem_map, List.getElem_range] at hu
      have hj : j < k := by have := (List.getElem?_eq_some_iff.1 hu).1; simpa [(hX i hi').2] using this
      have := (World.cells?_some (hX i hi').1).2.2 j hj
      rw [hu] at this
      rw [← this, add_plain, add_plain]
    · intro z hz
      simp only [List.mem_map, List.mem_range] at hz
      obtain ⟨i, hi, rfl⟩ := hz
      exact (hX i hi).2
theorem read_arrs {t e f : TypeId} {k : Nat} {v : Value} {d : DataW H} {ps : List MemPlace} {held spare} {base b0 : Nat} (ht : P.underlying t = some (.slice e)) (he : P.underlying e = some (.array k f)) (hf8 : P.underlying f = some (.int .u8)) (hcf : P.cellsOf f = 1) (hce : P.cellsOf e = k) (hk0 : 0 < k)
    (hval : Value.okWide P W .any b0 t v) (h : DataW.Trod enc P W base spare held t v d ps) :
    ∃ ds, Arr k Any W v (ds.map fun (x : List UInt8) => x.map byt) ∧ (∀ x ∈ ds, x.length = k) ∧ ((d = .nil ∧ ds = []) ∨ ∃ el sp, d = .slice el sp ∧ el.length = ds.length) := by
  obtain ⟨a, len, cap, rfl⟩ := okWide_slice ht hval
  obtain ⟨fuel, hf⟩ := h
  obtain ⟨v', ds, hv, h1, h2, h3⟩ := cells_arrs ht he hf8 hcf hce hk0 hf
  obtain rfl : v' = .slice a len cap := by simpa [Value.cells] using hv.symm
  exact ⟨ds, h1, h2, h3⟩
theorem reach_arrs {α : Type} {ts : List TypeId} {ds : List (DataW H)} (hsz : (DataW.weightsEach P ts ds).all (· ≤ reachBytes) = true) {j : Nat} {t e : TypeId} {d : DataW H} {l : List α} {k : Nat}
    (hj : ts[j]? = some t) (hd : ds[j]? = some d) (hu : P.underlying t = some (.slice e)) (hb : P.bytesOf e = k) (h : (d = .nil ∧ l = []) ∨ ∃ el sp, d = .slice el sp ∧ el.length = l.length) :
    l.length * k ≤ 140737488351232 := by
  rcases h with ⟨_, rfl⟩ | ⟨el, sp, rfl, hl⟩
  · simp
  · have := sized_slice hsz hj hd hu
    rw [hb] at this
    simp only [reachBytes] at this
    rw [← hl]
    exact Nat.le_trans (Nat.mul_le_mul_right k (Nat.le_add_right _ _)) this
end Go.Proofs.YtmenchnjajpkmaaGreat.Read
end

section
namespace Go.Proofs.YtmenchnjajpkmaaGreat.Rdr
open Go Go.RowKit Go.ChangeShapes Go.WideShapes Mem Arr Read
set_option linter.unusedVariables false

/-- cells of type t read as an x: they are f x, Ok x; in the form's reach: B x; M x: no more than the datum's bulk -/
structure Rdr (P : Program) (W : World) (t : TypeId) {α : Type} (f : α → List Value) (Ok B : α → Prop) (M : α → Nat) : Prop where
  read : ∀ {H : Type} {enc : TypeId × Value → H} {base : Nat} {spare : Nat → Bool} {held : Bool} {fuel : Nat} {cs : List Value} {d : DataW H} {ps : List MemPlace}, DataW.trod enc P W base spare held fuel t cs = some (d, ps) →
    ∃ x, cs = f x ∧ Ok x ∧ ((∀ n ∈ d.weights P t, n ≤ reachBytes) → B x) ∧ M x ≤ Rows.uptoBulk d
/-- the cells of some types, one behind the other -/
structure Rdrs (P : Program) (W : World) (ts : List TypeId) {α : Type} (f : α → List Value) (Ok B : α → Prop) (M : α → Nat) : Prop where
  read : ∀ {H : Type} {enc : TypeId × Value → H} {base : Nat} {spare : Nat → Bool} {held : Bool} {fuel : Nat} {cs : List Value} {xs : List (DataW H × List MemPlace)}, cs.length = (ts.map P.cellsOf).sum → xs.length = ts.length →
    (∀ (i : Nat) (t : TypeId), ts[i]? = some t → DataW.trod enc P W base spare held fuel t ((cs.drop ((ts.take i).map P.cellsOf).sum).take (P.cellsOf t)) = xs[i]?) →
    ∃ x, cs = f x ∧ Ok x ∧ ((∀ n ∈ DataW.weightsEach P ts (xs.map (·.1)), n ≤ reachBytes) → B x) ∧ M x ≤ Rows.uptoBulkAll (xs.map (·.1))
section
variable {P : Program} {W : World} {t e : TypeId} {ts : List TypeId} {α β : Type} {f : α → List Value} {g : β → List Value} {Ok B : α → Prop} {Ok' B' : β → Prop} {M : α → Nat} {M' : β → Nat}
theorem Rdr.conv (h : Rdr P W t f Ok B M) (q : α → β) (hf : ∀ x, Ok x → f x = g (q x)) (ho : ∀ x, Ok x → Ok' (q x)) (hb : ∀ x, Ok x → B x → B' (q x)) (hm : ∀ x, M' (q x) ≤ M x) : Rdr P W t g Ok' B' M' :=
  ⟨fun hr => by
    obtain ⟨x, h1, h2, h3, h4⟩ := h.read hr
    exact ⟨q x, by rw [h1, hf x h2], ho x h2, fun hw => hb x h2 (h3 hw), Nat.le_trans (hm x) h4⟩⟩
theorem rd_int {k : IntKind} (ht : P.underlying t = some (.int k)) : Rdr P W t (fun n : Int => [.int k n]) (fun n => (Lit.int k n).wf = true) (fun _ => True) (fun _ => 0) :=
  ⟨fun hr => by
    obtain ⟨n, h1, _, h2⟩ := DataW.trod_int ht hr
    exact ⟨n, h1, h2, fun _ => trivial, Nat.zero_le _⟩⟩
theorem rd_bool (ht : P.underlying t = some .bool) : Rdr P W t (fun b : Bool => [.bool b]) (fun _ => True) (fun _ => True) (fun _ => 0) :=
  ⟨fun hr => by
    obtain ⟨b, h1, _⟩ := DataW.trod_bool ht hr
    exact ⟨b, h1, trivial, fun _ => trivial, Nat.zero_le _⟩⟩
theorem rd_u64 (ht : P.underlying t = some (.int .u64)) : Rdr P W t (fun n : Nat => [.int .u64 (n : Int)]) (fun n => n < 18446744073709551616) (fun _ => True) (fun _ => 0) :=
  (rd_int ht).conv (fun n : Int => n.toNat) (fun n h => by have := bounds_u64 h; simp; omega) (fun n h => by have := bounds_u64 h; omega) (fun _ _ h => h) (fun _ => Nat.le_refl _)
theorem rd_u32 (ht : P.underlying t = some (.int .u32)) : Rdr P W t (fun n : Nat => [.int .u32 (n : Int)]) (fun n => n < 4294967296) (fun _ => True) (fun _ => 0) :=
  (rd_int ht).conv (fun n : Int => n.toNat) (fun n h => by have := bounds_u32 h; simp; omega) (fun n h => by have := bounds_u32 h; omega) (fun _ _ h => h) (fun _ => Nat.le_refl _)
theorem rd_i64 (ht : P.underlying t = some (.int .i64)) : Rdr P W t (fun n : Int => [.int .i64 n]) (fun n => -9223372036854775808 ≤ n ∧ n ≤ 9223372036854775807) (fun _ => True) (fun _ => 0) :=
  (rd_int ht).conv (fun n : Int => n) (fun n h => rfl) (fun n h => bounds_i64 h) (fun _ _ h => h) (fun _ => Nat.le_refl _)
theorem rd_bytes {n : Nat} (ht : P.underlying t = some (.array n e)) (he : P.underlying e = some (.int .u8)) (hc : P.cellsOf e = 1) (hct : P.cellsOf t = n) : Rdr P W t (fun l : List UInt8 => l.map byt) (fun l => l.length = n) (fun _ => True) (fun _ => 0) :=
  ⟨fun hr => by
    obtain ⟨xs, m, _, hxe, hcs, _⟩ := DataW.trod_array ht hr
    obtain ⟨l, h1, h2⟩ := cells_arr ht he hc (by rw [hcs, hct]) hr
    exact ⟨l, h1, h2, fun _ => trivial, Nat.zero_le _⟩⟩
theorem rds_nil : Rdrs P W [] (fun _ : Unit => []) (fun _ => True) (fun _ => True) (fun _ => 0) :=
  ⟨fun hl _ _ => ⟨(), List.length_eq_zero_iff.1 (by simpa using hl), trivial, fun _ => trivial, Nat.zero_le _⟩⟩
theorem rds_cons (h : Rdr P W t f Ok B M) (r : Rdrs P W ts g Ok' B' M') : Rdrs P W (t :: ts) (fun x : α × β => f x.1 ++ g x.2) (fun x => Ok x.1 ∧ Ok' x.2) (fun x => B x.1 ∧ B' x.2) (fun x => M x.1 + M' x.2) :=
  ⟨fun {H enc base spare held fuel cs xs} hl hx hr => by
    match xs, hx with
    | x :: xs, hx =>
      have h0 := hr 0 t rfl
      simp only [List.take_zero, List.map_nil, List.sum_nil, List.drop_zero, List.getElem?_cons_zero] at h0
      obtain ⟨a, a1, a2, a3, a4⟩ := h.read (d := x.1) (ps := x.2) h0
      simp only [List.map_cons, List.sum_cons] at hl
      obtain ⟨b, b1, b2, b3, b4⟩ := r.read (cs := cs.drop (P.cellsOf t)) (xs := xs) (by rw [List.length_drop]; omega) (by simpa using hx) (fun i t' hi => by
        have := hr (i + 1) t' hi
        simp only [List.take_succ_cons, List.map_cons, List.sum_cons, List.getElem?_cons_succ] at this
        rw [List.drop_drop]
        exact this)
      refine ⟨(a, b), ?_, ⟨a2, b2⟩, fun hw => ?_, ?_⟩
      · rw [← a1, ← b1, List.take_append_drop]
      · simp only [List.map_cons, DataW.weightsEach, List.mem_append] at hw
        exact ⟨a3 fun n hn => hw n (.inl hn), b3 fun n hn => hw n (.inr hn)⟩
      · simp only [List.map_cons, Rows.uptoBulkAll]
        omega⟩
/-- a struct -/
theorem rd_struct {fs : Array Field} (ht : P.underlying t = some (.struct fs)) (hts : fs.toList.map (·.type) = ts) (ho : fs.toList.map (·.offset) = (List.range ts.length).map fun i => ((ts.take i).map P.cellsOf).sum) (hc : P.cellsOf t = (ts.map P.cellsOf).sum) (h : Rdrs P W ts f Ok B M) : Rdr P W t f Ok B M :=
  ⟨fun {H enc base spare held fuel cs d ps} hr => by
    obtain ⟨xs, k, _, hD, hcs, hxl, hfs⟩ := DataW.trod_struct ht hr
    have hlen : fs.toList.length = ts.length := by rw [← hts, List.length_map]
    obtain ⟨x, h1, h2, h3, h4⟩ := h.read (cs := cs) (xs := xs) (by rw [hcs, hc]) (by rw [hxl, ← hlen]; simp) (fun i t' hi => by
      have hi' : i < ts.length := (List.getElem?_eq_some_iff.1 hi).1
      have hf : fs[i]? = some (fs[i]'(by rw [← Array.length_toList, hlen]; exact hi')) := Array.getElem?_eq_getElem _
      have h5 := hfs i _ hf
      have e1 : (fs[i]'(by rw [← Array.length_toList, hlen]; exact hi')).type = t' := by
        have : (fs.toList.map (·.type))[i]? = some t' := by rw [hts]; exact hi
        rw [List.getElem?_map, Array.getElem?_toList, hf] at this
        simpa using this
      have e2 : (fs[i]'(by rw [← Array.length_toList, hlen]; exact hi')).offset = ((ts.take i).map P.cellsOf).sum := by
        have : (fs.toList.map (·.offset))[i]? = some (((ts.take i).map P.cellsOf).sum) := by rw [ho, List.getElem?_map, List.getElem?_range hi']; rfl
        rw [List.getElem?_map, Array.getElem?_toList, hf] at this
        simpa using this
      rw [e1, e2] at h5
      exact h5)
    have hd : d = .agg (xs.map (·.1)) := congrArg Prod.fst hD
    refine ⟨x, h1, h2, fun hw => h3 fun n hn => hw n ?_, ?_⟩
    · rw [hd]; unfold DataW.weights; simp only [ht, hts]; exact hn
    · rw [hd]; unfold Rows.uptoBulk; omega⟩
theorem sum_le {γ : Type} (F G : γ → Nat) : ∀ l : List γ, (∀ x ∈ l, F x ≤ G x) → (l.map F).sum ≤ (l.map G).sum
  | [], _ => Nat.le_refl _
  | x :: l, h => by simp only [List.map_cons, List.sum_cons]; have := h x (by simp); have := sum_le F G l (fun y hy => h y (by simp [hy])); omega
theorem bulk_all {H : Type} : ∀ l : List (DataW H), Rows.uptoBulkAll l = (l.map Rows.uptoBulk).sum
  | [] => rfl
  | d :: r => by simp only [Rows.uptoBulkAll, List.map_cons, List.sum_cons, bulk_all r]
/-- a slice of things of many cells -/
theorem rd_slice [Inhabited α] {k nb : Nat} (ht : P.underlying t = some (.slice e)) (h : Rdr P W e f Ok B M) (hce : P.cellsOf e = k) (hk0 : 0 < k) (hb : P.bytesOf e = nb) :
    Rdr P W t (fun x : Value × List α => [x.1]) (fun x => Arr k Any W x.1 (x.2.map f) ∧ ∀ y ∈ x.2, Ok y) (fun x => x.2.length * nb ≤ 140737488351232 ∧ ∀ y ∈ x.2, B y) (fun x => (x.2.map fun y => max (M y) 1).sum) :=
  ⟨fun {H enc base spare held fuel cs d ps} hr => by
    rcases Deep.open_slice ht hr with ⟨rfl, hx⟩ | ⟨x, l, c, m, n, D, Pl, rfl, _, hl, hm, hmm, hx, hall⟩
    · simp only [Prod.mk.injEq] at hx
      exact ⟨(_, []), rfl, ⟨⟨none, 0, rfl, ⟨Nat.le_refl _, Nat.zero_le _, fun _ => rfl⟩, by simp, .inl rfl⟩, by simp⟩, fun _ => ⟨by simp, by simp⟩, by simp⟩
    · simp only [Prod.mk.injEq] at hx
      have hml : l ≤ m := by rw [hmm]; split <;> omega
      obtain ⟨X, hX⟩ := Deep.choose_lt (n := l) (p := fun i (y : α) => W.cells? base (x.add (i * k)) k = some (f y) ∧ (f y).length = k ∧ Ok y ∧ ((∀ n ∈ (D i).weights P e, n ≤ reachBytes) → B y) ∧ M y ≤ Rows.uptoBulk (D i)) (fun i hi => by
        obtain ⟨cs', h1, h2⟩ := hall i (by omega)
        rw [hce] at h1
        obtain ⟨_, hlen, _⟩ := World.cells?_some h1
        obtain ⟨y, rfl, q1, q2, q3⟩ := h.read h2
        exact ⟨y, h1, hlen, q1, q2, q3⟩)
      refine ⟨(_, (List.range l).map X), rfl, ⟨⟨some x, c, by simp, ⟨by simpa using hl, hm, fun h => by cases h⟩, ?_, ?_⟩, ?_⟩, fun hw => ⟨?_, ?_⟩, ?_⟩
      · intro z hz
        simp only [List.mem_map, List.mem_range] at hz
        obtain ⟨_, ⟨i, hi, rfl⟩, rfl⟩ := hz
        exact (hX i hi).2.1
      · by_cases h0 : l = 0
        · left; subst h0; rfl
        right
        obtain ⟨b, off, spot⟩ := x
        have h00 := (World.cells?_some (hX 0 (by omega)).1).2.2 0 hk0
        have hlen0 := (hX 0 (by omega)).2.1
        rw [List.getElem?_eq_getElem (by omega)] at h00
        have hspot : spot = none := by simpa [Addr.add] using World.cell?_spot h00
        subst hspot
        refine ⟨b, off, rfl, trivial, fun i hi j u hu => ?_⟩
        have hi' : i < l := by simpa using hi
        simp only [List.getElem_map, List.getElem_range] at hu
        have hj : j < k := by have := (List.getElem?_eq_some_iff.1 hu).1; have := (hX i hi').2.1; omega
        have := (World.cells?_some (hX i hi').1).2.2 j hj
        rw [hu] at this
        rw [← this, add_plain, add_plain]
      · intro y hy
        simp only [List.mem_map, List.mem_range] at hy
        obtain ⟨i, hi, rfl⟩ := hy
        exact (hX i hi).2.2.1
      · have := hw ((((List.range l).map D).length + ((List.range (m - l)).map fun j => D (l + j)).length) * P.bytesOf e) (by
          rw [hx.1]; unfold DataW.weights; simp only [ht]; exact List.mem_cons_self ..)
        rw [hb] at this
        simp only [reachBytes, List.length_map, List.length_range] at this ⊢
        have h9 : l * nb ≤ (l + (m - l)) * nb := Nat.mul_le_mul_right _ (by omega)
        omega
      · intro y hy
        simp only [List.mem_map, List.mem_range] at hy
        obtain ⟨i, hi, rfl⟩ := hy
        refine (hX i hi).2.2.2.1 fun n hn => hw n ?_
        rw [hx.1]; unfold DataW.weights; simp only [ht]
        refine List.mem_cons_of_mem _ (List.mem_append.2 (.inl ?_))
        have key : ∀ (L : List (DataW H)) (d : DataW H), d ∈ L → n ∈ d.weights P e → n ∈ DataW.weightsAll P e L := by
          intro L
          induction L with
          | nil => intro d hd; cases hd
          | cons a r ih =>
            intro d hd hn
            simp only [DataW.weightsAll, List.mem_append]
            rcases List.mem_cons.1 hd with rfl | hd
            · exact .inl hn
            · exact .inr (ih d hd hn)
        exact key _ (D i) (List.mem_map.2 ⟨i, List.mem_range.2 hi, rfl⟩) hn
      · rw [hx.1]
        unfold Rows.uptoBulk
        rw [bulk_all, List.map_map, List.map_map]
        have := sum_le ((fun y => max (M y) 1) ∘ X) (Rows.uptoBulk ∘ D) (List.range l) (fun i hi => by
          have h1 := (hX i (List.mem_range.1 hi)).2.2.2.2
          have h2 := Bulk.one (D i)
          simp only [Function.comp]
          omega)
        omega⟩
/-- an array of things of many cells -/
theorem rd_array {k n : Nat} (ht : P.underlying t = some (.array n e)) (h : Rdr P W e f Ok B M) (hce : P.cellsOf e = k) (hct : P.cellsOf t = n * k) :
    Rdr P W t (fun x : List α => (x.map f).flatten) (fun x => x.length = n ∧ ∀ y ∈ x, Ok y ∧ (f y).length = k) (fun x => ∀ y ∈ x, B y) (fun x => (x.map M).sum) :=
  ⟨fun {H enc base spare held fuel cs d ps} hr => by
    obtain ⟨xs, m, _, hxe, hcs, hxl, hall⟩ := DataW.trod_array ht hr
    rw [hce] at hall
    have hd : d = .agg (xs.map (·.1)) := congrArg Prod.fst hxe
    have key : ∀ (n : Nat) (cs : List Value) (xs : List (DataW H × List MemPlace)), cs.length = n * k → xs.length = n → (∀ i, i < n → DataW.trod enc P W base spare held m e ((cs.drop (i * k)).take k) = xs[i]?) →
        ∃ ys : List α, cs = (ys.map f).flatten ∧ ys.length = n ∧ (∀ y ∈ ys, Ok y ∧ (f y).length = k) ∧ ((∀ n ∈ DataW.weightsAll P e (xs.map (·.1)), n ≤ reachBytes) → ∀ y ∈ ys, B y) ∧ (ys.map M).sum ≤ Rows.uptoBulkAll (xs.map (·.1)) := by
      intro n
      induction n with
      | zero => intro cs xs hc hx _; exact ⟨[], by simpa using hc, rfl, by simp, by simp, by simp⟩
      | succ n ih =>
        intro cs xs hc hx ha
        match xs, hx with
        | x :: xs, hx =>
          have h0 := ha 0 (by omega)
          simp only [Nat.zero_mul, List.drop_zero, List.getElem?_cons_zero] at h0
          obtain ⟨y, y1, y2, y3, y4⟩ := h.read (d := x.1) (ps := x.2) h0
          have hlk : (cs.take k).length = k := by rw [List.length_take, hc, Nat.succ_mul]; omega
          obtain ⟨ys, z1, z2, z3, z4, z5⟩ := ih (cs.drop k) xs (by rw [List.length_drop, hc, Nat.succ_mul]; omega) (by simpa using hx) (fun i hi => by
            have := ha (i + 1) (by omega)
            rw [List.getElem?_cons_succ] at this
            rw [List.drop_drop, show k + i * k = (i + 1) * k by rw [Nat.succ_mul]; omega]
            exact this)
          refine ⟨y :: ys, ?_, by simp [z2], ?_, ?_, ?_⟩
          · rw [List.map_cons, List.flatten_cons, ← y1, ← z1, List.take_append_drop]
          · intro u hu
            rcases List.mem_cons.1 hu with rfl | hu
            · exact ⟨y2, by rw [← y1]; exact hlk⟩
            · exact z3 u hu
          · intro hw u hu
            simp only [List.map_cons, DataW.weightsAll, List.mem_append] at hw
            rcases List.mem_cons.1 hu with rfl | hu
            · exact y3 fun n hn => hw n (.inl hn)
            · exact z4 (fun n hn => hw n (.inr hn)) u hu
          · simp only [List.map_cons, List.sum_cons, Rows.uptoBulkAll]
            omega
    obtain ⟨ys, z1, z2, z3, z4, z5⟩ := key n cs xs (by rw [hcs, hct]) hxl hall
    refine ⟨ys, z1, ⟨z2, z3⟩, fun hw => z4 fun n hn => hw n ?_, ?_⟩
    · rw [hd]; unfold DataW.weights; simp only [ht]; exact hn
    · rw [hd]; unfold Rows.uptoBulk; omega⟩
end
/-- an argument of one cell -/
theorem arg_one {P : Program} {W : World} {t : TypeId} {α : Type} {v : α → Value} {Ok B : α → Prop} {M : α → Nat} {H : Type} {enc : TypeId × Value → H} {u : Value} {d : DataW H} {ps : List MemPlace} {held spare} {base : Nat} (h : Rdr P W t (fun x => [v x]) Ok B M) (hu : u.cells.toList = [u])
    (ht : DataW.Trod enc P W base spare held t u d ps) : ∃ x, u = v x ∧ Ok x ∧ ((∀ n ∈ d.weights P t, n ≤ reachBytes) → B x) ∧ M x ≤ Rows.uptoBulk d := by
  obtain ⟨fuel, hf⟩ := ht
  rw [hu] at hf
  obtain ⟨x, h1, h2⟩ := h.read hf
  exact ⟨x, by simpa using h1, h2⟩
/-- an argument of many cells -/
theorem arg_agg {P : Program} {W : World} {t : TypeId} {α : Type} {f : α → List Value} {Ok B : α → Prop} {M : α → Nat} {H : Type} {enc : TypeId × Value → H} {cs : Array Value} {d : DataW H} {ps : List MemPlace} {held spare} {base : Nat} (h : Rdr P W t f Ok B M)
    (ht : DataW.Trod enc P W base spare held t (.agg cs) d ps) : ∃ x, cs = (f x).toArray ∧ Ok x ∧ ((∀ n ∈ d.weights P t, n ≤ reachBytes) → B x) ∧ M x ≤ Rows.uptoBulk d := by
  obtain ⟨fuel, hf⟩ := ht
  obtain ⟨x, h1, h2⟩ := h.read hf
  exact ⟨x, by simp only [Value.cells] at h1; rw [← h1], h2⟩
theorem weights_of {P : Program} {H : Type} {ts : List TypeId} {ds : List (DataW H)} (hsz : (DataW.weightsEach P ts ds).all (· ≤ reachBytes) = true) {j : Nat} {t : TypeId} {d : DataW H} (hj : ts[j]? = some t) (hd : ds[j]? = some d) : ∀ n ∈ d.weights P t, n ≤ reachBytes := by
  intro n hn
  exact of_decide_eq_true (List.all_eq_true.1 hsz n (DataW.weights_mem_each hj hd n hn))
end Go.Proofs.YtmenchnjajpkmaaGreat.Rdr
end

section
namespace Go.Proofs.YtmenchnjajpkmaaGreat.Rdr
open Go Go.RowKit Mem Arr Read Reps
set_option linter.unusedVariables false

/-- cells of type t read by R -/
abbrev RdX (P : Program) (W : World) (t : TypeId) {X : Type} (R : (Nat → Prop) → World → List Value → X → Prop) (B : X → Prop) (M : X → Nat) : Prop :=
  Rdr P W t (fun y : List Value × X => y.1) (fun y => R Any W y.1 y.2) (fun y => B y.2) (fun y => M y.2)
abbrev RdXs (P : Program) (W : World) (ts : List TypeId) {X : Type} (R : (Nat → Prop) → World → List Value → X → Prop) (B : X → Prop) (M : X → Nat) : Prop :=
  Rdrs P W ts (fun y : List Value × X => y.1) (fun y => R Any W y.1 y.2) (fun y => B y.2) (fun y => M y.2)
section
variable {P : Program} {W : World} {t e : TypeId} {ts : List TypeId} {X Y : Type} {R : (Nat → Prop) → World → List Value → X → Prop} {R' : (Nat → Prop) → World → List Value → Y → Prop} {B : X → Prop} {B' : Y → Prop} {M : X → Nat} {M' : Y → Nat}
theorem rx_of {f : X → List Value} {Ok : X → Prop} (h : Rdr P W t f Ok B M) (hr : ∀ x, Ok x → R Any W (f x) x) : RdX P W t R B M :=
  ⟨fun hd => by
    obtain ⟨x, h1, h2, h3, h4⟩ := h.read hd
    exact ⟨(f x, x), h1, hr x h2, h3, h4⟩⟩
theorem rx_u64 (ht : P.underlying t = some (.int .u64)) : RdX P W t RU64 (fun _ => True) (fun _ => 0) := rx_of (rd_u64 ht) (fun x h => ⟨h, rfl⟩)
theorem rx_u32 (ht : P.underlying t = some (.int .u32)) : RdX P W t RU32 (fun _ => True) (fun _ => 0) := rx_of (rd_u32 ht) (fun x h => ⟨h, rfl⟩)
theorem rx_i64 (ht : P.underlying t = some (.int .i64)) : RdX P W t RI64 (fun _ => True) (fun _ => 0) := rx_of (rd_i64 ht) (fun x h => ⟨h, rfl⟩)
theorem rx_bool (ht : P.underlying t = some .bool) : RdX P W t RBool (fun _ => True) (fun _ => 0) := rx_of (rd_bool ht) (fun x h => ⟨h, rfl⟩)
theorem rx_dgs {n : Nat} (ht : P.underlying t = some (.array n e)) (he : P.underlying e = some (.int .u8)) (hc : P.cellsOf e = 1) (hct : P.cellsOf t = n) : RdX P W t (RDgs n) (fun _ => True) (fun _ => 0) := rx_of (rd_bytes ht he hc hct) (fun x h => ⟨h, rfl⟩)
theorem rx_sl [Inhabited X] {k nb : Nat} (ht : P.underlying t = some (.slice e)) (h : RdX P W e R B M) (hce : P.cellsOf e = k) (hk0 : 0 < k) (hb : P.bytesOf e = nb) :
    RdX P W t (RSl k R) (fun xs => xs.length * nb ≤ 140737488351232 ∧ ∀ y ∈ xs, B y) (fun xs => (xs.map fun y => max (M y) 1).sum) :=
  ⟨fun hd => by
    obtain ⟨x, h1, h2, h3, h4⟩ := (rd_slice ht h hce hk0 hb).read hd
    refine ⟨([x.1], x.2.map (·.2)), h1, ⟨x.1, rfl, x.2.map (·.1), h2.1, All2.ofMap (·.1) (·.2) x.2 h2.2⟩, fun hw => ⟨by simpa using (h3 hw).1, fun y hy => ?_⟩, ?_⟩
    · obtain ⟨z, hz, rfl⟩ := List.mem_map.1 hy
      exact (h3 hw).2 z hz
    · simpa [List.map_map, Function.comp_def] using h4⟩
theorem rxs_one (h : RdX P W t R B M) : RdXs P W [t] R B M :=
  ⟨fun hl hx hr => by
    obtain ⟨x, h1, h2, h3, h4⟩ := (rds_cons h rds_nil).read hl hx hr
    exact ⟨x.1, by simpa using h1, h2.1, fun hw => (h3 hw).1, by simpa using h4⟩⟩
theorem rxs_cons (h : RdX P W t R B M) (r : RdXs P W ts R' B' M') : RdXs P W (t :: ts) (PairR R R') (fun x => B x.1 ∧ B' x.2) (fun x => M x.1 + M' x.2) :=
  ⟨fun hl hx hr => by
    obtain ⟨x, h1, h2, h3, h4⟩ := (rds_cons h r).read hl hx hr
    exact ⟨(x.1.1 ++ x.2.1, (x.1.2, x.2.2)), h1, ⟨_, _, rfl, h2.1, h2.2⟩, h3, h4⟩⟩
/-- a slice of bytes -/
theorem rx_by (ht : P.underlying t = some (.slice e)) (he : P.underlying e = some (.int .u8)) (hc : P.cellsOf e = 1) (hb : P.bytesOf e = 1) : RdX P W t RBy (fun l => l.length ≤ 140737488351232) List.length :=
  ⟨fun hd => by
    obtain ⟨x, h1, h2, h3, h4⟩ := (rd_slice ht (rd_int he) hc (by decide) hb).read hd
    have hn : ∀ y ∈ x.2, 0 ≤ y ∧ y ≤ 255 := fun y hy => by
      have := h2.2 y hy
      have e1 : IntKind.u8.min = 0 := by kernel_rfl
      have e2 : IntKind.u8.max = 255 := by kernel_rfl
      simp only [Lit.wf, e1, e2, decide_eq_true_eq, Bool.and_eq_true] at this
      exact this
    have hbyt : ∀ y : Int, 0 ≤ y ∧ y ≤ 255 → Mem.byt (UInt8.ofNat y.toNat) = .int .u8 y := fun y hy => by
      show Value.int .u8 ((UInt8.ofNat y.toNat).toNat : Int) = _
      rw [UInt8.toNat_ofNat']
      congr 1
      omega
    obtain ⟨a, c, hv, hc3, hlen, hm⟩ := h2.1
    refine ⟨([x.1], x.2.map fun y => UInt8.ofNat y.toNat), h1, ⟨x.1, rfl, a, c, by simpa using hv, by simpa using hc3, ?_⟩, fun hw => by simpa using (h3 hw).1, ?_⟩
    · rcases hm with hm | ⟨b, off, rfl, hd2, hr⟩
      · left; simpa using hm
      · right
        refine ⟨b, off, rfl, hd2, fun i hi => ?_⟩
        have hi' : i < x.2.length := by simpa using hi
        have := hr i (by simpa using hi') 0 (.int .u8 (x.2[i]'hi')) (by simp)
        rw [Nat.mul_one, Nat.add_zero] at this
        rw [this]
        simp only [List.getElem_map]
        rw [← hbyt _ (hn _ (List.getElem_mem hi'))]
    · have key : ∀ l : List Int, l.length ≤ (l.map fun y : Int => max 0 1).sum := by
        intro l
        induction l with
        | nil => simp
        | cons a r ih => simp at ih ⊢; omega
      have := key x.2
      simp only [List.length_map]
      omega⟩
end
end Go.Proofs.YtmenchnjajpkmaaGreat.Rdr
end

section
namespace Go.Proofs.YtmenchnjajpkmaaGreat.Rdr
open Go Go.RowKit Mem Arr Read Reps Rr Wm Rh Codec
set_option linter.unusedVariables false

theorem rx_dg (W : World) : RdX Tryz.prog W 27 (RDgs 32) (fun _ => True) (fun _ => 0) := rx_dgs Tryz.underlying27 Tryz.underlying5 (by kernel_rfl) (by kernel_rfl)
theorem rx_mo (W : World) : RdX Tryz.prog W 76 RMo (fun _ => True) (fun _ => 0) :=
  (rd_struct (ts := [22, 27]) Tryz.underlying76 rfl (by kernel_rfl) (by kernel_rfl) (rxs_cons (rx_u64 Tryz.underlying22) (rxs_one (rx_dg W)))).conv (fun y => y) (fun _ _ => rfl) (fun _ h => h) (fun _ _ _ => trivial) (fun _ => Nat.zero_le _)
theorem mo_enc {D : Nat → Prop} {w : World} {cs : List Value} {x : XMo} (h : RMo D w cs x) : (encMo x).length = 40 := by
  obtain ⟨a1, b1, rfl, ⟨_, rfl⟩, k2, rfl⟩ := h
  simp [encMo, num_length, k2]
theorem all2_enc {D : Nat → Prop} {w : World} {css : List (List Value)} {xs : List XMo} (h : All2 (RMo D w) css xs) : ∀ x ∈ xs, (encMo x).length ≤ 40 := by
  induction h with
  | nil => simp
  | cons h1 _ ih => intro x hx; rcases List.mem_cons.1 hx with rfl | hx; exact Nat.le_of_eq (mo_enc h1); exact ih x hx
theorem rx_mt (W : World) : RdX Tryz.prog W 25 RMt Wmm.Fits (fun _ => 0) :=
  ⟨fun hd => by
    obtain ⟨x, h1, h2, h3, h4⟩ := (rd_struct (ts := [22, 23]) Tryz.underlying25 rfl (by kernel_rfl) (by kernel_rfl)
      (rxs_cons (rx_u64 Tryz.underlying22) (rxs_one (rx_sl Tryz.underlying23 (rx_mo W) (k := 33) (by kernel_rfl) (by decide) (nb := 40) (by kernel_rfl))))).read hd
    refine ⟨x, h1, h2, fun hw => ?_, Nat.zero_le _⟩
    have hle := (h3 hw).2.1
    obtain ⟨a1, b1, _, _, v, _, css, _, h5⟩ := h2
    have h6 := Wmm.flat_le encMo 40 x.2.2 (all2_enc h5)
    have h7 := Wt.var_len9 x.2.2.length
    show (num _ 8 ++ (var x.2.2.length ++ x.2.2.flatMap encMo)).length + 9 ≤ _
    simp only [List.length_append, num_length]
    omega⟩
theorem rx_mh (W : World) : RdX Tryz.prog W 29 RMh (fun _ => True) (fun _ => 0) :=
  (rd_struct (ts := [27, 27, 22, 22]) Tryz.underlying29 rfl (by kernel_rfl) (by kernel_rfl) (rxs_cons (rx_dg W) (rxs_cons (rx_dg W) (rxs_cons (rx_u64 Tryz.underlying22) (rxs_one (rx_u64 Tryz.underlying22)))))).conv (fun y => y) (fun _ _ => rfl) (fun _ h => h) (fun _ _ _ => trivial) (fun _ => Nat.zero_le _)
set_option maxRecDepth 100000 in
open Go.WideShapes Go.ChangeShapes in
theorem agg_mt {W : World} {b0 : Nat} {v : Value} (hval : Value.okWide Tryz.prog W .any b0 25 v) : ∃ cs, v = .agg cs := by
  simp only [Value.okWide, Tryz.underlying25] at hval
  obtain ⟨cs, rfl, _⟩ := hval
  exact ⟨cs, rfl⟩
set_option maxRecDepth 100000 in
open Go.WideShapes Go.ChangeShapes in
theorem agg_mh {W : World} {b0 : Nat} {v : Value} (hval : Value.okWide Tryz.prog W .any b0 29 v) : ∃ cs, v = .agg cs := by
  simp only [Value.okWide, Tryz.underlying29] at hval
  obtain ⟨cs, rfl, _⟩ := hval
  exact ⟨cs, rfl⟩
end Go.Proofs.YtmenchnjajpkmaaGreat.Rdr
end
