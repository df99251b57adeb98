/- The walk of the reference's Evidence. Conditions: a track as it is, an argument's evidence; the table is laid. The two tables of numbers as a row's condition lays them. No condition. The walk of the law MainchainEvidence. Conditions: an argument's headers and a proof; the tables are laid. How arguments read: a slice of arrays of bytes, as the words of Arr. Program-independent; no condition. -/
import Derived.Test.YtmenchnjajpkmaaGreatDoorEvio
import Derived.Test.YtmenchnjajpkmaaGreatDoorRows
import Derived.Test.YtmenchnjajpkmaaGreatDoorEvib
import Derived.Lib.LaidTab
import Derived.Lib.LaidU8
import Derived.LaidSub
import Derived.MakeChecks
import Derived.Test.YtmenchnjajpkmaaGreatDoorEvih
import Derived.Test.YtmenchnjajpkmaaGreatDoorCards
import Derived.Deep.DeepCutAuto
import Derived.Deep.CutBlock
import Derived.Test.YtmenchnjajpkmaaGreatDoorEvia
import Derived.Test.YtmenchnjajpkmaaGreatDoorEvic
import Derived.Test.YtmenchnjajpkmaaGreatDoorEvie
import Derived.Deep.Slices
section
namespace Go.Proofs.YtmenchnjajpkmaaGreatDoor.Ev
open Go Go.RowKit Mem Sha ShaW Mk Arr Reps Rr Wm Rm Rf Codec Wt WtIt Wr Mh Ops
open MkW (dcs)
set_option linter.unusedVariables false

theorem zeroMoRun (w : World) : (zeroValue 58).run Tryz.prog w = .ok (.agg (Value.int .u64 0 :: List.replicate 32 (Value.int .u8 0)).toArray) w := by kernel_rfl
theorem one_mo (a : Int) (d : List UInt8) : ∀ v ∈ (Value.int .u64 a :: d.map byt), v.oneCell' = true := by
  intro v hv
  rcases List.mem_cons.1 hv with rfl | hv
  · rfl
  · exact Tk.one_dig d v hv
set_option maxHeartbeats 16000000 in
set_option maxRecDepth 100000 in
theorem revid_calls (D : Nat → Prop) (tv : Value) (w : World) (hs : List Hd) (TT : Trk hs) (i : In) (ok : i.Ok) (hx : Byt Any w i.vx i.tx) (hp : Arr 32 Any w i.vp (dcs i.ds)) (hq : Byt Any w i.vs i.sc) (hD : ∀ k, D k → k < w.heap.size) (H : Tr.RT D w tv hs) :
    Calls Tryz.prog 7 #[.agg [tv].toArray, .agg (pgC i).toArray, .agg (opC i).toArray, .agg (i.ov.map byt).toArray, .int .u64 (i.dp : Int)] w fun e w' => e = .returned (.tuple #[.int .u64 ((evid hs i).1 : Int), .int .i64 (evid hs i).2]) ∧ Below w.heap.size w w' := by
  obtain ⟨X, hX⟩ : ∃ X : World → Prop, (fun a => Tr.RT D a tv hs ∧ Blk a w.heap.size [tv] 37) = X := ⟨_, rfl⟩
  have HXI := Lib.hid (show ∀ a, X a → Tr.RT D a tv hs ∧ Blk a w.heap.size [tv] 37 from fun a h => by rw [← hX] at h; exact h)
  have HXO := Lib.hid (show ∀ a, Tr.RT D a tv hs → Blk a w.heap.size [tv] 37 → X a from fun a h g => by rw [← hX]; exact ⟨h, g⟩)
  have HXB := Lib.hid (show ∀ a c, X a → Below a.heap.size a c → X c from fun a c h g => by rw [← hX] at h ⊢; exact ⟨h.1.below g, h.2.below g⟩)
  have HXD := Lib.hid (show ∀ a, X a → X a.drew from fun a h => by rw [← hX] at h ⊢; exact ⟨h.1.drew, h.2.drew⟩)
  have HDD := Lib.hid hD
  have hT := H.t
  obtain ⟨ta, tc, htv, _⟩ := H.form
  obtain ⟨xa, xc, hxv, _⟩ := id hx
  have H0 := Lib.hid H
  have HPL := Lib.hid (pg_len ok)
  have HOL := Lib.hid (op_len ok)
  have OK := Lib.hid ok
  have HX0 := Lib.hid hx
  have HP0 := Lib.hid hp
  have HQ0 := Lib.hid hq
  have HT0 := Lib.hid hT
  have HSX : Hid (∀ mv : Nat, ∀ v : Value, (Tryz.prog.info? 56).map (·.size) = some [Value.int .u64 (mv : Int), v].length) := Lib.hid (fun _ _ => by kernel_rfl)
  obtain ⟨⟨⟨mv, os⟩, me⟩, hg⟩ : ∃ g, gotMt i.tx = g := ⟨_, rfl⟩
  have GP := Lib.hid (fun w' (h : Byt Any w' i.vx i.tx) => show Calls Tryz.prog 18 #[i.vx] w' (GotT RMt w' (got RDmt ((0 : Nat), ([] : List (Nat × List UInt8))) i.tx)) from by rw [hxv] at h ⊢; exact readMainTx_ref Any w' xa xc i.tx h (by have := ok.tx; omega))
  rw [show got RDmt ((0 : Nat), ([] : List (Nat × List UInt8))) i.tx = gotMt i.tx from rfl, hg] at GP
  have HG := Lib.hid hg
  have HFI := Lib.hid (show Fits (mv, os) from by have := got_fits i.tx; rw [hg] at this; exact this)
  have HME := Lib.hid (show me = 0 ∨ me = 120 from by have := gotMt_or i.tx; rw [hg] at this; exact this)
  obtain ⟨pc, hpc⟩ : ∃ pc, pgC i = pc := ⟨_, rfl⟩
  obtain ⟨oc', hoc⟩ : ∃ oc, opC i = oc := ⟨_, rfl⟩
  have HPC := Lib.hid hpc
  have HOC := Lib.hid hoc
  rw [hpc, hoc]
  clear hX H hD hxv ok hx hp hq hT hpc hoc hg
  subst htv
  go_enter Tryz.func7, Tryz.ntmps7
  go_upto_region 1 with (first
    | ((with_reducible refine wpList_box rfl _ _ rfl [.slice ta hs.length tc] rfl (fun wt kt bt zt => ?_)); have KT := Lib.hid kt; have BT := Lib.hid bt; clear kt bt)
    | ((with_reducible refine wpList_box rfl _ _ rfl pc rfl (fun w1 k1 b1 z1 => ?_)); have K1 := Lib.hid k1; have B1 := Lib.hid b1; clear k1 b1)
    | ((with_reducible refine wpList_box rfl _ _ rfl oc' rfl (fun w2 k2 b2 z2 => ?_)); have K2 := Lib.hid k2; have B2 := Lib.hid b2; clear k2 b2)
    | ((with_reducible refine wpList_box rfl _ _ rfl (i.ov.map byt) rfl (fun w3 k3 b3 z3 => ?_)); have K3 := Lib.hid k3; have B3 := Lib.hid b3; clear k3 b3))
  have E3 := Lib.hid (show EV X 0 w wt.heap.size w1.heap.size w2.heap.size i w3 from by
    have g01 := BT.out.trans (B1.out.mono (by omega))
    have g12 := g01.trans (B2.out.mono (by omega))
    have g13 := g12.trans (B3.out.mono (by omega))
    exact ⟨HXO.out _ (H0.out.below g13) (((KT.out.below B1.out).below B2.out).below B3.out), by rw [HPC.out]; exact (K1.out.below B2.out).below B3.out, by rw [HOC.out]; exact K2.out.below B3.out, K3.out, HX0.out.below g13, HP0.out.below (by omega) g13, HQ0.out.below g13, HT0.out.below g13, g13⟩)
  clear KT K1 K2 K3 BT B1 B2 B3 H0 HX0 HP0 HQ0 HT0
  generalize wt.heap.size = gp at *
  generalize w1.heap.size = go at *
  generalize w2.heap.size = gv at *
  go_wp2_with (first
    | (with_reducible refine wpList_load_blk rfl _ _ rfl w.heap.size [.slice ta hs.length tc] rfl (HXI.out _ E3.out.x).2 _ Tryz.underlying37 rfl (Tr.szRT _) ?_)
    | (with_reducible refine wpList_load_mid rfl _ _ rfl gp 0 rfl (i.hd.map byt) _ E3.out.rp Tryz.underlying24 rfl (MkW.szD' OK.out.hd) ?_)
    | (with_reducible refine wpList_load_mid rfl _ _ rfl gv 0 rfl (i.ov.map byt) _ E3.out.rv Tryz.underlying24 rfl (MkW.szD' OK.out.ov) ?_))
  refine (Tr.rdepth_calls D w3 (.slice ta hs.length tc) hs TT i.hd i.ov OK.out.hd OK.out.ov (fun k hk => by have := HDD.out k hk; have := E3.out.b.size; omega) (HXI.out _ E3.out.x).1).mono ?_
  rintro e w4 ⟨rfl, g⟩
  have E4 := Lib.hid (E3.out.below HXB.out g)
  clear g E3
  obtain ⟨nn, hnn⟩ : ∃ nn, (depth hs i.hd i.ov).getD 0 = nn := ⟨_, rfl⟩
  obtain ⟨is, his⟩ : ∃ is, (depth hs i.hd i.ov).isSome = is := ⟨_, rfl⟩
  have HNN := Lib.hid hnn
  have HIS := Lib.hid his
  rw [hnn, his]
  clear hnn his
  rcases is with _ | _
  · have HE := Lib.hid (show evid hs i = (0, 171) from if_pos HIS.out)
    go_wp2
    go_ret2
    exact ⟨by rw [HE.out]; rfl, E4.out.b⟩
  by_cases hd : nn < i.dp
  · have HE := Lib.hid (show evid hs i = (0, 173) from by unfold evid; rw [if_neg (by rw [HIS.out]; decide), if_pos (by rw [HNN.out]; exact hd)])
    have hdI : (nn : Int) < (i.dp : Int) := by omega
    clear hd
    go_wp2
    go_ret2
    exact ⟨by rw [HE.out]; rfl, E4.out.b⟩
  have HE2 := Lib.hid (show evid hs i = evid2 hs i from by unfold evid; rw [if_neg (by rw [HIS.out]; decide), if_neg (by rw [HNN.out]; exact hd)])
  have hdI : ¬ (nn : Int) < (i.dp : Int) := by omega
  have c32 := E4.out.c32 OK.out
  clear hd
  go_wp2_with fail
  refine (GP.out w4 E4.out.bx).mono ?_
  rintro e w5 ⟨cx, rfl, g1, g2⟩
  have E5 := Lib.hid (E4.out.below HXB.out g2)
  obtain ⟨c1, c2, rfl, ⟨hmv, rfl⟩, vo, rfl, hsl⟩ := g1
  have HMV := Lib.hid hmv
  have hsl2 := hsl.mono rep_Mo (E := Any) (fun _ _ _ => trivial)
  obtain ⟨oa, oc, rfl, _⟩ := id hsl2.form
  have MS := Lib.hid hsl2
  simp only [List.singleton_append]
  clear c32 hdI E4 g2 hsl hsl2 hmv
  have HSX := Lib.hid (HSX.out mv (.slice oa os.length oc))
  go_upto_region 7 with (first
    | ((with_reducible refine wpList_alloc rfl _ rfl _ (zeroMt _) (fun wd kd cd zd => ?_)); have KD := Lib.hid kd; have CD := Lib.hid cd; clear kd cd)
    | ((with_reducible refine wpList_put rfl _ _ _ rfl w5.heap.size [.int .u64 (mv : Int), .slice oa os.length oc] _ rfl rfl KD.out HSX.out rfl (mt_one _ _ _ _) (fun w6 ke fe ze => ?_)); have KU := Lib.hid ke; have CE := Lib.hid (CD.out.trans (fe.below CD.out.size (fun k (hk : k = _) => by omega))); clear ke fe))
  have E6 := Lib.hid (E5.out.below HXB.out CE.out)
  have M6 := Lib.hid (show MtB w6 w5.heap.size mv (.slice oa os.length oc) os from ⟨KU.out, MS.out.below rep_Mo CE.out⟩)
  clear KD CD CE KU MS E5
  generalize w5.heap.size = gx at *
  obtain ⟨d, hid⟩ : ∃ d, mtId (mv, os) = d := ⟨_, rfl⟩
  have HID := Lib.hid hid
  have HDL := Lib.hid (show d.length = 32 from by rw [← hid]; exact mtId_length _)
  clear hid
  obtain rfl | rfl := HME.out.symm
  · have HE := Lib.hid (show evid hs i = (0, 174) from by rw [HE2.out]; unfold evid2; rw [if_pos (by rw [HG.out])])
    refine wp_region_held_drew (S := (fun w' => EV X 0 w gp go gv i w' ∧ MtB w' gx mv (.slice oa os.length oc) os)) (by kernel_rfl) ⟨EV.drew HXD.out E6.out, M6.out.drew⟩ (fun hHeld => ?_)
    refine wpAnyH_take (i := 0) (oi := ⟨_, _, _, _, _, _⟩) (v := ?_) rfl (by kernel_rfl) (by kernel_rfl) (by kernel_rfl) (fun _ _ _ h => h) (Or.inl ⟨by rfl, ?_⟩) (by assumption) ?_
    rotate_left
    · intro w hSw; go_simp; try (with_reducible rfl)
    try simp only [Act.put, List.setIfInBounds_toArray, List.set_cons_zero, List.set_cons_succ]
    refine wpAnyH_take (i := 1) (oi := ⟨_, _, _, _, _, _⟩) (v := ?_) rfl (by kernel_rfl) (by kernel_rfl) (by kernel_rfl) (fun _ _ _ h => h) (Or.inl ⟨by rfl, ?_⟩) (by assumption) ?_
    rotate_left
    · intro w hSw; go_simp; try (with_reducible rfl)
    try simp only [Act.put, List.setIfInBounds_toArray, List.set_cons_zero, List.set_cons_succ]
    refine wpAnyH_take (i := 2) (oi := ⟨_, _, _, _, _, _⟩) (v := ?_) rfl (by kernel_rfl) (by kernel_rfl) (by kernel_rfl) (fun _ _ _ h => h) (Or.inl ⟨by rfl, ?_⟩) (by assumption) ?_
    rotate_left
    · intro w hSw; go_simp; try (with_reducible rfl)
    try simp only [Act.put, List.setIfInBounds_toArray, List.set_cons_zero, List.set_cons_succ]
    refine wpAnyH_take (i := 3) (oi := ⟨_, _, _, _, _, _⟩) (v := undef) rfl (by kernel_rfl) (by kernel_rfl) (by kernel_rfl) (fun _ _ _ h => h) (Or.inr ⟨by rfl, rfl⟩) (by assumption) ?_
    try simp only [Act.put, List.setIfInBounds_toArray, List.set_cons_zero, List.set_cons_succ]
    refine wpAnyH_take (i := 4) (oi := ⟨_, _, _, _, _, _⟩) (v := undef) rfl (by kernel_rfl) (by kernel_rfl) (by kernel_rfl) (fun _ _ _ h => h) (Or.inr ⟨by rfl, rfl⟩) (by assumption) ?_
    try simp only [Act.put, List.setIfInBounds_toArray, List.set_cons_zero, List.set_cons_succ]
    refine wpAnyH_take (i := 5) (oi := ⟨_, _, _, _, _, _⟩) (v := undef) rfl (by kernel_rfl) (by kernel_rfl) (by kernel_rfl) (fun _ _ _ h => h) (Or.inr ⟨by rfl, rfl⟩) (by assumption) ?_
    try simp only [Act.put, List.setIfInBounds_toArray, List.set_cons_zero, List.set_cons_succ]
    refine wpAnyH_take (i := 6) (oi := ⟨_, _, _, _, _, _⟩) (v := undef) rfl (by kernel_rfl) (by kernel_rfl) (by kernel_rfl) (fun _ _ _ h => h) (Or.inr ⟨by rfl, rfl⟩) (by assumption) ?_
    try simp only [Act.put, List.setIfInBounds_toArray, List.set_cons_zero, List.set_cons_succ]
    refine wpAnyH_take (i := 7) (oi := ⟨_, _, _, _, _, _⟩) (v := undef) rfl (by kernel_rfl) (by kernel_rfl) (by kernel_rfl) (fun _ _ _ h => h) (Or.inr ⟨by rfl, rfl⟩) (by assumption) ?_
    try simp only [Act.put, List.setIfInBounds_toArray, List.set_cons_zero, List.set_cons_succ]
    refine wpAnyH_take (i := 8) (oi := ⟨_, _, _, _, _, _⟩) (v := ?_) rfl (by kernel_rfl) (by kernel_rfl) (by kernel_rfl) (fun _ _ _ h => h) (Or.inl ⟨by rfl, ?_⟩) (by assumption) ?_
    rotate_left
    · intro w hSw; go_simp; try (with_reducible rfl)
    try simp only [Act.put, List.setIfInBounds_toArray, List.set_cons_zero, List.set_cons_succ]
    refine wpAnyH_take (i := 9) (oi := ⟨_, _, _, _, _, _⟩) (v := ?_) rfl (by kernel_rfl) (by kernel_rfl) (by kernel_rfl) (fun _ _ _ h => h) (Or.inl ⟨by rfl, ?_⟩) (by assumption) ?_
    rotate_left
    · intro w hSw; go_simp; try (with_reducible rfl)
    try simp only [Act.put, List.setIfInBounds_toArray, List.set_cons_zero, List.set_cons_succ]
    refine wpAnyH_take (i := 10) (oi := ⟨_, _, _, _, _, _⟩) (v := undef) rfl (by kernel_rfl) (by kernel_rfl) (by kernel_rfl) (fun _ _ _ h => h) (Or.inr ⟨by rfl, rfl⟩) (by assumption) ?_
    try simp only [Act.put, List.setIfInBounds_toArray, List.set_cons_zero, List.set_cons_succ]
    refine wpAnyH_take (i := 11) (oi := ⟨_, _, _, _, _, _⟩) (v := undef) rfl (by kernel_rfl) (by kernel_rfl) (by kernel_rfl) (fun _ _ _ h => h) (Or.inr ⟨by rfl, rfl⟩) (by assumption) ?_
    try simp only [Act.put, List.setIfInBounds_toArray, List.set_cons_zero, List.set_cons_succ]
    refine wpAnyH_take (i := 12) (oi := ⟨_, _, _, _, _, _⟩) (v := undef) rfl (by kernel_rfl) (by kernel_rfl) (by kernel_rfl) (fun _ _ _ h => h) (Or.inr ⟨by rfl, rfl⟩) (by assumption) ?_
    try simp only [Act.put, List.setIfInBounds_toArray, List.set_cons_zero, List.set_cons_succ]
    refine wpAnyH_take (i := 13) (oi := ⟨_, _, _, _, _, _⟩) (v := undef) rfl (by kernel_rfl) (by kernel_rfl) (by kernel_rfl) (fun _ _ _ h => h) (Or.inr ⟨by rfl, rfl⟩) (by assumption) ?_
    try simp only [Act.put, List.setIfInBounds_toArray, List.set_cons_zero, List.set_cons_succ]
    refine wpAnyH_take (i := 14) (oi := ⟨_, _, _, _, _, _⟩) (v := undef) rfl (by kernel_rfl) (by kernel_rfl) (by kernel_rfl) (fun _ _ _ h => h) (Or.inr ⟨by rfl, rfl⟩) (by assumption) ?_
    try simp only [Act.put, List.setIfInBounds_toArray, List.set_cons_zero, List.set_cons_succ]
    refine wpAnyH_take (i := 15) (oi := ⟨_, _, _, _, _, _⟩) (v := undef) rfl (by kernel_rfl) (by kernel_rfl) (by kernel_rfl) (fun _ _ _ h => h) (Or.inr ⟨by rfl, rfl⟩) (by assumption) ?_
    try simp only [Act.put, List.setIfInBounds_toArray, List.set_cons_zero, List.set_cons_succ]
    refine wpAnyH_take (i := 16) (oi := ⟨_, _, _, _, _, _⟩) (v := undef) rfl (by kernel_rfl) (by kernel_rfl) (by kernel_rfl) (fun _ _ _ h => h) (Or.inr ⟨by rfl, rfl⟩) (by assumption) ?_
    try simp only [Act.put, List.setIfInBounds_toArray, List.set_cons_zero, List.set_cons_succ]
    refine wpAnyH_take (i := 17) (oi := ⟨_, _, _, _, _, _⟩) (v := undef) rfl (by kernel_rfl) (by kernel_rfl) (by kernel_rfl) (fun _ _ _ h => h) (Or.inr ⟨by rfl, rfl⟩) (by assumption) ?_
    try simp only [Act.put, List.setIfInBounds_toArray, List.set_cons_zero, List.set_cons_succ]
    refine wpAnyH_take (i := 18) (oi := ⟨_, _, _, _, _, _⟩) (v := ?_) rfl (by kernel_rfl) (by kernel_rfl) (by kernel_rfl) (fun _ _ _ h => h) (Or.inl ⟨by rfl, ?_⟩) (by assumption) ?_
    rotate_left
    · intro w hSw; go_simp; try (with_reducible rfl)
    try simp only [Act.put, List.setIfInBounds_toArray, List.set_cons_zero, List.set_cons_succ]
    refine wpAnyH_done (by kernel_rfl) ?_ _
    go_wp2
    go_ret2
    exact ⟨by rw [HE.out]; rfl, hHeld.1.b⟩
  by_cases hdd : d = i.ot
  rotate_left
  · have HE := Lib.hid (show evid hs i = (0, 174) from by rw [HE2.out]; unfold evid2; rw [if_neg (by rw [HG.out]; simp), if_pos (by rw [HG.out, HID.out]; exact hdd)])
    have hqe : ∀ w, (Op.equalIn 10000 24 (.agg (d.map byt).toArray) (.agg (i.ot.map byt).toArray)).run Tryz.prog w = .ok false w := fun w => by rw [run_equal_u8 Tryz.underlying24 (i := _) rfl (by kernel_rfl) Tryz.underlying5 w d i.ot HDL.out OK.out.ot]; simp [hdd]
    clear hdd
    refine wp_region_held_drew (S := (fun w' => EV X 0 w gp go gv i w' ∧ MtB w' gx mv (.slice oa os.length oc) os)) (by kernel_rfl) ⟨EV.drew HXD.out E6.out, M6.out.drew⟩ (fun hHeld => ?_)
    refine wpAnyH_take (i := 0) (oi := ⟨_, _, _, _, _, _⟩) (v := ?_) rfl (by kernel_rfl) (by kernel_rfl) (by kernel_rfl) (fun _ _ _ h => h) (Or.inl ⟨by rfl, ?_⟩) (by assumption) ?_
    rotate_left
    · intro w hSw; go_simp; try (with_reducible rfl)
    try simp only [Act.put, List.setIfInBounds_toArray, List.set_cons_zero, List.set_cons_succ]
    refine wpAnyH_take (i := 1) (oi := ⟨_, _, _, _, _, _⟩) (v := ?_) rfl (by kernel_rfl) (by kernel_rfl) (by kernel_rfl) (fun _ _ _ h => h) (Or.inl ⟨by rfl, ?_⟩) (by assumption) ?_
    rotate_left
    · intro w hSw; go_simp; try (with_reducible rfl)
    try simp only [Act.put, List.setIfInBounds_toArray, List.set_cons_zero, List.set_cons_succ]
    refine wpAnyH_take (i := 2) (oi := ⟨_, _, _, _, _, _⟩) (v := ?_) rfl (by kernel_rfl) (by kernel_rfl) (by kernel_rfl) (fun _ _ _ h => h) (Or.inl ⟨by rfl, ?_⟩) (by assumption) ?_
    rotate_left
    · intro w hSw; go_simp; try (with_reducible rfl)
    try simp only [Act.put, List.setIfInBounds_toArray, List.set_cons_zero, List.set_cons_succ]
    refine wpAnyH_take (i := 3) (oi := ⟨_, _, _, _, _, _⟩) rfl (by kernel_rfl) (by kernel_rfl) (by kernel_rfl) (fun _ _ _ h => h) (yieldsIf_load_mid (by rfl) _ _ rfl gx 0 rfl [.int .u64 (mv : Int), .slice oa os.length oc] _ (fun _ h => Ops.blk_range h.2.b) Tryz.underlying56 rfl HSX.out) (by assumption) ?_
    try simp only [Act.put, List.setIfInBounds_toArray, List.set_cons_zero, List.set_cons_succ]
    refine wpAnyH_take (i := 5) (oi := ⟨_, _, _, _, _, _⟩) (v := ?_) rfl (by kernel_rfl) (by kernel_rfl) (by kernel_rfl) (fun _ _ _ h => h) (Or.inl ⟨by rfl, ?_⟩) (by assumption) ?_
    rotate_left
    · intro w hSw; go_simp; try (with_reducible rfl)
    try simp only [Act.put, List.setIfInBounds_toArray, List.set_cons_zero, List.set_cons_succ]
    refine wpAnyH_take (i := 6) (oi := ⟨_, _, _, _, _, _⟩) rfl (by kernel_rfl) (by kernel_rfl) (by kernel_rfl) (fun _ _ _ h => h) (yieldsIf_load_mid (by rfl) _ _ rfl go 0 rfl (i.ot.map byt) _ (fun _ h => h.1.ro) Tryz.underlying24 rfl (MkW.szD' OK.out.ot)) (by assumption) ?_
    try simp only [Act.put, List.setIfInBounds_toArray, List.set_cons_zero, List.set_cons_succ]
    refine wpAnyH_ready (rs := [4]) (by kernel_rfl) (by simp) ?_
    refine AllReadyH.cons (o := ⟨_, _, _, _, _, _⟩) rfl (fun K hK => ?_) AllReadyH.nil
    go_simp
    refine (rmtid_calls _ [.int .u64 (mv : Int), .slice oa os.length oc] (mv, os) (hHeld.2.rep HMV.out) HFI.out hHeld.1.t).mono ?_
    rintro e wz ⟨rfl, gz⟩
    rw [HID.out]
    refine hK.out _ _ (by exact ⟨hHeld.1.below HXB.out gz, hHeld.2.below gz⟩) (fun hHeld => ?_)
    clear hK
    try simp only [Act.put, List.setIfInBounds_toArray, List.set_cons_zero, List.set_cons_succ]
    refine wpAnyH_take (i := 7) (oi := ⟨_, _, _, _, _, _⟩) (v := ?_) rfl (by kernel_rfl) (by kernel_rfl) (by kernel_rfl) (fun _ _ _ h => h) (Or.inl ⟨by rfl, ?_⟩) (by assumption) ?_
    rotate_left
    · intro w hSw; go_simp; try (with_reducible rfl)
    try simp only [Act.put, List.setIfInBounds_toArray, List.set_cons_zero, List.set_cons_succ]
    refine wpAnyH_take (i := 8) (oi := ⟨_, _, _, _, _, _⟩) (v := ?_) rfl (by kernel_rfl) (by kernel_rfl) (by kernel_rfl) (fun _ _ _ h => h) (Or.inl ⟨by rfl, ?_⟩) (by assumption) ?_
    rotate_left
    · intro w hSw; go_simp; try (with_reducible rfl)
    try simp only [Act.put, List.setIfInBounds_toArray, List.set_cons_zero, List.set_cons_succ]
    refine wpAnyH_take (i := 9) (oi := ⟨_, _, _, _, _, _⟩) (v := ?_) rfl (by kernel_rfl) (by kernel_rfl) (by kernel_rfl) (fun _ _ _ h => h) (Or.inl ⟨by rfl, ?_⟩) (by assumption) ?_
    rotate_left
    · intro w hSw; go_simp; try (with_reducible rfl)
    try simp only [Act.put, List.setIfInBounds_toArray, List.set_cons_zero, List.set_cons_succ]
    refine wpAnyH_take (i := 10) (oi := ⟨_, _, _, _, _, _⟩) (v := undef) rfl (by kernel_rfl) (by kernel_rfl) (by kernel_rfl) (fun _ _ _ h => h) (Or.inr ⟨by rfl, rfl⟩) (by assumption) ?_
    try simp only [Act.put, List.setIfInBounds_toArray, List.set_cons_zero, List.set_cons_succ]
    refine wpAnyH_take (i := 11) (oi := ⟨_, _, _, _, _, _⟩) (v := undef) rfl (by kernel_rfl) (by kernel_rfl) (by kernel_rfl) (fun _ _ _ h => h) (Or.inr ⟨by rfl, rfl⟩) (by assumption) ?_
    try simp only [Act.put, List.setIfInBounds_toArray, List.set_cons_zero, List.set_cons_succ]
    refine wpAnyH_take (i := 12) (oi := ⟨_, _, _, _, _, _⟩) (v := undef) rfl (by kernel_rfl) (by kernel_rfl) (by kernel_rfl) (fun _ _ _ h => h) (Or.inr ⟨by rfl, rfl⟩) (by assumption) ?_
    try simp only [Act.put, List.setIfInBounds_toArray, List.set_cons_zero, List.set_cons_succ]
    refine wpAnyH_take (i := 13) (oi := ⟨_, _, _, _, _, _⟩) (v := undef) rfl (by kernel_rfl) (by kernel_rfl) (by kernel_rfl) (fun _ _ _ h => h) (Or.inr ⟨by rfl, rfl⟩) (by assumption) ?_
    try simp only [Act.put, List.setIfInBounds_toArray, List.set_cons_zero, List.set_cons_succ]
    refine wpAnyH_take (i := 14) (oi := ⟨_, _, _, _, _, _⟩) (v := undef) rfl (by kernel_rfl) (by kernel_rfl) (by kernel_rfl) (fun _ _ _ h => h) (Or.inr ⟨by rfl, rfl⟩) (by assumption) ?_
    try simp only [Act.put, List.setIfInBounds_toArray, List.set_cons_zero, List.set_cons_succ]
    refine wpAnyH_take (i := 15) (oi := ⟨_, _, _, _, _, _⟩) (v := undef) rfl (by kernel_rfl) (by kernel_rfl) (by kernel_rfl) (fun _ _ _ h => h) (Or.inr ⟨by rfl, rfl⟩) (by assumption) ?_
    try simp only [Act.put, List.setIfInBounds_toArray, List.set_cons_zero, List.set_cons_succ]
    refine wpAnyH_take (i := 16) (oi := ⟨_, _, _, _, _, _⟩) (v := undef) rfl (by kernel_rfl) (by kernel_rfl) (by kernel_rfl) (fun _ _ _ h => h) (Or.inr ⟨by rfl, rfl⟩) (by assumption) ?_
    try simp only [Act.put, List.setIfInBounds_toArray, List.set_cons_zero, List.set_cons_succ]
    refine wpAnyH_take (i := 17) (oi := ⟨_, _, _, _, _, _⟩) (v := undef) rfl (by kernel_rfl) (by kernel_rfl) (by kernel_rfl) (fun _ _ _ h => h) (Or.inr ⟨by rfl, rfl⟩) (by assumption) ?_
    try simp only [Act.put, List.setIfInBounds_toArray, List.set_cons_zero, List.set_cons_succ]
    refine wpAnyH_take (i := 18) (oi := ⟨_, _, _, _, _, _⟩) (v := ?_) rfl (by kernel_rfl) (by kernel_rfl) (by kernel_rfl) (fun _ _ _ h => h) (Or.inl ⟨by rfl, ?_⟩) (by assumption) ?_
    rotate_left
    · intro w hSw; go_simp; try (with_reducible rfl)
    try simp only [Act.put, List.setIfInBounds_toArray, List.set_cons_zero, List.set_cons_succ]
    refine wpAnyH_done (by kernel_rfl) ?_ _
    go_wp2
    go_ret2
    exact ⟨by rw [HE.out]; rfl, hHeld.1.b⟩
  have hqe : ∀ w, (Op.equalIn 10000 24 (.agg (d.map byt).toArray) (.agg (i.ot.map byt).toArray)).run Tryz.prog w = .ok true w := fun w => by rw [run_equal_u8 Tryz.underlying24 (i := _) rfl (by kernel_rfl) Tryz.underlying5 w d i.ot HDL.out OK.out.ot]; simp [hdd]
  have HDD := Lib.hid hdd
  have hix := OK.out.ix
  have hcv : IntKind.i64.wrap (i.ix : Int) = (i.ix : Int) := IntWalk.i64_in _ (by omega)
  have hcu : IntKind.u64.wrap (i.ix : Int) = (i.ix : Int) := by rw [IntKind.wrap_u64]; omega
  have hln : os.length < 18446744073709551616 := by obtain ⟨_, _, e, h1, h2, _⟩ := M6.out.s.form; unfold maxLen at h2; omega
  have hcl : IntKind.u64.wrap (os.length : Int) = (os.length : Int) := by rw [IntKind.wrap_u64]; omega
  clear hdd hln
  by_cases hlt : os.length ≤ i.ix
  · have HE := Lib.hid (show evid hs i = (0, 174) from by rw [HE2.out]; unfold evid2; rw [if_neg (by rw [HG.out]; simp), if_neg (by rw [HG.out, HID.out, HDD.out]; simp), if_pos (by rw [HG.out]; exact hlt)])
    have hge : (os.length : Int) ≤ (i.ix : Int) := by omega
    clear hlt
    refine wp_region_held_drew (S := (fun w' => EV X 0 w gp go gv i w' ∧ MtB w' gx mv (.slice oa os.length oc) os)) (by kernel_rfl) ⟨EV.drew HXD.out E6.out, M6.out.drew⟩ (fun hHeld => ?_)
    refine wpAnyH_take (i := 0) (oi := ⟨_, _, _, _, _, _⟩) (v := ?_) rfl (by kernel_rfl) (by kernel_rfl) (by kernel_rfl) (fun _ _ _ h => h) (Or.inl ⟨by rfl, ?_⟩) (by assumption) ?_
    rotate_left
    · intro w hSw; go_simp; try (with_reducible rfl)
    try simp only [Act.put, List.setIfInBounds_toArray, List.set_cons_zero, List.set_cons_succ]
    refine wpAnyH_take (i := 1) (oi := ⟨_, _, _, _, _, _⟩) (v := ?_) rfl (by kernel_rfl) (by kernel_rfl) (by kernel_rfl) (fun _ _ _ h => h) (Or.inl ⟨by rfl, ?_⟩) (by assumption) ?_
    rotate_left
    · intro w hSw; go_simp; try (with_reducible rfl)
    try simp only [Act.put, List.setIfInBounds_toArray, List.set_cons_zero, List.set_cons_succ]
    refine wpAnyH_take (i := 2) (oi := ⟨_, _, _, _, _, _⟩) (v := ?_) rfl (by kernel_rfl) (by kernel_rfl) (by kernel_rfl) (fun _ _ _ h => h) (Or.inl ⟨by rfl, ?_⟩) (by assumption) ?_
    rotate_left
    · intro w hSw; go_simp; try (with_reducible rfl)
    try simp only [Act.put, List.setIfInBounds_toArray, List.set_cons_zero, List.set_cons_succ]
    refine wpAnyH_take (i := 3) (oi := ⟨_, _, _, _, _, _⟩) rfl (by kernel_rfl) (by kernel_rfl) (by kernel_rfl) (fun _ _ _ h => h) (yieldsIf_load_mid (by rfl) _ _ rfl gx 0 rfl [.int .u64 (mv : Int), .slice oa os.length oc] _ (fun _ h => Ops.blk_range h.2.b) Tryz.underlying56 rfl HSX.out) (by assumption) ?_
    try simp only [Act.put, List.setIfInBounds_toArray, List.set_cons_zero, List.set_cons_succ]
    refine wpAnyH_take (i := 5) (oi := ⟨_, _, _, _, _, _⟩) (v := ?_) rfl (by kernel_rfl) (by kernel_rfl) (by kernel_rfl) (fun _ _ _ h => h) (Or.inl ⟨by rfl, ?_⟩) (by assumption) ?_
    rotate_left
    · intro w hSw; go_simp; try (with_reducible rfl)
    try simp only [Act.put, List.setIfInBounds_toArray, List.set_cons_zero, List.set_cons_succ]
    refine wpAnyH_take (i := 6) (oi := ⟨_, _, _, _, _, _⟩) rfl (by kernel_rfl) (by kernel_rfl) (by kernel_rfl) (fun _ _ _ h => h) (yieldsIf_load_mid (by rfl) _ _ rfl go 0 rfl (i.ot.map byt) _ (fun _ h => h.1.ro) Tryz.underlying24 rfl (MkW.szD' OK.out.ot)) (by assumption) ?_
    try simp only [Act.put, List.setIfInBounds_toArray, List.set_cons_zero, List.set_cons_succ]
    refine wpAnyH_ready (rs := [4]) (by kernel_rfl) (by simp) ?_
    refine AllReadyH.cons (o := ⟨_, _, _, _, _, _⟩) rfl (fun K hK => ?_) AllReadyH.nil
    go_simp
    refine (rmtid_calls _ [.int .u64 (mv : Int), .slice oa os.length oc] (mv, os) (hHeld.2.rep HMV.out) HFI.out hHeld.1.t).mono ?_
    rintro e wz ⟨rfl, gz⟩
    rw [HID.out]
    refine hK.out _ _ (by exact ⟨hHeld.1.below HXB.out gz, hHeld.2.below gz⟩) (fun hHeld => ?_)
    clear hK
    try simp only [Act.put, List.setIfInBounds_toArray, List.set_cons_zero, List.set_cons_succ]
    refine wpAnyH_take (i := 7) (oi := ⟨_, _, _, _, _, _⟩) (v := ?_) rfl (by kernel_rfl) (by kernel_rfl) (by kernel_rfl) (fun _ _ _ h => h) (Or.inl ⟨by rfl, ?_⟩) (by assumption) ?_
    rotate_left
    · intro w hSw; go_simp; try (with_reducible rfl)
    try simp only [Act.put, List.setIfInBounds_toArray, List.set_cons_zero, List.set_cons_succ]
    refine wpAnyH_take (i := 8) (oi := ⟨_, _, _, _, _, _⟩) (v := ?_) rfl (by kernel_rfl) (by kernel_rfl) (by kernel_rfl) (fun _ _ _ h => h) (Or.inl ⟨by rfl, ?_⟩) (by assumption) ?_
    rotate_left
    · intro w hSw; go_simp; try (with_reducible rfl)
    try simp only [Act.put, List.setIfInBounds_toArray, List.set_cons_zero, List.set_cons_succ]
    refine wpAnyH_take (i := 9) (oi := ⟨_, _, _, _, _, _⟩) (v := ?_) rfl (by kernel_rfl) (by kernel_rfl) (by kernel_rfl) (fun _ _ _ h => h) (Or.inl ⟨by rfl, ?_⟩) (by assumption) ?_
    rotate_left
    · intro w hSw; go_simp; try (with_reducible rfl)
    try simp only [Act.put, List.setIfInBounds_toArray, List.set_cons_zero, List.set_cons_succ]
    refine wpAnyH_take (i := 10) (oi := ⟨_, _, _, _, _, _⟩) (v := ?_) rfl (by kernel_rfl) (by kernel_rfl) (by kernel_rfl) (fun _ _ _ h => h) (Or.inl ⟨by rfl, ?_⟩) (by assumption) ?_
    rotate_left
    · intro w hSw; go_simp; try (with_reducible rfl)
    try simp only [Act.put, List.setIfInBounds_toArray, List.set_cons_zero, List.set_cons_succ]
    refine wpAnyH_take (i := 11) (oi := ⟨_, _, _, _, _, _⟩) (v := .int .u32 (i.ix : Int)) rfl (by kernel_rfl) (by kernel_rfl) (by kernel_rfl) (fun _ _ _ h => h) (Or.inl ⟨by rfl, fun w hSw => (by have c := hSw.1.ci OK.out; go_simp; try (with_reducible rfl))⟩) (by assumption) ?_
    try simp only [Act.put, List.setIfInBounds_toArray, List.set_cons_zero, List.set_cons_succ]
    refine wpAnyH_take (i := 12) (oi := ⟨_, _, _, _, _, _⟩) (v := ?_) rfl (by kernel_rfl) (by kernel_rfl) (by kernel_rfl) (fun _ _ _ h => h) (Or.inl ⟨by rfl, ?_⟩) (by assumption) ?_
    rotate_left
    · intro w hSw; go_simp; try (with_reducible rfl)
    try simp only [Act.put, List.setIfInBounds_toArray, List.set_cons_zero, List.set_cons_succ]
    refine wpAnyH_take (i := 13) (oi := ⟨_, _, _, _, _, _⟩) (v := ?_) rfl (by kernel_rfl) (by kernel_rfl) (by kernel_rfl) (fun _ _ _ h => h) (Or.inl ⟨by rfl, ?_⟩) (by assumption) ?_
    rotate_left
    · intro w hSw; go_simp; try (with_reducible rfl)
    try simp only [Act.put, List.setIfInBounds_toArray, List.set_cons_zero, List.set_cons_succ]
    refine wpAnyH_take (i := 14) (oi := ⟨_, _, _, _, _, _⟩) (v := (.slice oa os.length oc)) rfl (by kernel_rfl) (by kernel_rfl) (by kernel_rfl) (fun _ _ _ h => h) (Or.inl ⟨by rfl, fun w hSw => (by have c := hSw.2.b.cell (i := 1) rfl; go_simp; try (with_reducible rfl))⟩) (by assumption) ?_
    try simp only [Act.put, List.setIfInBounds_toArray, List.set_cons_zero, List.set_cons_succ]
    refine wpAnyH_take (i := 15) (oi := ⟨_, _, _, _, _, _⟩) (v := ?_) rfl (by kernel_rfl) (by kernel_rfl) (by kernel_rfl) (fun _ _ _ h => h) (Or.inl ⟨by rfl, ?_⟩) (by assumption) ?_
    rotate_left
    · intro w hSw; go_simp; try (with_reducible rfl)
    try simp only [Act.put, List.setIfInBounds_toArray, List.set_cons_zero, List.set_cons_succ]
    refine wpAnyH_take (i := 16) (oi := ⟨_, _, _, _, _, _⟩) (v := ?_) rfl (by kernel_rfl) (by kernel_rfl) (by kernel_rfl) (fun _ _ _ h => h) (Or.inl ⟨by rfl, ?_⟩) (by assumption) ?_
    rotate_left
    · intro w hSw; go_simp; try (with_reducible rfl)
    try simp only [Act.put, List.setIfInBounds_toArray, List.set_cons_zero, List.set_cons_succ]
    refine wpAnyH_take (i := 17) (oi := ⟨_, _, _, _, _, _⟩) (v := ?_) rfl (by kernel_rfl) (by kernel_rfl) (by kernel_rfl) (fun _ _ _ h => h) (Or.inl ⟨by rfl, ?_⟩) (by assumption) ?_
    rotate_left
    · intro w hSw; go_simp; try (with_reducible rfl)
    try simp only [Act.put, List.setIfInBounds_toArray, List.set_cons_zero, List.set_cons_succ]
    refine wpAnyH_take (i := 18) (oi := ⟨_, _, _, _, _, _⟩) (v := ?_) rfl (by kernel_rfl) (by kernel_rfl) (by kernel_rfl) (fun _ _ _ h => h) (Or.inl ⟨by rfl, ?_⟩) (by assumption) ?_
    rotate_left
    · intro w hSw; go_simp; try (with_reducible rfl)
    try simp only [Act.put, List.setIfInBounds_toArray, List.set_cons_zero, List.set_cons_succ]
    refine wpAnyH_done (by kernel_rfl) ?_ _
    go_wp2
    go_ret2
    exact ⟨by rw [HE.out]; rfl, hHeld.1.b⟩
  have HE3 := Lib.hid (show evid hs i = evid3 hs i from by rw [HE2.out]; unfold evid2; rw [if_neg (by rw [HG.out]; simp), if_neg (by rw [HG.out, HID.out, HDD.out]; simp), if_neg (by rw [HG.out]; exact hlt)])
  have hge : ¬ (os.length : Int) ≤ (i.ix : Int) := by omega
  have HLT := Lib.hid (show i.ix < os.length from by omega)
  clear hlt
  refine wp_region_held_drew (S := (fun w' => EV X 0 w gp go gv i w' ∧ MtB w' gx mv (.slice oa os.length oc) os)) (by kernel_rfl) ⟨EV.drew HXD.out E6.out, M6.out.drew⟩ (fun hHeld => ?_)
  refine wpAnyH_take (i := 0) (oi := ⟨_, _, _, _, _, _⟩) (v := ?_) rfl (by kernel_rfl) (by kernel_rfl) (by kernel_rfl) (fun _ _ _ h => h) (Or.inl ⟨by rfl, ?_⟩) (by assumption) ?_
  rotate_left
  · intro w hSw; go_simp; try (with_reducible rfl)
  try simp only [Act.put, List.setIfInBounds_toArray, List.set_cons_zero, List.set_cons_succ]
  refine wpAnyH_take (i := 1) (oi := ⟨_, _, _, _, _, _⟩) (v := ?_) rfl (by kernel_rfl) (by kernel_rfl) (by kernel_rfl) (fun _ _ _ h => h) (Or.inl ⟨by rfl, ?_⟩) (by assumption) ?_
  rotate_left
  · intro w hSw; go_simp; try (with_reducible rfl)
  try simp only [Act.put, List.setIfInBounds_toArray, List.set_cons_zero, List.set_cons_succ]
  refine wpAnyH_take (i := 2) (oi := ⟨_, _, _, _, _, _⟩) (v := ?_) rfl (by kernel_rfl) (by kernel_rfl) (by kernel_rfl) (fun _ _ _ h => h) (Or.inl ⟨by rfl, ?_⟩) (by assumption) ?_
  rotate_left
  · intro w hSw; go_simp; try (with_reducible rfl)
  try simp only [Act.put, List.setIfInBounds_toArray, List.set_cons_zero, List.set_cons_succ]
  refine wpAnyH_take (i := 3) (oi := ⟨_, _, _, _, _, _⟩) rfl (by kernel_rfl) (by kernel_rfl) (by kernel_rfl) (fun _ _ _ h => h) (yieldsIf_load_mid (by rfl) _ _ rfl gx 0 rfl [.int .u64 (mv : Int), .slice oa os.length oc] _ (fun _ h => Ops.blk_range h.2.b) Tryz.underlying56 rfl HSX.out) (by assumption) ?_
  try simp only [Act.put, List.setIfInBounds_toArray, List.set_cons_zero, List.set_cons_succ]
  refine wpAnyH_take (i := 5) (oi := ⟨_, _, _, _, _, _⟩) (v := ?_) rfl (by kernel_rfl) (by kernel_rfl) (by kernel_rfl) (fun _ _ _ h => h) (Or.inl ⟨by rfl, ?_⟩) (by assumption) ?_
  rotate_left
  · intro w hSw; go_simp; try (with_reducible rfl)
  try simp only [Act.put, List.setIfInBounds_toArray, List.set_cons_zero, List.set_cons_succ]
  refine wpAnyH_take (i := 6) (oi := ⟨_, _, _, _, _, _⟩) rfl (by kernel_rfl) (by kernel_rfl) (by kernel_rfl) (fun _ _ _ h => h) (yieldsIf_load_mid (by rfl) _ _ rfl go 0 rfl (i.ot.map byt) _ (fun _ h => h.1.ro) Tryz.underlying24 rfl (MkW.szD' OK.out.ot)) (by assumption) ?_
  try simp only [Act.put, List.setIfInBounds_toArray, List.set_cons_zero, List.set_cons_succ]
  refine wpAnyH_ready (rs := [4]) (by kernel_rfl) (by simp) ?_
  refine AllReadyH.cons (o := ⟨_, _, _, _, _, _⟩) rfl (fun K hK => ?_) AllReadyH.nil
  go_simp
  refine (rmtid_calls _ [.int .u64 (mv : Int), .slice oa os.length oc] (mv, os) (hHeld.2.rep HMV.out) HFI.out hHeld.1.t).mono ?_
  rintro e wz ⟨rfl, gz⟩
  rw [HID.out]
  refine hK.out _ _ (by exact ⟨hHeld.1.below HXB.out gz, hHeld.2.below gz⟩) (fun hHeld => ?_)
  clear hK
  try simp only [Act.put, List.setIfInBounds_toArray, List.set_cons_zero, List.set_cons_succ]
  refine wpAnyH_take (i := 7) (oi := ⟨_, _, _, _, _, _⟩) (v := ?_) rfl (by kernel_rfl) (by kernel_rfl) (by kernel_rfl) (fun _ _ _ h => h) (Or.inl ⟨by rfl, ?_⟩) (by assumption) ?_
  rotate_left
  · intro w hSw; go_simp; try (with_reducible rfl)
  try simp only [Act.put, List.setIfInBounds_toArray, List.set_cons_zero, List.set_cons_succ]
  refine wpAnyH_take (i := 8) (oi := ⟨_, _, _, _, _, _⟩) (v := ?_) rfl (by kernel_rfl) (by kernel_rfl) (by kernel_rfl) (fun _ _ _ h => h) (Or.inl ⟨by rfl, ?_⟩) (by assumption) ?_
  rotate_left
  · intro w hSw; go_simp; try (with_reducible rfl)
  try simp only [Act.put, List.setIfInBounds_toArray, List.set_cons_zero, List.set_cons_succ]
  refine wpAnyH_take (i := 9) (oi := ⟨_, _, _, _, _, _⟩) (v := ?_) rfl (by kernel_rfl) (by kernel_rfl) (by kernel_rfl) (fun _ _ _ h => h) (Or.inl ⟨by rfl, ?_⟩) (by assumption) ?_
  rotate_left
  · intro w hSw; go_simp; try (with_reducible rfl)
  try simp only [Act.put, List.setIfInBounds_toArray, List.set_cons_zero, List.set_cons_succ]
  refine wpAnyH_take (i := 10) (oi := ⟨_, _, _, _, _, _⟩) (v := ?_) rfl (by kernel_rfl) (by kernel_rfl) (by kernel_rfl) (fun _ _ _ h => h) (Or.inl ⟨by rfl, ?_⟩) (by assumption) ?_
  rotate_left
  · intro w hSw; go_simp; try (with_reducible rfl)
  try simp only [Act.put, List.setIfInBounds_toArray, List.set_cons_zero, List.set_cons_succ]
  refine wpAnyH_take (i := 11) (oi := ⟨_, _, _, _, _, _⟩) (v := .int .u32 (i.ix : Int)) rfl (by kernel_rfl) (by kernel_rfl) (by kernel_rfl) (fun _ _ _ h => h) (Or.inl ⟨by rfl, fun w hSw => (by have c := hSw.1.ci OK.out; go_simp; try (with_reducible rfl))⟩) (by assumption) ?_
  try simp only [Act.put, List.setIfInBounds_toArray, List.set_cons_zero, List.set_cons_succ]
  refine wpAnyH_take (i := 12) (oi := ⟨_, _, _, _, _, _⟩) (v := ?_) rfl (by kernel_rfl) (by kernel_rfl) (by kernel_rfl) (fun _ _ _ h => h) (Or.inl ⟨by rfl, ?_⟩) (by assumption) ?_
  rotate_left
  · intro w hSw; go_simp; try (with_reducible rfl)
  try simp only [Act.put, List.setIfInBounds_toArray, List.set_cons_zero, List.set_cons_succ]
  refine wpAnyH_take (i := 13) (oi := ⟨_, _, _, _, _, _⟩) (v := ?_) rfl (by kernel_rfl) (by kernel_rfl) (by kernel_rfl) (fun _ _ _ h => h) (Or.inl ⟨by rfl, ?_⟩) (by assumption) ?_
  rotate_left
  · intro w hSw; go_simp; try (with_reducible rfl)
  try simp only [Act.put, List.setIfInBounds_toArray, List.set_cons_zero, List.set_cons_succ]
  refine wpAnyH_take (i := 14) (oi := ⟨_, _, _, _, _, _⟩) (v := (.slice oa os.length oc)) rfl (by kernel_rfl) (by kernel_rfl) (by kernel_rfl) (fun _ _ _ h => h) (Or.inl ⟨by rfl, fun w hSw => (by have c := hSw.2.b.cell (i := 1) rfl; go_simp; try (with_reducible rfl))⟩) (by assumption) ?_
  try simp only [Act.put, List.setIfInBounds_toArray, List.set_cons_zero, List.set_cons_succ]
  refine wpAnyH_take (i := 15) (oi := ⟨_, _, _, _, _, _⟩) (v := ?_) rfl (by kernel_rfl) (by kernel_rfl) (by kernel_rfl) (fun _ _ _ h => h) (Or.inl ⟨by rfl, ?_⟩) (by assumption) ?_
  rotate_left
  · intro w hSw; go_simp; try (with_reducible rfl)
  try simp only [Act.put, List.setIfInBounds_toArray, List.set_cons_zero, List.set_cons_succ]
  refine wpAnyH_take (i := 16) (oi := ⟨_, _, _, _, _, _⟩) (v := ?_) rfl (by kernel_rfl) (by kernel_rfl) (by kernel_rfl) (fun _ _ _ h => h) (Or.inl ⟨by rfl, ?_⟩) (by assumption) ?_
  rotate_left
  · intro w hSw; go_simp; try (with_reducible rfl)
  try simp only [Act.put, List.setIfInBounds_toArray, List.set_cons_zero, List.set_cons_succ]
  refine wpAnyH_take (i := 17) (oi := ⟨_, _, _, _, _, _⟩) (v := ?_) rfl (by kernel_rfl) (by kernel_rfl) (by kernel_rfl) (fun _ _ _ h => h) (Or.inl ⟨by rfl, ?_⟩) (by assumption) ?_
  rotate_left
  · intro w hSw; go_simp; try (with_reducible rfl)
  try simp only [Act.put, List.setIfInBounds_toArray, List.set_cons_zero, List.set_cons_succ]
  refine wpAnyH_take (i := 18) (oi := ⟨_, _, _, _, _, _⟩) (v := ?_) rfl (by kernel_rfl) (by kernel_rfl) (by kernel_rfl) (fun _ _ _ h => h) (Or.inl ⟨by rfl, ?_⟩) (by assumption) ?_
  rotate_left
  · intro w hSw; go_simp; try (with_reducible rfl)
  try simp only [Act.put, List.setIfInBounds_toArray, List.set_cons_zero, List.set_cons_succ]
  refine wpAnyH_done (by kernel_rfl) ?_ _
  have E9 := Lib.hid hHeld.1
  have M9 := Lib.hid hHeld.2
  clear hHeld hqe hcv hcu hcl hge E6 M6
  obtain ⟨g, hg⟩ : ∃ g, (Tk.look hs i.hd).getD Tk.zeroH = g := ⟨_, rfl⟩
  have OKG := Lib.hid (show g.Ok from hg ▸ Tk.look_ok TT i.hd)
  have HGG := Lib.hid hg
  obtain ⟨lf, hlf⟩ : ∃ lf, leafD i.tx = lf := ⟨_, rfl⟩
  have HLF := Lib.hid hlf
  have HLL := Lib.hid (show lf.length = 32 from hlf ▸ leafD_length _)
  obtain ⟨ck, hck⟩ : ∃ ck, MkW.chk g.root lf i.pl i.mn i.ds = ck := ⟨_, rfl⟩
  have HCK := Lib.hid hck
  clear hg hlf hck
  go_wp2_with (first
    | (with_reducible refine wpList_load_blk rfl _ _ rfl w.heap.size [.slice ta hs.length tc] rfl (HXI.out _ E9.out.x).2 _ Tryz.underlying37 rfl (Tr.szRT _) ?_)
    | (with_reducible refine wpList_load_mid rfl _ _ rfl gp 0 rfl (i.hd.map byt) _ E9.out.rp Tryz.underlying24 rfl (MkW.szD' OK.out.hd) ?_))
  refine (Tr.rget_calls D _ (.slice ta hs.length tc) hs TT.ok i.hd OK.out.hd (HXI.out _ E9.out.x).1).mono ?_
  rintro e w8 ⟨rfl, gz⟩
  have E8 := Lib.hid (E9.out.below HXB.out gz)
  have M8 := Lib.hid (M9.out.below gz)
  rw [HGG.out]
  clear gz E9 M9
  go_upto_region 10 with (first
    | ((with_reducible refine wpList_alloc rfl _ rfl _ (Tk.zeroV _) (fun wd kd cd zd => ?_)); have KD := Lib.hid kd; have CD := Lib.hid cd; clear kd cd)
    | ((with_reducible refine wpList_put rfl _ _ _ rfl w8.heap.size g.cells _ rfl rfl KD.out (Wh.szH OKG.out) (by rw [Tk.zeroH_len, OKG.out.len]) g.one (fun wa ke fe ze => ?_)); have KU := Lib.hid ke; have CE := Lib.hid (CD.out.trans (fe.below CD.out.size (fun k (hk : k = _) => by omega))); clear ke fe))
  have E10 := Lib.hid (E8.out.below HXB.out CE.out)
  have M10 := Lib.hid (M8.out.below CE.out)
  clear KD CD CE E8 M8
  generalize w8.heap.size = gg at *
  refine wp_region_held_drew (S := (fun w' => EV X 0 w gp go gv i w' ∧ MtB w' gx mv (.slice oa os.length oc) os ∧ Blk w' gg g.cells 41)) (by kernel_rfl) ⟨EV.drew HXD.out E10.out, M10.out.drew, KU.out.drew⟩ (fun hHeld => ?_)
  refine wpAnyH_take (i := 0) (oi := ⟨_, _, _, _, _, _⟩) (v := ?_) rfl (by kernel_rfl) (by kernel_rfl) (by kernel_rfl) (fun _ _ _ h => h) (Or.inl ⟨by rfl, ?_⟩) (by assumption) ?_
  rotate_left
  · intro w hSw; go_simp; try (with_reducible rfl)
  try simp only [Act.put, List.setIfInBounds_toArray, List.set_cons_zero, List.set_cons_succ]
  refine wpAnyH_take (i := 1) (oi := ⟨_, _, _, _, _, _⟩) rfl (by kernel_rfl) (by kernel_rfl) (by kernel_rfl) (fun _ _ _ h => h) (yieldsIf_load_mid (by rfl) _ _ rfl gg 32 rfl (g.root.map byt) _ (fun _ h => Wh.range_root OKG.out h.2.2) Tryz.underlying24 rfl (MkW.szD' OKG.out.2.1)) (by assumption) ?_
  try simp only [Act.put, List.setIfInBounds_toArray, List.set_cons_zero, List.set_cons_succ]
  refine wpAnyH_take (i := 2) (oi := ⟨_, _, _, _, _, _⟩) (v := ?_) rfl (by kernel_rfl) (by kernel_rfl) (by kernel_rfl) (fun _ _ _ h => h) (Or.inl ⟨by rfl, ?_⟩) (by assumption) ?_
  rotate_left
  · intro w hSw; go_simp; try (with_reducible rfl)
  try simp only [Act.put, List.setIfInBounds_toArray, List.set_cons_zero, List.set_cons_succ]
  refine wpAnyH_take (i := 3) (oi := ⟨_, _, _, _, _, _⟩) (v := i.vx) rfl (by kernel_rfl) (by kernel_rfl) (by kernel_rfl) (fun _ _ _ h => h) (Or.inl ⟨by rfl, fun w hSw => (by have c := hSw.1.c32 OK.out; go_simp; try (with_reducible rfl))⟩) (by assumption) ?_
  try simp only [Act.put, List.setIfInBounds_toArray, List.set_cons_zero, List.set_cons_succ]
  refine wpAnyH_take (i := 5) (oi := ⟨_, _, _, _, _, _⟩) (v := ?_) rfl (by kernel_rfl) (by kernel_rfl) (by kernel_rfl) (fun _ _ _ h => h) (Or.inl ⟨by rfl, ?_⟩) (by assumption) ?_
  rotate_left
  · intro w hSw; go_simp; try (with_reducible rfl)
  try simp only [Act.put, List.setIfInBounds_toArray, List.set_cons_zero, List.set_cons_succ]
  refine wpAnyH_take (i := 6) (oi := ⟨_, _, _, _, _, _⟩) (v := .int .u32 (i.pl : Int)) rfl (by kernel_rfl) (by kernel_rfl) (by kernel_rfl) (fun _ _ _ h => h) (Or.inl ⟨by rfl, fun w hSw => (by have c := hSw.1.c33 OK.out; go_simp; try (with_reducible rfl))⟩) (by assumption) ?_
  try simp only [Act.put, List.setIfInBounds_toArray, List.set_cons_zero, List.set_cons_succ]
  refine wpAnyH_take (i := 7) (oi := ⟨_, _, _, _, _, _⟩) (v := ?_) rfl (by kernel_rfl) (by kernel_rfl) (by kernel_rfl) (fun _ _ _ h => h) (Or.inl ⟨by rfl, ?_⟩) (by assumption) ?_
  rotate_left
  · intro w hSw; go_simp; try (with_reducible rfl)
  try simp only [Act.put, List.setIfInBounds_toArray, List.set_cons_zero, List.set_cons_succ]
  refine wpAnyH_take (i := 8) (oi := ⟨_, _, _, _, _, _⟩) (v := .int .u32 (i.mn : Int)) rfl (by kernel_rfl) (by kernel_rfl) (by kernel_rfl) (fun _ _ _ h => h) (Or.inl ⟨by rfl, fun w hSw => (by have c := hSw.1.c34 OK.out; go_simp; try (with_reducible rfl))⟩) (by assumption) ?_
  try simp only [Act.put, List.setIfInBounds_toArray, List.set_cons_zero, List.set_cons_succ]
  refine wpAnyH_take (i := 9) (oi := ⟨_, _, _, _, _, _⟩) (v := ?_) rfl (by kernel_rfl) (by kernel_rfl) (by kernel_rfl) (fun _ _ _ h => h) (Or.inl ⟨by rfl, ?_⟩) (by assumption) ?_
  rotate_left
  · intro w hSw; go_simp; try (with_reducible rfl)
  try simp only [Act.put, List.setIfInBounds_toArray, List.set_cons_zero, List.set_cons_succ]
  refine wpAnyH_take (i := 10) (oi := ⟨_, _, _, _, _, _⟩) (v := i.vp) rfl (by kernel_rfl) (by kernel_rfl) (by kernel_rfl) (fun _ _ _ h => h) (Or.inl ⟨by rfl, fun w hSw => (by have c := hSw.1.c35 OK.out; go_simp; try (with_reducible rfl))⟩) (by assumption) ?_
  try simp only [Act.put, List.setIfInBounds_toArray, List.set_cons_zero, List.set_cons_succ]
  refine wpAnyH_ready (rs := [4]) (by kernel_rfl) (by simp) ?_
  refine AllReadyH.cons (o := ⟨_, _, _, _, _, _⟩) rfl (fun K hK => ?_) AllReadyH.nil
  go_simp
  refine (MkW.ref_leaf_calls _ i.vx i.tx hHeld.1.bx OK.out.tx hHeld.1.t).mono ?_
  rintro e wlf ⟨rfl, gz⟩
  rw [HLF.out]
  refine hK.out _ _ (by exact ⟨hHeld.1.below HXB.out gz, hHeld.2.1.below gz, hHeld.2.2.below gz⟩) (fun hHeld => ?_)
  clear hK
  try simp only [Act.put, List.setIfInBounds_toArray, List.set_cons_zero, List.set_cons_succ]
  refine wpAnyH_ready (rs := [11]) (by kernel_rfl) (by simp) ?_
  refine AllReadyH.cons (o := ⟨_, _, _, _, _, _⟩) rfl (fun K hK => ?_) AllReadyH.nil
  go_simp
  refine (MkW.ref_check_calls _ g.root lf i.pl i.mn i.vp i.ds hHeld.1.bp OK.out.ds OKG.out.2.1 HLL.out hHeld.1.t OK.out.mn OK.out.pl OK.out.dl).mono ?_
  rintro e wck ⟨rfl, gz⟩
  rw [HCK.out]
  refine hK.out _ _ (by exact ⟨hHeld.1.below HXB.out gz, hHeld.2.1.below gz, hHeld.2.2.below gz⟩) (fun hHeld => ?_)
  clear hK
  try simp only [Act.put, List.setIfInBounds_toArray, List.set_cons_zero, List.set_cons_succ]
  refine wpAnyH_take (i := 12) (oi := ⟨_, _, _, _, _, _⟩) (v := ?_) rfl (by kernel_rfl) (by kernel_rfl) (by kernel_rfl) (fun _ _ _ h => h) (Or.inl ⟨by rfl, ?_⟩) (by assumption) ?_
  rotate_left
  · intro w hSw; go_simp; try (with_reducible rfl)
  try simp only [Act.put, List.setIfInBounds_toArray, List.set_cons_zero, List.set_cons_succ]
  refine wpAnyH_done (by kernel_rfl) ?_ _
  clear E10 M10 KU
  rcases ck with _ | _
  · have HE := Lib.hid (show evid hs i = (0, 175) from by rw [HE3.out]; unfold evid3; rw [if_pos (by rw [HGG.out, HLF.out, HCK.out])])
    go_wp2
    go_ret2
    exact ⟨by rw [HE.out]; rfl, hHeld.1.b⟩
  have E11 := Lib.hid hHeld.1
  have M11 := Lib.hid hHeld.2.1
  clear hHeld
  obtain ⟨ob, off, cap', cs', e', _⟩ := M11.out.s.at i.ix HLT.out
  cases e'
  obtain ⟨⟨o1, o2⟩, ho⟩ : ∃ o, os[i.ix]'HLT.out = o := ⟨_, rfl⟩
  have HGD := Lib.hid (show (gotMt i.tx).1.2.getD i.ix (0, []) = (o1, o2) from by rw [HG.out]; show os.getD i.ix (0, []) = _; rw [List.getD_eq_getElem?_getD, List.getElem?_eq_getElem HLT.out, ho]; rfl)
  have HAT : Hid (∀ w', MtB w' gx mv (.slice (some ⟨ob, off, none⟩) os.length oc) os → w'.rangeAt ob (off + i.ix * 33 + 1) (o2.map byt) ∧ w'.cell? ⟨ob, off + i.ix * 33, none⟩ = some (.int .u64 (o1 : Int)) ∧ o2.length = 32 ∧ w'.rangeAt ob (off + i.ix * 33) (.int .u64 (o1 : Int) :: o2.map byt)) := Lib.hid (fun w' h => by have := h.at i.ix HLT.out; rw [ho] at this; exact this)
  have HO2 := Lib.hid (HAT.out _ M11.out).2.2.1
  have hltI : (i.ix : Int) < (os.length : Int) := by have := HLT.out; omega
  have h0I : (0 : Int) ≤ (i.ix : Int) := by omega
  obtain ⟨cl, hcl⟩ : ∃ cl, claimD i.sc = cl := ⟨_, rfl⟩
  have HCL := Lib.hid hcl
  have HCLL := Lib.hid (show cl.length = 32 from hcl ▸ claimD_length _)
  have hqc : ∀ w, (Op.equalIn 10000 24 (.agg (o2.map byt).toArray) (.agg (cl.map byt).toArray)).run Tryz.prog w = .ok (o2 == cl) w := fun w => run_equal_u8 Tryz.underlying24 (i := _) rfl (by kernel_rfl) Tryz.underlying5 w o2 cl HO2.out HCLL.out
  clear ho hcl
  have d1 := M11.out.b.cell (i := 1) rfl
  have d2 := E11.out.ci OK.out
  have HSO := Lib.hid (show (Tryz.prog.info? 58).map (·.size) = some (.int .u64 (o1 : Int) :: o2.map byt).length from by rw [List.length_cons, List.length_map, HO2.out]; kernel_rfl)
  have HSL := Lib.hid (show (Value.int .u64 0 :: List.replicate 32 (Value.int .u8 0)).length = (.int .u64 (o1 : Int) :: o2.map byt).length from by rw [List.length_cons, List.length_cons, List.length_map, HO2.out, List.length_replicate])
  go_upto_region 13 with (first
    | (with_reducible refine wpList_load_mid rfl _ _ rfl ob (off + i.ix * 33) rfl (.int .u64 (o1 : Int) :: o2.map byt) _ (HAT.out _ M11.out).2.2.2 Tryz.underlying58 rfl HSO.out ?_)
    | ((with_reducible refine wpList_alloc rfl _ rfl _ (zeroMoRun _) (fun wd kd cd zd => ?_)); have KD := Lib.hid kd; have CD := Lib.hid cd; clear kd cd)
    | ((with_reducible refine wpList_put rfl _ _ _ rfl wck.heap.size (.int .u64 (o1 : Int) :: o2.map byt) _ rfl rfl KD.out HSO.out HSL.out (one_mo _ _) (fun wb ke fe ze => ?_)); have KU := Lib.hid ke; have CE := Lib.hid (CD.out.trans (fe.below CD.out.size (fun k (hk : k = _) => by omega))); clear ke fe))
  have E12 := Lib.hid (E11.out.below HXB.out CE.out)
  clear KD CD CE E11 M11 d1 d2
  generalize wck.heap.size = gb at *
  refine wp_region_held_drew (S := (fun w' => EV X 0 w gp go gv i w' ∧ Blk w' gb (.int .u64 (o1 : Int) :: o2.map byt) 58)) (by kernel_rfl) ⟨EV.drew HXD.out E12.out, KU.out.drew⟩ (fun hHeld => ?_)
  refine wpAnyH_take (i := 0) (oi := ⟨_, _, _, _, _, _⟩) (v := ?_) rfl (by kernel_rfl) (by kernel_rfl) (by kernel_rfl) (fun _ _ _ h => h) (Or.inl ⟨by rfl, ?_⟩) (by assumption) ?_
  rotate_left
  · intro w hSw; go_simp; try (with_reducible rfl)
  try simp only [Act.put, List.setIfInBounds_toArray, List.set_cons_zero, List.set_cons_succ]
  refine wpAnyH_take (i := 1) (oi := ⟨_, _, _, _, _, _⟩) rfl (by kernel_rfl) (by kernel_rfl) (by kernel_rfl) (fun _ _ _ h => h) (yieldsIf_load_mid (by rfl) _ _ rfl gb 1 rfl (o2.map byt) _ (fun _ h => blk_part h.2 [.int .u64 (o1 : Int)] _ [] (by simp) 1 rfl) Tryz.underlying24 rfl (MkW.szD' HO2.out)) (by assumption) ?_
  try simp only [Act.put, List.setIfInBounds_toArray, List.set_cons_zero, List.set_cons_succ]
  refine wpAnyH_take (i := 2) (oi := ⟨_, _, _, _, _, _⟩) (v := ?_) rfl (by kernel_rfl) (by kernel_rfl) (by kernel_rfl) (fun _ _ _ h => h) (Or.inl ⟨by rfl, ?_⟩) (by assumption) ?_
  rotate_left
  · intro w hSw; go_simp; try (with_reducible rfl)
  try simp only [Act.put, List.setIfInBounds_toArray, List.set_cons_zero, List.set_cons_succ]
  refine wpAnyH_take (i := 3) (oi := ⟨_, _, _, _, _, _⟩) (v := i.vs) rfl (by kernel_rfl) (by kernel_rfl) (by kernel_rfl) (fun _ _ _ h => h) (Or.inl ⟨by rfl, fun w hSw => (by have c := hSw.1.c36 OK.out; go_simp; try (with_reducible rfl))⟩) (by assumption) ?_
  try simp only [Act.put, List.setIfInBounds_toArray, List.set_cons_zero, List.set_cons_succ]
  refine wpAnyH_ready (rs := [4]) (by kernel_rfl) (by simp) ?_
  refine AllReadyH.cons (o := ⟨_, _, _, _, _, _⟩) rfl (fun K hK => ?_) AllReadyH.nil
  go_simp
  refine (ref_claim_calls _ i.vs i.sc hHeld.1.bs OK.out.sc hHeld.1.t).mono ?_
  rintro e wcl ⟨rfl, gz⟩
  rw [HCL.out]
  refine hK.out _ _ (by exact ⟨hHeld.1.below HXB.out gz, hHeld.2.below gz⟩) (fun hHeld => ?_)
  clear hK
  try simp only [Act.put, List.setIfInBounds_toArray, List.set_cons_zero, List.set_cons_succ]
  refine wpAnyH_take (i := 5) (oi := ⟨_, _, _, _, _, _⟩) (v := ?_) rfl (by kernel_rfl) (by kernel_rfl) (by kernel_rfl) (fun _ _ _ h => h) (Or.inl ⟨by rfl, ?_⟩) (by assumption) ?_
  rotate_left
  · intro w hSw; go_simp; try (with_reducible rfl)
  try simp only [Act.put, List.setIfInBounds_toArray, List.set_cons_zero, List.set_cons_succ]
  refine wpAnyH_done (by kernel_rfl) ?_ _
  clear E12 KU hqc
  by_cases hoc : o2 = cl
  rotate_left
  · have HE := Lib.hid (show evid hs i = (0, 176) from by rw [HE3.out]; unfold evid3; rw [if_neg (by rw [HGG.out, HLF.out, HCK.out]; decide), if_pos (by rw [HGD.out, HCL.out]; exact hoc)])
    have hob : (o2 == cl) = false := by simp [hoc]
    rw [hob]
    go_wp2
    go_ret2
    exact ⟨by rw [HE.out]; rfl, hHeld.1.b⟩
  have HE := Lib.hid (show evid hs i = (o1, 0) from by rw [HE3.out]; unfold evid3; rw [if_neg (by rw [HGG.out, HLF.out, HCK.out]; decide), if_neg (by rw [HGD.out, HCL.out]; simp [hoc]), HGD.out])
  have hob : (o2 == cl) = true := by simp [hoc]
  rw [hob]
  have d3 := hHeld.2.cell (i := 0) rfl
  clear hoc hob
  go_wp2
  go_ret2
  exact ⟨by rw [HE.out]; rfl, hHeld.1.b⟩
end Go.Proofs.YtmenchnjajpkmaaGreatDoor.Ev
end

section
namespace Go.Proofs.YtmenchnjajpkmaaGreatDoor.ShaW
open Go Go.RowKit Go.Lib Mem Sha

/-- the table's numbers -/
def tabZ : List Int := table.map fun (n : Nat) => (n : Int)
theorem tabZ_cells : (tabZ.map fun z => Value.int .u32 z) = tabL := by unfold tabZ tabL; rw [List.map_map]; rfl
theorem tabB_of_reads {w : World} {name : String} {g : Nat} {t : TypeId} (hg : Tryz.prog.globalNamed name = some g) (hty : (Tryz.prog.globals[g]?).map (·.type) = some t) (ht : Tryz.prog.underlying t = some (.array 64 26)) (hct : Tryz.prog.cellsOf t = 64)
    (h : Lib.VarReads Tryz.prog w name (Lib.tabData .u32 tabZ)) : TabB w g := by
  obtain ⟨g', t', cs, fuel, p, hg', ht', hvar, hd⟩ := h
  obtain rfl := Option.some.inj (hg.symm.trans hg')
  obtain rfl := Option.some.inj (hty.symm.trans ht')
  have hcs := Lib.cells_of_tab ht (k := .u32) Tryz.underlying26 (by kernel_rfl) hct hd
  unfold World.var? at hvar
  rw [hg, Option.bind_some] at hvar
  split at hvar
  · rename_i cs' t2 fr hh
    cases hvar
    refine ⟨t2, fr, hh.trans ?_⟩
    have e : cs = tabV := by rw [← Array.toArray_toList (xs := cs), hcs, tabZ_cells]; rfl
    rw [e]
  · cases hvar
theorem laid_one : (Rows.laid_tollhouse_sha_table : DataW Unit) = Lib.tabData .u32 tabZ := rfl
theorem laid_two : (Rows.laid_tollhouse_tollhouseref01_table : DataW Unit) = Lib.tabData .u32 tabZ := rfl
theorem tab_sha {w : World} {l : List (String × DataW Unit)} (h : laidMetH Tryz.prog l w) (hp : (l.all fun x => x.2.handleName?.isNone) = true) (hm : ("tollhouse/sha.table", Rows.laid_tollhouse_sha_table) ∈ l) : TabB w 1 := by
  rw [MakeChecks.laidMetH_plain _ _ _ hp] at h
  exact tabB_of_reads (by kernel_rfl) (t := 147) (by kernel_rfl) Tryz.underlying147 (by kernel_rfl) (laid_one ▸ Lib.laidMet.reads h hm)
theorem tab_ref {w : World} {l : List (String × DataW Unit)} (h : laidMetH Tryz.prog l w) (hp : (l.all fun x => x.2.handleName?.isNone) = true) (hm : ("tollhouse/tollhouseref01.table", Rows.laid_tollhouse_tollhouseref01_table) ∈ l) : TabB w 0 := by
  rw [MakeChecks.laidMetH_plain _ _ _ hp] at h
  exact tabB_of_reads (by kernel_rfl) (t := 147) (by kernel_rfl) Tryz.underlying147 (by kernel_rfl) (laid_two ▸ Lib.laidMet.reads h hm)
end Go.Proofs.YtmenchnjajpkmaaGreatDoor.ShaW
end

section
namespace Go.Proofs.YtmenchnjajpkmaaGreatDoor.mainchainEvidence
open Go Go.RowKit Mem Codec Mh Maps Ops Wh Ww ShaW Arr Tk Tr Tb Tf Ev Reps
set_option linter.unusedVariables false

def pfC (i : In) : List Value := pgC i ++ (opC i ++ (i.ov.map byt ++ [.int .u64 (i.dp : Int)]))
section
variable {w : World} {b : Nat} {i : In} {e : TypeId}
theorem pf_p (h : Blk w b (pfC i) e) : w.rangeAt b 0 (pgC i) := blk_part h [] _ _ rfl 0 rfl
theorem pf_o (ok : i.Ok) (h : Blk w b (pfC i) e) : w.rangeAt b 37 (opC i) := blk_part h (pgC i) _ _ rfl 37 (pg_len ok)
theorem pf_v (ok : i.Ok) (h : Blk w b (pfC i) e) : w.rangeAt b 70 (i.ov.map byt) := blk_part h (pgC i ++ opC i) _ [.int .u64 (i.dp : Int)] (by simp [pfC]) 70 (by simp [pg_len ok, op_len ok])
theorem pf_d (ok : i.Ok) (h : Blk w b (pfC i) e) : w.cell? ⟨b, 102, none⟩ = some (.int .u64 (i.dp : Int)) := blk_one h (pgC i ++ (opC i ++ i.ov.map byt)) [] _ (by simp [pfC]) 102 (by simp [pg_len ok, op_len ok, ok.ov])
theorem pf_s (ok : i.Ok) (h : Blk w b (pfC i) e) : w.cell? ⟨b, 36, none⟩ = some i.vs := blk_one h (i.hd.map byt ++ [i.vx, .int .u32 (i.pl : Int), .int .u32 (i.mn : Int), i.vp]) (opC i ++ (i.ov.map byt ++ [.int .u64 (i.dp : Int)])) _ (by simp [pfC, pgC]) 36 (by simp [ok.hd])
end
/-- what the laws keep behind fed -/
structure LD (w : World) (t b g6 : Nat) (v : Value) (hs : List Hd) (l : List (Nat × List Value × TypeId)) (wx : World) : Prop where
  x : TrkIs wx t b hs
  r : RO (fun k => k = t ∨ k = b) wx v hs
  k : Blk wx g6 [v] 37
  i : ∀ q ∈ l, Blk wx q.1 q.2.1 q.2.2
  bw : Below w.heap.size w wx
  n1 : w.heap.size ≤ t
  n2 : w.heap.size ≤ b
  n3 : w.heap.size ≤ g6
  n4 : g6 ≠ t
  n5 : g6 ≠ b
section
variable {w a c : World} {t b g6 : Nat} {v : Value} {hs : List Hd} {l : List (Nat × List Value × TypeId)}
theorem LD.below (h : LD w t b g6 v hs l a) (hb : Below a.heap.size a c) : LD w t b g6 v hs l c := ⟨h.x.below hb, h.r.below hb, h.k.below hb, fun q hq => (h.i q hq).below hb, h.bw.trans (hb.mono h.bw.size), h.n1, h.n2, h.n3, h.n4, h.n5⟩
theorem LD.drew (h : LD w t b g6 v hs l a) : LD w t b g6 v hs l a.drew := ⟨h.x.drew, h.r.drew, h.k.drew, fun q hq => (h.i q hq).drew, below_drew h.bw, h.n1, h.n2, h.n3, h.n4, h.n5⟩
end

set_option maxHeartbeats 16000000 in
set_option maxRecDepth 100000 in
theorem walk0 (w : World) (vi : Value) (inp : List Hd) (hin : Arr 66 Any w vi (rows inp)) (hok : ∀ h ∈ inp, h.Ok) (hn : inp.length * 80 ≤ 140737488351232) (i : In) (ok : i.Ok) (hx : Byt Any w i.vx i.tx) (hpp1 : Arr 32 Any w i.vp (MkW.dcs i.ds)) (hy1 : Byt Any w i.vs i.sc) (hP : TabB w 1) (hR : TabB w 0) :
    Calls Tryz.prog 3 #[vi, .agg (pfC i).toArray] w fun e w' => e = .returned (.bool true) ∧ Below w.heap.size w w' := by
  obtain ⟨ai, ci, rfl, hci, hcm, _⟩ := hin.form
  rw [rows_len] at hin hci ⊢
  unfold maxLen at hcm
  have hp := (Array.getElem?_eq_some_iff.1 hP.choose_spec.choose_spec).1
  have hr := (Array.getElem?_eq_some_iff.1 hR.choose_spec.choose_spec).1
  have HPL := Lib.hid hp
  have HRL := Lib.hid hr
  have HP := Lib.hid hP
  have HR := Lib.hid hR
  have OK := Lib.hid ok
  have HX := Lib.hid hx
  have HPP := Lib.hid hpp1
  have HQ := Lib.hid hy1
  obtain ⟨pf, hpf⟩ : ∃ pf, pfC i = pf := ⟨_, rfl⟩
  have HPF := Lib.hid hpf
  rw [hpf]
  clear hpf
  rcases inp with _ | ⟨fst, rst⟩
  · clear hp hr hP hR ok hx hpp1 hy1
    go_enter Tryz.func3, Tryz.ntmps3
    go_wp2
    go_ret
    exact ⟨rfl, below_alloc _ _⟩
  obtain ⟨sa, sc, hq1, hq2, hsl0, ha1⟩ := run_slice_arr elemH hin 1 (rows (fst :: rst)).length (by simp [rows]) (Nat.le_refl _)
  have hsl := hsl0 rfl .i64
  have HA1 := Lib.hid (show Arr 66 Any w (.slice sa rst.length sc) (rows rst) from by
    have e : ((rows (fst :: rst)).take (rows (fst :: rst)).length).drop 1 = rows rst := by rw [List.take_length]; rfl
    rw [e] at ha1
    simpa [rows] using ha1)
  have hsl2 : ∀ w', (Instr.sliceAt 22 (.slice ai (fst :: rst).length ci) (some (.int .i64 1)) none none).run Tryz.prog w' = .ok (.slice sa rst.length sc) w' := fun w' => by
    have := hsl w'
    rw [rows_len] at this
    simpa [rows] using this
  have OKF := Lib.hid (hok fst (by simp))
  have HOKR := Lib.hid (show ∀ h ∈ rst, h.Ok from fun h hh => hok h (by simp [hh]))
  obtain ⟨bi, oi, ci', e0, _, r0⟩ := hin.at 0 (by simp [rows])
  rw [rows_len] at e0
  cases e0
  have HR0 := Lib.hid (show ∀ w', Below w.heap.size w w' → w'.rangeAt bi oi fst.cells from fun w' hb => by
    have h1 : w.rangeAt bi oi fst.cells := by have := r0; simpa [rows] using this
    exact Arr.rangeAt_fr h1 (Fr.ofBelow hb) (by have := Arr.rangeAt_lt h1 (by intro e; have := OKF.out.len; rw [e] at this; simp at this); show ¬ w.heap.size ≤ bi; omega))
  have hl1 : rst.length + 1 = (fst :: rst).length := rfl
  have hn2 : (rst.length + 2) * 80 ≤ 140737488355328 := by simp only [List.length_cons] at hn; omega
  have h0l : (0 : Int) < (((fst :: rst).length : Nat) : Int) := by simp
  have hz0 : ((((fst :: rst).length : Nat) : Int) == 0) = false := by simp; omega
  have h0n : 0 < (fst :: rst).length := by simp
  clear hp hr hP hR ok hx hpp1 hy1 hin hok ha1 hsl r0 hq1 hq2 hsl0
  generalize (fst :: rst).length = nl at *
  go_enter Tryz.func3, Tryz.ntmps3
  go_upto_region 3 with (first
    | ((with_reducible refine wpList_box rfl _ _ rfl pf rfl (fun w1 k1 c1 z1 => ?_)); have K1 := Lib.hid k1; have B1 := Lib.hid c1; clear k1 c1))
  obtain ⟨hs, hhs⟩ : ∃ x, fedL [fst] rst = x := ⟨_, rfl⟩
  go_cut [5, 6, 7] (fun x y z wx => ∃ t b g6 v, x = .pointer (some ⟨t, 0, none⟩) ∧ y = .pointer (some ⟨g6, 0, none⟩) ∧ z = .bool true ∧ LD w t b g6 v hs [(w.heap.size, pf, 34)] wx)
  case first =>
    subst hhs
    refine wp_region_held_drew (S := (fun w' => Below w.heap.size w w' ∧ Blk w' w.heap.size pf 34)) (by kernel_rfl) ⟨below_drew B1.out, K1.out.drew⟩ (fun hHeld => ?_)
    refine wpAnyH_take (i := 0) (oi := ⟨_, _, _, _, _, _⟩) (v := ?_) rfl (by kernel_rfl) (by kernel_rfl) (by kernel_rfl) (fun _ _ _ h => h) (Or.inl ⟨by rfl, ?_⟩) (by assumption) ?_
    rotate_left
    · intro w hSw; go_simp; try (with_reducible rfl)
    try simp only [Act.put, List.setIfInBounds_toArray, List.set_cons_zero, List.set_cons_succ]
    refine wpAnyH_take (i := 1) (oi := ⟨_, _, _, _, _, _⟩) (v := ?_) rfl (by kernel_rfl) (by kernel_rfl) (by kernel_rfl) (fun _ _ _ h => h) (Or.inl ⟨by rfl, ?_⟩) (by assumption) ?_
    rotate_left
    · intro w hSw; go_simp; try (with_reducible rfl)
    try simp only [Act.put, List.setIfInBounds_toArray, List.set_cons_zero, List.set_cons_succ]
    refine wpAnyH_take (i := 2) (oi := ⟨_, _, _, _, _, _⟩) rfl (by kernel_rfl) (by kernel_rfl) (by kernel_rfl) (fun _ _ _ h => h) (yieldsIf_load_mid (by rfl) _ _ rfl bi oi rfl fst.cells _ (fun _ h => HR0.out _ h.1) Tryz.underlying41 rfl (szH OKF.out)) (by assumption) ?_
    try simp only [Act.put, List.setIfInBounds_toArray, List.set_cons_zero, List.set_cons_succ]
    refine wpAnyH_take (i := 3) (oi := ⟨_, _, _, _, _, _⟩) (v := ?_) rfl (by kernel_rfl) (by kernel_rfl) (by kernel_rfl) (fun _ _ _ h => h) (Or.inl ⟨by rfl, ?_⟩) (by assumption) ?_
    rotate_left
    · intro w hSw; go_simp; try (with_reducible rfl)
    try simp only [Act.put, List.setIfInBounds_toArray, List.set_cons_zero, List.set_cons_succ]
    refine wpAnyH_take (i := 4) (oi := ⟨_, _, _, _, _, _⟩) (v := ?_) rfl (by kernel_rfl) (by kernel_rfl) (by kernel_rfl) (fun _ _ _ h => h) (Or.inl ⟨by rfl, ?_⟩) (by assumption) ?_
    rotate_left
    · intro w hSw; go_simp; try (with_reducible rfl)
    try simp only [Act.put, List.setIfInBounds_toArray, List.set_cons_zero, List.set_cons_succ]
    refine wpAnyH_ready (rs := [5, 10]) (by kernel_rfl) (by simp) ?_
    refine AllReadyH.cons (o := ⟨_, _, _, _, _, _⟩) rfl (fun K hK => ?_) (AllReadyH.cons (o := ⟨_, _, _, _, _, _⟩) rfl (fun K hK => ?_) AllReadyH.nil)
    · have hsz := hHeld.1.size
      go_simp
      refine (fed_calls _ fst OKF.out (.slice sa rst.length sc) rst (HA1.out.below (by omega) hHeld.1) HOKR.out (by omega) (HP.out.below hHeld.1) (HR.out.below hHeld.1)).mono ?_
      rintro e wz ⟨t, b, v, rfl, n1, n2, x1, r1, gz⟩
      refine hK.out _ _ (by exact ⟨hHeld.1.trans (gz.mono hHeld.1.size), hHeld.2.below gz⟩) (fun hHeld => ?_)
      clear hK
      try simp only [Act.put, List.setIfInBounds_toArray, List.set_cons_zero, List.set_cons_succ]
      have hx1 := x1.lt.1
      have hx2 := x1.lt.2
      refine wpAnyH_take (i := 6) (oi := ⟨_, _, _, _, _, _⟩) (v := ?_) rfl (by kernel_rfl) (by kernel_rfl) (by kernel_rfl) (fun _ _ _ h => h) (Or.inl ⟨by rfl, ?_⟩) (by assumption) ?_
      rotate_left
      · intro w hSw; go_simp; try (with_reducible rfl)
      try simp only [Act.put, List.setIfInBounds_toArray, List.set_cons_zero, List.set_cons_succ]
      refine wpAnyH_take (i := 7) (oi := ⟨_, _, _, _, _, _⟩) (v := ?_) rfl (by kernel_rfl) (by kernel_rfl) (by kernel_rfl) (fun _ _ _ h => h) (Or.inl ⟨by rfl, ?_⟩) (by assumption) ?_
      rotate_left
      · intro w hSw; go_simp; try (with_reducible rfl)
      try simp only [Act.put, List.setIfInBounds_toArray, List.set_cons_zero, List.set_cons_succ]
      refine wpAnyH_take (i := 8) (oi := ⟨_, _, _, _, _, _⟩) (v := ?_) rfl (by kernel_rfl) (by kernel_rfl) (by kernel_rfl) (fun _ _ _ h => h) (Or.inl ⟨by rfl, ?_⟩) (by assumption) ?_
      rotate_left
      · intro w hSw; go_simp; try (with_reducible rfl)
      try simp only [Act.put, List.setIfInBounds_toArray, List.set_cons_zero, List.set_cons_succ]
      refine wpAnyH_take (i := 9) (oi := ⟨_, _, _, _, _, _⟩) (v := ?_) rfl (by kernel_rfl) (by kernel_rfl) (by kernel_rfl) (fun _ _ _ h => h) (Or.inl ⟨by rfl, ?_⟩) (by assumption) ?_
      rotate_left
      · intro w hSw; go_simp; try (with_reducible rfl)
      try simp only [Act.put, List.setIfInBounds_toArray, List.set_cons_zero, List.set_cons_succ]
      refine wpAnyH_ready (rs := [10]) (by kernel_rfl) (by simp) ?_
      refine AllReadyH.cons (o := ⟨_, _, _, _, _, _⟩) rfl (fun K hK => ?_) AllReadyH.nil
      rw [if_pos (by rfl)]
      refine wp_alloc _ rfl _ (zeroT _) (fun wa ka ba za => ?_)
      refine hK.out _ _ (by exact ⟨hHeld.1.trans (ba.mono hHeld.1.size), hHeld.2.below ba⟩) (fun hHeld => ?_)
      clear hK
      refine wpAnyH_take (i := 11) (oi := ⟨_, _, _, _, _, _⟩) (v := ?_) rfl (by kernel_rfl) (by kernel_rfl) (by kernel_rfl) (fun _ _ _ h => h) (Or.inl ⟨by rfl, ?_⟩) (by assumption) ?_
      rotate_left
      · intro w hSw; go_simp; try (with_reducible rfl)
      try simp only [Act.put, List.setIfInBounds_toArray, List.set_cons_zero, List.set_cons_succ]
      refine wpAnyH_ready (rs := [12]) (by kernel_rfl) (by simp) ?_
      refine AllReadyH.cons (o := ⟨_, _, _, _, _, _⟩) rfl (fun K hK => ?_) AllReadyH.nil
      rw [if_pos (by rfl)]
      refine wp_put _ _ _ rfl _ [v] _ rfl rfl ka (szRT _) rfl (by obtain ⟨_, _, rfl, _⟩ := r1.form; exact one_slice _ _ _) (fun wb kb fb zb => ?_)
      refine hK.out _ _ (by exact ⟨hHeld.1.trans (fb.below hHeld.1.size (fun k (hk : k = _) => by omega)), hHeld.2.fr fb (by have := hHeld.2.lt; omega)⟩) (fun hHeld => ?_)
      clear hK
      refine wpAnyH_take (i := 13) (oi := ⟨_, _, _, _, _, _⟩) (v := ?_) rfl (by kernel_rfl) (by kernel_rfl) (by kernel_rfl) (fun _ _ _ h => h) (Or.inl ⟨by rfl, ?_⟩) (by assumption) ?_
      rotate_left
      · intro w hSw; go_simp; try (with_reducible rfl)
      try simp only [Act.put, List.setIfInBounds_toArray, List.set_cons_zero, List.set_cons_succ]
      refine wpAnyH_done (by kernel_rfl) ?_ _
      go_wp2
      go_meet
      case rel => exact ⟨t, b, _, v, rfl, rfl, rfl, x1.below (new_put rfl ba fb), (r1.below (new_put rfl ba fb)).mono (fun k _ e => by rcases e with e | e; exact .inl e; exact .inr (.inl e)), kb, fun q hq => by rw [List.mem_singleton.1 hq]; exact hHeld.2, hHeld.1, by omega, by omega, by omega, by omega, by omega⟩
    · have hsz := hHeld.1.size
      rw [if_pos (by rfl)]
      refine wp_alloc _ rfl _ (zeroT _) (fun wa ka ba za => ?_)
      refine hK.out _ _ (by exact ⟨hHeld.1.trans (ba.mono hHeld.1.size), hHeld.2.below ba⟩) (fun hHeld => ?_)
      clear hK
      try simp only [Act.put, List.setIfInBounds_toArray, List.set_cons_zero, List.set_cons_succ]
      try simp only [show ∀ x : World, x.drew.heap.size = x.heap.size from fun _ => rfl] at za hsz
      refine wpAnyH_ready (rs := [5]) (by kernel_rfl) (by simp) ?_
      refine AllReadyH.cons (o := ⟨_, _, _, _, _, _⟩) rfl (fun K hK => ?_) AllReadyH.nil
      go_simp
      refine (fed_calls _ fst OKF.out (.slice sa rst.length sc) rst (HA1.out.below (by omega) hHeld.1) HOKR.out (by omega) (HP.out.below hHeld.1) (HR.out.below hHeld.1)).mono ?_
      rintro e wz ⟨t, b, v, rfl, n1, n2, x1, r1, gz⟩
      refine hK.out _ _ (by exact ⟨hHeld.1.trans (gz.mono hHeld.1.size), hHeld.2.below gz⟩) (fun hHeld => ?_)
      clear hK
      refine wpAnyH_take (i := 6) (oi := ⟨_, _, _, _, _, _⟩) (v := ?_) rfl (by kernel_rfl) (by kernel_rfl) (by kernel_rfl) (fun _ _ _ h => h) (Or.inl ⟨by rfl, ?_⟩) (by assumption) ?_
      rotate_left
      · intro w hSw; go_simp; try (with_reducible rfl)
      try simp only [Act.put, List.setIfInBounds_toArray, List.set_cons_zero, List.set_cons_succ]
      refine wpAnyH_take (i := 7) (oi := ⟨_, _, _, _, _, _⟩) (v := ?_) rfl (by kernel_rfl) (by kernel_rfl) (by kernel_rfl) (fun _ _ _ h => h) (Or.inl ⟨by rfl, ?_⟩) (by assumption) ?_
      rotate_left
      · intro w hSw; go_simp; try (with_reducible rfl)
      try simp only [Act.put, List.setIfInBounds_toArray, List.set_cons_zero, List.set_cons_succ]
      refine wpAnyH_take (i := 8) (oi := ⟨_, _, _, _, _, _⟩) (v := ?_) rfl (by kernel_rfl) (by kernel_rfl) (by kernel_rfl) (fun _ _ _ h => h) (Or.inl ⟨by rfl, ?_⟩) (by assumption) ?_
      rotate_left
      · intro w hSw; go_simp; try (with_reducible rfl)
      try simp only [Act.put, List.setIfInBounds_toArray, List.set_cons_zero, List.set_cons_succ]
      refine wpAnyH_take (i := 9) (oi := ⟨_, _, _, _, _, _⟩) (v := ?_) rfl (by kernel_rfl) (by kernel_rfl) (by kernel_rfl) (fun _ _ _ h => h) (Or.inl ⟨by rfl, ?_⟩) (by assumption) ?_
      rotate_left
      · intro w hSw; go_simp; try (with_reducible rfl)
      try simp only [Act.put, List.setIfInBounds_toArray, List.set_cons_zero, List.set_cons_succ]
      refine wpAnyH_take (i := 11) (oi := ⟨_, _, _, _, _, _⟩) (v := ?_) rfl (by kernel_rfl) (by kernel_rfl) (by kernel_rfl) (fun _ _ _ h => h) (Or.inl ⟨by rfl, ?_⟩) (by assumption) ?_
      rotate_left
      · intro w hSw; go_simp; try (with_reducible rfl)
      try simp only [Act.put, List.setIfInBounds_toArray, List.set_cons_zero, List.set_cons_succ]
      refine wpAnyH_ready (rs := [12]) (by kernel_rfl) (by simp) ?_
      refine AllReadyH.cons (o := ⟨_, _, _, _, _, _⟩) rfl (fun K hK => ?_) AllReadyH.nil
      rw [if_pos (by rfl)]
      have hx1 := x1.lt.1
      have hx2 := x1.lt.2
      refine wp_put _ _ _ rfl _ [v] _ rfl rfl (ka.below gz) (szRT _) rfl (by obtain ⟨_, _, rfl, _⟩ := r1.form; exact one_slice _ _ _) (fun wb kb fb zb => ?_)
      refine hK.out _ _ (by exact ⟨hHeld.1.trans (fb.below hHeld.1.size (fun k (hk : k = _) => by omega)), hHeld.2.fr fb (by have := hHeld.2.lt; omega)⟩) (fun hHeld => ?_)
      clear hK
      refine wpAnyH_take (i := 13) (oi := ⟨_, _, _, _, _, _⟩) (v := ?_) rfl (by kernel_rfl) (by kernel_rfl) (by kernel_rfl) (fun _ _ _ h => h) (Or.inl ⟨by rfl, ?_⟩) (by assumption) ?_
      rotate_left
      · intro w hSw; go_simp; try (with_reducible rfl)
      try simp only [Act.put, List.setIfInBounds_toArray, List.set_cons_zero, List.set_cons_succ]
      refine wpAnyH_done (by kernel_rfl) ?_ _
      go_wp2
      go_meet
      case rel => exact ⟨t, b, _, v, rfl, rfl, rfl, x1.fr fb (by omega) (by omega), (r1.fr fb (fun k (hk : k = _) => .inr (.inr (by omega))) (by have := HRL.out; show ¬ 0 = _; omega)).mono (fun k _ e => by rcases e with e | e; exact .inl e; exact .inr (.inl e)), kb, fun q hq => by rw [List.mem_singleton.1 hq]; exact hHeld.2, hHeld.1, by omega, by omega, by omega, by omega, by omega⟩
  case rest =>
    obtain ⟨t, b, g6, v, rfl, rfl, rfl, hL⟩ := hcut
    obtain ⟨av, cv, rfl, hq1, hq2, _⟩ := hL.r.form
    unfold maxLen at hq2
    have HT := Lib.hid (show Trk hs by rw [← hhs]; exact trk_fed (Trk.one OKF.out) _ HOKR.out)
    have hlen : hs.length ≤ rst.length + 1 := by rw [← hhs]; have := fedL_len [fst] rst; simp at this; omega
    have LW := Lib.hid hL
    have LW := Lib.hid hL
    have hww := hL.bw.size
    have B6 := Lib.hid (show Blk _ w.heap.size (pfC i) 34 from HPF.out ▸ hL.i _ (List.mem_singleton.2 rfl))
    have HSP := Lib.hid (show (Tryz.prog.info? 29).map (·.size) = some (pgC i).length from by rw [pg_len OK.out]; kernel_rfl)
    have HSO := Lib.hid (show (Tryz.prog.info? 31).map (·.size) = some (opC i).length from by rw [op_len OK.out]; kernel_rfl)
    have hn6 : hs.length ≤ 4611686018427387904 := by omega
    have d6 := pf_d OK.out B6.out
    have TP6 := Lib.hid (HP.out.below hL.bw)
    have TR6 := Lib.hid (HR.out.below hL.bw)
    have HX6 := Lib.hid (HX.out.below hL.bw)
    have HP6 := Lib.hid (HPP.out.below (by omega) hL.bw)
    have HQ6 := Lib.hid (HQ.out.below hL.bw)
    clear hhs hL
    go_wp2_with (first
      | (with_reducible refine wpList_load_mid rfl _ _ rfl w.heap.size 0 rfl (pgC i) _ (pf_p B6.out) Tryz.underlying29 rfl HSP.out ?_)
      | (with_reducible refine wpList_load_mid rfl _ _ rfl w.heap.size 37 rfl (opC i) _ (pf_o OK.out B6.out) Tryz.underlying31 rfl HSO.out ?_)
      | (with_reducible refine wpList_load_mid rfl _ _ rfl w.heap.size 70 rfl (i.ov.map byt) _ (pf_v OK.out B6.out) Tryz.underlying24 rfl (MkW.szD' OK.out.ov) ?_))
    refine (evid_calls t b _ hs HT.out i OK.out HX6.out HP6.out HQ6.out hn6 LW.out.x TP6.out).mono ?_
    rintro e w7 ⟨rfl, g⟩
    have L7 := Lib.hid (LW.out.below g)
    have hg7 := g.size
    have B7 := Lib.hid (B6.out.below g)
    have d7 := pf_d OK.out B7.out
    have TP7 := Lib.hid (TP6.out.below g)
    have TR7 := Lib.hid (TR6.out.below g)
    have HX7 := Lib.hid (HX6.out.below g)
    have HP7 := Lib.hid (HP6.out.below (by omega) g)
    have HQ7 := Lib.hid (HQ6.out.below g)
    clear g d6 B6 LW TP6 TR6 HX6 HP6 HQ6
    go_wp2_with (first
      | (with_reducible refine wpList_load_blk rfl _ _ rfl g6 [.slice av hs.length cv] rfl L7.out.k _ Tryz.underlying37 rfl (szRT _) ?_)
      | (with_reducible refine wpList_load_mid rfl _ _ rfl w.heap.size 0 rfl (pgC i) _ (pf_p B7.out) Tryz.underlying29 rfl HSP.out ?_)
      | (with_reducible refine wpList_load_mid rfl _ _ rfl w.heap.size 37 rfl (opC i) _ (pf_o OK.out B7.out) Tryz.underlying31 rfl HSO.out ?_)
      | (with_reducible refine wpList_load_mid rfl _ _ rfl w.heap.size 70 rfl (i.ov.map byt) _ (pf_v OK.out B7.out) Tryz.underlying24 rfl (MkW.szD' OK.out.ov) ?_))
    refine (revid_calls _ (.slice av hs.length cv) w7 hs HT.out i OK.out HX7.out HP7.out HQ7.out (fun k hk => hk.1) L7.out.r).mono ?_
    rintro e w8 ⟨rfl, g⟩
    have B8 := Lib.hid (B7.out.below g)
    have HQ8 := Lib.hid (HQ7.out.below g)
    have TP8 := Lib.hid (TP7.out.below g)
    have TR8 := Lib.hid (TR7.out.below g)
    have BF8 := Lib.hid (L7.out.bw.trans (g.mono L7.out.bw.size))
    clear g d7 B7 L7 TP7 TR7 HX7 HP7 HQ7
    obtain ⟨a1, ha1⟩ : ∃ a : Int, (((evid hs i).1 : Nat) : Int) = a := ⟨_, rfl⟩
    obtain ⟨a2, ha2⟩ : ∃ a, (evid hs i).2 = a := ⟨_, rfl⟩
    obtain ⟨cl, hcl⟩ : ∃ cl, claimD i.sc = cl := ⟨_, rfl⟩
    have HCL := Lib.hid hcl
    have HCLL := Lib.hid (show cl.length = 32 from hcl ▸ claimD_length _)
    have hq : ∀ w, (Op.equalIn 10000 24 (.agg (cl.map byt).toArray) (.agg (cl.map byt).toArray)).run Tryz.prog w = .ok true w := fun w => by rw [run_equal_u8 Tryz.underlying24 (i := _) rfl (by kernel_rfl) Tryz.underlying5 w cl cl HCLL.out HCLL.out]; simp
    rw [ha1, ha2]
    clear ha1 ha2 hcl
    go_wp2
    refine wp_region_held_drew (S := (fun w' => Blk w' w.heap.size (pfC i) 34 ∧ Byt Any w' i.vs i.sc ∧ TabB w' 1 ∧ TabB w' 0 ∧ Below w.heap.size w w')) (by kernel_rfl) ⟨B8.out.drew, HQ8.out, TP8.out, TR8.out, below_drew BF8.out⟩ (fun hHeld => ?_)
    refine wpAnyH_take (i := 0) (oi := ⟨_, _, _, _, _, _⟩) (v := ?_) rfl (by kernel_rfl) (by kernel_rfl) (by kernel_rfl) (fun _ _ _ h => h) (Or.inl ⟨by rfl, ?_⟩) (by assumption) ?_
    rotate_left
    · intro w hSw; go_simp; try (with_reducible rfl)
    try simp only [Act.put, List.setIfInBounds_toArray, List.set_cons_zero, List.set_cons_succ]
    refine wpAnyH_take (i := 1) (oi := ⟨_, _, _, _, _, _⟩) (v := ?_) rfl (by kernel_rfl) (by kernel_rfl) (by kernel_rfl) (fun _ _ _ h => h) (Or.inl ⟨by rfl, ?_⟩) (by assumption) ?_
    rotate_left
    · intro w hSw; go_simp; try (with_reducible rfl)
    try simp only [Act.put, List.setIfInBounds_toArray, List.set_cons_zero, List.set_cons_succ]
    refine wpAnyH_take (i := 2) (oi := ⟨_, _, _, _, _, _⟩) (v := ?_) rfl (by kernel_rfl) (by kernel_rfl) (by kernel_rfl) (fun _ _ _ h => h) (Or.inl ⟨by rfl, ?_⟩) (by assumption) ?_
    rotate_left
    · intro w hSw; go_simp; try (with_reducible rfl)
    try simp only [Act.put, List.setIfInBounds_toArray, List.set_cons_zero, List.set_cons_succ]
    refine wpAnyH_take (i := 3) (oi := ⟨_, _, _, _, _, _⟩) (v := ?_) rfl (by kernel_rfl) (by kernel_rfl) (by kernel_rfl) (fun _ _ _ h => h) (Or.inl ⟨by rfl, ?_⟩) (by assumption) ?_
    rotate_left
    · intro w hSw; go_simp; try (with_reducible rfl)
    try simp only [Act.put, List.setIfInBounds_toArray, List.set_cons_zero, List.set_cons_succ]
    refine wpAnyH_take (i := 4) (oi := ⟨_, _, _, _, _, _⟩) (v := ?_) rfl (by kernel_rfl) (by kernel_rfl) (by kernel_rfl) (fun _ _ _ h => h) (Or.inl ⟨by rfl, ?_⟩) (by assumption) ?_
    rotate_left
    · intro w hSw; go_simp; try (with_reducible rfl)
    try simp only [Act.put, List.setIfInBounds_toArray, List.set_cons_zero, List.set_cons_succ]
    refine wpAnyH_take (i := 5) (oi := ⟨_, _, _, _, _, _⟩) (v := ?_) rfl (by kernel_rfl) (by kernel_rfl) (by kernel_rfl) (fun _ _ _ h => h) (Or.inl ⟨by rfl, ?_⟩) (by assumption) ?_
    rotate_left
    · intro w hSw; go_simp; try (with_reducible rfl)
    try simp only [Act.put, List.setIfInBounds_toArray, List.set_cons_zero, List.set_cons_succ]
    refine wpAnyH_take (i := 6) (oi := ⟨_, _, _, _, _, _⟩) (v := ?_) rfl (by kernel_rfl) (by kernel_rfl) (by kernel_rfl) (fun _ _ _ h => h) (Or.inl ⟨by rfl, ?_⟩) (by assumption) ?_
    rotate_left
    · intro w hSw; go_simp; try (with_reducible rfl)
    try simp only [Act.put, List.setIfInBounds_toArray, List.set_cons_zero, List.set_cons_succ]
    refine wpAnyH_take (i := 7) (oi := ⟨_, _, _, _, _, _⟩) (v := ?_) rfl (by kernel_rfl) (by kernel_rfl) (by kernel_rfl) (fun _ _ _ h => h) (Or.inl ⟨by rfl, ?_⟩) (by assumption) ?_
    rotate_left
    · intro w hSw; go_simp; try (with_reducible rfl)
    try simp only [Act.put, List.setIfInBounds_toArray, List.set_cons_zero, List.set_cons_succ]
    refine wpAnyH_take (i := 8) (oi := ⟨_, _, _, _, _, _⟩) (v := ?_) rfl (by kernel_rfl) (by kernel_rfl) (by kernel_rfl) (fun _ _ _ h => h) (Or.inl ⟨by rfl, ?_⟩) (by assumption) ?_
    rotate_left
    · intro w hSw; go_simp; try (with_reducible rfl)
    try simp only [Act.put, List.setIfInBounds_toArray, List.set_cons_zero, List.set_cons_succ]
    refine wpAnyH_take (i := 9) (oi := ⟨_, _, _, _, _, _⟩) (v := ?_) rfl (by kernel_rfl) (by kernel_rfl) (by kernel_rfl) (fun _ _ _ h => h) (Or.inl ⟨by rfl, ?_⟩) (by assumption) ?_
    rotate_left
    · intro w hSw; go_simp; try (with_reducible rfl)
    try simp only [Act.put, List.setIfInBounds_toArray, List.set_cons_zero, List.set_cons_succ]
    refine wpAnyH_take (i := 10) (oi := ⟨_, _, _, _, _, _⟩) (v := ?_) rfl (by kernel_rfl) (by kernel_rfl) (by kernel_rfl) (fun _ _ _ h => h) (Or.inl ⟨by rfl, ?_⟩) (by assumption) ?_
    rotate_left
    · intro w hSw; go_simp; try (with_reducible rfl)
    try simp only [Act.put, List.setIfInBounds_toArray, List.set_cons_zero, List.set_cons_succ]
    refine wpAnyH_take (i := 11) (oi := ⟨_, _, _, _, _, _⟩) (v := i.vs) rfl (by kernel_rfl) (by kernel_rfl) (by kernel_rfl) (fun _ _ _ h => h) (Or.inl ⟨by rfl, fun w hSw => (by have c := pf_s OK.out hSw.1; go_simp; try (with_reducible rfl))⟩) (by assumption) ?_
    try simp only [Act.put, List.setIfInBounds_toArray, List.set_cons_zero, List.set_cons_succ]
    refine wpAnyH_take (i := 13) (oi := ⟨_, _, _, _, _, _⟩) (v := ?_) rfl (by kernel_rfl) (by kernel_rfl) (by kernel_rfl) (fun _ _ _ h => h) (Or.inl ⟨by rfl, ?_⟩) (by assumption) ?_
    rotate_left
    · intro w hSw; go_simp; try (with_reducible rfl)
    try simp only [Act.put, List.setIfInBounds_toArray, List.set_cons_zero, List.set_cons_succ]
    refine wpAnyH_take (i := 14) (oi := ⟨_, _, _, _, _, _⟩) (v := ?_) rfl (by kernel_rfl) (by kernel_rfl) (by kernel_rfl) (fun _ _ _ h => h) (Or.inl ⟨by rfl, ?_⟩) (by assumption) ?_
    rotate_left
    · intro w hSw; go_simp; try (with_reducible rfl)
    try simp only [Act.put, List.setIfInBounds_toArray, List.set_cons_zero, List.set_cons_succ]
    refine wpAnyH_take (i := 15) (oi := ⟨_, _, _, _, _, _⟩) (v := i.vs) rfl (by kernel_rfl) (by kernel_rfl) (by kernel_rfl) (fun _ _ _ h => h) (Or.inl ⟨by rfl, fun w hSw => (by have c := pf_s OK.out hSw.1; go_simp; try (with_reducible rfl))⟩) (by assumption) ?_
    try simp only [Act.put, List.setIfInBounds_toArray, List.set_cons_zero, List.set_cons_succ]
    refine wpAnyH_ready (rs := [12]) (by kernel_rfl) (by simp) ?_
    refine AllReadyH.cons (o := ⟨_, _, _, _, _, _⟩) rfl (fun K hK => ?_) AllReadyH.nil
    go_simp
    refine (claim_calls _ i.vs i.sc hHeld.2.1 OK.out.sc hHeld.2.2.1).mono ?_
    rintro e wz ⟨rfl, gz⟩
    rw [HCL.out]
    refine hK.out _ _ (by exact ⟨hHeld.1.below gz, hHeld.2.1.below gz, hHeld.2.2.1.below gz, hHeld.2.2.2.1.below gz, hHeld.2.2.2.2.trans (gz.mono hHeld.2.2.2.2.size)⟩) (fun hHeld => ?_)
    clear hK gz
    try simp only [Act.put, List.setIfInBounds_toArray, List.set_cons_zero, List.set_cons_succ]
    refine wpAnyH_ready (rs := [16]) (by kernel_rfl) (by simp) ?_
    refine AllReadyH.cons (o := ⟨_, _, _, _, _, _⟩) rfl (fun K hK => ?_) AllReadyH.nil
    go_simp
    refine (ref_claim_calls _ i.vs i.sc hHeld.2.1 OK.out.sc hHeld.2.2.2.1).mono ?_
    rintro e wz ⟨rfl, gz⟩
    rw [HCL.out]
    refine hK.out _ _ (by exact ⟨hHeld.1.below gz, hHeld.2.1.below gz, hHeld.2.2.1.below gz, hHeld.2.2.2.1.below gz, hHeld.2.2.2.2.trans (gz.mono hHeld.2.2.2.2.size)⟩) (fun hHeld => ?_)
    clear hK gz
    try simp only [Act.put, List.setIfInBounds_toArray, List.set_cons_zero, List.set_cons_succ]
    refine wpAnyH_take (i := 17) (oi := ⟨_, _, _, _, _, _⟩) (v := ?_) rfl (by kernel_rfl) (by kernel_rfl) (by kernel_rfl) (fun _ _ _ h => h) (Or.inl ⟨by rfl, ?_⟩) (by assumption) ?_
    rotate_left
    · intro w hSw; go_simp; try (with_reducible rfl)
    try simp only [Act.put, List.setIfInBounds_toArray, List.set_cons_zero, List.set_cons_succ]
    refine wpAnyH_take (i := 18) (oi := ⟨_, _, _, _, _, _⟩) (v := ?_) rfl (by kernel_rfl) (by kernel_rfl) (by kernel_rfl) (fun _ _ _ h => h) (Or.inl ⟨by rfl, ?_⟩) (by assumption) ?_
    rotate_left
    · intro w hSw; go_simp; try (with_reducible rfl)
    try simp only [Act.put, List.setIfInBounds_toArray, List.set_cons_zero, List.set_cons_succ]
    refine wpAnyH_take (i := 19) (oi := ⟨_, _, _, _, _, _⟩) (v := ?_) rfl (by kernel_rfl) (by kernel_rfl) (by kernel_rfl) (fun _ _ _ h => h) (Or.inl ⟨by rfl, ?_⟩) (by assumption) ?_
    rotate_left
    · intro w hSw; go_simp; try (with_reducible rfl)
    try simp only [Act.put, List.setIfInBounds_toArray, List.set_cons_zero, List.set_cons_succ]
    refine wpAnyH_done (by kernel_rfl) ?_ _
    go_wp2
    go_ret
    exact ⟨rfl, hHeld.2.2.2.2⟩
theorem walk (w : World) (vi : Value) (inp : List Hd) (hin : Arr 66 Any w vi (rows inp)) (hok : ∀ h ∈ inp, h.Ok) (hn : inp.length * 80 ≤ 140737488351232) (i : In) (ok : i.Ok) (hx : Byt Any w i.vx i.tx) (hpp1 : Arr 32 Any w i.vp (MkW.dcs i.ds)) (hy1 : Byt Any w i.vs i.sc) (hL : laidMetH Tryz.prog Rows.mainchainEvidenceRow.laid w) :
    Calls Tryz.prog 3 #[vi, .agg (pfC i).toArray] w fun e w' => e = .returned (.bool true) ∧ Below w.heap.size w w' :=
  walk0 w vi inp hin hok hn i ok hx hpp1 hy1 (tab_sha hL (by kernel_rfl) (List.Mem.tail _ (List.Mem.head _))) (tab_ref hL (by kernel_rfl) (List.Mem.head _))
end Go.Proofs.YtmenchnjajpkmaaGreatDoor.mainchainEvidence
end

section
namespace Go.Proofs.YtmenchnjajpkmaaGreatDoor.Read
open Go Go.RowKit Go.ChangeShapes Go.WideShapes Mem Arr
variable {H : Type} {enc : TypeId × Value → H} {P : Program} {W : World}

/-- an array of bytes, as cells -/
theorem cells_arr {t e : TypeId} {n : Nat} {cs : List Value} {d : DataW H} {ps : List MemPlace} {held spare} {base fuel : Nat} (ht : P.underlying t = some (.array n e)) (he : P.underlying e = some (.int .u8)) (hc : P.cellsOf e = 1)
    (hsz : cs.length = n) (hf : DataW.trod enc P W base spare held fuel t cs = some (d, ps)) :
    ∃ l : List UInt8, cs = l.map byt ∧ l.length = n := by
  obtain ⟨xs, m, hxe, _, _, hx, hall⟩ := DataW.trod_array ht hf
  have hcell : ∀ i, (hi : i < n) → ∃ c : UInt8, cs[i]'(by omega) = byt c := by
    intro i hi
    have h1 := hall i hi
    rw [hc, Nat.mul_one, List.getElem?_eq_getElem (by omega : i < xs.length)] at h1
    obtain ⟨z, hz, _, hw⟩ := DataW.trod_int he h1
    refine ⟨u8of z, ?_⟩
    have h2 : (cs.drop i).take 1 = [cs[i]'(by omega)] := by
      rw [List.take_one, List.head?_drop]
      simp [hsz, hi]
    rw [h2] at hz
    simp only [List.cons.injEq, and_true] at hz
    rw [hz, byt, u8of_eq hw]
  refine ⟨(List.range n).map fun i => if h : i < n then (hcell i h).choose else 0, ?_, by simp⟩
  apply List.ext_getElem
  · simp [hsz]
  · intro i h1 h2
    have hi : i < n := by omega
    have := (hcell i hi).choose_spec
    rw [this]
    simp [hi]
/-- a slice of arrays of bytes -/
theorem cells_arrs {t e f : TypeId} {k : Nat} {cs : List Value} {d : DataW H} {ps : List MemPlace} {held spare} {base fuel : Nat} (ht : P.underlying t = some (.slice e)) (he : P.underlying e = some (.array k f)) (hf8 : P.underlying f = some (.int .u8)) (hcf : P.cellsOf f = 1) (hce : P.cellsOf e = k) (hk0 : 0 < k)
    (hf : DataW.trod enc P W base spare held fuel t cs = some (d, ps)) :
    ∃ v ds, cs = [v] ∧ Arr k Any W v (ds.map fun (x : List UInt8) => x.map byt) ∧ (∀ x ∈ ds, x.length = k) ∧ ((d = .nil ∧ ds = []) ∨ ∃ el sp, d = .slice el sp ∧ el.length = ds.length) := by
  rcases Deep.open_slice ht hf with ⟨rfl, hx⟩ | ⟨x, l, c, m, n, D, Pl, rfl, _, hl, hm, hmm, hx, hall⟩
  · simp only [Prod.mk.injEq] at hx
    exact ⟨_, [], rfl, ⟨none, 0, rfl, ⟨Nat.le_refl _, Nat.zero_le _, fun _ => rfl⟩, by simp, .inl rfl⟩, by simp, .inl ⟨hx.1, rfl⟩⟩
  · simp only [Prod.mk.injEq] at hx
    have hml : l ≤ m := by rw [hmm]; split <;> omega
    obtain ⟨X, hX⟩ := Deep.choose_lt (n := l) (p := fun i (y : List UInt8) => W.cells? base (x.add (i * k)) k = some (y.map byt) ∧ y.length = k) (fun i hi => by
      obtain ⟨cs', h1, h2⟩ := hall i (by omega)
      rw [hce] at h1
      obtain ⟨_, hlen, _⟩ := World.cells?_some h1
      obtain ⟨y, rfl, hy⟩ := cells_arr he hf8 hcf hlen h2
      exact ⟨y, h1, hy⟩)
    refine ⟨_, (List.range l).map X, rfl, ⟨some x, c, by simp, ⟨by simpa using hl, hm, fun h => by cases h⟩, ?_, ?_⟩, ?_, .inr ⟨_, _, hx.1, by simp⟩⟩
    · intro z hz
      simp only [List.mem_map, List.mem_range] at hz
      obtain ⟨_, ⟨i, hi, rfl⟩, rfl⟩ := hz
      simpa using (hX i hi).2
    · by_cases h0 : l = 0
      · left; subst h0; rfl
      right
      obtain ⟨b, off, spot⟩ := x
      have h00 := (World.cells?_some (hX 0 (by omega)).1).2.2 0 hk0
      have hlen0 := (hX 0 (by omega)).2
      rw [List.getElem?_eq_getElem (by simpa [hlen0] using hk0)] at h00
      have hspot : spot = none := by simpa [Addr.add] using World.cell?_spot h00
      subst hspot
      refine ⟨b, off, rfl, trivial, fun i hi j u hu => ?_⟩
      have hi' : i < l := by simpa using hi
      simp only [List.getElem_map, List.getElem_range] at hu
      have hj : j < k := by have := (List.getElem?_eq_some_iff.1 hu).1; simpa [(hX i hi').2] using this
      have := (World.cells?_some (hX i hi').1).2.2 j hj
      rw [hu] at this
      rw [← this, add_plain, add_plain]
    · intro z hz
      simp only [List.mem_map, List.mem_range] at hz
      obtain ⟨i, hi, rfl⟩ := hz
      exact (hX i hi).2
theorem read_arrs {t e f : TypeId} {k : Nat} {v : Value} {d : DataW H} {ps : List MemPlace} {held spare} {base b0 : Nat} (ht : P.underlying t = some (.slice e)) (he : P.underlying e = some (.array k f)) (hf8 : P.underlying f = some (.int .u8)) (hcf : P.cellsOf f = 1) (hce : P.cellsOf e = k) (hk0 : 0 < k)
    (hval : Value.okWide P W .any b0 t v) (h : DataW.Trod enc P W base spare held t v d ps) :
    ∃ ds, Arr k Any W v (ds.map fun (x : List UInt8) => x.map byt) ∧ (∀ x ∈ ds, x.length = k) ∧ ((d = .nil ∧ ds = []) ∨ ∃ el sp, d = .slice el sp ∧ el.length = ds.length) := by
  obtain ⟨a, len, cap, rfl⟩ := okWide_slice ht hval
  obtain ⟨fuel, hf⟩ := h
  obtain ⟨v', ds, hv, h1, h2, h3⟩ := cells_arrs ht he hf8 hcf hce hk0 hf
  obtain rfl : v' = .slice a len cap := by simpa [Value.cells] using hv.symm
  exact ⟨ds, h1, h2, h3⟩
theorem reach_arrs {α : Type} {ts : List TypeId} {ds : List (DataW H)} (hsz : (DataW.weightsEach P ts ds).all (· ≤ reachBytes) = true) {j : Nat} {t e : TypeId} {d : DataW H} {l : List α} {k : Nat}
    (hj : ts[j]? = some t) (hd : ds[j]? = some d) (hu : P.underlying t = some (.slice e)) (hb : P.bytesOf e = k) (h : (d = .nil ∧ l = []) ∨ ∃ el sp, d = .slice el sp ∧ el.length = l.length) :
    l.length * k ≤ 140737488351232 := by
  rcases h with ⟨_, rfl⟩ | ⟨el, sp, rfl, hl⟩
  · simp
  · have := sized_slice hsz hj hd hu
    rw [hb] at this
    simp only [reachBytes] at this
    rw [← hl]
    exact Nat.le_trans (Nat.mul_le_mul_right k (Nat.le_add_right _ _)) this
end Go.Proofs.YtmenchnjajpkmaaGreatDoor.Read
end
