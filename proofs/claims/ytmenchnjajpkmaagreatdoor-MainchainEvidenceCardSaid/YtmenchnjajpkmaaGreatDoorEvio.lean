/- The walk of the program's Evidence. Conditions: a track as it is, an argument's evidence; the table is laid. -/
import Derived.Test.YtmenchnjajpkmaaGreatDoorEvin
section
namespace Go.Proofs.YtmenchnjajpkmaaGreatDoor.Ev
open Go Go.RowKit Mem Sha ShaW Mk Arr Reps Rr Wm Rm Rf Codec Wt WtIt Wr Mh Ops
open MkW (dcs)
set_option linter.unusedVariables false

theorem mt_one (a : Int) (b : Option Addr) (n c : Nat) : ∀ v ∈ [Value.int .u64 a, .slice b n c], v.oneCell' = true := by
  intro v hv
  rcases List.mem_cons.1 hv with rfl | hv
  · rfl
  · rw [List.mem_singleton.1 hv]; rfl
theorem run_field_root (h : Hd) (ok : h.Ok) (w : World) : (Instr.field 41 (.agg h.cells.toArray) 1).run Tryz.prog w = .ok (.agg (h.root.map byt).toArray) w := by
  have e : h.cells.toArray.extract 32 (32 + 32) = (h.root.map byt).toArray := by
    apply Array.ext'
    rw [Array.toList_extract]
    simp [Hd.cells, ok.1, ok.2.1, List.extract_eq_take_drop]
  have h1 : (isAgg 24).run Tryz.prog w = .ok true w := by kernel_rfl
  have h2 : (sizeOf 24).run Tryz.prog w = .ok 32 w := by kernel_rfl
  have e' := congrArg Array.toList e
  rw [Array.toList_extract, List.extract_eq_take_drop, show 32 + 32 - 32 = 32 by omega] at e'
  simp [Instr.field, run_underlying Tryz.underlying41, part, Sem.run_bind, h1, h2, Result.andThen, asAgg, e']
theorem trk_map {w : World} {t b : Nat} {hs : List Hd} (h : Tk.TrkIs w t b hs) : w.cell? ⟨t, 0, none⟩ = some (.map (some b)) := by
  obtain ⟨f, g, _, _, hb, _⟩ := h
  exact hb.cell (i := 0) rfl
theorem trk_is {w : World} {t b : Nat} {hs : List Hd} (h : Tk.TrkIs w t b hs) : Maps.MapIs Tryz.prog 24 w b (Tk.pairs hs) := by
  obtain ⟨f, g, _, _, _, hm, _⟩ := h
  exact hm
set_option maxHeartbeats 16000000 in
set_option maxRecDepth 100000 in
theorem evid_calls (t b : Nat) (w : World) (hs : List Hd) (TT : Trk hs) (i : In) (ok : i.Ok) (hx : Byt Any w i.vx i.tx) (hp : Arr 32 Any w i.vp (dcs i.ds)) (hq : Byt Any w i.vs i.sc) (hn : hs.length ≤ 4611686018427387904) (H : Tk.TrkIs w t b hs) (hT : TabB w 1) :
    Calls Tryz.prog 6 #[.pointer (some ⟨t, 0, none⟩), .agg (pgC i).toArray, .agg (opC i).toArray, .agg (i.ov.map byt).toArray, .int .u64 (i.dp : Int)] w fun e w' => e = .returned (.tuple #[.int .u64 ((evid hs i).1 : Int), .int .i64 (evid hs i).2]) ∧ Below w.heap.size w w' := by
  obtain ⟨X, hX⟩ : ∃ X : World → Prop, (fun w => Tk.TrkIs w t b hs) = X := ⟨_, rfl⟩
  have HXI := Lib.hid (show ∀ a, X a → Tk.TrkIs a t b hs from fun a h => by rw [← hX] at h; exact h)
  have HXB := Lib.hid (show ∀ a c, X a → Below a.heap.size a c → X c from fun a c h g => by rw [← hX] at h ⊢; exact h.below g)
  have HXD := Lib.hid (show ∀ a, X a → X a.drew from fun a h => by rw [← hX] at h ⊢; exact h.drew)
  have H0 := Lib.hid (show X w from by rw [← hX]; exact H)
  have HPL := Lib.hid (pg_len ok)
  have HOL := Lib.hid (op_len ok)
  have OK := Lib.hid ok
  have HX0 := Lib.hid hx
  have HP0 := Lib.hid hp
  have HQ0 := Lib.hid hq
  have HT0 := Lib.hid hT
  have HSX : Hid (∀ mv : Nat, ∀ v : Value, (Tryz.prog.info? 56).map (·.size) = some [Value.int .u64 (mv : Int), v].length) := Lib.hid (fun _ _ => by kernel_rfl)
  obtain ⟨⟨⟨mv, os⟩, me⟩, hg⟩ : ∃ g, gotMt i.tx = g := ⟨_, rfl⟩
  have GP := Lib.hid (fun w' h => ReadMainTx_calls Any w' i.vx i.tx h (by have := ok.tx; omega))
  rw [show got RDmt ((0 : Nat), ([] : List (Nat × List UInt8))) i.tx = gotMt i.tx from rfl, hg] at GP
  have HG := Lib.hid hg
  have HFI := Lib.hid (show Fits (mv, os) from by have := got_fits i.tx; rw [hg] at this; exact this)
  have HME := Lib.hid (show me = 0 ∨ me = 120 from by have := gotMt_or i.tx; rw [hg] at this; exact this)
  obtain ⟨pc, hpc⟩ : ∃ pc, pgC i = pc := ⟨_, rfl⟩
  obtain ⟨oc', hoc⟩ : ∃ oc, opC i = oc := ⟨_, rfl⟩
  have HPC := Lib.hid hpc
  have HOC := Lib.hid hoc
  rw [hpc, hoc]
  clear hX H ok hx hp hq hT hpc hoc hg
  go_enter Tryz.func6, Tryz.ntmps6
  go_upto_region 1 with (first
    | ((with_reducible refine wpList_box rfl _ _ rfl pc rfl (fun w1 k1 b1 z1 => ?_)); have K1 := Lib.hid k1; have B1 := Lib.hid b1; clear k1 b1)
    | ((with_reducible refine wpList_box rfl _ _ rfl oc' rfl (fun w2 k2 b2 z2 => ?_)); have K2 := Lib.hid k2; have B2 := Lib.hid b2; clear k2 b2)
    | ((with_reducible refine wpList_box rfl _ _ rfl (i.ov.map byt) rfl (fun w3 k3 b3 z3 => ?_)); have K3 := Lib.hid k3; have B3 := Lib.hid b3; clear k3 b3))
  have E3 := Lib.hid (show EV X 1 w w.heap.size w1.heap.size w2.heap.size i w3 from by
    have g12 := B1.out.trans (B2.out.mono (by omega))
    have g13 := g12.trans (B3.out.mono (by omega))
    exact ⟨HXB.out _ _ H0.out g13, by rw [HPC.out]; exact (K1.out.below B2.out).below B3.out, by rw [HOC.out]; exact K2.out.below B3.out, K3.out, HX0.out.below g13, HP0.out.below (by omega) g13, HQ0.out.below g13, HT0.out.below g13, g13⟩)
  clear K1 K2 K3 B1 B2 B3 H0 HX0 HP0 HQ0 HT0
  generalize w1.heap.size = go at *
  generalize w2.heap.size = gv at *
  go_wp2_with (first
    | (with_reducible refine wpList_load_mid rfl _ _ rfl w.heap.size 0 rfl (i.hd.map byt) _ E3.out.rp Tryz.underlying24 rfl (MkW.szD' OK.out.hd) ?_)
    | (with_reducible refine wpList_load_mid rfl _ _ rfl gv 0 rfl (i.ov.map byt) _ E3.out.rv Tryz.underlying24 rfl (MkW.szD' OK.out.ov) ?_))
  refine (Tk.depth_calls w3 t b hs TT hn i.hd i.ov OK.out.hd OK.out.ov (HXI.out _ E3.out.x)).mono ?_
  rintro e w4 ⟨rfl, g⟩
  have E4 := Lib.hid (E3.out.below HXB.out g)
  clear g E3
  obtain ⟨nn, hnn⟩ : ∃ nn, (depth hs i.hd i.ov).getD 0 = nn := ⟨_, rfl⟩
  obtain ⟨is, his⟩ : ∃ is, (depth hs i.hd i.ov).isSome = is := ⟨_, rfl⟩
  have HNN := Lib.hid hnn
  have HIS := Lib.hid his
  rw [hnn, his]
  clear hnn his
  rcases is with _ | _
  · have HE := Lib.hid (show evid hs i = (0, 171) from if_pos HIS.out)
    go_wp2
    go_ret2
    exact ⟨by rw [HE.out]; rfl, E4.out.b⟩
  by_cases hd : nn < i.dp
  · have HE := Lib.hid (show evid hs i = (0, 173) from by unfold evid; rw [if_neg (by rw [HIS.out]; decide), if_pos (by rw [HNN.out]; exact hd)])
    have hdI : (nn : Int) < (i.dp : Int) := by omega
    clear hd
    go_wp2
    go_ret2
    exact ⟨by rw [HE.out]; rfl, E4.out.b⟩
  have HE2 := Lib.hid (show evid hs i = evid2 hs i from by unfold evid; rw [if_neg (by rw [HIS.out]; decide), if_neg (by rw [HNN.out]; exact hd)])
  have hdI : ¬ (nn : Int) < (i.dp : Int) := by omega
  have c32 := E4.out.c32 OK.out
  clear hd
  go_wp2_with fail
  refine (GP.out w4 E4.out.bx).mono ?_
  rintro e w5 ⟨cx, rfl, g1, g2⟩
  have E5 := Lib.hid (E4.out.below HXB.out g2)
  obtain ⟨c1, c2, rfl, ⟨hmv, rfl⟩, vo, rfl, hsl⟩ := g1
  have HMV := Lib.hid hmv
  have hsl2 := hsl.mono rep_Mo (E := Any) (fun _ _ _ => trivial)
  obtain ⟨oa, oc, rfl, _⟩ := id hsl2.form
  have MS := Lib.hid hsl2
  simp only [List.singleton_append]
  clear c32 hdI E4 g2 hsl hsl2 hmv
  have HSX := Lib.hid (HSX.out mv (.slice oa os.length oc))
  go_upto_region 7 with (first
    | ((with_reducible refine wpList_alloc rfl _ rfl _ (zeroMt _) (fun wd kd cd zd => ?_)); have KD := Lib.hid kd; have CD := Lib.hid cd; clear kd cd)
    | ((with_reducible refine wpList_put rfl _ _ _ rfl w5.heap.size [.int .u64 (mv : Int), .slice oa os.length oc] _ rfl rfl KD.out HSX.out rfl (mt_one _ _ _ _) (fun w6 ke fe ze => ?_)); have KU := Lib.hid ke; have CE := Lib.hid (CD.out.trans (fe.below CD.out.size (fun k (hk : k = _) => by omega))); clear ke fe))
  have E6 := Lib.hid (E5.out.below HXB.out CE.out)
  have M6 := Lib.hid (show MtB w6 w5.heap.size mv (.slice oa os.length oc) os from ⟨KU.out, MS.out.below rep_Mo CE.out⟩)
  clear KD CD CE KU MS E5
  generalize w5.heap.size = gx at *
  obtain ⟨d, hid⟩ : ∃ d, mtId (mv, os) = d := ⟨_, rfl⟩
  have HID := Lib.hid hid
  have HDL := Lib.hid (show d.length = 32 from by rw [← hid]; exact mtId_length _)
  clear hid
  obtain rfl | rfl := HME.out.symm
  · have HE := Lib.hid (show evid hs i = (0, 174) from by rw [HE2.out]; unfold evid2; rw [if_pos (by rw [HG.out])])
    refine wp_region_held_drew (S := (fun w' => EV X 1 w w.heap.size go gv i w' ∧ MtB w' gx mv (.slice oa os.length oc) os)) (by kernel_rfl) ⟨EV.drew HXD.out E6.out, M6.out.drew⟩ (fun hHeld => ?_)
    refine wpAnyH_take (i := 0) (oi := ⟨_, _, _, _, _, _⟩) (v := ?_) rfl (by kernel_rfl) (by kernel_rfl) (by kernel_rfl) (fun _ _ _ h => h) (Or.inl ⟨by rfl, ?_⟩) (by assumption) ?_
    rotate_left
    · intro w hSw; go_simp; try (with_reducible rfl)
    try simp only [Act.put, List.setIfInBounds_toArray, List.set_cons_zero, List.set_cons_succ]
    refine wpAnyH_take (i := 1) (oi := ⟨_, _, _, _, _, _⟩) (v := ?_) rfl (by kernel_rfl) (by kernel_rfl) (by kernel_rfl) (fun _ _ _ h => h) (Or.inl ⟨by rfl, ?_⟩) (by assumption) ?_
    rotate_left
    · intro w hSw; go_simp; try (with_reducible rfl)
    try simp only [Act.put, List.setIfInBounds_toArray, List.set_cons_zero, List.set_cons_succ]
    refine wpAnyH_take (i := 2) (oi := ⟨_, _, _, _, _, _⟩) (v := ?_) rfl (by kernel_rfl) (by kernel_rfl) (by kernel_rfl) (fun _ _ _ h => h) (Or.inl ⟨by rfl, ?_⟩) (by assumption) ?_
    rotate_left
    · intro w hSw; go_simp; try (with_reducible rfl)
    try simp only [Act.put, List.setIfInBounds_toArray, List.set_cons_zero, List.set_cons_succ]
    refine wpAnyH_take (i := 3) (oi := ⟨_, _, _, _, _, _⟩) (v := undef) rfl (by kernel_rfl) (by kernel_rfl) (by kernel_rfl) (fun _ _ _ h => h) (Or.inr ⟨by rfl, rfl⟩) (by assumption) ?_
    try simp only [Act.put, List.setIfInBounds_toArray, List.set_cons_zero, List.set_cons_succ]
    refine wpAnyH_take (i := 4) (oi := ⟨_, _, _, _, _, _⟩) (v := undef) rfl (by kernel_rfl) (by kernel_rfl) (by kernel_rfl) (fun _ _ _ h => h) (Or.inr ⟨by rfl, rfl⟩) (by assumption) ?_
    try simp only [Act.put, List.setIfInBounds_toArray, List.set_cons_zero, List.set_cons_succ]
    refine wpAnyH_take (i := 5) (oi := ⟨_, _, _, _, _, _⟩) (v := undef) rfl (by kernel_rfl) (by kernel_rfl) (by kernel_rfl) (fun _ _ _ h => h) (Or.inr ⟨by rfl, rfl⟩) (by assumption) ?_
    try simp only [Act.put, List.setIfInBounds_toArray, List.set_cons_zero, List.set_cons_succ]
    refine wpAnyH_take (i := 6) (oi := ⟨_, _, _, _, _, _⟩) (v := undef) rfl (by kernel_rfl) (by kernel_rfl) (by kernel_rfl) (fun _ _ _ h => h) (Or.inr ⟨by rfl, rfl⟩) (by assumption) ?_
    try simp only [Act.put, List.setIfInBounds_toArray, List.set_cons_zero, List.set_cons_succ]
    refine wpAnyH_take (i := 7) (oi := ⟨_, _, _, _, _, _⟩) (v := undef) rfl (by kernel_rfl) (by kernel_rfl) (by kernel_rfl) (fun _ _ _ h => h) (Or.inr ⟨by rfl, rfl⟩) (by assumption) ?_
    try simp only [Act.put, List.setIfInBounds_toArray, List.set_cons_zero, List.set_cons_succ]
    refine wpAnyH_take (i := 8) (oi := ⟨_, _, _, _, _, _⟩) (v := ?_) rfl (by kernel_rfl) (by kernel_rfl) (by kernel_rfl) (fun _ _ _ h => h) (Or.inl ⟨by rfl, ?_⟩) (by assumption) ?_
    rotate_left
    · intro w hSw; go_simp; try (with_reducible rfl)
    try simp only [Act.put, List.setIfInBounds_toArray, List.set_cons_zero, List.set_cons_succ]
    refine wpAnyH_take (i := 9) (oi := ⟨_, _, _, _, _, _⟩) (v := ?_) rfl (by kernel_rfl) (by kernel_rfl) (by kernel_rfl) (fun _ _ _ h => h) (Or.inl ⟨by rfl, ?_⟩) (by assumption) ?_
    rotate_left
    · intro w hSw; go_simp; try (with_reducible rfl)
    try simp only [Act.put, List.setIfInBounds_toArray, List.set_cons_zero, List.set_cons_succ]
    refine wpAnyH_take (i := 10) (oi := ⟨_, _, _, _, _, _⟩) (v := undef) rfl (by kernel_rfl) (by kernel_rfl) (by kernel_rfl) (fun _ _ _ h => h) (Or.inr ⟨by rfl, rfl⟩) (by assumption) ?_
    try simp only [Act.put, List.setIfInBounds_toArray, List.set_cons_zero, List.set_cons_succ]
    refine wpAnyH_take (i := 11) (oi := ⟨_, _, _, _, _, _⟩) (v := undef) rfl (by kernel_rfl) (by kernel_rfl) (by kernel_rfl) (fun _ _ _ h => h) (Or.inr ⟨by rfl, rfl⟩) (by assumption) ?_
    try simp only [Act.put, List.setIfInBounds_toArray, List.set_cons_zero, List.set_cons_succ]
    refine wpAnyH_take (i := 12) (oi := ⟨_, _, _, _, _, _⟩) (v := undef) rfl (by kernel_rfl) (by kernel_rfl) (by kernel_rfl) (fun _ _ _ h => h) (Or.inr ⟨by rfl, rfl⟩) (by assumption) ?_
    try simp only [Act.put, List.setIfInBounds_toArray, List.set_cons_zero, List.set_cons_succ]
    refine wpAnyH_take (i := 13) (oi := ⟨_, _, _, _, _, _⟩) (v := undef) rfl (by kernel_rfl) (by kernel_rfl) (by kernel_rfl) (fun _ _ _ h => h) (Or.inr ⟨by rfl, rfl⟩) (by assumption) ?_
    try simp only [Act.put, List.setIfInBounds_toArray, List.set_cons_zero, List.set_cons_succ]
    refine wpAnyH_take (i := 14) (oi := ⟨_, _, _, _, _, _⟩) (v := undef) rfl (by kernel_rfl) (by kernel_rfl) (by kernel_rfl) (fun _ _ _ h => h) (Or.inr ⟨by rfl, rfl⟩) (by assumption) ?_
    try simp only [Act.put, List.setIfInBounds_toArray, List.set_cons_zero, List.set_cons_succ]
    refine wpAnyH_take (i := 15) (oi := ⟨_, _, _, _, _, _⟩) (v := undef) rfl (by kernel_rfl) (by kernel_rfl) (by kernel_rfl) (fun _ _ _ h => h) (Or.inr ⟨by rfl, rfl⟩) (by assumption) ?_
    try simp only [Act.put, List.setIfInBounds_toArray, List.set_cons_zero, List.set_cons_succ]
    refine wpAnyH_take (i := 16) (oi := ⟨_, _, _, _, _, _⟩) (v := undef) rfl (by kernel_rfl) (by kernel_rfl) (by kernel_rfl) (fun _ _ _ h => h) (Or.inr ⟨by rfl, rfl⟩) (by assumption) ?_
    try simp only [Act.put, List.setIfInBounds_toArray, List.set_cons_zero, List.set_cons_succ]
    refine wpAnyH_take (i := 17) (oi := ⟨_, _, _, _, _, _⟩) (v := ?_) rfl (by kernel_rfl) (by kernel_rfl) (by kernel_rfl) (fun _ _ _ h => h) (Or.inl ⟨by rfl, ?_⟩) (by assumption) ?_
    rotate_left
    · intro w hSw; go_simp; try (with_reducible rfl)
    try simp only [Act.put, List.setIfInBounds_toArray, List.set_cons_zero, List.set_cons_succ]
    refine wpAnyH_take (i := 18) (oi := ⟨_, _, _, _, _, _⟩) (v := ?_) rfl (by kernel_rfl) (by kernel_rfl) (by kernel_rfl) (fun _ _ _ h => h) (Or.inl ⟨by rfl, ?_⟩) (by assumption) ?_
    rotate_left
    · intro w hSw; go_simp; try (with_reducible rfl)
    try simp only [Act.put, List.setIfInBounds_toArray, List.set_cons_zero, List.set_cons_succ]
    refine wpAnyH_done (by kernel_rfl) ?_ _
    go_wp2
    go_ret2
    exact ⟨by rw [HE.out]; rfl, hHeld.1.b⟩
  by_cases hdd : d = i.ot
  rotate_left
  · have HE := Lib.hid (show evid hs i = (0, 174) from by rw [HE2.out]; unfold evid2; rw [if_neg (by rw [HG.out]; simp), if_pos (by rw [HG.out, HID.out]; exact hdd)])
    have hqe : ∀ w, (Op.equalIn 10000 24 (.agg (d.map byt).toArray) (.agg (i.ot.map byt).toArray)).run Tryz.prog w = .ok false w := fun w => by rw [run_equal_u8 Tryz.underlying24 (i := _) rfl (by kernel_rfl) Tryz.underlying5 w d i.ot HDL.out OK.out.ot]; simp [hdd]
    clear hdd
    refine wp_region_held_drew (S := (fun w' => EV X 1 w w.heap.size go gv i w' ∧ MtB w' gx mv (.slice oa os.length oc) os)) (by kernel_rfl) ⟨EV.drew HXD.out E6.out, M6.out.drew⟩ (fun hHeld => ?_)
    refine wpAnyH_take (i := 0) (oi := ⟨_, _, _, _, _, _⟩) (v := ?_) rfl (by kernel_rfl) (by kernel_rfl) (by kernel_rfl) (fun _ _ _ h => h) (Or.inl ⟨by rfl, ?_⟩) (by assumption) ?_
    rotate_left
    · intro w hSw; go_simp; try (with_reducible rfl)
    try simp only [Act.put, List.setIfInBounds_toArray, List.set_cons_zero, List.set_cons_succ]
    refine wpAnyH_take (i := 1) (oi := ⟨_, _, _, _, _, _⟩) (v := ?_) rfl (by kernel_rfl) (by kernel_rfl) (by kernel_rfl) (fun _ _ _ h => h) (Or.inl ⟨by rfl, ?_⟩) (by assumption) ?_
    rotate_left
    · intro w hSw; go_simp; try (with_reducible rfl)
    try simp only [Act.put, List.setIfInBounds_toArray, List.set_cons_zero, List.set_cons_succ]
    refine wpAnyH_take (i := 2) (oi := ⟨_, _, _, _, _, _⟩) (v := ?_) rfl (by kernel_rfl) (by kernel_rfl) (by kernel_rfl) (fun _ _ _ h => h) (Or.inl ⟨by rfl, ?_⟩) (by assumption) ?_
    rotate_left
    · intro w hSw; go_simp; try (with_reducible rfl)
    try simp only [Act.put, List.setIfInBounds_toArray, List.set_cons_zero, List.set_cons_succ]
    refine wpAnyH_take (i := 3) (oi := ⟨_, _, _, _, _, _⟩) rfl (by kernel_rfl) (by kernel_rfl) (by kernel_rfl) (fun _ _ _ h => h) (yieldsIf_load_mid (by rfl) _ _ rfl gx 0 rfl [.int .u64 (mv : Int), .slice oa os.length oc] _ (fun _ h => Ops.blk_range h.2.b) Tryz.underlying56 rfl HSX.out) (by assumption) ?_
    try simp only [Act.put, List.setIfInBounds_toArray, List.set_cons_zero, List.set_cons_succ]
    refine wpAnyH_take (i := 5) (oi := ⟨_, _, _, _, _, _⟩) (v := ?_) rfl (by kernel_rfl) (by kernel_rfl) (by kernel_rfl) (fun _ _ _ h => h) (Or.inl ⟨by rfl, ?_⟩) (by assumption) ?_
    rotate_left
    · intro w hSw; go_simp; try (with_reducible rfl)
    try simp only [Act.put, List.setIfInBounds_toArray, List.set_cons_zero, List.set_cons_succ]
    refine wpAnyH_take (i := 6) (oi := ⟨_, _, _, _, _, _⟩) rfl (by kernel_rfl) (by kernel_rfl) (by kernel_rfl) (fun _ _ _ h => h) (yieldsIf_load_mid (by rfl) _ _ rfl go 0 rfl (i.ot.map byt) _ (fun _ h => h.1.ro) Tryz.underlying24 rfl (MkW.szD' OK.out.ot)) (by assumption) ?_
    try simp only [Act.put, List.setIfInBounds_toArray, List.set_cons_zero, List.set_cons_succ]
    refine wpAnyH_ready (rs := [4]) (by kernel_rfl) (by simp) ?_
    refine AllReadyH.cons (o := ⟨_, _, _, _, _, _⟩) rfl (fun K hK => ?_) AllReadyH.nil
    go_simp
    refine (mtid_calls _ [.int .u64 (mv : Int), .slice oa os.length oc] (mv, os) (hHeld.2.rep HMV.out) HFI.out hHeld.1.t).mono ?_
    rintro e wz ⟨rfl, gz⟩
    rw [HID.out]
    refine hK.out _ _ (by exact ⟨hHeld.1.below HXB.out gz, hHeld.2.below gz⟩) (fun hHeld => ?_)
    clear hK
    try simp only [Act.put, List.setIfInBounds_toArray, List.set_cons_zero, List.set_cons_succ]
    refine wpAnyH_take (i := 7) (oi := ⟨_, _, _, _, _, _⟩) (v := ?_) rfl (by kernel_rfl) (by kernel_rfl) (by kernel_rfl) (fun _ _ _ h => h) (Or.inl ⟨by rfl, ?_⟩) (by assumption) ?_
    rotate_left
    · intro w hSw; go_simp; try (with_reducible rfl)
    try simp only [Act.put, List.setIfInBounds_toArray, List.set_cons_zero, List.set_cons_succ]
    refine wpAnyH_take (i := 8) (oi := ⟨_, _, _, _, _, _⟩) (v := ?_) rfl (by kernel_rfl) (by kernel_rfl) (by kernel_rfl) (fun _ _ _ h => h) (Or.inl ⟨by rfl, ?_⟩) (by assumption) ?_
    rotate_left
    · intro w hSw; go_simp; try (with_reducible rfl)
    try simp only [Act.put, List.setIfInBounds_toArray, List.set_cons_zero, List.set_cons_succ]
    refine wpAnyH_take (i := 9) (oi := ⟨_, _, _, _, _, _⟩) (v := ?_) rfl (by kernel_rfl) (by kernel_rfl) (by kernel_rfl) (fun _ _ _ h => h) (Or.inl ⟨by rfl, ?_⟩) (by assumption) ?_
    rotate_left
    · intro w hSw; go_simp; try (with_reducible rfl)
    try simp only [Act.put, List.setIfInBounds_toArray, List.set_cons_zero, List.set_cons_succ]
    refine wpAnyH_take (i := 10) (oi := ⟨_, _, _, _, _, _⟩) (v := undef) rfl (by kernel_rfl) (by kernel_rfl) (by kernel_rfl) (fun _ _ _ h => h) (Or.inr ⟨by rfl, rfl⟩) (by assumption) ?_
    try simp only [Act.put, List.setIfInBounds_toArray, List.set_cons_zero, List.set_cons_succ]
    refine wpAnyH_take (i := 11) (oi := ⟨_, _, _, _, _, _⟩) (v := undef) rfl (by kernel_rfl) (by kernel_rfl) (by kernel_rfl) (fun _ _ _ h => h) (Or.inr ⟨by rfl, rfl⟩) (by assumption) ?_
    try simp only [Act.put, List.setIfInBounds_toArray, List.set_cons_zero, List.set_cons_succ]
    refine wpAnyH_take (i := 12) (oi := ⟨_, _, _, _, _, _⟩) (v := undef) rfl (by kernel_rfl) (by kernel_rfl) (by kernel_rfl) (fun _ _ _ h => h) (Or.inr ⟨by rfl, rfl⟩) (by assumption) ?_
    try simp only [Act.put, List.setIfInBounds_toArray, List.set_cons_zero, List.set_cons_succ]
    refine wpAnyH_take (i := 13) (oi := ⟨_, _, _, _, _, _⟩) (v := undef) rfl (by kernel_rfl) (by kernel_rfl) (by kernel_rfl) (fun _ _ _ h => h) (Or.inr ⟨by rfl, rfl⟩) (by assumption) ?_
    try simp only [Act.put, List.setIfInBounds_toArray, List.set_cons_zero, List.set_cons_succ]
    refine wpAnyH_take (i := 14) (oi := ⟨_, _, _, _, _, _⟩) (v := undef) rfl (by kernel_rfl) (by kernel_rfl) (by kernel_rfl) (fun _ _ _ h => h) (Or.inr ⟨by rfl, rfl⟩) (by assumption) ?_
    try simp only [Act.put, List.setIfInBounds_toArray, List.set_cons_zero, List.set_cons_succ]
    refine wpAnyH_take (i := 15) (oi := ⟨_, _, _, _, _, _⟩) (v := undef) rfl (by kernel_rfl) (by kernel_rfl) (by kernel_rfl) (fun _ _ _ h => h) (Or.inr ⟨by rfl, rfl⟩) (by assumption) ?_
    try simp only [Act.put, List.setIfInBounds_toArray, List.set_cons_zero, List.set_cons_succ]
    refine wpAnyH_take (i := 16) (oi := ⟨_, _, _, _, _, _⟩) (v := undef) rfl (by kernel_rfl) (by kernel_rfl) (by kernel_rfl) (fun _ _ _ h => h) (Or.inr ⟨by rfl, rfl⟩) (by assumption) ?_
    try simp only [Act.put, List.setIfInBounds_toArray, List.set_cons_zero, List.set_cons_succ]
    refine wpAnyH_take (i := 17) (oi := ⟨_, _, _, _, _, _⟩) (v := ?_) rfl (by kernel_rfl) (by kernel_rfl) (by kernel_rfl) (fun _ _ _ h => h) (Or.inl ⟨by rfl, ?_⟩) (by assumption) ?_
    rotate_left
    · intro w hSw; go_simp; try (with_reducible rfl)
    try simp only [Act.put, List.setIfInBounds_toArray, List.set_cons_zero, List.set_cons_succ]
    refine wpAnyH_take (i := 18) (oi := ⟨_, _, _, _, _, _⟩) (v := ?_) rfl (by kernel_rfl) (by kernel_rfl) (by kernel_rfl) (fun _ _ _ h => h) (Or.inl ⟨by rfl, ?_⟩) (by assumption) ?_
    rotate_left
    · intro w hSw; go_simp; try (with_reducible rfl)
    try simp only [Act.put, List.setIfInBounds_toArray, List.set_cons_zero, List.set_cons_succ]
    refine wpAnyH_done (by kernel_rfl) ?_ _
    go_wp2
    go_ret2
    exact ⟨by rw [HE.out]; rfl, hHeld.1.b⟩
  have hqe : ∀ w, (Op.equalIn 10000 24 (.agg (d.map byt).toArray) (.agg (i.ot.map byt).toArray)).run Tryz.prog w = .ok true w := fun w => by rw [run_equal_u8 Tryz.underlying24 (i := _) rfl (by kernel_rfl) Tryz.underlying5 w d i.ot HDL.out OK.out.ot]; simp [hdd]
  have HDD := Lib.hid hdd
  have hix := OK.out.ix
  have hcv : IntKind.i64.wrap (i.ix : Int) = (i.ix : Int) := IntWalk.i64_in _ (by omega)
  have hcu : IntKind.u64.wrap (i.ix : Int) = (i.ix : Int) := by rw [IntKind.wrap_u64]; omega
  have hln : os.length < 18446744073709551616 := by obtain ⟨_, _, e, h1, h2, _⟩ := M6.out.s.form; unfold maxLen at h2; omega
  have hcl : IntKind.u64.wrap (os.length : Int) = (os.length : Int) := by rw [IntKind.wrap_u64]; omega
  clear hdd hln
  by_cases hlt : os.length ≤ i.ix
  · have HE := Lib.hid (show evid hs i = (0, 174) from by rw [HE2.out]; unfold evid2; rw [if_neg (by rw [HG.out]; simp), if_neg (by rw [HG.out, HID.out, HDD.out]; simp), if_pos (by rw [HG.out]; exact hlt)])
    have hge : (os.length : Int) ≤ (i.ix : Int) := by omega
    clear hlt
    refine wp_region_held_drew (S := (fun w' => EV X 1 w w.heap.size go gv i w' ∧ MtB w' gx mv (.slice oa os.length oc) os)) (by kernel_rfl) ⟨EV.drew HXD.out E6.out, M6.out.drew⟩ (fun hHeld => ?_)
    refine wpAnyH_take (i := 0) (oi := ⟨_, _, _, _, _, _⟩) (v := ?_) rfl (by kernel_rfl) (by kernel_rfl) (by kernel_rfl) (fun _ _ _ h => h) (Or.inl ⟨by rfl, ?_⟩) (by assumption) ?_
    rotate_left
    · intro w hSw; go_simp; try (with_reducible rfl)
    try simp only [Act.put, List.setIfInBounds_toArray, List.set_cons_zero, List.set_cons_succ]
    refine wpAnyH_take (i := 1) (oi := ⟨_, _, _, _, _, _⟩) (v := ?_) rfl (by kernel_rfl) (by kernel_rfl) (by kernel_rfl) (fun _ _ _ h => h) (Or.inl ⟨by rfl, ?_⟩) (by assumption) ?_
    rotate_left
    · intro w hSw; go_simp; try (with_reducible rfl)
    try simp only [Act.put, List.setIfInBounds_toArray, List.set_cons_zero, List.set_cons_succ]
    refine wpAnyH_take (i := 2) (oi := ⟨_, _, _, _, _, _⟩) (v := ?_) rfl (by kernel_rfl) (by kernel_rfl) (by kernel_rfl) (fun _ _ _ h => h) (Or.inl ⟨by rfl, ?_⟩) (by assumption) ?_
    rotate_left
    · intro w hSw; go_simp; try (with_reducible rfl)
    try simp only [Act.put, List.setIfInBounds_toArray, List.set_cons_zero, List.set_cons_succ]
    refine wpAnyH_take (i := 3) (oi := ⟨_, _, _, _, _, _⟩) rfl (by kernel_rfl) (by kernel_rfl) (by kernel_rfl) (fun _ _ _ h => h) (yieldsIf_load_mid (by rfl) _ _ rfl gx 0 rfl [.int .u64 (mv : Int), .slice oa os.length oc] _ (fun _ h => Ops.blk_range h.2.b) Tryz.underlying56 rfl HSX.out) (by assumption) ?_
    try simp only [Act.put, List.setIfInBounds_toArray, List.set_cons_zero, List.set_cons_succ]
    refine wpAnyH_take (i := 5) (oi := ⟨_, _, _, _, _, _⟩) (v := ?_) rfl (by kernel_rfl) (by kernel_rfl) (by kernel_rfl) (fun _ _ _ h => h) (Or.inl ⟨by rfl, ?_⟩) (by assumption) ?_
    rotate_left
    · intro w hSw; go_simp; try (with_reducible rfl)
    try simp only [Act.put, List.setIfInBounds_toArray, List.set_cons_zero, List.set_cons_succ]
    refine wpAnyH_take (i := 6) (oi := ⟨_, _, _, _, _, _⟩) rfl (by kernel_rfl) (by kernel_rfl) (by kernel_rfl) (fun _ _ _ h => h) (yieldsIf_load_mid (by rfl) _ _ rfl go 0 rfl (i.ot.map byt) _ (fun _ h => h.1.ro) Tryz.underlying24 rfl (MkW.szD' OK.out.ot)) (by assumption) ?_
    try simp only [Act.put, List.setIfInBounds_toArray, List.set_cons_zero, List.set_cons_succ]
    refine wpAnyH_ready (rs := [4]) (by kernel_rfl) (by simp) ?_
    refine AllReadyH.cons (o := ⟨_, _, _, _, _, _⟩) rfl (fun K hK => ?_) AllReadyH.nil
    go_simp
    refine (mtid_calls _ [.int .u64 (mv : Int), .slice oa os.length oc] (mv, os) (hHeld.2.rep HMV.out) HFI.out hHeld.1.t).mono ?_
    rintro e wz ⟨rfl, gz⟩
    rw [HID.out]
    refine hK.out _ _ (by exact ⟨hHeld.1.below HXB.out gz, hHeld.2.below gz⟩) (fun hHeld => ?_)
    clear hK
    try simp only [Act.put, List.setIfInBounds_toArray, List.set_cons_zero, List.set_cons_succ]
    refine wpAnyH_take (i := 7) (oi := ⟨_, _, _, _, _, _⟩) (v := ?_) rfl (by kernel_rfl) (by kernel_rfl) (by kernel_rfl) (fun _ _ _ h => h) (Or.inl ⟨by rfl, ?_⟩) (by assumption) ?_
    rotate_left
    · intro w hSw; go_simp; try (with_reducible rfl)
    try simp only [Act.put, List.setIfInBounds_toArray, List.set_cons_zero, List.set_cons_succ]
    refine wpAnyH_take (i := 8) (oi := ⟨_, _, _, _, _, _⟩) (v := ?_) rfl (by kernel_rfl) (by kernel_rfl) (by kernel_rfl) (fun _ _ _ h => h) (Or.inl ⟨by rfl, ?_⟩) (by assumption) ?_
    rotate_left
    · intro w hSw; go_simp; try (with_reducible rfl)
    try simp only [Act.put, List.setIfInBounds_toArray, List.set_cons_zero, List.set_cons_succ]
    refine wpAnyH_take (i := 9) (oi := ⟨_, _, _, _, _, _⟩) (v := ?_) rfl (by kernel_rfl) (by kernel_rfl) (by kernel_rfl) (fun _ _ _ h => h) (Or.inl ⟨by rfl, ?_⟩) (by assumption) ?_
    rotate_left
    · intro w hSw; go_simp; try (with_reducible rfl)
    try simp only [Act.put, List.setIfInBounds_toArray, List.set_cons_zero, List.set_cons_succ]
    refine wpAnyH_take (i := 10) (oi := ⟨_, _, _, _, _, _⟩) (v := ?_) rfl (by kernel_rfl) (by kernel_rfl) (by kernel_rfl) (fun _ _ _ h => h) (Or.inl ⟨by rfl, ?_⟩) (by assumption) ?_
    rotate_left
    · intro w hSw; go_simp; try (with_reducible rfl)
    try simp only [Act.put, List.setIfInBounds_toArray, List.set_cons_zero, List.set_cons_succ]
    refine wpAnyH_take (i := 11) (oi := ⟨_, _, _, _, _, _⟩) (v := .int .u32 (i.ix : Int)) rfl (by kernel_rfl) (by kernel_rfl) (by kernel_rfl) (fun _ _ _ h => h) (Or.inl ⟨by rfl, fun w hSw => (by have c := hSw.1.ci OK.out; go_simp; try (with_reducible rfl))⟩) (by assumption) ?_
    try simp only [Act.put, List.setIfInBounds_toArray, List.set_cons_zero, List.set_cons_succ]
    refine wpAnyH_take (i := 12) (oi := ⟨_, _, _, _, _, _⟩) (v := ?_) rfl (by kernel_rfl) (by kernel_rfl) (by kernel_rfl) (fun _ _ _ h => h) (Or.inl ⟨by rfl, ?_⟩) (by assumption) ?_
    rotate_left
    · intro w hSw; go_simp; try (with_reducible rfl)
    try simp only [Act.put, List.setIfInBounds_toArray, List.set_cons_zero, List.set_cons_succ]
    refine wpAnyH_take (i := 13) (oi := ⟨_, _, _, _, _, _⟩) (v := ?_) rfl (by kernel_rfl) (by kernel_rfl) (by kernel_rfl) (fun _ _ _ h => h) (Or.inl ⟨by rfl, ?_⟩) (by assumption) ?_
    rotate_left
    · intro w hSw; go_simp; try (with_reducible rfl)
    try simp only [Act.put, List.setIfInBounds_toArray, List.set_cons_zero, List.set_cons_succ]
    refine wpAnyH_take (i := 14) (oi := ⟨_, _, _, _, _, _⟩) (v := (.slice oa os.length oc)) rfl (by kernel_rfl) (by kernel_rfl) (by kernel_rfl) (fun _ _ _ h => h) (Or.inl ⟨by rfl, fun w hSw => (by have c := hSw.2.b.cell (i := 1) rfl; go_simp; try (with_reducible rfl))⟩) (by assumption) ?_
    try simp only [Act.put, List.setIfInBounds_toArray, List.set_cons_zero, List.set_cons_succ]
    refine wpAnyH_take (i := 15) (oi := ⟨_, _, _, _, _, _⟩) (v := ?_) rfl (by kernel_rfl) (by kernel_rfl) (by kernel_rfl) (fun _ _ _ h => h) (Or.inl ⟨by rfl, ?_⟩) (by assumption) ?_
    rotate_left
    · intro w hSw; go_simp; try (with_reducible rfl)
    try simp only [Act.put, List.setIfInBounds_toArray, List.set_cons_zero, List.set_cons_succ]
    refine wpAnyH_take (i := 16) (oi := ⟨_, _, _, _, _, _⟩) (v := ?_) rfl (by kernel_rfl) (by kernel_rfl) (by kernel_rfl) (fun _ _ _ h => h) (Or.inl ⟨by rfl, ?_⟩) (by assumption) ?_
    rotate_left
    · intro w hSw; go_simp; try (with_reducible rfl)
    try simp only [Act.put, List.setIfInBounds_toArray, List.set_cons_zero, List.set_cons_succ]
    refine wpAnyH_take (i := 17) (oi := ⟨_, _, _, _, _, _⟩) (v := ?_) rfl (by kernel_rfl) (by kernel_rfl) (by kernel_rfl) (fun _ _ _ h => h) (Or.inl ⟨by rfl, ?_⟩) (by assumption) ?_
    rotate_left
    · intro w hSw; go_simp; try (with_reducible rfl)
    try simp only [Act.put, List.setIfInBounds_toArray, List.set_cons_zero, List.set_cons_succ]
    refine wpAnyH_take (i := 18) (oi := ⟨_, _, _, _, _, _⟩) (v := ?_) rfl (by kernel_rfl) (by kernel_rfl) (by kernel_rfl) (fun _ _ _ h => h) (Or.inl ⟨by rfl, ?_⟩) (by assumption) ?_
    rotate_left
    · intro w hSw; go_simp; try (with_reducible rfl)
    try simp only [Act.put, List.setIfInBounds_toArray, List.set_cons_zero, List.set_cons_succ]
    refine wpAnyH_done (by kernel_rfl) ?_ _
    go_wp2
    go_ret2
    exact ⟨by rw [HE.out]; rfl, hHeld.1.b⟩
  have HE3 := Lib.hid (show evid hs i = evid3 hs i from by rw [HE2.out]; unfold evid2; rw [if_neg (by rw [HG.out]; simp), if_neg (by rw [HG.out, HID.out, HDD.out]; simp), if_neg (by rw [HG.out]; exact hlt)])
  have hge : ¬ (os.length : Int) ≤ (i.ix : Int) := by omega
  have HLT := Lib.hid (show i.ix < os.length from by omega)
  clear hlt
  refine wp_region_held_drew (S := (fun w' => EV X 1 w w.heap.size go gv i w' ∧ MtB w' gx mv (.slice oa os.length oc) os)) (by kernel_rfl) ⟨EV.drew HXD.out E6.out, M6.out.drew⟩ (fun hHeld => ?_)
  refine wpAnyH_take (i := 0) (oi := ⟨_, _, _, _, _, _⟩) (v := ?_) rfl (by kernel_rfl) (by kernel_rfl) (by kernel_rfl) (fun _ _ _ h => h) (Or.inl ⟨by rfl, ?_⟩) (by assumption) ?_
  rotate_left
  · intro w hSw; go_simp; try (with_reducible rfl)
  try simp only [Act.put, List.setIfInBounds_toArray, List.set_cons_zero, List.set_cons_succ]
  refine wpAnyH_take (i := 1) (oi := ⟨_, _, _, _, _, _⟩) (v := ?_) rfl (by kernel_rfl) (by kernel_rfl) (by kernel_rfl) (fun _ _ _ h => h) (Or.inl ⟨by rfl, ?_⟩) (by assumption) ?_
  rotate_left
  · intro w hSw; go_simp; try (with_reducible rfl)
  try simp only [Act.put, List.setIfInBounds_toArray, List.set_cons_zero, List.set_cons_succ]
  refine wpAnyH_take (i := 2) (oi := ⟨_, _, _, _, _, _⟩) (v := ?_) rfl (by kernel_rfl) (by kernel_rfl) (by kernel_rfl) (fun _ _ _ h => h) (Or.inl ⟨by rfl, ?_⟩) (by assumption) ?_
  rotate_left
  · intro w hSw; go_simp; try (with_reducible rfl)
  try simp only [Act.put, List.setIfInBounds_toArray, List.set_cons_zero, List.set_cons_succ]
  refine wpAnyH_take (i := 3) (oi := ⟨_, _, _, _, _, _⟩) rfl (by kernel_rfl) (by kernel_rfl) (by kernel_rfl) (fun _ _ _ h => h) (yieldsIf_load_mid (by rfl) _ _ rfl gx 0 rfl [.int .u64 (mv : Int), .slice oa os.length oc] _ (fun _ h => Ops.blk_range h.2.b) Tryz.underlying56 rfl HSX.out) (by assumption) ?_
  try simp only [Act.put, List.setIfInBounds_toArray, List.set_cons_zero, List.set_cons_succ]
  refine wpAnyH_take (i := 5) (oi := ⟨_, _, _, _, _, _⟩) (v := ?_) rfl (by kernel_rfl) (by kernel_rfl) (by kernel_rfl) (fun _ _ _ h => h) (Or.inl ⟨by rfl, ?_⟩) (by assumption) ?_
  rotate_left
  · intro w hSw; go_simp; try (with_reducible rfl)
  try simp only [Act.put, List.setIfInBounds_toArray, List.set_cons_zero, List.set_cons_succ]
  refine wpAnyH_take (i := 6) (oi := ⟨_, _, _, _, _, _⟩) rfl (by kernel_rfl) (by kernel_rfl) (by kernel_rfl) (fun _ _ _ h => h) (yieldsIf_load_mid (by rfl) _ _ rfl go 0 rfl (i.ot.map byt) _ (fun _ h => h.1.ro) Tryz.underlying24 rfl (MkW.szD' OK.out.ot)) (by assumption) ?_
  try simp only [Act.put, List.setIfInBounds_toArray, List.set_cons_zero, List.set_cons_succ]
  refine wpAnyH_ready (rs := [4]) (by kernel_rfl) (by simp) ?_
  refine AllReadyH.cons (o := ⟨_, _, _, _, _, _⟩) rfl (fun K hK => ?_) AllReadyH.nil
  go_simp
  refine (mtid_calls _ [.int .u64 (mv : Int), .slice oa os.length oc] (mv, os) (hHeld.2.rep HMV.out) HFI.out hHeld.1.t).mono ?_
  rintro e wz ⟨rfl, gz⟩
  rw [HID.out]
  refine hK.out _ _ (by exact ⟨hHeld.1.below HXB.out gz, hHeld.2.below gz⟩) (fun hHeld => ?_)
  clear hK
  try simp only [Act.put, List.setIfInBounds_toArray, List.set_cons_zero, List.set_cons_succ]
  refine wpAnyH_take (i := 7) (oi := ⟨_, _, _, _, _, _⟩) (v := ?_) rfl (by kernel_rfl) (by kernel_rfl) (by kernel_rfl) (fun _ _ _ h => h) (Or.inl ⟨by rfl, ?_⟩) (by assumption) ?_
  rotate_left
  · intro w hSw; go_simp; try (with_reducible rfl)
  try simp only [Act.put, List.setIfInBounds_toArray, List.set_cons_zero, List.set_cons_succ]
  refine wpAnyH_take (i := 8) (oi := ⟨_, _, _, _, _, _⟩) (v := ?_) rfl (by kernel_rfl) (by kernel_rfl) (by kernel_rfl) (fun _ _ _ h => h) (Or.inl ⟨by rfl, ?_⟩) (by assumption) ?_
  rotate_left
  · intro w hSw; go_simp; try (with_reducible rfl)
  try simp only [Act.put, List.setIfInBounds_toArray, List.set_cons_zero, List.set_cons_succ]
  refine wpAnyH_take (i := 9) (oi := ⟨_, _, _, _, _, _⟩) (v := ?_) rfl (by kernel_rfl) (by kernel_rfl) (by kernel_rfl) (fun _ _ _ h => h) (Or.inl ⟨by rfl, ?_⟩) (by assumption) ?_
  rotate_left
  · intro w hSw; go_simp; try (with_reducible rfl)
  try simp only [Act.put, List.setIfInBounds_toArray, List.set_cons_zero, List.set_cons_succ]
  refine wpAnyH_take (i := 10) (oi := ⟨_, _, _, _, _, _⟩) (v := ?_) rfl (by kernel_rfl) (by kernel_rfl) (by kernel_rfl) (fun _ _ _ h => h) (Or.inl ⟨by rfl, ?_⟩) (by assumption) ?_
  rotate_left
  · intro w hSw; go_simp; try (with_reducible rfl)
  try simp only [Act.put, List.setIfInBounds_toArray, List.set_cons_zero, List.set_cons_succ]
  refine wpAnyH_take (i := 11) (oi := ⟨_, _, _, _, _, _⟩) (v := .int .u32 (i.ix : Int)) rfl (by kernel_rfl) (by kernel_rfl) (by kernel_rfl) (fun _ _ _ h => h) (Or.inl ⟨by rfl, fun w hSw => (by have c := hSw.1.ci OK.out; go_simp; try (with_reducible rfl))⟩) (by assumption) ?_
  try simp only [Act.put, List.setIfInBounds_toArray, List.set_cons_zero, List.set_cons_succ]
  refine wpAnyH_take (i := 12) (oi := ⟨_, _, _, _, _, _⟩) (v := ?_) rfl (by kernel_rfl) (by kernel_rfl) (by kernel_rfl) (fun _ _ _ h => h) (Or.inl ⟨by rfl, ?_⟩) (by assumption) ?_
  rotate_left
  · intro w hSw; go_simp; try (with_reducible rfl)
  try simp only [Act.put, List.setIfInBounds_toArray, List.set_cons_zero, List.set_cons_succ]
  refine wpAnyH_take (i := 13) (oi := ⟨_, _, _, _, _, _⟩) (v := ?_) rfl (by kernel_rfl) (by kernel_rfl) (by kernel_rfl) (fun _ _ _ h => h) (Or.inl ⟨by rfl, ?_⟩) (by assumption) ?_
  rotate_left
  · intro w hSw; go_simp; try (with_reducible rfl)
  try simp only [Act.put, List.setIfInBounds_toArray, List.set_cons_zero, List.set_cons_succ]
  refine wpAnyH_take (i := 14) (oi := ⟨_, _, _, _, _, _⟩) (v := (.slice oa os.length oc)) rfl (by kernel_rfl) (by kernel_rfl) (by kernel_rfl) (fun _ _ _ h => h) (Or.inl ⟨by rfl, fun w hSw => (by have c := hSw.2.b.cell (i := 1) rfl; go_simp; try (with_reducible rfl))⟩) (by assumption) ?_
  try simp only [Act.put, List.setIfInBounds_toArray, List.set_cons_zero, List.set_cons_succ]
  refine wpAnyH_take (i := 15) (oi := ⟨_, _, _, _, _, _⟩) (v := ?_) rfl (by kernel_rfl) (by kernel_rfl) (by kernel_rfl) (fun _ _ _ h => h) (Or.inl ⟨by rfl, ?_⟩) (by assumption) ?_
  rotate_left
  · intro w hSw; go_simp; try (with_reducible rfl)
  try simp only [Act.put, List.setIfInBounds_toArray, List.set_cons_zero, List.set_cons_succ]
  refine wpAnyH_take (i := 16) (oi := ⟨_, _, _, _, _, _⟩) (v := ?_) rfl (by kernel_rfl) (by kernel_rfl) (by kernel_rfl) (fun _ _ _ h => h) (Or.inl ⟨by rfl, ?_⟩) (by assumption) ?_
  rotate_left
  · intro w hSw; go_simp; try (with_reducible rfl)
  try simp only [Act.put, List.setIfInBounds_toArray, List.set_cons_zero, List.set_cons_succ]
  refine wpAnyH_take (i := 17) (oi := ⟨_, _, _, _, _, _⟩) (v := ?_) rfl (by kernel_rfl) (by kernel_rfl) (by kernel_rfl) (fun _ _ _ h => h) (Or.inl ⟨by rfl, ?_⟩) (by assumption) ?_
  rotate_left
  · intro w hSw; go_simp; try (with_reducible rfl)
  try simp only [Act.put, List.setIfInBounds_toArray, List.set_cons_zero, List.set_cons_succ]
  refine wpAnyH_take (i := 18) (oi := ⟨_, _, _, _, _, _⟩) (v := ?_) rfl (by kernel_rfl) (by kernel_rfl) (by kernel_rfl) (fun _ _ _ h => h) (Or.inl ⟨by rfl, ?_⟩) (by assumption) ?_
  rotate_left
  · intro w hSw; go_simp; try (with_reducible rfl)
  try simp only [Act.put, List.setIfInBounds_toArray, List.set_cons_zero, List.set_cons_succ]
  refine wpAnyH_done (by kernel_rfl) ?_ _
  go_wp2
  have E9 := Lib.hid hHeld.1
  have M9 := Lib.hid hHeld.2
  clear hHeld hqe hcv hcu hcl hge E6 M6
  obtain ⟨g, hg⟩ : ∃ g, (Tk.look hs i.hd).getD Tk.zeroH = g := ⟨_, rfl⟩
  have OKG := Lib.hid (show g.Ok from hg ▸ Tk.look_ok TT i.hd)
  have HGG := Lib.hid hg
  obtain ⟨lf, hlf⟩ : ∃ lf, leafD i.tx = lf := ⟨_, rfl⟩
  have HLF := Lib.hid hlf
  have HLL := Lib.hid (show lf.length = 32 from hlf ▸ leafD_length _)
  obtain ⟨ck, hck⟩ : ∃ ck, MkW.chk g.root lf i.pl i.mn i.ds = ck := ⟨_, rfl⟩
  have HCK := Lib.hid hck
  clear hg hlf hck
  obtain ⟨kl, hkl⟩ := Tk.keyD i.hd OK.out.hd
  have HKL := Lib.hid hkl
  have HRES := Lib.hid (show (if false = true then Value.tuple #[((Tk.look hs i.hd).map hv).getD (hv Tk.zeroH), .bool ((Tk.look hs i.hd).map hv).isSome] else ((Tk.look hs i.hd).map hv).getD (hv Tk.zeroH)) = hv g by rw [Tk.look_one, HGG.out])
  have hfr : ∀ w, (Instr.field 41 (.agg g.cells.toArray) 1).run Tryz.prog w = .ok (.agg (g.root.map byt).toArray) w := run_field_root g OKG.out
  clear hkl
  refine wp_region_held_drew (S := (fun w' => EV X 1 w w.heap.size go gv i w' ∧ MtB w' gx mv (.slice oa os.length oc) os)) (by kernel_rfl) ⟨EV.drew HXD.out E9.out, M9.out.drew⟩ (fun hHeld => ?_)
  refine wpAnyH_take (i := 0) (oi := ⟨_, _, _, _, _, _⟩) (v := ?_) rfl (by kernel_rfl) (by kernel_rfl) (by kernel_rfl) (fun _ _ _ h => h) (Or.inl ⟨by rfl, ?_⟩) (by assumption) ?_
  rotate_left
  · intro w hSw; go_simp; try (with_reducible rfl)
  try simp only [Act.put, List.setIfInBounds_toArray, List.set_cons_zero, List.set_cons_succ]
  refine wpAnyH_take (i := 1) (oi := ⟨_, _, _, _, _, _⟩) (v := ?_) rfl (by kernel_rfl) (by kernel_rfl) (by kernel_rfl) (fun _ _ _ h => h) (Or.inl ⟨by rfl, ?_⟩) (by assumption) ?_
  rotate_left
  · intro w hSw; go_simp; try (with_reducible rfl)
  try simp only [Act.put, List.setIfInBounds_toArray, List.set_cons_zero, List.set_cons_succ]
  refine wpAnyH_take (i := 2) (oi := ⟨_, _, _, _, _, _⟩) (v := ?_) rfl (by kernel_rfl) (by kernel_rfl) (by kernel_rfl) (fun _ _ _ h => h) (Or.inl ⟨by rfl, ?_⟩) (by assumption) ?_
  rotate_left
  · intro w hSw; go_simp; try (with_reducible rfl)
  try simp only [Act.put, List.setIfInBounds_toArray, List.set_cons_zero, List.set_cons_succ]
  refine wpAnyH_take (i := 3) (oi := ⟨_, _, _, _, _, _⟩) (v := .map (some b)) rfl (by kernel_rfl) (by kernel_rfl) (by kernel_rfl) (fun _ _ _ h => h) (Or.inl ⟨by rfl, fun w hSw => (by have c := trk_map (HXI.out _ hSw.1.x); go_simp; try (with_reducible rfl))⟩) (by assumption) ?_
  try simp only [Act.put, List.setIfInBounds_toArray, List.set_cons_zero, List.set_cons_succ]
  refine wpAnyH_take (i := 4) (oi := ⟨_, _, _, _, _, _⟩) (v := ?_) rfl (by kernel_rfl) (by kernel_rfl) (by kernel_rfl) (fun _ _ _ h => h) (Or.inl ⟨by rfl, ?_⟩) (by assumption) ?_
  rotate_left
  · intro w hSw; go_simp; try (with_reducible rfl)
  try simp only [Act.put, List.setIfInBounds_toArray, List.set_cons_zero, List.set_cons_succ]
  refine wpAnyH_take (i := 5) (oi := ⟨_, _, _, _, _, _⟩) rfl (by kernel_rfl) (by kernel_rfl) (by kernel_rfl) (fun _ _ _ h => h) (yieldsIf_load_mid (by rfl) _ _ rfl w.heap.size 0 rfl (i.hd.map byt) _ (fun _ h => h.1.rp) Tryz.underlying24 rfl (MkW.szD' OK.out.hd)) (by assumption) ?_
  try simp only [Act.put, List.setIfInBounds_toArray, List.set_cons_zero, List.set_cons_succ]
  refine wpAnyH_take (i := 6) (oi := ⟨_, _, _, _, _, _⟩) rfl (by kernel_rfl) (by kernel_rfl) (by kernel_rfl) (fun _ _ _ h => h) (Maps.yieldsIf_look (by rfl) _ _ _ false rfl 41 Tk.keyed Tryz.underlying80 Tk.zeroV rfl (fun _ h => trk_is (HXI.out _ h.1.x)) (.agg (i.hd.map byt).toArray) kl rfl HKL.out _ (Tk.at_look hs i.hd) (.agg g.cells.toArray) HRES.out) (by assumption) ?_
  try simp only [Act.put, List.setIfInBounds_toArray, List.set_cons_zero, List.set_cons_succ]
  refine wpAnyH_take (i := 7) (oi := ⟨_, _, _, _, _, _⟩) (v := ?_) rfl (by kernel_rfl) (by kernel_rfl) (by kernel_rfl) (fun _ _ _ h => h) (Or.inl ⟨by rfl, ?_⟩) (by assumption) ?_
  rotate_left
  · intro w hSw; go_simp; try (with_reducible rfl)
  try simp only [Act.put, List.setIfInBounds_toArray, List.set_cons_zero, List.set_cons_succ]
  refine wpAnyH_take (i := 8) (oi := ⟨_, _, _, _, _, _⟩) (v := ?_) rfl (by kernel_rfl) (by kernel_rfl) (by kernel_rfl) (fun _ _ _ h => h) (Or.inl ⟨by rfl, ?_⟩) (by assumption) ?_
  rotate_left
  · intro w hSw; go_simp; try (with_reducible rfl)
  try simp only [Act.put, List.setIfInBounds_toArray, List.set_cons_zero, List.set_cons_succ]
  refine wpAnyH_take (i := 9) (oi := ⟨_, _, _, _, _, _⟩) (v := i.vx) rfl (by kernel_rfl) (by kernel_rfl) (by kernel_rfl) (fun _ _ _ h => h) (Or.inl ⟨by rfl, fun w hSw => (by have c := hSw.1.c32 OK.out; go_simp; try (with_reducible rfl))⟩) (by assumption) ?_
  try simp only [Act.put, List.setIfInBounds_toArray, List.set_cons_zero, List.set_cons_succ]
  refine wpAnyH_take (i := 11) (oi := ⟨_, _, _, _, _, _⟩) (v := ?_) rfl (by kernel_rfl) (by kernel_rfl) (by kernel_rfl) (fun _ _ _ h => h) (Or.inl ⟨by rfl, ?_⟩) (by assumption) ?_
  rotate_left
  · intro w hSw; go_simp; try (with_reducible rfl)
  try simp only [Act.put, List.setIfInBounds_toArray, List.set_cons_zero, List.set_cons_succ]
  refine wpAnyH_take (i := 12) (oi := ⟨_, _, _, _, _, _⟩) (v := .int .u32 (i.pl : Int)) rfl (by kernel_rfl) (by kernel_rfl) (by kernel_rfl) (fun _ _ _ h => h) (Or.inl ⟨by rfl, fun w hSw => (by have c := hSw.1.c33 OK.out; go_simp; try (with_reducible rfl))⟩) (by assumption) ?_
  try simp only [Act.put, List.setIfInBounds_toArray, List.set_cons_zero, List.set_cons_succ]
  refine wpAnyH_take (i := 13) (oi := ⟨_, _, _, _, _, _⟩) (v := ?_) rfl (by kernel_rfl) (by kernel_rfl) (by kernel_rfl) (fun _ _ _ h => h) (Or.inl ⟨by rfl, ?_⟩) (by assumption) ?_
  rotate_left
  · intro w hSw; go_simp; try (with_reducible rfl)
  try simp only [Act.put, List.setIfInBounds_toArray, List.set_cons_zero, List.set_cons_succ]
  refine wpAnyH_take (i := 14) (oi := ⟨_, _, _, _, _, _⟩) (v := .int .u32 (i.mn : Int)) rfl (by kernel_rfl) (by kernel_rfl) (by kernel_rfl) (fun _ _ _ h => h) (Or.inl ⟨by rfl, fun w hSw => (by have c := hSw.1.c34 OK.out; go_simp; try (with_reducible rfl))⟩) (by assumption) ?_
  try simp only [Act.put, List.setIfInBounds_toArray, List.set_cons_zero, List.set_cons_succ]
  refine wpAnyH_take (i := 15) (oi := ⟨_, _, _, _, _, _⟩) (v := ?_) rfl (by kernel_rfl) (by kernel_rfl) (by kernel_rfl) (fun _ _ _ h => h) (Or.inl ⟨by rfl, ?_⟩) (by assumption) ?_
  rotate_left
  · intro w hSw; go_simp; try (with_reducible rfl)
  try simp only [Act.put, List.setIfInBounds_toArray, List.set_cons_zero, List.set_cons_succ]
  refine wpAnyH_take (i := 16) (oi := ⟨_, _, _, _, _, _⟩) (v := i.vp) rfl (by kernel_rfl) (by kernel_rfl) (by kernel_rfl) (fun _ _ _ h => h) (Or.inl ⟨by rfl, fun w hSw => (by have c := hSw.1.c35 OK.out; go_simp; try (with_reducible rfl))⟩) (by assumption) ?_
  try simp only [Act.put, List.setIfInBounds_toArray, List.set_cons_zero, List.set_cons_succ]
  refine wpAnyH_ready (rs := [10]) (by kernel_rfl) (by simp) ?_
  refine AllReadyH.cons (o := ⟨_, _, _, _, _, _⟩) rfl (fun K hK => ?_) AllReadyH.nil
  go_simp
  refine (MkW.leaf_calls _ i.vx i.tx hHeld.1.bx OK.out.tx hHeld.1.t).mono ?_
  rintro e wlf ⟨rfl, gz⟩
  rw [HLF.out]
  refine hK.out _ _ (by exact ⟨hHeld.1.below HXB.out gz, hHeld.2.below gz⟩) (fun hHeld => ?_)
  clear hK
  try simp only [Act.put, List.setIfInBounds_toArray, List.set_cons_zero, List.set_cons_succ]
  refine wpAnyH_ready (rs := [17]) (by kernel_rfl) (by simp) ?_
  refine AllReadyH.cons (o := ⟨_, _, _, _, _, _⟩) rfl (fun K hK => ?_) AllReadyH.nil
  go_simp
  refine (MkW.check_calls _ g.root lf i.pl i.mn i.vp i.ds hHeld.1.bp OK.out.ds OKG.out.2.1 HLL.out hHeld.1.t OK.out.mn OK.out.pl OK.out.dl).mono ?_
  rintro e wck ⟨rfl, gz⟩
  rw [HCK.out]
  refine hK.out _ _ (by exact ⟨hHeld.1.below HXB.out gz, hHeld.2.below gz⟩) (fun hHeld => ?_)
  clear hK
  try simp only [Act.put, List.setIfInBounds_toArray, List.set_cons_zero, List.set_cons_succ]
  refine wpAnyH_take (i := 18) (oi := ⟨_, _, _, _, _, _⟩) (v := ?_) rfl (by kernel_rfl) (by kernel_rfl) (by kernel_rfl) (fun _ _ _ h => h) (Or.inl ⟨by rfl, ?_⟩) (by assumption) ?_
  rotate_left
  · intro w hSw; go_simp; try (with_reducible rfl)
  try simp only [Act.put, List.setIfInBounds_toArray, List.set_cons_zero, List.set_cons_succ]
  refine wpAnyH_take (i := 19) (oi := ⟨_, _, _, _, _, _⟩) (v := ?_) rfl (by kernel_rfl) (by kernel_rfl) (by kernel_rfl) (fun _ _ _ h => h) (Or.inl ⟨by rfl, ?_⟩) (by assumption) ?_
  rotate_left
  · intro w hSw; go_simp; try (with_reducible rfl)
  try simp only [Act.put, List.setIfInBounds_toArray, List.set_cons_zero, List.set_cons_succ]
  refine wpAnyH_done (by kernel_rfl) ?_ _
  clear E9 M9 HKL HRES hfr
  rcases ck with _ | _
  · have HE := Lib.hid (show evid hs i = (0, 175) from by rw [HE3.out]; unfold evid3; rw [if_pos (by rw [HGG.out, HLF.out, HCK.out])])
    go_wp2
    go_ret2
    exact ⟨by rw [HE.out]; rfl, hHeld.1.b⟩
  go_wp2
  have E11 := Lib.hid hHeld.1
  have M11 := Lib.hid hHeld.2
  clear hHeld
  obtain ⟨ob, off, cap', cs', e', _⟩ := M11.out.s.at i.ix HLT.out
  cases e'
  obtain ⟨⟨o1, o2⟩, ho⟩ : ∃ o, os[i.ix]'HLT.out = o := ⟨_, rfl⟩
  have HGD := Lib.hid (show (gotMt i.tx).1.2.getD i.ix (0, []) = (o1, o2) from by rw [HG.out]; show os.getD i.ix (0, []) = _; rw [List.getD_eq_getElem?_getD, List.getElem?_eq_getElem HLT.out, ho]; rfl)
  have HAT : Hid (∀ w', MtB w' gx mv (.slice (some ⟨ob, off, none⟩) os.length oc) os → w'.rangeAt ob (off + i.ix * 33 + 1) (o2.map byt) ∧ w'.cell? ⟨ob, off + i.ix * 33, none⟩ = some (.int .u64 (o1 : Int)) ∧ o2.length = 32 ∧ w'.rangeAt ob (off + i.ix * 33) (.int .u64 (o1 : Int) :: o2.map byt)) := Lib.hid (fun w' h => by have := h.at i.ix HLT.out; rw [ho] at this; exact this)
  have HO2 := Lib.hid (HAT.out _ M11.out).2.2.1
  have hltI : (i.ix : Int) < (os.length : Int) := by have := HLT.out; omega
  have h0I : (0 : Int) ≤ (i.ix : Int) := by omega
  obtain ⟨cl, hcl⟩ : ∃ cl, claimD i.sc = cl := ⟨_, rfl⟩
  have HCL := Lib.hid hcl
  have HCLL := Lib.hid (show cl.length = 32 from hcl ▸ claimD_length _)
  have hqc : ∀ w, (Op.equalIn 10000 24 (.agg (o2.map byt).toArray) (.agg (cl.map byt).toArray)).run Tryz.prog w = .ok (o2 == cl) w := fun w => run_equal_u8 Tryz.underlying24 (i := _) rfl (by kernel_rfl) Tryz.underlying5 w o2 cl HO2.out HCLL.out
  clear ho hcl
  refine wp_region_held_drew (S := (fun w' => EV X 1 w w.heap.size go gv i w' ∧ MtB w' gx mv (.slice (some ⟨ob, off, none⟩) os.length oc) os)) (by kernel_rfl) ⟨EV.drew HXD.out E11.out, M11.out.drew⟩ (fun hHeld => ?_)
  refine wpAnyH_take (i := 0) (oi := ⟨_, _, _, _, _, _⟩) (v := ?_) rfl (by kernel_rfl) (by kernel_rfl) (by kernel_rfl) (fun _ _ _ h => h) (Or.inl ⟨by rfl, ?_⟩) (by assumption) ?_
  rotate_left
  · intro w hSw; go_simp; try (with_reducible rfl)
  try simp only [Act.put, List.setIfInBounds_toArray, List.set_cons_zero, List.set_cons_succ]
  refine wpAnyH_take (i := 1) (oi := ⟨_, _, _, _, _, _⟩) (v := (.slice (some ⟨ob, off, none⟩) os.length oc)) rfl (by kernel_rfl) (by kernel_rfl) (by kernel_rfl) (fun _ _ _ h => h) (Or.inl ⟨by rfl, fun w hSw => (by have c := hSw.2.b.cell (i := 1) rfl; go_simp; try (with_reducible rfl))⟩) (by assumption) ?_
  try simp only [Act.put, List.setIfInBounds_toArray, List.set_cons_zero, List.set_cons_succ]
  refine wpAnyH_take (i := 2) (oi := ⟨_, _, _, _, _, _⟩) (v := ?_) rfl (by kernel_rfl) (by kernel_rfl) (by kernel_rfl) (fun _ _ _ h => h) (Or.inl ⟨by rfl, ?_⟩) (by assumption) ?_
  rotate_left
  · intro w hSw; go_simp; try (with_reducible rfl)
  try simp only [Act.put, List.setIfInBounds_toArray, List.set_cons_zero, List.set_cons_succ]
  refine wpAnyH_take (i := 3) (oi := ⟨_, _, _, _, _, _⟩) (v := .int .u32 (i.ix : Int)) rfl (by kernel_rfl) (by kernel_rfl) (by kernel_rfl) (fun _ _ _ h => h) (Or.inl ⟨by rfl, fun w hSw => (by have c := hSw.1.ci OK.out; go_simp; try (with_reducible rfl))⟩) (by assumption) ?_
  try simp only [Act.put, List.setIfInBounds_toArray, List.set_cons_zero, List.set_cons_succ]
  refine wpAnyH_take (i := 4) (oi := ⟨_, _, _, _, _, _⟩) (v := ?_) rfl (by kernel_rfl) (by kernel_rfl) (by kernel_rfl) (fun _ _ _ h => h) (Or.inl ⟨by rfl, ?_⟩) (by assumption) ?_
  rotate_left
  · intro w hSw; go_simp; try (with_reducible rfl)
  try simp only [Act.put, List.setIfInBounds_toArray, List.set_cons_zero, List.set_cons_succ]
  refine wpAnyH_take (i := 5) (oi := ⟨_, _, _, _, _, _⟩) (v := ?_) rfl (by kernel_rfl) (by kernel_rfl) (by kernel_rfl) (fun _ _ _ h => h) (Or.inl ⟨by rfl, ?_⟩) (by assumption) ?_
  rotate_left
  · intro w hSw; go_simp; try (with_reducible rfl)
  try simp only [Act.put, List.setIfInBounds_toArray, List.set_cons_zero, List.set_cons_succ]
  refine wpAnyH_take (i := 6) (oi := ⟨_, _, _, _, _, _⟩) rfl (by kernel_rfl) (by kernel_rfl) (by kernel_rfl) (fun _ _ _ h => h) (yieldsIf_load_mid (by rfl) _ _ rfl ob (off + i.ix * 33 + 1) rfl (o2.map byt) _ (fun _ h => (HAT.out _ h.2).1) Tryz.underlying24 rfl (MkW.szD' HO2.out)) (by assumption) ?_
  try simp only [Act.put, List.setIfInBounds_toArray, List.set_cons_zero, List.set_cons_succ]
  refine wpAnyH_take (i := 7) (oi := ⟨_, _, _, _, _, _⟩) (v := ?_) rfl (by kernel_rfl) (by kernel_rfl) (by kernel_rfl) (fun _ _ _ h => h) (Or.inl ⟨by rfl, ?_⟩) (by assumption) ?_
  rotate_left
  · intro w hSw; go_simp; try (with_reducible rfl)
  try simp only [Act.put, List.setIfInBounds_toArray, List.set_cons_zero, List.set_cons_succ]
  refine wpAnyH_take (i := 8) (oi := ⟨_, _, _, _, _, _⟩) (v := i.vs) rfl (by kernel_rfl) (by kernel_rfl) (by kernel_rfl) (fun _ _ _ h => h) (Or.inl ⟨by rfl, fun w hSw => (by have c := hSw.1.c36 OK.out; go_simp; try (with_reducible rfl))⟩) (by assumption) ?_
  try simp only [Act.put, List.setIfInBounds_toArray, List.set_cons_zero, List.set_cons_succ]
  refine wpAnyH_ready (rs := [9]) (by kernel_rfl) (by simp) ?_
  refine AllReadyH.cons (o := ⟨_, _, _, _, _, _⟩) rfl (fun K hK => ?_) AllReadyH.nil
  go_simp
  refine (claim_calls _ i.vs i.sc hHeld.1.bs OK.out.sc hHeld.1.t).mono ?_
  rintro e wcl ⟨rfl, gz⟩
  rw [HCL.out]
  refine hK.out _ _ (by exact ⟨hHeld.1.below HXB.out gz, hHeld.2.below gz⟩) (fun hHeld => ?_)
  clear hK
  try simp only [Act.put, List.setIfInBounds_toArray, List.set_cons_zero, List.set_cons_succ]
  refine wpAnyH_take (i := 10) (oi := ⟨_, _, _, _, _, _⟩) (v := ?_) rfl (by kernel_rfl) (by kernel_rfl) (by kernel_rfl) (fun _ _ _ h => h) (Or.inl ⟨by rfl, ?_⟩) (by assumption) ?_
  rotate_left
  · intro w hSw; go_simp; try (with_reducible rfl)
  try simp only [Act.put, List.setIfInBounds_toArray, List.set_cons_zero, List.set_cons_succ]
  refine wpAnyH_take (i := 11) (oi := ⟨_, _, _, _, _, _⟩) (v := ?_) rfl (by kernel_rfl) (by kernel_rfl) (by kernel_rfl) (fun _ _ _ h => h) (Or.inl ⟨by rfl, ?_⟩) (by assumption) ?_
  rotate_left
  · intro w hSw; go_simp; try (with_reducible rfl)
  try simp only [Act.put, List.setIfInBounds_toArray, List.set_cons_zero, List.set_cons_succ]
  refine wpAnyH_done (by kernel_rfl) ?_ _
  clear E11 M11 hqc
  by_cases hoc : o2 = cl
  rotate_left
  · have HE := Lib.hid (show evid hs i = (0, 176) from by rw [HE3.out]; unfold evid3; rw [if_neg (by rw [HGG.out, HLF.out, HCK.out]; decide), if_pos (by rw [HGD.out, HCL.out]; exact hoc)])
    have hob : (o2 == cl) = false := by simp [hoc]
    rw [hob]
    go_wp2
    go_ret2
    exact ⟨by rw [HE.out]; rfl, hHeld.1.b⟩
  have HE := Lib.hid (show evid hs i = (o1, 0) from by rw [HE3.out]; unfold evid3; rw [if_neg (by rw [HGG.out, HLF.out, HCK.out]; decide), if_neg (by rw [HGD.out, HCL.out]; simp [hoc]), HGD.out])
  have hob : (o2 == cl) = true := by simp [hoc]
  rw [hob]
  have d1 := hHeld.2.b.cell (i := 1) rfl
  have d2 := hHeld.1.ci OK.out
  have d3 := (HAT.out _ hHeld.2).2.1
  clear hoc hob
  go_wp2
  go_ret2
  exact ⟨by rw [HE.out]; rfl, hHeld.1.b⟩
end Go.Proofs.YtmenchnjajpkmaaGreatDoor.Ev
end
