/- The walk of the program's Evidence. Conditions: a track as it is, an argument's evidence; the table is laid. The walk of the program's Track.Add. Conditions: a track as it is; the tables are laid. The two ids that begun names, reckoned: they are not the same. In plain Lean. -/
import Derived.Test.YtmenchnjajpkmaaGreatDoorPrvm
import Derived.Test.YtmenchnjajpkmaaGreatDoorPrvj
import Derived.Test.YtmenchnjajpkmaaGreatDoorPrve
import Derived.KernelRfl
section
namespace Go.Proofs.YtmenchnjajpkmaaGreatDoor.Ev
open Go Go.RowKit Mem Sha ShaW Mk Arr Reps Rr Wm Rm Rf Codec Wt WtIt Wr Mh Ops
open MkW (dcs)
set_option linter.unusedVariables false

theorem mt_one (a : Int) (b : Option Addr) (n c : Nat) : ∀ v ∈ [Value.int .u64 a, .slice b n c], v.oneCell' = true := by
  intro v hv
  rcases List.mem_cons.1 hv with rfl | hv
  · rfl
  · rw [List.mem_singleton.1 hv]; rfl
theorem run_field_root (h : Hd) (ok : h.Ok) (w : World) : (Instr.field 41 (.agg h.cells.toArray) 1).run Tryz.prog w = .ok (.agg (h.root.map byt).toArray) w := by
  have e : h.cells.toArray.extract 32 (32 + 32) = (h.root.map byt).toArray := by
    apply Array.ext'
    rw [Array.toList_extract]
    simp [Hd.cells, ok.1, ok.2.1, List.extract_eq_take_drop]
  have h1 : (isAgg 24).run Tryz.prog w = .ok true w := by kernel_rfl
  have h2 : (sizeOf 24).run Tryz.prog w = .ok 32 w := by kernel_rfl
  have e' := congrArg Array.toList e
  rw [Array.toList_extract, List.extract_eq_take_drop, show 32 + 32 - 32 = 32 by omega] at e'
  simp [Instr.field, run_underlying Tryz.underlying41, part, Sem.run_bind, h1, h2, Result.andThen, asAgg, e']
theorem trk_map {w : World} {t b : Nat} {hs : List Hd} (h : Tk.TrkIs w t b hs) : w.cell? ⟨t, 0, none⟩ = some (.map (some b)) := by
  obtain ⟨f, g, _, _, hb, _⟩ := h
  exact hb.cell (i := 0) rfl
theorem trk_is {w : World} {t b : Nat} {hs : List Hd} (h : Tk.TrkIs w t b hs) : Maps.MapIs Tryz.prog 24 w b (Tk.pairs hs) := by
  obtain ⟨f, g, _, _, _, hm, _⟩ := h
  exact hm
set_option maxHeartbeats 16000000 in
set_option maxRecDepth 100000 in
theorem evid_calls (t b : Nat) (w : World) (hs : List Hd) (TT : Trk hs) (i : In) (ok : i.Ok) (hx : Byt Any w i.vx i.tx) (hp : Arr 32 Any w i.vp (dcs i.ds)) (hq : Byt Any w i.vs i.sc) (hn : hs.length ≤ 4611686018427387904) (H : Tk.TrkIs w t b hs) (hT : TabB w 1) :
    Calls Tryz.prog 6 #[.pointer (some ⟨t, 0, none⟩), .agg (pgC i).toArray, .agg (opC i).toArray, .agg (i.ov.map byt).toArray, .int .u64 (i.dp : Int)] w fun e w' => e = .returned (.tuple #[.int .u64 ((evid hs i).1 : Int), .int .i64 (evid hs i).2]) ∧ Below w.heap.size w w' := by
  obtain ⟨X, hX⟩ : ∃ X : World → Prop, (fun w => Tk.TrkIs w t b hs) = X := ⟨_, rfl⟩
  have HXI := Lib.hid (show ∀ a, X a → Tk.TrkIs a t b hs from fun a h => by rw [← hX] at h; exact h)
  have HXB := Lib.hid (show ∀ a c, X a → Below a.heap.size a c → X c from fun a c h g => by rw [← hX] at h ⊢; exact h.below g)
  have HXD := Lib.hid (show ∀ a, X a → X a.drew from fun a h => by rw [← hX] at h ⊢; exact h.drew)
  have H0 := Lib.hid (show X w from by rw [← hX]; exact H)
  have HPL := Lib.hid (pg_len ok)
  have HOL := Lib.hid (op_len ok)
  have OK := Lib.hid ok
  have HX0 := Lib.hid hx
  have HP0 := Lib.hid hp
  have HQ0 := Lib.hid hq
  have HT0 := Lib.hid hT
  have HSX : Hid (∀ mv : Nat, ∀ v : Value, (Tryz.prog.info? 56).map (·.size) = some [Value.int .u64 (mv : Int), v].length) := Lib.hid (fun _ _ => by kernel_rfl)
  obtain ⟨⟨⟨mv, os⟩, me⟩, hg⟩ : ∃ g, gotMt i.tx = g := ⟨_, rfl⟩
  have GP := Lib.hid (fun w' h => ReadMainTx_calls Any w' i.vx i.tx h (by have := ok.tx; omega))
  rw [show got RDmt ((0 : Nat), ([] : List (Nat × List UInt8))) i.tx = gotMt i.tx from rfl, hg] at GP
  have HG := Lib.hid hg
  have HFI := Lib.hid (show Fits (mv, os) from by have := got_fits i.tx; rw [hg] at this; exact this)
  have HME := Lib.hid (show me = 0 ∨ me = 120 from by have := gotMt_or i.tx; rw [hg] at this; exact this)
  obtain ⟨pc, hpc⟩ : ∃ pc, pgC i = pc := ⟨_, rfl⟩
  obtain ⟨oc', hoc⟩ : ∃ oc, opC i = oc := ⟨_, rfl⟩
  have HPC := Lib.hid hpc
  have HOC := Lib.hid hoc
  rw [hpc, hoc]
  clear hX H ok hx hp hq hT hpc hoc hg
  go_enter Tryz.func6, Tryz.ntmps6
  go_upto_region 1 with (first
    | ((with_reducible refine wpList_box rfl _ _ rfl pc rfl (fun w1 k1 b1 z1 => ?_)); have K1 := Lib.hid k1; have B1 := Lib.hid b1; clear k1 b1)
    | ((with_reducible refine wpList_box rfl _ _ rfl oc' rfl (fun w2 k2 b2 z2 => ?_)); have K2 := Lib.hid k2; have B2 := Lib.hid b2; clear k2 b2)
    | ((with_reducible refine wpList_box rfl _ _ rfl (i.ov.map byt) rfl (fun w3 k3 b3 z3 => ?_)); have K3 := Lib.hid k3; have B3 := Lib.hid b3; clear k3 b3))
  have E3 := Lib.hid (show EV X 1 w w.heap.size w1.heap.size w2.heap.size i w3 from by
    have g12 := B1.out.trans (B2.out.mono (by omega))
    have g13 := g12.trans (B3.out.mono (by omega))
    exact ⟨HXB.out _ _ H0.out g13, by rw [HPC.out]; exact (K1.out.below B2.out).below B3.out, by rw [HOC.out]; exact K2.out.below B3.out, K3.out, HX0.out.below g13, HP0.out.below (by omega) g13, HQ0.out.below g13, HT0.out.below g13, g13⟩)
  clear K1 K2 K3 B1 B2 B3 H0 HX0 HP0 HQ0 HT0
  generalize w1.heap.size = go at *
  generalize w2.heap.size = gv at *
  go_wp2_with (first
    | (with_reducible refine wpList_load_mid rfl _ _ rfl w.heap.size 0 rfl (i.hd.map byt) _ E3.out.rp Tryz.underlying24 rfl (MkW.szD' OK.out.hd) ?_)
    | (with_reducible refine wpList_load_mid rfl _ _ rfl gv 0 rfl (i.ov.map byt) _ E3.out.rv Tryz.underlying24 rfl (MkW.szD' OK.out.ov) ?_))
  refine (Tk.depth_calls w3 t b hs TT hn i.hd i.ov OK.out.hd OK.out.ov (HXI.out _ E3.out.x)).mono ?_
  rintro e w4 ⟨rfl, g⟩
  have E4 := Lib.hid (E3.out.below HXB.out g)
  clear g E3
  obtain ⟨nn, hnn⟩ : ∃ nn, (depth hs i.hd i.ov).getD 0 = nn := ⟨_, rfl⟩
  obtain ⟨is, his⟩ : ∃ is, (depth hs i.hd i.ov).isSome = is := ⟨_, rfl⟩
  have HNN := Lib.hid hnn
  have HIS := Lib.hid his
  rw [hnn, his]
  clear hnn his
  rcases is with _ | _
  · have HE := Lib.hid (show evid hs i = (0, 171) from if_pos HIS.out)
    go_wp2
    go_ret2
    exact ⟨by rw [HE.out]; rfl, E4.out.b⟩
  by_cases hd : nn < i.dp
  · have HE := Lib.hid (show evid hs i = (0, 173) from by unfold evid; rw [if_neg (by rw [HIS.out]; decide), if_pos (by rw [HNN.out]; exact hd)])
    have hdI : (nn : Int) < (i.dp : Int) := by omega
    clear hd
    go_wp2
    go_ret2
    exact ⟨by rw [HE.out]; rfl, E4.out.b⟩
  have HE2 := Lib.hid (show evid hs i = evid2 hs i from by unfold evid; rw [if_neg (by rw [HIS.out]; decide), if_neg (by rw [HNN.out]; exact hd)])
  have hdI : ¬ (nn : Int) < (i.dp : Int) := by omega
  have c32 := E4.out.c32 OK.out
  clear hd
  go_wp2_with fail
  refine (GP.out w4 E4.out.bx).mono ?_
  rintro e w5 ⟨cx, rfl, g1, g2⟩
  have E5 := Lib.hid (E4.out.below HXB.out g2)
  obtain ⟨c1, c2, rfl, ⟨hmv, rfl⟩, vo, rfl, hsl⟩ := g1
  have HMV := Lib.hid hmv
  have hsl2 := hsl.mono rep_Mo (E := Any) (fun _ _ _ => trivial)
  obtain ⟨oa, oc, rfl, _⟩ := id hsl2.form
  have MS := Lib.hid hsl2
  simp only [List.singleton_append]
  clear c32 hdI E4 g2 hsl hsl2 hmv
  have HSX := Lib.hid (HSX.out mv (.slice oa os.length oc))
  go_upto_region 7 with (first
    | ((with_reducible refine wpList_alloc rfl _ rfl _ (zeroMt _) (fun wd kd cd zd => ?_)); have KD := Lib.hid kd; have CD := Lib.hid cd; clear kd cd)
    | ((with_reducible refine wpList_put rfl _ _ _ rfl w5.heap.size [.int .u64 (mv : Int), .slice oa os.length oc] _ rfl rfl KD.out HSX.out rfl (mt_one _ _ _ _) (fun w6 ke fe ze => ?_)); have KU := Lib.hid ke; have CE := Lib.hid (CD.out.trans (fe.below CD.out.size (fun k (hk : k = _) => by omega))); clear ke fe))
  have E6 := Lib.hid (E5.out.below HXB.out CE.out)
  have M6 := Lib.hid (show MtB w6 w5.heap.size mv (.slice oa os.length oc) os from ⟨KU.out, MS.out.below rep_Mo CE.out⟩)
  clear KD CD CE KU MS E5
  generalize w5.heap.size = gx at *
  obtain ⟨d, hid⟩ : ∃ d, mtId (mv, os) = d := ⟨_, rfl⟩
  have HID := Lib.hid hid
  have HDL := Lib.hid (show d.length = 32 from by rw [← hid]; exact mtId_length _)
  clear hid
  obtain rfl | rfl := HME.out.symm
  · have HE := Lib.hid (show evid hs i = (0, 174) from by rw [HE2.out]; unfold evid2; rw [if_pos (by rw [HG.out])])
    refine wp_region_held_drew (S := (fun w' => EV X 1 w w.heap.size go gv i w' ∧ MtB w' gx mv (.slice oa os.length oc) os)) (by kernel_rfl) ⟨EV.drew HXD.out E6.out, M6.out.drew⟩ (fun hHeld => ?_)
    refine wpAnyH_take (i := 0) (oi := ⟨_, _, _, _, _, _⟩) (v := ?_) rfl (by kernel_rfl) (by kernel_rfl) (by kernel_rfl) (fun _ _ _ h => h) (Or.inl ⟨by rfl, ?_⟩) (by assumption) ?_
    rotate_left
    · intro w hSw; go_simp; try (with_reducible rfl)
    try simp only [Act.put, List.setIfInBounds_toArray, List.set_cons_zero, List.set_cons_succ]
    refine wpAnyH_take (i := 1) (oi := ⟨_, _, _, _, _, _⟩) (v := ?_) rfl (by kernel_rfl) (by kernel_rfl) (by kernel_rfl) (fun _ _ _ h => h) (Or.inl ⟨by rfl, ?_⟩) (by assumption) ?_
    rotate_left
    · intro w hSw; go_simp; try (with_reducible rfl)
    try simp only [Act.put, List.setIfInBounds_toArray, List.set_cons_zero, List.set_cons_succ]
    refine wpAnyH_take (i := 2) (oi := ⟨_, _, _, _, _, _⟩) (v := ?_) rfl (by kernel_rfl) (by kernel_rfl) (by kernel_rfl) (fun _ _ _ h => h) (Or.inl ⟨by rfl, ?_⟩) (by assumption) ?_
    rotate_left
    · intro w hSw; go_simp; try (with_reducible rfl)
    try simp only [Act.put, List.setIfInBounds_toArray, List.set_cons_zero, List.set_cons_succ]
    refine wpAnyH_take (i := 3) (oi := ⟨_, _, _, _, _, _⟩) (v := undef) rfl (by kernel_rfl) (by kernel_rfl) (by kernel_rfl) (fun _ _ _ h => h) (Or.inr ⟨by rfl, rfl⟩) (by assumption) ?_
    try simp only [Act.put, List.setIfInBounds_toArray, List.set_cons_zero, List.set_cons_succ]
    refine wpAnyH_take (i := 4) (oi := ⟨_, _, _, _, _, _⟩) (v := undef) rfl (by kernel_rfl) (by kernel_rfl) (by kernel_rfl) (fun _ _ _ h => h) (Or.inr ⟨by rfl, rfl⟩) (by assumption) ?_
    try simp only [Act.put, List.setIfInBounds_toArray, List.set_cons_zero, List.set_cons_succ]
    refine wpAnyH_take (i := 5) (oi := ⟨_, _, _, _, _, _⟩) (v := undef) rfl (by kernel_rfl) (by kernel_rfl) (by kernel_rfl) (fun _ _ _ h => h) (Or.inr ⟨by rfl, rfl⟩) (by assumption) ?_
    try simp only [Act.put, List.setIfInBounds_toArray, List.set_cons_zero, List.set_cons_succ]
    refine wpAnyH_take (i := 6) (oi := ⟨_, _, _, _, _, _⟩) (v := undef) rfl (by kernel_rfl) (by kernel_rfl) (by kernel_rfl) (fun _ _ _ h => h) (Or.inr ⟨by rfl, rfl⟩) (by assumption) ?_
    try simp only [Act.put, List.setIfInBounds_toArray, List.set_cons_zero, List.set_cons_succ]
    refine wpAnyH_take (i := 7) (oi := ⟨_, _, _, _, _, _⟩) (v := undef) rfl (by kernel_rfl) (by kernel_rfl) (by kernel_rfl) (fun _ _ _ h => h) (Or.inr ⟨by rfl, rfl⟩) (by assumption) ?_
    try simp only [Act.put, List.setIfInBounds_toArray, List.set_cons_zero, List.set_cons_succ]
    refine wpAnyH_take (i := 8) (oi := ⟨_, _, _, _, _, _⟩) (v := ?_) rfl (by kernel_rfl) (by kernel_rfl) (by kernel_rfl) (fun _ _ _ h => h) (Or.inl ⟨by rfl, ?_⟩) (by assumption) ?_
    rotate_left
    · intro w hSw; go_simp; try (with_reducible rfl)
    try simp only [Act.put, List.setIfInBounds_toArray, List.set_cons_zero, List.set_cons_succ]
    refine wpAnyH_take (i := 9) (oi := ⟨_, _, _, _, _, _⟩) (v := ?_) rfl (by kernel_rfl) (by kernel_rfl) (by kernel_rfl) (fun _ _ _ h => h) (Or.inl ⟨by rfl, ?_⟩) (by assumption) ?_
    rotate_left
    · intro w hSw; go_simp; try (with_reducible rfl)
    try simp only [Act.put, List.setIfInBounds_toArray, List.set_cons_zero, List.set_cons_succ]
    refine wpAnyH_take (i := 10) (oi := ⟨_, _, _, _, _, _⟩) (v := undef) rfl (by kernel_rfl) (by kernel_rfl) (by kernel_rfl) (fun _ _ _ h => h) (Or.inr ⟨by rfl, rfl⟩) (by assumption) ?_
    try simp only [Act.put, List.setIfInBounds_toArray, List.set_cons_zero, List.set_cons_succ]
    refine wpAnyH_take (i := 11) (oi := ⟨_, _, _, _, _, _⟩) (v := undef) rfl (by kernel_rfl) (by kernel_rfl) (by kernel_rfl) (fun _ _ _ h => h) (Or.inr ⟨by rfl, rfl⟩) (by assumption) ?_
    try simp only [Act.put, List.setIfInBounds_toArray, List.set_cons_zero, List.set_cons_succ]
    refine wpAnyH_take (i := 12) (oi := ⟨_, _, _, _, _, _⟩) (v := undef) rfl (by kernel_rfl) (by kernel_rfl) (by kernel_rfl) (fun _ _ _ h => h) (Or.inr ⟨by rfl, rfl⟩) (by assumption) ?_
    try simp only [Act.put, List.setIfInBounds_toArray, List.set_cons_zero, List.set_cons_succ]
    refine wpAnyH_take (i := 13) (oi := ⟨_, _, _, _, _, _⟩) (v := undef) rfl (by kernel_rfl) (by kernel_rfl) (by kernel_rfl) (fun _ _ _ h => h) (Or.inr ⟨by rfl, rfl⟩) (by assumption) ?_
    try simp only [Act.put, List.setIfInBounds_toArray, List.set_cons_zero, List.set_cons_succ]
    refine wpAnyH_take (i := 14) (oi := ⟨_, _, _, _, _, _⟩) (v := undef) rfl (by kernel_rfl) (by kernel_rfl) (by kernel_rfl) (fun _ _ _ h => h) (Or.inr ⟨by rfl, rfl⟩) (by assumption) ?_
    try simp only [Act.put, List.setIfInBounds_toArray, List.set_cons_zero, List.set_cons_succ]
    refine wpAnyH_take (i := 15) (oi := ⟨_, _, _, _, _, _⟩) (v := undef) rfl (by kernel_rfl) (by kernel_rfl) (by kernel_rfl) (fun _ _ _ h => h) (Or.inr ⟨by rfl, rfl⟩) (by assumption) ?_
    try simp only [Act.put, List.setIfInBounds_toArray, List.set_cons_zero, List.set_cons_succ]
    refine wpAnyH_take (i := 16) (oi := ⟨_, _, _, _, _, _⟩) (v := undef) rfl (by kernel_rfl) (by kernel_rfl) (by kernel_rfl) (fun _ _ _ h => h) (Or.inr ⟨by rfl, rfl⟩) (by assumption) ?_
    try simp only [Act.put, List.setIfInBounds_toArray, List.set_cons_zero, List.set_cons_succ]
    refine wpAnyH_take (i := 17) (oi := ⟨_, _, _, _, _, _⟩) (v := ?_) rfl (by kernel_rfl) (by kernel_rfl) (by kernel_rfl) (fun _ _ _ h => h) (Or.inl ⟨by rfl, ?_⟩) (by assumption) ?_
    rotate_left
    · intro w hSw; go_simp; try (with_reducible rfl)
    try simp only [Act.put, List.setIfInBounds_toArray, List.set_cons_zero, List.set_cons_succ]
    refine wpAnyH_take (i := 18) (oi := ⟨_, _, _, _, _, _⟩) (v := ?_) rfl (by kernel_rfl) (by kernel_rfl) (by kernel_rfl) (fun _ _ _ h => h) (Or.inl ⟨by rfl, ?_⟩) (by assumption) ?_
    rotate_left
    · intro w hSw; go_simp; try (with_reducible rfl)
    try simp only [Act.put, List.setIfInBounds_toArray, List.set_cons_zero, List.set_cons_succ]
    refine wpAnyH_done (by kernel_rfl) ?_ _
    go_wp2
    go_ret2
    exact ⟨by rw [HE.out]; rfl, hHeld.1.b⟩
  by_cases hdd : d = i.ot
  rotate_left
  · have HE := Lib.hid (show evid hs i = (0, 174) from by rw [HE2.out]; unfold evid2; rw [if_neg (by rw [HG.out]; simp), if_pos (by rw [HG.out, HID.out]; exact hdd)])
    have hqe : ∀ w, (Op.equalIn 10000 24 (.agg (d.map byt).toArray) (.agg (i.ot.map byt).toArray)).run Tryz.prog w = .ok false w := fun w => by rw [run_equal_u8 Tryz.underlying24 (i := _) rfl (by kernel_rfl) Tryz.underlying5 w d i.ot HDL.out OK.out.ot]; simp [hdd]
    clear hdd
    refine wp_region_held_drew (S := (fun w' => EV X 1 w w.heap.size go gv i w' ∧ MtB w' gx mv (.slice oa os.length oc) os)) (by kernel_rfl) ⟨EV.drew HXD.out E6.out, M6.out.drew⟩ (fun hHeld => ?_)
    refine wpAnyH_take (i := 0) (oi := ⟨_, _, _, _, _, _⟩) (v := ?_) rfl (by kernel_rfl) (by kernel_rfl) (by kernel_rfl) (fun _ _ _ h => h) (Or.inl ⟨by rfl, ?_⟩) (by assumption) ?_
    rotate_left
    · intro w hSw; go_simp; try (with_reducible rfl)
    try simp only [Act.put, List.setIfInBounds_toArray, List.set_cons_zero, List.set_cons_succ]
    refine wpAnyH_take (i := 1) (oi := ⟨_, _, _, _, _, _⟩) (v := ?_) rfl (by kernel_rfl) (by kernel_rfl) (by kernel_rfl) (fun _ _ _ h => h) (Or.inl ⟨by rfl, ?_⟩) (by assumption) ?_
    rotate_left
    · intro w hSw; go_simp; try (with_reducible rfl)
    try simp only [Act.put, List.setIfInBounds_toArray, List.set_cons_zero, List.set_cons_succ]
    refine wpAnyH_take (i := 2) (oi := ⟨_, _, _, _, _, _⟩) (v := ?_) rfl (by kernel_rfl) (by kernel_rfl) (by kernel_rfl) (fun _ _ _ h => h) (Or.inl ⟨by rfl, ?_⟩) (by assumption) ?_
    rotate_left
    · intro w hSw; go_simp; try (with_reducible rfl)
    try simp only [Act.put, List.setIfInBounds_toArray, List.set_cons_zero, List.set_cons_succ]
    refine wpAnyH_take (i := 3) (oi := ⟨_, _, _, _, _, _⟩) rfl (by kernel_rfl) (by kernel_rfl) (by kernel_rfl) (fun _ _ _ h => h) (yieldsIf_load_mid (by rfl) _ _ rfl gx 0 rfl [.int .u64 (mv : Int), .slice oa os.length oc] _ (fun _ h => Ops.blk_range h.2.b) Tryz.underlying56 rfl HSX.out) (by assumption) ?_
    try simp only [Act.put, List.setIfInBounds_toArray, List.set_cons_zero, List.set_cons_succ]
    refine wpAnyH_take (i := 5) (oi := ⟨_, _, _, _, _, _⟩) (v := ?_) rfl (by kernel_rfl) (by kernel_rfl) (by kernel_rfl) (fun _ _ _ h => h) (Or.inl ⟨by rfl, ?_⟩) (by assumption) ?_
    rotate_left
    · intro w hSw; go_simp; try (with_reducible rfl)
    try simp only [Act.put, List.setIfInBounds_toArray, List.set_cons_zero, List.set_cons_succ]
    refine wpAnyH_take (i := 6) (oi := ⟨_, _, _, _, _, _⟩) rfl (by kernel_rfl) (by kernel_rfl) (by kernel_rfl) (fun _ _ _ h => h) (yieldsIf_load_mid (by rfl) _ _ rfl go 0 rfl (i.ot.map byt) _ (fun _ h => h.1.ro) Tryz.underlying24 rfl (MkW.szD' OK.out.ot)) (by assumption) ?_
    try simp only [Act.put, List.setIfInBounds_toArray, List.set_cons_zero, List.set_cons_succ]
    refine wpAnyH_ready (rs := [4]) (by kernel_rfl) (by simp) ?_
    refine AllReadyH.cons (o := ⟨_, _, _, _, _, _⟩) rfl (fun K hK => ?_) AllReadyH.nil
    go_simp
    refine (mtid_calls _ [.int .u64 (mv : Int), .slice oa os.length oc] (mv, os) (hHeld.2.rep HMV.out) HFI.out hHeld.1.t).mono ?_
    rintro e wz ⟨rfl, gz⟩
    rw [HID.out]
    refine hK.out _ _ (by exact ⟨hHeld.1.below HXB.out gz, hHeld.2.below gz⟩) (fun hHeld => ?_)
    clear hK
    try simp only [Act.put, List.setIfInBounds_toArray, List.set_cons_zero, List.set_cons_succ]
    refine wpAnyH_take (i := 7) (oi := ⟨_, _, _, _, _, _⟩) (v := ?_) rfl (by kernel_rfl) (by kernel_rfl) (by kernel_rfl) (fun _ _ _ h => h) (Or.inl ⟨by rfl, ?_⟩) (by assumption) ?_
    rotate_left
    · intro w hSw; go_simp; try (with_reducible rfl)
    try simp only [Act.put, List.setIfInBounds_toArray, List.set_cons_zero, List.set_cons_succ]
    refine wpAnyH_take (i := 8) (oi := ⟨_, _, _, _, _, _⟩) (v := ?_) rfl (by kernel_rfl) (by kernel_rfl) (by kernel_rfl) (fun _ _ _ h => h) (Or.inl ⟨by rfl, ?_⟩) (by assumption) ?_
    rotate_left
    · intro w hSw; go_simp; try (with_reducible rfl)
    try simp only [Act.put, List.setIfInBounds_toArray, List.set_cons_zero, List.set_cons_succ]
    refine wpAnyH_take (i := 9) (oi := ⟨_, _, _, _, _, _⟩) (v := ?_) rfl (by kernel_rfl) (by kernel_rfl) (by kernel_rfl) (fun _ _ _ h => h) (Or.inl ⟨by rfl, ?_⟩) (by assumption) ?_
    rotate_left
    · intro w hSw; go_simp; try (with_reducible rfl)
    try simp only [Act.put, List.setIfInBounds_toArray, List.set_cons_zero, List.set_cons_succ]
    refine wpAnyH_take (i := 10) (oi := ⟨_, _, _, _, _, _⟩) (v := undef) rfl (by kernel_rfl) (by kernel_rfl) (by kernel_rfl) (fun _ _ _ h => h) (Or.inr ⟨by rfl, rfl⟩) (by assumption) ?_
    try simp only [Act.put, List.setIfInBounds_toArray, List.set_cons_zero, List.set_cons_succ]
    refine wpAnyH_take (i := 11) (oi := ⟨_, _, _, _, _, _⟩) (v := undef) rfl (by kernel_rfl) (by kernel_rfl) (by kernel_rfl) (fun _ _ _ h => h) (Or.inr ⟨by rfl, rfl⟩) (by assumption) ?_
    try simp only [Act.put, List.setIfInBounds_toArray, List.set_cons_zero, List.set_cons_succ]
    refine wpAnyH_take (i := 12) (oi := ⟨_, _, _, _, _, _⟩) (v := undef) rfl (by kernel_rfl) (by kernel_rfl) (by kernel_rfl) (fun _ _ _ h => h) (Or.inr ⟨by rfl, rfl⟩) (by assumption) ?_
    try simp only [Act.put, List.setIfInBounds_toArray, List.set_cons_zero, List.set_cons_succ]
    refine wpAnyH_take (i := 13) (oi := ⟨_, _, _, _, _, _⟩) (v := undef) rfl (by kernel_rfl) (by kernel_rfl) (by kernel_rfl) (fun _ _ _ h => h) (Or.inr ⟨by rfl, rfl⟩) (by assumption) ?_
    try simp only [Act.put, List.setIfInBounds_toArray, List.set_cons_zero, List.set_cons_succ]
    refine wpAnyH_take (i := 14) (oi := ⟨_, _, _, _, _, _⟩) (v := undef) rfl (by kernel_rfl) (by kernel_rfl) (by kernel_rfl) (fun _ _ _ h => h) (Or.inr ⟨by rfl, rfl⟩) (by assumption) ?_
    try simp only [Act.put, List.setIfInBounds_toArray, List.set_cons_zero, List.set_cons_succ]
    refine wpAnyH_take (i := 15) (oi := ⟨_, _, _, _, _, _⟩) (v := undef) rfl (by kernel_rfl) (by kernel_rfl) (by kernel_rfl) (fun _ _ _ h => h) (Or.inr ⟨by rfl, rfl⟩) (by assumption) ?_
    try simp only [Act.put, List.setIfInBounds_toArray, List.set_cons_zero, List.set_cons_succ]
    refine wpAnyH_take (i := 16) (oi := ⟨_, _, _, _, _, _⟩) (v := undef) rfl (by kernel_rfl) (by kernel_rfl) (by kernel_rfl) (fun _ _ _ h => h) (Or.inr ⟨by rfl, rfl⟩) (by assumption) ?_
    try simp only [Act.put, List.setIfInBounds_toArray, List.set_cons_zero, List.set_cons_succ]
    refine wpAnyH_take (i := 17) (oi := ⟨_, _, _, _, _, _⟩) (v := ?_) rfl (by kernel_rfl) (by kernel_rfl) (by kernel_rfl) (fun _ _ _ h => h) (Or.inl ⟨by rfl, ?_⟩) (by assumption) ?_
    rotate_left
    · intro w hSw; go_simp; try (with_reducible rfl)
    try simp only [Act.put, List.setIfInBounds_toArray, List.set_cons_zero, List.set_cons_succ]
    refine wpAnyH_take (i := 18) (oi := ⟨_, _, _, _, _, _⟩) (v := ?_) rfl (by kernel_rfl) (by kernel_rfl) (by kernel_rfl) (fun _ _ _ h => h) (Or.inl ⟨by rfl, ?_⟩) (by assumption) ?_
    rotate_left
    · intro w hSw; go_simp; try (with_reducible rfl)
    try simp only [Act.put, List.setIfInBounds_toArray, List.set_cons_zero, List.set_cons_succ]
    refine wpAnyH_done (by kernel_rfl) ?_ _
    go_wp2
    go_ret2
    exact ⟨by rw [HE.out]; rfl, hHeld.1.b⟩
  have hqe : ∀ w, (Op.equalIn 10000 24 (.agg (d.map byt).toArray) (.agg (i.ot.map byt).toArray)).run Tryz.prog w = .ok true w := fun w => by rw [run_equal_u8 Tryz.underlying24 (i := _) rfl (by kernel_rfl) Tryz.underlying5 w d i.ot HDL.out OK.out.ot]; simp [hdd]
  have HDD := Lib.hid hdd
  have hix := OK.out.ix
  have hcv : IntKind.i64.wrap (i.ix : Int) = (i.ix : Int) := IntWalk.i64_in _ (by omega)
  have hcu : IntKind.u64.wrap (i.ix : Int) = (i.ix : Int) := by rw [IntKind.wrap_u64]; omega
  have hln : os.length < 18446744073709551616 := by obtain ⟨_, _, e, h1, h2, _⟩ := M6.out.s.form; unfold maxLen at h2; omega
  have hcl : IntKind.u64.wrap (os.length : Int) = (os.length : Int) := by rw [IntKind.wrap_u64]; omega
  clear hdd hln
  by_cases hlt : os.length ≤ i.ix
  · have HE := Lib.hid (show evid hs i = (0, 174) from by rw [HE2.out]; unfold evid2; rw [if_neg (by rw [HG.out]; simp), if_neg (by rw [HG.out, HID.out, HDD.out]; simp), if_pos (by rw [HG.out]; exact hlt)])
    have hge : (os.length : Int) ≤ (i.ix : Int) := by omega
    clear hlt
    refine wp_region_held_drew (S := (fun w' => EV X 1 w w.heap.size go gv i w' ∧ MtB w' gx mv (.slice oa os.length oc) os)) (by kernel_rfl) ⟨EV.drew HXD.out E6.out, M6.out.drew⟩ (fun hHeld => ?_)
    refine wpAnyH_take (i := 0) (oi := ⟨_, _, _, _, _, _⟩) (v := ?_) rfl (by kernel_rfl) (by kernel_rfl) (by kernel_rfl) (fun _ _ _ h => h) (Or.inl ⟨by rfl, ?_⟩) (by assumption) ?_
    rotate_left
    · intro w hSw; go_simp; try (with_reducible rfl)
    try simp only [Act.put, List.setIfInBounds_toArray, List.set_cons_zero, List.set_cons_succ]
    refine wpAnyH_take (i := 1) (oi := ⟨_, _, _, _, _, _⟩) (v := ?_) rfl (by kernel_rfl) (by kernel_rfl) (by kernel_rfl) (fun _ _ _ h => h) (Or.inl ⟨by rfl, ?_⟩) (by assumption) ?_
    rotate_left
    · intro w hSw; go_simp; try (with_reducible rfl)
    try simp only [Act.put, List.setIfInBounds_toArray, List.set_cons_zero, List.set_cons_succ]
    refine wpAnyH_take (i := 2) (oi := ⟨_, _, _, _, _, _⟩) (v := ?_) rfl (by kernel_rfl) (by kernel_rfl) (by kernel_rfl) (fun _ _ _ h => h) (Or.inl ⟨by rfl, ?_⟩) (by assumption) ?_
    rotate_left
    · intro w hSw; go_simp; try (with_reducible rfl)
    try simp only [Act.put, List.setIfInBounds_toArray, List.set_cons_zero, List.set_cons_succ]
    refine wpAnyH_take (i := 3) (oi := ⟨_, _, _, _, _, _⟩) rfl (by kernel_rfl) (by kernel_rfl) (by kernel_rfl) (fun _ _ _ h => h) (yieldsIf_load_mid (by rfl) _ _ rfl gx 0 rfl [.int .u64 (mv : Int), .slice oa os.length oc] _ (fun _ h => Ops.blk_range h.2.b) Tryz.underlying56 rfl HSX.out) (by assumption) ?_
    try simp only [Act.put, List.setIfInBounds_toArray, List.set_cons_zero, List.set_cons_succ]
    refine wpAnyH_take (i := 5) (oi := ⟨_, _, _, _, _, _⟩) (v := ?_) rfl (by kernel_rfl) (by kernel_rfl) (by kernel_rfl) (fun _ _ _ h => h) (Or.inl ⟨by rfl, ?_⟩) (by assumption) ?_
    rotate_left
    · intro w hSw; go_simp; try (with_reducible rfl)
    try simp only [Act.put, List.setIfInBounds_toArray, List.set_cons_zero, List.set_cons_succ]
    refine wpAnyH_take (i := 6) (oi := ⟨_, _, _, _, _, _⟩) rfl (by kernel_rfl) (by kernel_rfl) (by kernel_rfl) (fun _ _ _ h => h) (yieldsIf_load_mid (by rfl) _ _ rfl go 0 rfl (i.ot.map byt) _ (fun _ h => h.1.ro) Tryz.underlying24 rfl (MkW.szD' OK.out.ot)) (by assumption) ?_
    try simp only [Act.put, List.setIfInBounds_toArray, List.set_cons_zero, List.set_cons_succ]
    refine wpAnyH_ready (rs := [4]) (by kernel_rfl) (by simp) ?_
    refine AllReadyH.cons (o := ⟨_, _, _, _, _, _⟩) rfl (fun K hK => ?_) AllReadyH.nil
    go_simp
    refine (mtid_calls _ [.int .u64 (mv : Int), .slice oa os.length oc] (mv, os) (hHeld.2.rep HMV.out) HFI.out hHeld.1.t).mono ?_
    rintro e wz ⟨rfl, gz⟩
    rw [HID.out]
    refine hK.out _ _ (by exact ⟨hHeld.1.below HXB.out gz, hHeld.2.below gz⟩) (fun hHeld => ?_)
    clear hK
    try simp only [Act.put, List.setIfInBounds_toArray, List.set_cons_zero, List.set_cons_succ]
    refine wpAnyH_take (i := 7) (oi := ⟨_, _, _, _, _, _⟩) (v := ?_) rfl (by kernel_rfl) (by kernel_rfl) (by kernel_rfl) (fun _ _ _ h => h) (Or.inl ⟨by rfl, ?_⟩) (by assumption) ?_
    rotate_left
    · intro w hSw; go_simp; try (with_reducible rfl)
    try simp only [Act.put, List.setIfInBounds_toArray, List.set_cons_zero, List.set_cons_succ]
    refine wpAnyH_take (i := 8) (oi := ⟨_, _, _, _, _, _⟩) (v := ?_) rfl (by kernel_rfl) (by kernel_rfl) (by kernel_rfl) (fun _ _ _ h => h) (Or.inl ⟨by rfl, ?_⟩) (by assumption) ?_
    rotate_left
    · intro w hSw; go_simp; try (with_reducible rfl)
    try simp only [Act.put, List.setIfInBounds_toArray, List.set_cons_zero, List.set_cons_succ]
    refine wpAnyH_take (i := 9) (oi := ⟨_, _, _, _, _, _⟩) (v := ?_) rfl (by kernel_rfl) (by kernel_rfl) (by kernel_rfl) (fun _ _ _ h => h) (Or.inl ⟨by rfl, ?_⟩) (by assumption) ?_
    rotate_left
    · intro w hSw; go_simp; try (with_reducible rfl)
    try simp only [Act.put, List.setIfInBounds_toArray, List.set_cons_zero, List.set_cons_succ]
    refine wpAnyH_take (i := 10) (oi := ⟨_, _, _, _, _, _⟩) (v := ?_) rfl (by kernel_rfl) (by kernel_rfl) (by kernel_rfl) (fun _ _ _ h => h) (Or.inl ⟨by rfl, ?_⟩) (by assumption) ?_
    rotate_left
    · intro w hSw; go_simp; try (with_reducible rfl)
    try simp only [Act.put, List.setIfInBounds_toArray, List.set_cons_zero, List.set_cons_succ]
    refine wpAnyH_take (i := 11) (oi := ⟨_, _, _, _, _, _⟩) (v := .int .u32 (i.ix : Int)) rfl (by kernel_rfl) (by kernel_rfl) (by kernel_rfl) (fun _ _ _ h => h) (Or.inl ⟨by rfl, fun w hSw => (by have c := hSw.1.ci OK.out; go_simp; try (with_reducible rfl))⟩) (by assumption) ?_
    try simp only [Act.put, List.setIfInBounds_toArray, List.set_cons_zero, List.set_cons_succ]
    refine wpAnyH_take (i := 12) (oi := ⟨_, _, _, _, _, _⟩) (v := ?_) rfl (by kernel_rfl) (by kernel_rfl) (by kernel_rfl) (fun _ _ _ h => h) (Or.inl ⟨by rfl, ?_⟩) (by assumption) ?_
    rotate_left
    · intro w hSw; go_simp; try (with_reducible rfl)
    try simp only [Act.put, List.setIfInBounds_toArray, List.set_cons_zero, List.set_cons_succ]
    refine wpAnyH_take (i := 13) (oi := ⟨_, _, _, _, _, _⟩) (v := ?_) rfl (by kernel_rfl) (by kernel_rfl) (by kernel_rfl) (fun _ _ _ h => h) (Or.inl ⟨by rfl, ?_⟩) (by assumption) ?_
    rotate_left
    · intro w hSw; go_simp; try (with_reducible rfl)
    try simp only [Act.put, List.setIfInBounds_toArray, List.set_cons_zero, List.set_cons_succ]
    refine wpAnyH_take (i := 14) (oi := ⟨_, _, _, _, _, _⟩) (v := (.slice oa os.length oc)) rfl (by kernel_rfl) (by kernel_rfl) (by kernel_rfl) (fun _ _ _ h => h) (Or.inl ⟨by rfl, fun w hSw => (by have c := hSw.2.b.cell (i := 1) rfl; go_simp; try (with_reducible rfl))⟩) (by assumption) ?_
    try simp only [Act.put, List.setIfInBounds_toArray, List.set_cons_zero, List.set_cons_succ]
    refine wpAnyH_take (i := 15) (oi := ⟨_, _, _, _, _, _⟩) (v := ?_) rfl (by kernel_rfl) (by kernel_rfl) (by kernel_rfl) (fun _ _ _ h => h) (Or.inl ⟨by rfl, ?_⟩) (by assumption) ?_
    rotate_left
    · intro w hSw; go_simp; try (with_reducible rfl)
    try simp only [Act.put, List.setIfInBounds_toArray, List.set_cons_zero, List.set_cons_succ]
    refine wpAnyH_take (i := 16) (oi := ⟨_, _, _, _, _, _⟩) (v := ?_) rfl (by kernel_rfl) (by kernel_rfl) (by kernel_rfl) (fun _ _ _ h => h) (Or.inl ⟨by rfl, ?_⟩) (by assumption) ?_
    rotate_left
    · intro w hSw; go_simp; try (with_reducible rfl)
    try simp only [Act.put, List.setIfInBounds_toArray, List.set_cons_zero, List.set_cons_succ]
    refine wpAnyH_take (i := 17) (oi := ⟨_, _, _, _, _, _⟩) (v := ?_) rfl (by kernel_rfl) (by kernel_rfl) (by kernel_rfl) (fun _ _ _ h => h) (Or.inl ⟨by rfl, ?_⟩) (by assumption) ?_
    rotate_left
    · intro w hSw; go_simp; try (with_reducible rfl)
    try simp only [Act.put, List.setIfInBounds_toArray, List.set_cons_zero, List.set_cons_succ]
    refine wpAnyH_take (i := 18) (oi := ⟨_, _, _, _, _, _⟩) (v := ?_) rfl (by kernel_rfl) (by kernel_rfl) (by kernel_rfl) (fun _ _ _ h => h) (Or.inl ⟨by rfl, ?_⟩) (by assumption) ?_
    rotate_left
    · intro w hSw; go_simp; try (with_reducible rfl)
    try simp only [Act.put, List.setIfInBounds_toArray, List.set_cons_zero, List.set_cons_succ]
    refine wpAnyH_done (by kernel_rfl) ?_ _
    go_wp2
    go_ret2
    exact ⟨by rw [HE.out]; rfl, hHeld.1.b⟩
  have HE3 := Lib.hid (show evid hs i = evid3 hs i from by rw [HE2.out]; unfold evid2; rw [if_neg (by rw [HG.out]; simp), if_neg (by rw [HG.out, HID.out, HDD.out]; simp), if_neg (by rw [HG.out]; exact hlt)])
  have hge : ¬ (os.length : Int) ≤ (i.ix : Int) := by omega
  have HLT := Lib.hid (show i.ix < os.length from by omega)
  clear hlt
  refine wp_region_held_drew (S := (fun w' => EV X 1 w w.heap.size go gv i w' ∧ MtB w' gx mv (.slice oa os.length oc) os)) (by kernel_rfl) ⟨EV.drew HXD.out E6.out, M6.out.drew⟩ (fun hHeld => ?_)
  refine wpAnyH_take (i := 0) (oi := ⟨_, _, _, _, _, _⟩) (v := ?_) rfl (by kernel_rfl) (by kernel_rfl) (by kernel_rfl) (fun _ _ _ h => h) (Or.inl ⟨by rfl, ?_⟩) (by assumption) ?_
  rotate_left
  · intro w hSw; go_simp; try (with_reducible rfl)
  try simp only [Act.put, List.setIfInBounds_toArray, List.set_cons_zero, List.set_cons_succ]
  refine wpAnyH_take (i := 1) (oi := ⟨_, _, _, _, _, _⟩) (v := ?_) rfl (by kernel_rfl) (by kernel_rfl) (by kernel_rfl) (fun _ _ _ h => h) (Or.inl ⟨by rfl, ?_⟩) (by assumption) ?_
  rotate_left
  · intro w hSw; go_simp; try (with_reducible rfl)
  try simp only [Act.put, List.setIfInBounds_toArray, List.set_cons_zero, List.set_cons_succ]
  refine wpAnyH_take (i := 2) (oi := ⟨_, _, _, _, _, _⟩) (v := ?_) rfl (by kernel_rfl) (by kernel_rfl) (by kernel_rfl) (fun _ _ _ h => h) (Or.inl ⟨by rfl, ?_⟩) (by assumption) ?_
  rotate_left
  · intro w hSw; go_simp; try (with_reducible rfl)
  try simp only [Act.put, List.setIfInBounds_toArray, List.set_cons_zero, List.set_cons_succ]
  refine wpAnyH_take (i := 3) (oi := ⟨_, _, _, _, _, _⟩) rfl (by kernel_rfl) (by kernel_rfl) (by kernel_rfl) (fun _ _ _ h => h) (yieldsIf_load_mid (by rfl) _ _ rfl gx 0 rfl [.int .u64 (mv : Int), .slice oa os.length oc] _ (fun _ h => Ops.blk_range h.2.b) Tryz.underlying56 rfl HSX.out) (by assumption) ?_
  try simp only [Act.put, List.setIfInBounds_toArray, List.set_cons_zero, List.set_cons_succ]
  refine wpAnyH_take (i := 5) (oi := ⟨_, _, _, _, _, _⟩) (v := ?_) rfl (by kernel_rfl) (by kernel_rfl) (by kernel_rfl) (fun _ _ _ h => h) (Or.inl ⟨by rfl, ?_⟩) (by assumption) ?_
  rotate_left
  · intro w hSw; go_simp; try (with_reducible rfl)
  try simp only [Act.put, List.setIfInBounds_toArray, List.set_cons_zero, List.set_cons_succ]
  refine wpAnyH_take (i := 6) (oi := ⟨_, _, _, _, _, _⟩) rfl (by kernel_rfl) (by kernel_rfl) (by kernel_rfl) (fun _ _ _ h => h) (yieldsIf_load_mid (by rfl) _ _ rfl go 0 rfl (i.ot.map byt) _ (fun _ h => h.1.ro) Tryz.underlying24 rfl (MkW.szD' OK.out.ot)) (by assumption) ?_
  try simp only [Act.put, List.setIfInBounds_toArray, List.set_cons_zero, List.set_cons_succ]
  refine wpAnyH_ready (rs := [4]) (by kernel_rfl) (by simp) ?_
  refine AllReadyH.cons (o := ⟨_, _, _, _, _, _⟩) rfl (fun K hK => ?_) AllReadyH.nil
  go_simp
  refine (mtid_calls _ [.int .u64 (mv : Int), .slice oa os.length oc] (mv, os) (hHeld.2.rep HMV.out) HFI.out hHeld.1.t).mono ?_
  rintro e wz ⟨rfl, gz⟩
  rw [HID.out]
  refine hK.out _ _ (by exact ⟨hHeld.1.below HXB.out gz, hHeld.2.below gz⟩) (fun hHeld => ?_)
  clear hK
  try simp only [Act.put, List.setIfInBounds_toArray, List.set_cons_zero, List.set_cons_succ]
  refine wpAnyH_take (i := 7) (oi := ⟨_, _, _, _, _, _⟩) (v := ?_) rfl (by kernel_rfl) (by kernel_rfl) (by kernel_rfl) (fun _ _ _ h => h) (Or.inl ⟨by rfl, ?_⟩) (by assumption) ?_
  rotate_left
  · intro w hSw; go_simp; try (with_reducible rfl)
  try simp only [Act.put, List.setIfInBounds_toArray, List.set_cons_zero, List.set_cons_succ]
  refine wpAnyH_take (i := 8) (oi := ⟨_, _, _, _, _, _⟩) (v := ?_) rfl (by kernel_rfl) (by kernel_rfl) (by kernel_rfl) (fun _ _ _ h => h) (Or.inl ⟨by rfl, ?_⟩) (by assumption) ?_
  rotate_left
  · intro w hSw; go_simp; try (with_reducible rfl)
  try simp only [Act.put, List.setIfInBounds_toArray, List.set_cons_zero, List.set_cons_succ]
  refine wpAnyH_take (i := 9) (oi := ⟨_, _, _, _, _, _⟩) (v := ?_) rfl (by kernel_rfl) (by kernel_rfl) (by kernel_rfl) (fun _ _ _ h => h) (Or.inl ⟨by rfl, ?_⟩) (by assumption) ?_
  rotate_left
  · intro w hSw; go_simp; try (with_reducible rfl)
  try simp only [Act.put, List.setIfInBounds_toArray, List.set_cons_zero, List.set_cons_succ]
  refine wpAnyH_take (i := 10) (oi := ⟨_, _, _, _, _, _⟩) (v := ?_) rfl (by kernel_rfl) (by kernel_rfl) (by kernel_rfl) (fun _ _ _ h => h) (Or.inl ⟨by rfl, ?_⟩) (by assumption) ?_
  rotate_left
  · intro w hSw; go_simp; try (with_reducible rfl)
  try simp only [Act.put, List.setIfInBounds_toArray, List.set_cons_zero, List.set_cons_succ]
  refine wpAnyH_take (i := 11) (oi := ⟨_, _, _, _, _, _⟩) (v := .int .u32 (i.ix : Int)) rfl (by kernel_rfl) (by kernel_rfl) (by kernel_rfl) (fun _ _ _ h => h) (Or.inl ⟨by rfl, fun w hSw => (by have c := hSw.1.ci OK.out; go_simp; try (with_reducible rfl))⟩) (by assumption) ?_
  try simp only [Act.put, List.setIfInBounds_toArray, List.set_cons_zero, List.set_cons_succ]
  refine wpAnyH_take (i := 12) (oi := ⟨_, _, _, _, _, _⟩) (v := ?_) rfl (by kernel_rfl) (by kernel_rfl) (by kernel_rfl) (fun _ _ _ h => h) (Or.inl ⟨by rfl, ?_⟩) (by assumption) ?_
  rotate_left
  · intro w hSw; go_simp; try (with_reducible rfl)
  try simp only [Act.put, List.setIfInBounds_toArray, List.set_cons_zero, List.set_cons_succ]
  refine wpAnyH_take (i := 13) (oi := ⟨_, _, _, _, _, _⟩) (v := ?_) rfl (by kernel_rfl) (by kernel_rfl) (by kernel_rfl) (fun _ _ _ h => h) (Or.inl ⟨by rfl, ?_⟩) (by assumption) ?_
  rotate_left
  · intro w hSw; go_simp; try (with_reducible rfl)
  try simp only [Act.put, List.setIfInBounds_toArray, List.set_cons_zero, List.set_cons_succ]
  refine wpAnyH_take (i := 14) (oi := ⟨_, _, _, _, _, _⟩) (v := (.slice oa os.length oc)) rfl (by kernel_rfl) (by kernel_rfl) (by kernel_rfl) (fun _ _ _ h => h) (Or.inl ⟨by rfl, fun w hSw => (by have c := hSw.2.b.cell (i := 1) rfl; go_simp; try (with_reducible rfl))⟩) (by assumption) ?_
  try simp only [Act.put, List.setIfInBounds_toArray, List.set_cons_zero, List.set_cons_succ]
  refine wpAnyH_take (i := 15) (oi := ⟨_, _, _, _, _, _⟩) (v := ?_) rfl (by kernel_rfl) (by kernel_rfl) (by kernel_rfl) (fun _ _ _ h => h) (Or.inl ⟨by rfl, ?_⟩) (by assumption) ?_
  rotate_left
  · intro w hSw; go_simp; try (with_reducible rfl)
  try simp only [Act.put, List.setIfInBounds_toArray, List.set_cons_zero, List.set_cons_succ]
  refine wpAnyH_take (i := 16) (oi := ⟨_, _, _, _, _, _⟩) (v := ?_) rfl (by kernel_rfl) (by kernel_rfl) (by kernel_rfl) (fun _ _ _ h => h) (Or.inl ⟨by rfl, ?_⟩) (by assumption) ?_
  rotate_left
  · intro w hSw; go_simp; try (with_reducible rfl)
  try simp only [Act.put, List.setIfInBounds_toArray, List.set_cons_zero, List.set_cons_succ]
  refine wpAnyH_take (i := 17) (oi := ⟨_, _, _, _, _, _⟩) (v := ?_) rfl (by kernel_rfl) (by kernel_rfl) (by kernel_rfl) (fun _ _ _ h => h) (Or.inl ⟨by rfl, ?_⟩) (by assumption) ?_
  rotate_left
  · intro w hSw; go_simp; try (with_reducible rfl)
  try simp only [Act.put, List.setIfInBounds_toArray, List.set_cons_zero, List.set_cons_succ]
  refine wpAnyH_take (i := 18) (oi := ⟨_, _, _, _, _, _⟩) (v := ?_) rfl (by kernel_rfl) (by kernel_rfl) (by kernel_rfl) (fun _ _ _ h => h) (Or.inl ⟨by rfl, ?_⟩) (by assumption) ?_
  rotate_left
  · intro w hSw; go_simp; try (with_reducible rfl)
  try simp only [Act.put, List.setIfInBounds_toArray, List.set_cons_zero, List.set_cons_succ]
  refine wpAnyH_done (by kernel_rfl) ?_ _
  go_wp2
  have E9 := Lib.hid hHeld.1
  have M9 := Lib.hid hHeld.2
  clear hHeld hqe hcv hcu hcl hge E6 M6
  obtain ⟨g, hg⟩ : ∃ g, (Tk.look hs i.hd).getD Tk.zeroH = g := ⟨_, rfl⟩
  have OKG := Lib.hid (show g.Ok from hg ▸ Tk.look_ok TT i.hd)
  have HGG := Lib.hid hg
  obtain ⟨lf, hlf⟩ : ∃ lf, leafD i.tx = lf := ⟨_, rfl⟩
  have HLF := Lib.hid hlf
  have HLL := Lib.hid (show lf.length = 32 from hlf ▸ leafD_length _)
  obtain ⟨ck, hck⟩ : ∃ ck, MkW.chk g.root lf i.pl i.mn i.ds = ck := ⟨_, rfl⟩
  have HCK := Lib.hid hck
  clear hg hlf hck
  obtain ⟨kl, hkl⟩ := Tk.keyD i.hd OK.out.hd
  have HKL := Lib.hid hkl
  have HRES := Lib.hid (show (if false = true then Value.tuple #[((Tk.look hs i.hd).map hv).getD (hv Tk.zeroH), .bool ((Tk.look hs i.hd).map hv).isSome] else ((Tk.look hs i.hd).map hv).getD (hv Tk.zeroH)) = hv g by rw [Tk.look_one, HGG.out])
  have hfr : ∀ w, (Instr.field 41 (.agg g.cells.toArray) 1).run Tryz.prog w = .ok (.agg (g.root.map byt).toArray) w := run_field_root g OKG.out
  clear hkl
  refine wp_region_held_drew (S := (fun w' => EV X 1 w w.heap.size go gv i w' ∧ MtB w' gx mv (.slice oa os.length oc) os)) (by kernel_rfl) ⟨EV.drew HXD.out E9.out, M9.out.drew⟩ (fun hHeld => ?_)
  refine wpAnyH_take (i := 0) (oi := ⟨_, _, _, _, _, _⟩) (v := ?_) rfl (by kernel_rfl) (by kernel_rfl) (by kernel_rfl) (fun _ _ _ h => h) (Or.inl ⟨by rfl, ?_⟩) (by assumption) ?_
  rotate_left
  · intro w hSw; go_simp; try (with_reducible rfl)
  try simp only [Act.put, List.setIfInBounds_toArray, List.set_cons_zero, List.set_cons_succ]
  refine wpAnyH_take (i := 1) (oi := ⟨_, _, _, _, _, _⟩) (v := ?_) rfl (by kernel_rfl) (by kernel_rfl) (by kernel_rfl) (fun _ _ _ h => h) (Or.inl ⟨by rfl, ?_⟩) (by assumption) ?_
  rotate_left
  · intro w hSw; go_simp; try (with_reducible rfl)
  try simp only [Act.put, List.setIfInBounds_toArray, List.set_cons_zero, List.set_cons_succ]
  refine wpAnyH_take (i := 2) (oi := ⟨_, _, _, _, _, _⟩) (v := ?_) rfl (by kernel_rfl) (by kernel_rfl) (by kernel_rfl) (fun _ _ _ h => h) (Or.inl ⟨by rfl, ?_⟩) (by assumption) ?_
  rotate_left
  · intro w hSw; go_simp; try (with_reducible rfl)
  try simp only [Act.put, List.setIfInBounds_toArray, List.set_cons_zero, List.set_cons_succ]
  refine wpAnyH_take (i := 3) (oi := ⟨_, _, _, _, _, _⟩) (v := .map (some b)) rfl (by kernel_rfl) (by kernel_rfl) (by kernel_rfl) (fun _ _ _ h => h) (Or.inl ⟨by rfl, fun w hSw => (by have c := trk_map (HXI.out _ hSw.1.x); go_simp; try (with_reducible rfl))⟩) (by assumption) ?_
  try simp only [Act.put, List.setIfInBounds_toArray, List.set_cons_zero, List.set_cons_succ]
  refine wpAnyH_take (i := 4) (oi := ⟨_, _, _, _, _, _⟩) (v := ?_) rfl (by kernel_rfl) (by kernel_rfl) (by kernel_rfl) (fun _ _ _ h => h) (Or.inl ⟨by rfl, ?_⟩) (by assumption) ?_
  rotate_left
  · intro w hSw; go_simp; try (with_reducible rfl)
  try simp only [Act.put, List.setIfInBounds_toArray, List.set_cons_zero, List.set_cons_succ]
  refine wpAnyH_take (i := 5) (oi := ⟨_, _, _, _, _, _⟩) rfl (by kernel_rfl) (by kernel_rfl) (by kernel_rfl) (fun _ _ _ h => h) (yieldsIf_load_mid (by rfl) _ _ rfl w.heap.size 0 rfl (i.hd.map byt) _ (fun _ h => h.1.rp) Tryz.underlying24 rfl (MkW.szD' OK.out.hd)) (by assumption) ?_
  try simp only [Act.put, List.setIfInBounds_toArray, List.set_cons_zero, List.set_cons_succ]
  refine wpAnyH_take (i := 6) (oi := ⟨_, _, _, _, _, _⟩) rfl (by kernel_rfl) (by kernel_rfl) (by kernel_rfl) (fun _ _ _ h => h) (Maps.yieldsIf_look (by rfl) _ _ _ false rfl 41 Tk.keyed Tryz.underlying80 Tk.zeroV rfl (fun _ h => trk_is (HXI.out _ h.1.x)) (.agg (i.hd.map byt).toArray) kl rfl HKL.out _ (Tk.at_look hs i.hd) (.agg g.cells.toArray) HRES.out) (by assumption) ?_
  try simp only [Act.put, List.setIfInBounds_toArray, List.set_cons_zero, List.set_cons_succ]
  refine wpAnyH_take (i := 7) (oi := ⟨_, _, _, _, _, _⟩) (v := ?_) rfl (by kernel_rfl) (by kernel_rfl) (by kernel_rfl) (fun _ _ _ h => h) (Or.inl ⟨by rfl, ?_⟩) (by assumption) ?_
  rotate_left
  · intro w hSw; go_simp; try (with_reducible rfl)
  try simp only [Act.put, List.setIfInBounds_toArray, List.set_cons_zero, List.set_cons_succ]
  refine wpAnyH_take (i := 8) (oi := ⟨_, _, _, _, _, _⟩) (v := ?_) rfl (by kernel_rfl) (by kernel_rfl) (by kernel_rfl) (fun _ _ _ h => h) (Or.inl ⟨by rfl, ?_⟩) (by assumption) ?_
  rotate_left
  · intro w hSw; go_simp; try (with_reducible rfl)
  try simp only [Act.put, List.setIfInBounds_toArray, List.set_cons_zero, List.set_cons_succ]
  refine wpAnyH_take (i := 9) (oi := ⟨_, _, _, _, _, _⟩) (v := i.vx) rfl (by kernel_rfl) (by kernel_rfl) (by kernel_rfl) (fun _ _ _ h => h) (Or.inl ⟨by rfl, fun w hSw => (by have c := hSw.1.c32 OK.out; go_simp; try (with_reducible rfl))⟩) (by assumption) ?_
  try simp only [Act.put, List.setIfInBounds_toArray, List.set_cons_zero, List.set_cons_succ]
  refine wpAnyH_take (i := 11) (oi := ⟨_, _, _, _, _, _⟩) (v := ?_) rfl (by kernel_rfl) (by kernel_rfl) (by kernel_rfl) (fun _ _ _ h => h) (Or.inl ⟨by rfl, ?_⟩) (by assumption) ?_
  rotate_left
  · intro w hSw; go_simp; try (with_reducible rfl)
  try simp only [Act.put, List.setIfInBounds_toArray, List.set_cons_zero, List.set_cons_succ]
  refine wpAnyH_take (i := 12) (oi := ⟨_, _, _, _, _, _⟩) (v := .int .u32 (i.pl : Int)) rfl (by kernel_rfl) (by kernel_rfl) (by kernel_rfl) (fun _ _ _ h => h) (Or.inl ⟨by rfl, fun w hSw => (by have c := hSw.1.c33 OK.out; go_simp; try (with_reducible rfl))⟩) (by assumption) ?_
  try simp only [Act.put, List.setIfInBounds_toArray, List.set_cons_zero, List.set_cons_succ]
  refine wpAnyH_take (i := 13) (oi := ⟨_, _, _, _, _, _⟩) (v := ?_) rfl (by kernel_rfl) (by kernel_rfl) (by kernel_rfl) (fun _ _ _ h => h) (Or.inl ⟨by rfl, ?_⟩) (by assumption) ?_
  rotate_left
  · intro w hSw; go_simp; try (with_reducible rfl)
  try simp only [Act.put, List.setIfInBounds_toArray, List.set_cons_zero, List.set_cons_succ]
  refine wpAnyH_take (i := 14) (oi := ⟨_, _, _, _, _, _⟩) (v := .int .u32 (i.mn : Int)) rfl (by kernel_rfl) (by kernel_rfl) (by kernel_rfl) (fun _ _ _ h => h) (Or.inl ⟨by rfl, fun w hSw => (by have c := hSw.1.c34 OK.out; go_simp; try (with_reducible rfl))⟩) (by assumption) ?_
  try simp only [Act.put, List.setIfInBounds_toArray, List.set_cons_zero, List.set_cons_succ]
  refine wpAnyH_take (i := 15) (oi := ⟨_, _, _, _, _, _⟩) (v := ?_) rfl (by kernel_rfl) (by kernel_rfl) (by kernel_rfl) (fun _ _ _ h => h) (Or.inl ⟨by rfl, ?_⟩) (by assumption) ?_
  rotate_left
  · intro w hSw; go_simp; try (with_reducible rfl)
  try simp only [Act.put, List.setIfInBounds_toArray, List.set_cons_zero, List.set_cons_succ]
  refine wpAnyH_take (i := 16) (oi := ⟨_, _, _, _, _, _⟩) (v := i.vp) rfl (by kernel_rfl) (by kernel_rfl) (by kernel_rfl) (fun _ _ _ h => h) (Or.inl ⟨by rfl, fun w hSw => (by have c := hSw.1.c35 OK.out; go_simp; try (with_reducible rfl))⟩) (by assumption) ?_
  try simp only [Act.put, List.setIfInBounds_toArray, List.set_cons_zero, List.set_cons_succ]
  refine wpAnyH_ready (rs := [10]) (by kernel_rfl) (by simp) ?_
  refine AllReadyH.cons (o := ⟨_, _, _, _, _, _⟩) rfl (fun K hK => ?_) AllReadyH.nil
  go_simp
  refine (MkW.leaf_calls _ i.vx i.tx hHeld.1.bx OK.out.tx hHeld.1.t).mono ?_
  rintro e wlf ⟨rfl, gz⟩
  rw [HLF.out]
  refine hK.out _ _ (by exact ⟨hHeld.1.below HXB.out gz, hHeld.2.below gz⟩) (fun hHeld => ?_)
  clear hK
  try simp only [Act.put, List.setIfInBounds_toArray, List.set_cons_zero, List.set_cons_succ]
  refine wpAnyH_ready (rs := [17]) (by kernel_rfl) (by simp) ?_
  refine AllReadyH.cons (o := ⟨_, _, _, _, _, _⟩) rfl (fun K hK => ?_) AllReadyH.nil
  go_simp
  refine (MkW.check_calls _ g.root lf i.pl i.mn i.vp i.ds hHeld.1.bp OK.out.ds OKG.out.2.1 HLL.out hHeld.1.t OK.out.mn OK.out.pl OK.out.dl).mono ?_
  rintro e wck ⟨rfl, gz⟩
  rw [HCK.out]
  refine hK.out _ _ (by exact ⟨hHeld.1.below HXB.out gz, hHeld.2.below gz⟩) (fun hHeld => ?_)
  clear hK
  try simp only [Act.put, List.setIfInBounds_toArray, List.set_cons_zero, List.set_cons_succ]
  refine wpAnyH_take (i := 18) (oi := ⟨_, _, _, _, _, _⟩) (v := ?_) rfl (by kernel_rfl) (by kernel_rfl) (by kernel_rfl) (fun _ _ _ h => h) (Or.inl ⟨by rfl, ?_⟩) (by assumption) ?_
  rotate_left
  · intro w hSw; go_simp; try (with_reducible rfl)
  try simp only [Act.put, List.setIfInBounds_toArray, List.set_cons_zero, List.set_cons_succ]
  refine wpAnyH_take (i := 19) (oi := ⟨_, _, _, _, _, _⟩) (v := ?_) rfl (by kernel_rfl) (by kernel_rfl) (by kernel_rfl) (fun _ _ _ h => h) (Or.inl ⟨by rfl, ?_⟩) (by assumption) ?_
  rotate_left
  · intro w hSw; go_simp; try (with_reducible rfl)
  try simp only [Act.put, List.setIfInBounds_toArray, List.set_cons_zero, List.set_cons_succ]
  refine wpAnyH_done (by kernel_rfl) ?_ _
  clear E9 M9 HKL HRES hfr
  rcases ck with _ | _
  · have HE := Lib.hid (show evid hs i = (0, 175) from by rw [HE3.out]; unfold evid3; rw [if_pos (by rw [HGG.out, HLF.out, HCK.out])])
    go_wp2
    go_ret2
    exact ⟨by rw [HE.out]; rfl, hHeld.1.b⟩
  go_wp2
  have E11 := Lib.hid hHeld.1
  have M11 := Lib.hid hHeld.2
  clear hHeld
  obtain ⟨ob, off, cap', cs', e', _⟩ := M11.out.s.at i.ix HLT.out
  cases e'
  obtain ⟨⟨o1, o2⟩, ho⟩ : ∃ o, os[i.ix]'HLT.out = o := ⟨_, rfl⟩
  have HGD := Lib.hid (show (gotMt i.tx).1.2.getD i.ix (0, []) = (o1, o2) from by rw [HG.out]; show os.getD i.ix (0, []) = _; rw [List.getD_eq_getElem?_getD, List.getElem?_eq_getElem HLT.out, ho]; rfl)
  have HAT : Hid (∀ w', MtB w' gx mv (.slice (some ⟨ob, off, none⟩) os.length oc) os → w'.rangeAt ob (off + i.ix * 33 + 1) (o2.map byt) ∧ w'.cell? ⟨ob, off + i.ix * 33, none⟩ = some (.int .u64 (o1 : Int)) ∧ o2.length = 32 ∧ w'.rangeAt ob (off + i.ix * 33) (.int .u64 (o1 : Int) :: o2.map byt)) := Lib.hid (fun w' h => by have := h.at i.ix HLT.out; rw [ho] at this; exact this)
  have HO2 := Lib.hid (HAT.out _ M11.out).2.2.1
  have hltI : (i.ix : Int) < (os.length : Int) := by have := HLT.out; omega
  have h0I : (0 : Int) ≤ (i.ix : Int) := by omega
  obtain ⟨cl, hcl⟩ : ∃ cl, claimD i.sc = cl := ⟨_, rfl⟩
  have HCL := Lib.hid hcl
  have HCLL := Lib.hid (show cl.length = 32 from hcl ▸ claimD_length _)
  have hqc : ∀ w, (Op.equalIn 10000 24 (.agg (o2.map byt).toArray) (.agg (cl.map byt).toArray)).run Tryz.prog w = .ok (o2 == cl) w := fun w => run_equal_u8 Tryz.underlying24 (i := _) rfl (by kernel_rfl) Tryz.underlying5 w o2 cl HO2.out HCLL.out
  clear ho hcl
  refine wp_region_held_drew (S := (fun w' => EV X 1 w w.heap.size go gv i w' ∧ MtB w' gx mv (.slice (some ⟨ob, off, none⟩) os.length oc) os)) (by kernel_rfl) ⟨EV.drew HXD.out E11.out, M11.out.drew⟩ (fun hHeld => ?_)
  refine wpAnyH_take (i := 0) (oi := ⟨_, _, _, _, _, _⟩) (v := ?_) rfl (by kernel_rfl) (by kernel_rfl) (by kernel_rfl) (fun _ _ _ h => h) (Or.inl ⟨by rfl, ?_⟩) (by assumption) ?_
  rotate_left
  · intro w hSw; go_simp; try (with_reducible rfl)
  try simp only [Act.put, List.setIfInBounds_toArray, List.set_cons_zero, List.set_cons_succ]
  refine wpAnyH_take (i := 1) (oi := ⟨_, _, _, _, _, _⟩) (v := (.slice (some ⟨ob, off, none⟩) os.length oc)) rfl (by kernel_rfl) (by kernel_rfl) (by kernel_rfl) (fun _ _ _ h => h) (Or.inl ⟨by rfl, fun w hSw => (by have c := hSw.2.b.cell (i := 1) rfl; go_simp; try (with_reducible rfl))⟩) (by assumption) ?_
  try simp only [Act.put, List.setIfInBounds_toArray, List.set_cons_zero, List.set_cons_succ]
  refine wpAnyH_take (i := 2) (oi := ⟨_, _, _, _, _, _⟩) (v := ?_) rfl (by kernel_rfl) (by kernel_rfl) (by kernel_rfl) (fun _ _ _ h => h) (Or.inl ⟨by rfl, ?_⟩) (by assumption) ?_
  rotate_left
  · intro w hSw; go_simp; try (with_reducible rfl)
  try simp only [Act.put, List.setIfInBounds_toArray, List.set_cons_zero, List.set_cons_succ]
  refine wpAnyH_take (i := 3) (oi := ⟨_, _, _, _, _, _⟩) (v := .int .u32 (i.ix : Int)) rfl (by kernel_rfl) (by kernel_rfl) (by kernel_rfl) (fun _ _ _ h => h) (Or.inl ⟨by rfl, fun w hSw => (by have c := hSw.1.ci OK.out; go_simp; try (with_reducible rfl))⟩) (by assumption) ?_
  try simp only [Act.put, List.setIfInBounds_toArray, List.set_cons_zero, List.set_cons_succ]
  refine wpAnyH_take (i := 4) (oi := ⟨_, _, _, _, _, _⟩) (v := ?_) rfl (by kernel_rfl) (by kernel_rfl) (by kernel_rfl) (fun _ _ _ h => h) (Or.inl ⟨by rfl, ?_⟩) (by assumption) ?_
  rotate_left
  · intro w hSw; go_simp; try (with_reducible rfl)
  try simp only [Act.put, List.setIfInBounds_toArray, List.set_cons_zero, List.set_cons_succ]
  refine wpAnyH_take (i := 5) (oi := ⟨_, _, _, _, _, _⟩) (v := ?_) rfl (by kernel_rfl) (by kernel_rfl) (by kernel_rfl) (fun _ _ _ h => h) (Or.inl ⟨by rfl, ?_⟩) (by assumption) ?_
  rotate_left
  · intro w hSw; go_simp; try (with_reducible rfl)
  try simp only [Act.put, List.setIfInBounds_toArray, List.set_cons_zero, List.set_cons_succ]
  refine wpAnyH_take (i := 6) (oi := ⟨_, _, _, _, _, _⟩) rfl (by kernel_rfl) (by kernel_rfl) (by kernel_rfl) (fun _ _ _ h => h) (yieldsIf_load_mid (by rfl) _ _ rfl ob (off + i.ix * 33 + 1) rfl (o2.map byt) _ (fun _ h => (HAT.out _ h.2).1) Tryz.underlying24 rfl (MkW.szD' HO2.out)) (by assumption) ?_
  try simp only [Act.put, List.setIfInBounds_toArray, List.set_cons_zero, List.set_cons_succ]
  refine wpAnyH_take (i := 7) (oi := ⟨_, _, _, _, _, _⟩) (v := ?_) rfl (by kernel_rfl) (by kernel_rfl) (by kernel_rfl) (fun _ _ _ h => h) (Or.inl ⟨by rfl, ?_⟩) (by assumption) ?_
  rotate_left
  · intro w hSw; go_simp; try (with_reducible rfl)
  try simp only [Act.put, List.setIfInBounds_toArray, List.set_cons_zero, List.set_cons_succ]
  refine wpAnyH_take (i := 8) (oi := ⟨_, _, _, _, _, _⟩) (v := i.vs) rfl (by kernel_rfl) (by kernel_rfl) (by kernel_rfl) (fun _ _ _ h => h) (Or.inl ⟨by rfl, fun w hSw => (by have c := hSw.1.c36 OK.out; go_simp; try (with_reducible rfl))⟩) (by assumption) ?_
  try simp only [Act.put, List.setIfInBounds_toArray, List.set_cons_zero, List.set_cons_succ]
  refine wpAnyH_ready (rs := [9]) (by kernel_rfl) (by simp) ?_
  refine AllReadyH.cons (o := ⟨_, _, _, _, _, _⟩) rfl (fun K hK => ?_) AllReadyH.nil
  go_simp
  refine (claim_calls _ i.vs i.sc hHeld.1.bs OK.out.sc hHeld.1.t).mono ?_
  rintro e wcl ⟨rfl, gz⟩
  rw [HCL.out]
  refine hK.out _ _ (by exact ⟨hHeld.1.below HXB.out gz, hHeld.2.below gz⟩) (fun hHeld => ?_)
  clear hK
  try simp only [Act.put, List.setIfInBounds_toArray, List.set_cons_zero, List.set_cons_succ]
  refine wpAnyH_take (i := 10) (oi := ⟨_, _, _, _, _, _⟩) (v := ?_) rfl (by kernel_rfl) (by kernel_rfl) (by kernel_rfl) (fun _ _ _ h => h) (Or.inl ⟨by rfl, ?_⟩) (by assumption) ?_
  rotate_left
  · intro w hSw; go_simp; try (with_reducible rfl)
  try simp only [Act.put, List.setIfInBounds_toArray, List.set_cons_zero, List.set_cons_succ]
  refine wpAnyH_take (i := 11) (oi := ⟨_, _, _, _, _, _⟩) (v := ?_) rfl (by kernel_rfl) (by kernel_rfl) (by kernel_rfl) (fun _ _ _ h => h) (Or.inl ⟨by rfl, ?_⟩) (by assumption) ?_
  rotate_left
  · intro w hSw; go_simp; try (with_reducible rfl)
  try simp only [Act.put, List.setIfInBounds_toArray, List.set_cons_zero, List.set_cons_succ]
  refine wpAnyH_done (by kernel_rfl) ?_ _
  clear E11 M11 hqc
  by_cases hoc : o2 = cl
  rotate_left
  · have HE := Lib.hid (show evid hs i = (0, 176) from by rw [HE3.out]; unfold evid3; rw [if_neg (by rw [HGG.out, HLF.out, HCK.out]; decide), if_pos (by rw [HGD.out, HCL.out]; exact hoc)])
    have hob : (o2 == cl) = false := by simp [hoc]
    rw [hob]
    go_wp2
    go_ret2
    exact ⟨by rw [HE.out]; rfl, hHeld.1.b⟩
  have HE := Lib.hid (show evid hs i = (o1, 0) from by rw [HE3.out]; unfold evid3; rw [if_neg (by rw [HGG.out, HLF.out, HCK.out]; decide), if_neg (by rw [HGD.out, HCL.out]; simp [hoc]), HGD.out])
  have hob : (o2 == cl) = true := by simp [hoc]
  rw [hob]
  have d1 := hHeld.2.b.cell (i := 1) rfl
  have d2 := hHeld.1.ci OK.out
  have d3 := (HAT.out _ hHeld.2).2.1
  clear hoc hob
  go_wp2
  go_ret2
  exact ⟨by rw [HE.out]; rfl, hHeld.1.b⟩
end Go.Proofs.YtmenchnjajpkmaaGreatDoor.Ev
end

section
namespace Go.Proofs.YtmenchnjajpkmaaGreatDoor.Tk
open Go Go.RowKit Mem Codec Mh Maps Ops Wh Ww ShaW Arr
open Go.Maps (Keyed)
set_option linter.unusedVariables false

section
variable {t b g : Nat} {w a c : World}
theorem fr_new (h : Fr (fun k => k = t ∨ k = b) w a) (f : Fr (fun k => k = g) a c) (hg : w.heap.size ≤ g) : Fr (fun k => k = t ∨ k = b) w c := h.trans' f (fun i hi e => absurd hi (by have : i = g := e; omega))
theorem fr_b (h : Fr (fun k => k = t ∨ k = b) w a) (f : Fr (fun k => k = b) a c) : Fr (fun k => k = t ∨ k = b) w c := h.trans' f (fun i hi e => .inr e)
theorem fr_t (h : Fr (fun k => k = t ∨ k = b) w a) (f : Fr (fun k => k = t) a c) : Fr (fun k => k = t ∨ k = b) w c := h.trans' f (fun i hi e => .inl e)
theorem fr_alloc (h : Fr (fun k => k = t ∨ k = b) w a) (f : Below a.heap.size a c) : Fr (fun k => k = t ∨ k = b) w c := h.trans (Fr.ofBelowAll f (Nat.le_refl _))
end
theorem isAgg_u64 (w : World) : (isAgg 32).run Tryz.prog w = .ok false w := by kernel_rfl
theorem run_field_height (h : Hd) (ok : h.Ok) (w : World) : (Instr.field 41 (hv h) 2).run Tryz.prog w = .ok (.int .u64 (h.height : Int)) w :=
  run_field_cell Tryz.underlying41 rfl (isAgg_u64 w) (Hd.cell_height ok)
/-- what Add leaves -/
def AddT (w : World) (t b : Nat) (hs : List Hd) (h : Hd) (e : Ending) (w' : World) : Prop := e = .returned (.int .i64 (addE hs h)) ∧ TrkIs w' t b (addL hs h) ∧ Fr (fun k => k = t ∨ k = b) w w'
theorem AddT.same {w : World} {t b : Nat} {hs : List Hd} {h : Hd} {w' : World} {f g : Hd} {f0 g0 : Dg} (n : Int) (hn : addE hs h = n) (h0 : n ≠ 0) (e1 : hs[0]? = some f) (e2 : hs[best hs]? = some g) (e3 : mainId f = f0) (e4 : mainId g = g0)
    (k : Blk w' t (tkC b f0 g0) 82) (m : MapIs Tryz.prog 24 w' b (pairs hs)) (hne : t ≠ b) (hf : Fr (fun k => k = t ∨ k = b) w w') : AddT w t b hs h (.returned (.int .i64 n)) w' := by
  refine ⟨by rw [hn], ?_, hf⟩
  unfold addL
  rw [if_neg (by rw [hn]; exact h0)]
  exact ⟨f, g, e1, e2, by rw [e3, e4]; exact k, m, hne⟩

set_option maxHeartbeats 16000000 in
set_option maxRecDepth 100000 in
theorem add_calls (w : World) (t b : Nat) (hs : List Hd) (T : Trk hs) (h : Hd) (ok : h.Ok) (H : TrkIs w t b hs) (hT : TabB w 1) :
    Calls Tryz.prog 16 #[.pointer (some ⟨t, 0, none⟩), hv h] w (AddT w t b hs h) := by
  obtain ⟨cs, hcs⟩ : ∃ cs, h.cells.toArray = cs := ⟨_, rfl⟩
  show Calls _ _ #[_, .agg h.cells.toArray] _ _
  obtain ⟨f0', g0', e1, e2, k0, m0, hne⟩ := _root_.id H
  have HF0 := Lib.hid (mainId_length f0')
  have HG0 := Lib.hid (mainId_length g0')
  obtain ⟨f0, hf0⟩ : ∃ x, mainId f0' = x := ⟨_, rfl⟩
  obtain ⟨g0, hg0⟩ : ∃ x, mainId g0' = x := ⟨_, rfl⟩
  rw [hf0, hg0] at k0
  rw [hf0] at HF0
  rw [hg0] at HG0
  have lt0 := k0.lt
  have mt0 := m0.lt
  have K0 := Lib.hid k0
  have M0 := Lib.hid m0
  have E1 := Lib.hid e1
  have E2 := Lib.hid e2
  have HFE := Lib.hid hf0
  have HGE := Lib.hid hg0
  obtain ⟨w1, hw1⟩ : ∃ w1, w.alloc (.cells cs 41) = w1 := ⟨_, rfl⟩
  have HB := Lib.hid (show Blk w1 w.heap.size h.cells 41 from by rw [← hw1]; exact Blk.new w _ _ _ hcs.symm)
  have B1 := Lib.hid (show Below w.heap.size w w1 from by rw [← hw1]; exact below_alloc _ _)
  have hz : w.heap.size + 1 = w1.heap.size := by rw [← hw1]; simp
  have HTB := Lib.hid (hT.below B1.out)
  have OK := Lib.hid ok
  have HT := Lib.hid T
  rw [hcs]
  have HC := Lib.hid hcs
  clear hcs hT e1 e2 hf0 hg0 k0 m0 H ok T
  go_enter Tryz.func16, Tryz.ntmps16
  go_upto_region 1 with fail
  clear hw1
  go_wp2_with (first | (with_reducible refine wpList_load_blk rfl _ _ rfl w.heap.size h.cells rfl HB.out _ Tryz.underlying41 rfl (szH OK.out) ?_))
  rw [← HC.out]
  refine (mainId_calls w1 h OK.out HTB.out).mono ?_
  rintro e w2 ⟨rfl, g2⟩
  have hs2 := g2.size
  have B2 := Lib.hid (B1.out.trans (g2.mono (by omega)))
  have X2 := Lib.hid (HB.out.below g2)
  obtain ⟨m, hm⟩ : ∃ m, mainId h = m := ⟨_, rfl⟩
  have HML := Lib.hid (show m.length = 32 by rw [← hm]; exact mainId_length h)
  rw [hm]
  have HM := Lib.hid hm
  clear g2 HB B1 hm HTB
  go_upto_region 2 with (first
    | (with_reducible refine wpList_alloc rfl _ rfl _ (zeroD _) (fun w4 k4 b4 z4 => ?_); have K4 := Lib.hid k4; have B4 := Lib.hid (B2.out.trans (b4.mono (by omega))); have X4 := Lib.hid (X2.out.below b4); clear k4 b4)
    | (with_reducible refine wpList_put rfl _ _ _ rfl w2.heap.size (m.map byt) _ rfl rfl K4.out (szD HML.out) (by simp [HML.out]) (one_dig m) (fun w5 k5 f5 z5 => ?_); have K5 := Lib.hid k5; have B5 := Lib.hid (B4.out.trans (f5.below (by omega) (fun k hk => by omega))); have X5 := Lib.hid (X4.out.fr f5 (by omega)); clear k5 f5))
  have hgi : w.heap.size < w2.heap.size := by omega
  have KK := Lib.hid (K0.out.keep B5.out lt0)
  have MM := Lib.hid (M0.out.fr (Fr.ofBelow B5.out) (by omega))
  clear K0 M0 K4 B4 X4 B2 X2
  generalize w2.heap.size = gi at *
  obtain ⟨kl, hkl⟩ := keyD m HML.out
  have HKL := Lib.hid hkl
  have HAT := Lib.hid (at_look hs m)
  have HRES := Lib.hid (look_tup (look hs m))
  have OKG := Lib.hid (look_ok HT.out m)
  obtain ⟨g, hg⟩ : ∃ g, (look hs m).getD zeroH = g := ⟨_, rfl⟩
  obtain ⟨is, his⟩ : ∃ is, (look hs m).isSome = is := ⟨_, rfl⟩
  have HIS := Lib.hid his
  rw [hg, his] at HRES
  rw [hg] at OKG
  have ok_len := Lib.hid OKG.out.len
  clear hkl hg his
  refine wp_region_held_drew (S := (fun w' => Blk w' t (tkC b f0 g0) 82 ∧ MapIs Tryz.prog 24 w' b (pairs hs) ∧ Blk w' w.heap.size h.cells 41 ∧ Blk w' gi (m.map byt) 24 ∧ Fr (fun k => k = t ∨ k = b) w w')) (by kernel_rfl) ⟨KK.out.drew, MM.out.drew, X5.out.drew, K5.out.drew, (Fr.ofBelowAll B5.out (Nat.le_refl _)).drew⟩ (fun hHeld => ?_)
  refine wpAnyH_take (i := 0) (oi := ⟨_, _, _, _, _, _⟩) (v := ?_) rfl (by kernel_rfl) (by kernel_rfl) (by kernel_rfl) (fun _ _ _ h => h) (Or.inl ⟨by rfl, ?_⟩) (by assumption) ?_
  rotate_left
  · intro w hSw; go_simp; try (with_reducible rfl)
  try simp only [Act.put, List.setIfInBounds_toArray, List.set_cons_zero, List.set_cons_succ]
  refine wpAnyH_take (i := 1) (oi := ⟨_, _, _, _, _, _⟩) (v := ?_) rfl (by kernel_rfl) (by kernel_rfl) (by kernel_rfl) (fun _ _ _ h => h) (Or.inl ⟨by rfl, ?_⟩) (by assumption) ?_
  rotate_left
  · intro w hSw; go_simp; try (with_reducible rfl)
  try simp only [Act.put, List.setIfInBounds_toArray, List.set_cons_zero, List.set_cons_succ]
  refine wpAnyH_take (i := 2) (oi := ⟨_, _, _, _, _, _⟩) (v := ?_) rfl (by kernel_rfl) (by kernel_rfl) (by kernel_rfl) (fun _ _ _ h => h) (Or.inl ⟨by rfl, ?_⟩) (by assumption) ?_
  rotate_left
  · intro w hSw; go_simp; try (with_reducible rfl)
  try simp only [Act.put, List.setIfInBounds_toArray, List.set_cons_zero, List.set_cons_succ]
  refine wpAnyH_take (i := 3) (oi := ⟨_, _, _, _, _, _⟩) (v := .map (some b)) rfl (by kernel_rfl) (by kernel_rfl) (by kernel_rfl) (fun _ _ _ h => h) (Or.inl ⟨by rfl, fun w hSw => (by have c := hSw.1.cell (i := 0) rfl; go_simp; try (with_reducible rfl))⟩) (by assumption) ?_
  try simp only [Act.put, List.setIfInBounds_toArray, List.set_cons_zero, List.set_cons_succ]
  refine wpAnyH_take (i := 4) (oi := ⟨_, _, _, _, _, _⟩) rfl (by kernel_rfl) (by kernel_rfl) (by kernel_rfl) (fun _ _ _ h => h) (yieldsIf_load_mid (by rfl) _ _ rfl gi 0 rfl (m.map byt) _ (fun _ h => blk_range h.2.2.2.1) Tryz.underlying24 rfl (szD HML.out)) (by assumption) ?_
  try simp only [Act.put, List.setIfInBounds_toArray, List.set_cons_zero, List.set_cons_succ]
  refine wpAnyH_take (i := 5) (oi := ⟨_, _, _, _, _, _⟩) rfl (by kernel_rfl) (by kernel_rfl) (by kernel_rfl) (fun _ _ _ h => h) (yieldsIf_look (by rfl) _ _ _ true rfl 41 keyed Tryz.underlying80 zeroV rfl (fun _ h => h.2.1) (dv m) kl rfl HKL.out _ HAT.out (.tuple #[hv g, .bool is]) HRES.out) (by assumption) ?_
  try simp only [Act.put, List.setIfInBounds_toArray, List.set_cons_zero, List.set_cons_succ]
  refine wpAnyH_take (i := 6) (oi := ⟨_, _, _, _, _, _⟩) (v := ?_) rfl (by kernel_rfl) (by kernel_rfl) (by kernel_rfl) (fun _ _ _ h => h) (Or.inl ⟨by rfl, ?_⟩) (by assumption) ?_
  rotate_left
  · intro w hSw; go_simp; try (with_reducible rfl)
  try simp only [Act.put, List.setIfInBounds_toArray, List.set_cons_zero, List.set_cons_succ]
  refine wpAnyH_take (i := 7) (oi := ⟨_, _, _, _, _, _⟩) (v := ?_) rfl (by kernel_rfl) (by kernel_rfl) (by kernel_rfl) (fun _ _ _ h => h) (Or.inl ⟨by rfl, ?_⟩) (by assumption) ?_
  rotate_left
  · intro w hSw; go_simp; try (with_reducible rfl)
  try simp only [Act.put, List.setIfInBounds_toArray, List.set_cons_zero, List.set_cons_succ]
  refine wpAnyH_take (i := 8) (oi := ⟨_, _, _, _, _, _⟩) (v := ?_) rfl (by kernel_rfl) (by kernel_rfl) (by kernel_rfl) (fun _ _ _ h => h) (Or.inl ⟨by rfl, ?_⟩) (by assumption) ?_
  rotate_left
  · intro w hSw; go_simp; try (with_reducible rfl)
  try simp only [Act.put, List.setIfInBounds_toArray, List.set_cons_zero, List.set_cons_succ]
  refine wpAnyH_ready (rs := [9]) (by kernel_rfl) (by simp) ?_
  refine AllReadyH.cons (o := ⟨_, _, _, _, _, _⟩) rfl (fun K hK => ?_) AllReadyH.nil
  rw [if_pos (by rfl)]
  have la0 := hHeld.1.lt
  have la1 := hHeld.2.1.lt
  have la2 := hHeld.2.2.1.lt
  have la3 := hHeld.2.2.2.1.lt
  have sa := hHeld.2.2.2.2.size
  refine wp_alloc _ rfl _ (zeroV _) (fun waa ka ba za => ?_)
  refine hK.out _ _ (by exact ⟨hHeld.1.below ba, hHeld.2.1.below ba, hHeld.2.2.1.below ba, hHeld.2.2.2.1.below ba, fr_alloc hHeld.2.2.2.2 ba⟩) (fun hHeld => ?_)
  have KA := Lib.hid ka
  clear ka
  clear hK
  refine wpAnyH_ready (rs := [10]) (by kernel_rfl) (by simp) ?_
  refine AllReadyH.cons (o := ⟨_, _, _, _, _, _⟩) rfl (fun K hK => ?_) AllReadyH.nil
  rw [if_pos (by rfl)]
  refine wp_put _ _ _ rfl _ g.cells _ rfl rfl KA.out (szH OKG.out) (by rw [zeroH_len, ok_len.out]) (Hd.one _) (fun wba kb fb zb => ?_)
  refine hK.out _ _ (by exact ⟨hHeld.1.fr fb (by omega), hHeld.2.1.fr fb (by omega), hHeld.2.2.1.fr fb (by omega), hHeld.2.2.2.1.fr fb (by omega), fr_new hHeld.2.2.2.2 fb (by omega)⟩) (fun hHeld => ?_)
  have KB := Lib.hid kb
  clear kb KA
  clear hK
  refine wpAnyH_take (i := 11) (oi := ⟨_, _, _, _, _, _⟩) (v := ?_) rfl (by kernel_rfl) (by kernel_rfl) (by kernel_rfl) (fun _ _ _ h => h) (Or.inl ⟨by rfl, ?_⟩) (by assumption) ?_
  rotate_left
  · intro w hSw; go_simp; try (with_reducible rfl)
  try simp only [Act.put, List.setIfInBounds_toArray, List.set_cons_zero, List.set_cons_succ]
  refine wpAnyH_done (by kernel_rfl) ?_ _
  clear KK MM X5 K5 B5 HRES HAT OKG ok_len KB
  rcases look_cases hs m with ⟨c1, c2⟩ | ⟨k, h', c1, c2, c3, c4⟩
  rotate_left
  · obtain rfl : is = true := by rw [← HIS.out, c4]; rfl
    have HR := Lib.hid (show addE hs h = 170 by unfold addE; rw [HM.out, c1]; rfl)
    clear c1 c2 c3 c4
    go_wp2
    go_ret
    exact AddT.same 170 HR.out (by decide) E1.out E2.out HFE.out HGE.out hHeld.1 hHeld.2.1 hne hHeld.2.2.2.2
  obtain rfl : is = false := by rw [← HIS.out, c2]; rfl
  have C1 := Lib.hid c1
  have HNK := Lib.hid (not_known c1)
  have KK := Lib.hid hHeld.1
  have MM := Lib.hid hHeld.2.1
  have XX := Lib.hid hHeld.2.2.1
  have II := Lib.hid hHeld.2.2.2.1
  have FF := Lib.hid hHeld.2.2.2.2
  clear c1 c2 hHeld
  obtain ⟨pv, hpv⟩ : ∃ pv, h.prev = pv := ⟨_, rfl⟩
  have HPV := Lib.hid hpv
  have HPL := Lib.hid (show pv.length = 32 by rw [← hpv]; exact OK.out.1)
  obtain ⟨kl2, hkl⟩ := keyD pv HPL.out
  have HKL2 := Lib.hid hkl
  have HAT2 := Lib.hid (at_look hs pv)
  have HRES2 := Lib.hid (look_tup (look hs pv))
  have OKO := Lib.hid (look_ok HT.out pv)
  obtain ⟨on, hg⟩ : ∃ g, (look hs pv).getD zeroH = g := ⟨_, rfl⟩
  obtain ⟨is2, his⟩ : ∃ is, (look hs pv).isSome = is := ⟨_, rfl⟩
  have HIS2 := Lib.hid his
  have HON := Lib.hid hg
  rw [hg, his] at HRES2
  rw [hg] at OKO
  have ok_len2 := Lib.hid OKO.out.len
  clear hkl hg his hpv
  go_wp2
  refine wp_region_held_drew (S := (fun w' => Blk w' t (tkC b f0 g0) 82 ∧ MapIs Tryz.prog 24 w' b (pairs hs) ∧ Blk w' w.heap.size h.cells 41 ∧ Blk w' gi (m.map byt) 24 ∧ Fr (fun k => k = t ∨ k = b) w w')) (by kernel_rfl) ⟨KK.out.drew, MM.out.drew, XX.out.drew, II.out.drew, FF.out.drew⟩ (fun hHeld => ?_)
  refine wpAnyH_take (i := 0) (oi := ⟨_, _, _, _, _, _⟩) (v := ?_) rfl (by kernel_rfl) (by kernel_rfl) (by kernel_rfl) (fun _ _ _ h => h) (Or.inl ⟨by rfl, ?_⟩) (by assumption) ?_
  rotate_left
  · intro w hSw; go_simp; try (with_reducible rfl)
  try simp only [Act.put, List.setIfInBounds_toArray, List.set_cons_zero, List.set_cons_succ]
  refine wpAnyH_take (i := 1) (oi := ⟨_, _, _, _, _, _⟩) (v := ?_) rfl (by kernel_rfl) (by kernel_rfl) (by kernel_rfl) (fun _ _ _ h => h) (Or.inl ⟨by rfl, ?_⟩) (by assumption) ?_
  rotate_left
  · intro w hSw; go_simp; try (with_reducible rfl)
  try simp only [Act.put, List.setIfInBounds_toArray, List.set_cons_zero, List.set_cons_succ]
  refine wpAnyH_take (i := 2) (oi := ⟨_, _, _, _, _, _⟩) (v := ?_) rfl (by kernel_rfl) (by kernel_rfl) (by kernel_rfl) (fun _ _ _ h => h) (Or.inl ⟨by rfl, ?_⟩) (by assumption) ?_
  rotate_left
  · intro w hSw; go_simp; try (with_reducible rfl)
  try simp only [Act.put, List.setIfInBounds_toArray, List.set_cons_zero, List.set_cons_succ]
  refine wpAnyH_take (i := 3) (oi := ⟨_, _, _, _, _, _⟩) (v := .map (some b)) rfl (by kernel_rfl) (by kernel_rfl) (by kernel_rfl) (fun _ _ _ h => h) (Or.inl ⟨by rfl, fun w hSw => (by have c := hSw.1.cell (i := 0) rfl; go_simp; try (with_reducible rfl))⟩) (by assumption) ?_
  try simp only [Act.put, List.setIfInBounds_toArray, List.set_cons_zero, List.set_cons_succ]
  refine wpAnyH_take (i := 4) (oi := ⟨_, _, _, _, _, _⟩) (v := ?_) rfl (by kernel_rfl) (by kernel_rfl) (by kernel_rfl) (fun _ _ _ h => h) (Or.inl ⟨by rfl, ?_⟩) (by assumption) ?_
  rotate_left
  · intro w hSw; go_simp; try (with_reducible rfl)
  try simp only [Act.put, List.setIfInBounds_toArray, List.set_cons_zero, List.set_cons_succ]
  refine wpAnyH_take (i := 5) (oi := ⟨_, _, _, _, _, _⟩) rfl (by kernel_rfl) (by kernel_rfl) (by kernel_rfl) (fun _ _ _ h => h) (yieldsIf_load_mid (by rfl) _ _ rfl w.heap.size 0 rfl (pv.map byt) _ (fun _ h => HPV.out ▸ range_prev h.2.2.1) Tryz.underlying24 rfl (szD HPL.out)) (by assumption) ?_
  try simp only [Act.put, List.setIfInBounds_toArray, List.set_cons_zero, List.set_cons_succ]
  refine wpAnyH_take (i := 6) (oi := ⟨_, _, _, _, _, _⟩) rfl (by kernel_rfl) (by kernel_rfl) (by kernel_rfl) (fun _ _ _ h => h) (yieldsIf_look (by rfl) _ _ _ true rfl 41 keyed Tryz.underlying80 zeroV rfl (fun _ h => h.2.1) (dv pv) kl2 rfl HKL2.out _ HAT2.out (.tuple #[hv on, .bool is2]) HRES2.out) (by assumption) ?_
  try simp only [Act.put, List.setIfInBounds_toArray, List.set_cons_zero, List.set_cons_succ]
  refine wpAnyH_take (i := 7) (oi := ⟨_, _, _, _, _, _⟩) (v := ?_) rfl (by kernel_rfl) (by kernel_rfl) (by kernel_rfl) (fun _ _ _ h => h) (Or.inl ⟨by rfl, ?_⟩) (by assumption) ?_
  rotate_left
  · intro w hSw; go_simp; try (with_reducible rfl)
  try simp only [Act.put, List.setIfInBounds_toArray, List.set_cons_zero, List.set_cons_succ]
  refine wpAnyH_take (i := 8) (oi := ⟨_, _, _, _, _, _⟩) (v := ?_) rfl (by kernel_rfl) (by kernel_rfl) (by kernel_rfl) (fun _ _ _ h => h) (Or.inl ⟨by rfl, ?_⟩) (by assumption) ?_
  rotate_left
  · intro w hSw; go_simp; try (with_reducible rfl)
  try simp only [Act.put, List.setIfInBounds_toArray, List.set_cons_zero, List.set_cons_succ]
  refine wpAnyH_take (i := 9) (oi := ⟨_, _, _, _, _, _⟩) (v := ?_) rfl (by kernel_rfl) (by kernel_rfl) (by kernel_rfl) (fun _ _ _ h => h) (Or.inl ⟨by rfl, ?_⟩) (by assumption) ?_
  rotate_left
  · intro w hSw; go_simp; try (with_reducible rfl)
  try simp only [Act.put, List.setIfInBounds_toArray, List.set_cons_zero, List.set_cons_succ]
  refine wpAnyH_ready (rs := [10]) (by kernel_rfl) (by simp) ?_
  refine AllReadyH.cons (o := ⟨_, _, _, _, _, _⟩) rfl (fun K hK => ?_) AllReadyH.nil
  rw [if_pos (by rfl)]
  have lb0 := hHeld.1.lt
  have lb1 := hHeld.2.1.lt
  have lb2 := hHeld.2.2.1.lt
  have lb3 := hHeld.2.2.2.1.lt
  have sb := hHeld.2.2.2.2.size
  refine wp_alloc _ rfl _ (zeroV _) (fun wab ka ba za => ?_)
  refine hK.out _ _ (by exact ⟨hHeld.1.below ba, hHeld.2.1.below ba, hHeld.2.2.1.below ba, hHeld.2.2.2.1.below ba, fr_alloc hHeld.2.2.2.2 ba⟩) (fun hHeld => ?_)
  have KA := Lib.hid ka
  clear ka
  clear hK
  refine wpAnyH_ready (rs := [11]) (by kernel_rfl) (by simp) ?_
  refine AllReadyH.cons (o := ⟨_, _, _, _, _, _⟩) rfl (fun K hK => ?_) AllReadyH.nil
  rw [if_pos (by rfl)]
  refine wp_put _ _ _ rfl _ on.cells _ rfl rfl KA.out (szH OKO.out) (by rw [zeroH_len, ok_len2.out]) (Hd.one _) (fun wbb kb fb zb => ?_)
  refine hK.out _ _ (by exact ⟨hHeld.1.fr fb (by omega), hHeld.2.1.fr fb (by omega), hHeld.2.2.1.fr fb (by omega), hHeld.2.2.2.1.fr fb (by omega), fr_new hHeld.2.2.2.2 fb (by omega)⟩) (fun hHeld => ?_)
  have KB := Lib.hid kb
  clear kb KA
  clear hK
  refine wpAnyH_take (i := 12) (oi := ⟨_, _, _, _, _, _⟩) (v := ?_) rfl (by kernel_rfl) (by kernel_rfl) (by kernel_rfl) (fun _ _ _ h => h) (Or.inl ⟨by rfl, ?_⟩) (by assumption) ?_
  rotate_left
  · intro w hSw; go_simp; try (with_reducible rfl)
  try simp only [Act.put, List.setIfInBounds_toArray, List.set_cons_zero, List.set_cons_succ]
  refine wpAnyH_done (by kernel_rfl) ?_ _
  clear KK MM XX II FF HRES2 HAT2
  rcases look_cases hs pv with ⟨c1, c2⟩ | ⟨k, h', c1, c2, c3, c4⟩
  · obtain rfl : is2 = false := by rw [← HIS2.out, c2]; rfl
    have HR := Lib.hid (show addE hs h = 171 by unfold addE; rw [HM.out, C1.out, HPV.out, c1]; rfl)
    clear c1 c2
    go_wp2
    go_ret
    exact AddT.same 171 HR.out (by decide) E1.out E2.out HFE.out HGE.out hHeld.1 hHeld.2.1 hne hHeld.2.2.2.2
  obtain rfl : is2 = true := by rw [← HIS2.out, c4]; rfl
  obtain rfl : on = h' := by rw [← HON.out, c4]; rfl
  have HR0 := Lib.hid (show addE hs h = if h.height = 0 ∨ on.height + 1 ≠ h.height then 172 else 0 by unfold addE; rw [HM.out, C1.out, HPV.out]; simp [c1, c2])
  have OKO2 := Lib.hid OKO.out.2.2.1
  have OKH2 := Lib.hid OK.out.2.2.1
  have hno := OKO.out.2.2.1
  have hnh := OK.out.2.2.1
  clear c1 c2 c3 c4
  have HMAP := Lib.hid hHeld.2.1.drew
  have KK := Lib.hid hHeld.1
  have XX := Lib.hid hHeld.2.2.1
  have II := Lib.hid hHeld.2.2.2.1
  have FF := Lib.hid hHeld.2.2.2.2
  have MM := Lib.hid hHeld.2.1
  have d0 : wbb.cell? ⟨w.heap.size, 64, none⟩ = some (.int .u64 (h.height : Int)) := XX.out.cell (Hd.cell_height OK.out)
  have d1 := Lib.hid (KB.out.cell (Hd.cell_height OKO.out))
  generalize wba.drew.heap.size = g8 at *
  have d2 : wbb.cell? ⟨g8, 64, none⟩ = some (.int .u64 (on.height : Int)) := d1.out
  clear d1 KB hHeld
  by_cases hh0 : h.height = 0
  · have HR := Lib.hid (show addE hs h = 172 by rw [HR0.out, if_pos (.inl hh0)])
    have hb0 : ((h.height : Int) == 0) = true := by simp [hh0]
    have hb1 : ((h.height : Int) != 0) = false := by simp [hh0]
    clear hh0
    go_wp2
    go_ret
    exact AddT.same 172 HR.out (by decide) E1.out E2.out HFE.out HGE.out KK.out MM.out hne FF.out
  have hh1 : (1 : Int) ≤ (h.height : Int) := by omega
  have hb0 : ((h.height : Int) == 0) = false := by simp; omega
  by_cases hq : on.height + 1 = h.height
  rotate_left
  · have HR := Lib.hid (show addE hs h = 172 by rw [HR0.out, if_pos (.inr hq)])
    have hb1 : ((on.height : Int) != (h.height : Int) - 1) = true := by simp; omega
    clear hq
    go_wp2
    go_ret
    exact AddT.same 172 HR.out (by decide) E1.out E2.out HFE.out HGE.out KK.out MM.out hne FF.out
  have HR := Lib.hid (show addE hs h = 0 by rw [HR0.out, if_neg (by omega)])
  have hb1 : ((on.height : Int) != (h.height : Int) - 1) = false := by simp; omega
  clear hq hh0
  go_wp2
  refine wp_region_held_drew (S := (fun w' => Blk w' t (tkC b f0 g0) 82 ∧ Blk w' w.heap.size h.cells 41 ∧ Blk w' gi (m.map byt) 24 ∧ Fr (fun k => k = t ∨ k = b) w w')) (by kernel_rfl) ⟨KK.out.drew, XX.out.drew, II.out.drew, FF.out.drew⟩ (fun hHeld => ?_)
  refine wpAnyH_take (i := 0) (oi := ⟨_, _, _, _, _, _⟩) (v := ?_) rfl (by kernel_rfl) (by kernel_rfl) (by kernel_rfl) (fun _ _ _ h => h) (Or.inl ⟨by rfl, ?_⟩) (by assumption) ?_
  rotate_left
  · intro w hSw; go_simp; try (with_reducible rfl)
  try simp only [Act.put, List.setIfInBounds_toArray, List.set_cons_zero, List.set_cons_succ]
  refine wpAnyH_take (i := 1) (oi := ⟨_, _, _, _, _, _⟩) (v := ?_) rfl (by kernel_rfl) (by kernel_rfl) (by kernel_rfl) (fun _ _ _ h => h) (Or.inl ⟨by rfl, ?_⟩) (by assumption) ?_
  rotate_left
  · intro w hSw; go_simp; try (with_reducible rfl)
  try simp only [Act.put, List.setIfInBounds_toArray, List.set_cons_zero, List.set_cons_succ]
  refine wpAnyH_take (i := 2) (oi := ⟨_, _, _, _, _, _⟩) (v := ?_) rfl (by kernel_rfl) (by kernel_rfl) (by kernel_rfl) (fun _ _ _ h => h) (Or.inl ⟨by rfl, ?_⟩) (by assumption) ?_
  rotate_left
  · intro w hSw; go_simp; try (with_reducible rfl)
  try simp only [Act.put, List.setIfInBounds_toArray, List.set_cons_zero, List.set_cons_succ]
  refine wpAnyH_take (i := 3) (oi := ⟨_, _, _, _, _, _⟩) (v := .map (some b)) rfl (by kernel_rfl) (by kernel_rfl) (by kernel_rfl) (fun _ _ _ h => h) (Or.inl ⟨by rfl, fun w hSw => (by have c := hSw.1.cell (i := 0) rfl; go_simp; try (with_reducible rfl))⟩) (by assumption) ?_
  try simp only [Act.put, List.setIfInBounds_toArray, List.set_cons_zero, List.set_cons_succ]
  refine wpAnyH_take (i := 4) (oi := ⟨_, _, _, _, _, _⟩) rfl (by kernel_rfl) (by kernel_rfl) (by kernel_rfl) (fun _ _ _ h => h) (yieldsIf_load_mid (by rfl) _ _ rfl gi 0 rfl (m.map byt) _ (fun _ h => blk_range h.2.2.1) Tryz.underlying24 rfl (szD HML.out)) (by assumption) ?_
  try simp only [Act.put, List.setIfInBounds_toArray, List.set_cons_zero, List.set_cons_succ]
  refine wpAnyH_take (i := 5) (oi := ⟨_, _, _, _, _, _⟩) rfl (by kernel_rfl) (by kernel_rfl) (by kernel_rfl) (fun _ _ _ h => h) (yieldsIf_load_mid (by rfl) _ _ rfl w.heap.size 0 rfl h.cells _ (fun _ h => blk_range h.2.1) Tryz.underlying41 rfl (szH OK.out)) (by assumption) ?_
  try simp only [Act.put, List.setIfInBounds_toArray, List.set_cons_zero, List.set_cons_succ]
  refine wpAnyH_ready (rs := [6]) (by kernel_rfl) (by simp) ?_
  refine AllReadyH.cons (o := ⟨_, _, _, _, _, _⟩) rfl (fun K hK => ?_) AllReadyH.nil
  rw [if_pos (by rfl)]
  refine wp_lay _ _ _ _ (.inl rfl) 41 keyed Tryz.underlying80 rfl HMAP.out _ _ kl rfl rfl HKL.out HNK.out (fun w8 m2 f8 => ?_)
  refine hK.out _ _ (by exact ⟨hHeld.1.fr f8 (by omega), hHeld.2.1.fr f8 (by omega), hHeld.2.2.1.fr f8 (by omega), fr_b hHeld.2.2.2 f8⟩) (fun hHeld => ?_)
  have M2 := Lib.hid m2
  clear m2 f8
  clear hK
  refine wpAnyH_done (by kernel_rfl) ?_ _
  have KK2 := Lib.hid hHeld.1
  have XX2 := Lib.hid hHeld.2.1
  have II2 := Lib.hid hHeld.2.2.1
  have FF2 := Lib.hid hHeld.2.2.2
  clear hHeld KK XX II FF HMAP MM d0 d2
  obtain ⟨kl3, hkl⟩ := keyD g0 HG0.out
  have HKL3 := Lib.hid hkl
  have HAT3 := Lib.hid (show AtKey (pairs hs ++ [(dv m, hv h)]) (dv g0) (some (hv g0')) by
    rw [← HM.out, ← pairs_snoc, ← HGE.out]
    exact at_known (k := best hs) (by rw [List.getElem?_append_left (best_lt HT.out.ne)]; exact E2.out))
  have OKB := Lib.hid (HT.out.ok g0' (List.mem_of_getElem? E2.out))
  have hngb := OKB.out.2.2.1
  clear hkl
  go_wp2
  refine wp_region_held_drew (S := (fun w' => Blk w' t (tkC b f0 g0) 82 ∧ MapIs Tryz.prog 24 w' b (pairs hs ++ [(dv m, hv h)]) ∧ Blk w' w.heap.size h.cells 41 ∧ Blk w' gi (m.map byt) 24 ∧ Fr (fun k => k = t ∨ k = b) w w')) (by kernel_rfl) ⟨KK2.out.drew, M2.out.drew, XX2.out.drew, II2.out.drew, FF2.out.drew⟩ (fun hHeld => ?_)
  refine wpAnyH_take (i := 0) (oi := ⟨_, _, _, _, _, _⟩) (v := ?_) rfl (by kernel_rfl) (by kernel_rfl) (by kernel_rfl) (fun _ _ _ h => h) (Or.inl ⟨by rfl, ?_⟩) (by assumption) ?_
  rotate_left
  · intro w hSw; go_simp; try (with_reducible rfl)
  try simp only [Act.put, List.setIfInBounds_toArray, List.set_cons_zero, List.set_cons_succ]
  refine wpAnyH_take (i := 1) (oi := ⟨_, _, _, _, _, _⟩) (v := .int .u64 (h.height : Int)) rfl (by kernel_rfl) (by kernel_rfl) (by kernel_rfl) (fun _ _ _ h => h) (Or.inl ⟨by rfl, fun w hSw => (by have c := hSw.2.2.1.cell (Hd.cell_height OK.out); go_simp; try (with_reducible rfl))⟩) (by assumption) ?_
  try simp only [Act.put, List.setIfInBounds_toArray, List.set_cons_zero, List.set_cons_succ]
  refine wpAnyH_take (i := 2) (oi := ⟨_, _, _, _, _, _⟩) (v := ?_) rfl (by kernel_rfl) (by kernel_rfl) (by kernel_rfl) (fun _ _ _ h => h) (Or.inl ⟨by rfl, ?_⟩) (by assumption) ?_
  rotate_left
  · intro w hSw; go_simp; try (with_reducible rfl)
  try simp only [Act.put, List.setIfInBounds_toArray, List.set_cons_zero, List.set_cons_succ]
  refine wpAnyH_take (i := 3) (oi := ⟨_, _, _, _, _, _⟩) (v := ?_) rfl (by kernel_rfl) (by kernel_rfl) (by kernel_rfl) (fun _ _ _ h => h) (Or.inl ⟨by rfl, ?_⟩) (by assumption) ?_
  rotate_left
  · intro w hSw; go_simp; try (with_reducible rfl)
  try simp only [Act.put, List.setIfInBounds_toArray, List.set_cons_zero, List.set_cons_succ]
  refine wpAnyH_take (i := 4) (oi := ⟨_, _, _, _, _, _⟩) (v := ?_) rfl (by kernel_rfl) (by kernel_rfl) (by kernel_rfl) (fun _ _ _ h => h) (Or.inl ⟨by rfl, ?_⟩) (by assumption) ?_
  rotate_left
  · intro w hSw; go_simp; try (with_reducible rfl)
  try simp only [Act.put, List.setIfInBounds_toArray, List.set_cons_zero, List.set_cons_succ]
  refine wpAnyH_take (i := 5) (oi := ⟨_, _, _, _, _, _⟩) (v := .map (some b)) rfl (by kernel_rfl) (by kernel_rfl) (by kernel_rfl) (fun _ _ _ h => h) (Or.inl ⟨by rfl, fun w hSw => (by have c := hSw.1.cell (i := 0) rfl; go_simp; try (with_reducible rfl))⟩) (by assumption) ?_
  try simp only [Act.put, List.setIfInBounds_toArray, List.set_cons_zero, List.set_cons_succ]
  refine wpAnyH_take (i := 6) (oi := ⟨_, _, _, _, _, _⟩) (v := ?_) rfl (by kernel_rfl) (by kernel_rfl) (by kernel_rfl) (fun _ _ _ h => h) (Or.inl ⟨by rfl, ?_⟩) (by assumption) ?_
  rotate_left
  · intro w hSw; go_simp; try (with_reducible rfl)
  try simp only [Act.put, List.setIfInBounds_toArray, List.set_cons_zero, List.set_cons_succ]
  refine wpAnyH_take (i := 7) (oi := ⟨_, _, _, _, _, _⟩) (v := ?_) rfl (by kernel_rfl) (by kernel_rfl) (by kernel_rfl) (fun _ _ _ h => h) (Or.inl ⟨by rfl, ?_⟩) (by assumption) ?_
  rotate_left
  · intro w hSw; go_simp; try (with_reducible rfl)
  try simp only [Act.put, List.setIfInBounds_toArray, List.set_cons_zero, List.set_cons_succ]
  refine wpAnyH_take (i := 8) (oi := ⟨_, _, _, _, _, _⟩) (v := ?_) rfl (by kernel_rfl) (by kernel_rfl) (by kernel_rfl) (fun _ _ _ h => h) (Or.inl ⟨by rfl, ?_⟩) (by assumption) ?_
  rotate_left
  · intro w hSw; go_simp; try (with_reducible rfl)
  try simp only [Act.put, List.setIfInBounds_toArray, List.set_cons_zero, List.set_cons_succ]
  refine wpAnyH_take (i := 9) (oi := ⟨_, _, _, _, _, _⟩) rfl (by kernel_rfl) (by kernel_rfl) (by kernel_rfl) (fun _ _ _ h => h) (yieldsIf_load_mid (by rfl) _ _ rfl t 33 rfl (g0.map byt) _ (fun _ h => best_range HF0.out h.1) Tryz.underlying24 rfl (szD HG0.out)) (by assumption) ?_
  try simp only [Act.put, List.setIfInBounds_toArray, List.set_cons_zero, List.set_cons_succ]
  refine wpAnyH_take (i := 10) (oi := ⟨_, _, _, _, _, _⟩) rfl (by kernel_rfl) (by kernel_rfl) (by kernel_rfl) (fun _ _ _ h => h) (yieldsIf_look (by rfl) _ _ _ false rfl 41 keyed Tryz.underlying80 zeroV rfl (fun _ h => h.2.1) (dv g0) kl3 rfl HKL3.out _ HAT3.out (hv g0') rfl) (by assumption) ?_
  try simp only [Act.put, List.setIfInBounds_toArray, List.set_cons_zero, List.set_cons_succ]
  refine wpAnyH_take (i := 11) (oi := ⟨_, _, _, _, _, _⟩) rfl (by kernel_rfl) (by kernel_rfl) (by kernel_rfl) (fun _ _ _ h => h) (yieldsIf_run (by rfl) (.int .u64 (g0'.height : Int)) (fun _ _ => exec_field rfl rfl (run_field_height g0' OKB.out _))) (by assumption) ?_
  try simp only [Act.put, List.setIfInBounds_toArray, List.set_cons_zero, List.set_cons_succ]
  refine wpAnyH_take (i := 12) (oi := ⟨_, _, _, _, _, _⟩) (v := ?_) rfl (by kernel_rfl) (by kernel_rfl) (by kernel_rfl) (fun _ _ _ h => h) (Or.inl ⟨by rfl, ?_⟩) (by assumption) ?_
  rotate_left
  · intro w hSw; go_simp; try (with_reducible rfl)
  try simp only [Act.put, List.setIfInBounds_toArray, List.set_cons_zero, List.set_cons_succ]
  refine wpAnyH_done (by kernel_rfl) ?_ _
  have KK3 := Lib.hid hHeld.1
  have MM3 := Lib.hid hHeld.2.1
  have II3 := Lib.hid hHeld.2.2.2.1
  have FF3 := Lib.hid hHeld.2.2.2.2
  have e3 := Lib.hid (show (hs ++ [h])[0]? = some f0' by rw [List.getElem?_append_left HT.out.ne]; exact E1.out)
  have HAL := Lib.hid (show addL hs h = hs ++ [h] by unfold addL; rw [if_pos HR.out])
  have HHT := Lib.hid (show ht hs (best hs) = g0'.height by unfold ht; rw [E2.out]; rfl)
  clear hHeld KK2 XX2 II2 FF2 M2
  by_cases hgt : g0'.height < h.height
  · have hgtI : (g0'.height : Int) < (h.height : Int) := by omega
    have HBE := Lib.hid (show (hs ++ [h])[best (hs ++ [h])]? = some h by rw [best_snoc hs h HT.out.ne, if_pos (by rw [HHT.out]; exact hgt)]; simp)
    have HN33 := Lib.hid (show (Value.map (some b) :: f0.map byt).length = 33 by simp [HF0.out])
    have HN32 := Lib.hid (show (g0.map byt).length = (m.map byt).length by simp [HML.out, HG0.out])
    have KS := Lib.hid (show Blk _ t ((Value.map (some b) :: f0.map byt) ++ (g0.map byt ++ [])) 82 from by have := KK3.out; simpa [tkC] using this)
    go_wp2_with (first
      | (with_reducible refine wpList_load_blk rfl _ _ rfl gi (m.map byt) rfl II3.out _ Tryz.underlying24 rfl (szD HML.out) ?_)
      | (with_reducible refine wpList_putMid rfl _ _ _ rfl t (Value.map (some b) :: f0.map byt) (g0.map byt) [] (m.map byt) 33 HN33.out rfl rfl KS.out (szD HML.out) HN32.out (one_dig m) (fun wc kc fc zc => ?_); have KC := Lib.hid kc; have MC := Lib.hid (MM3.out.fr fc (Ne.symm hne)); have FC := Lib.hid (fr_t FF3.out fc); clear kc fc))
    go_ret
    refine ⟨by rw [HR.out]; rfl, ?_, FC.out⟩
    rw [HAL.out]
    refine ⟨f0', h, e3.out, HBE.out, ?_, by rw [pairs_snoc, HM.out]; exact MC.out, hne⟩
    rw [HFE.out, HM.out]
    have := KC.out
    simpa [tkC] using this
  · have hgtI : ¬ (g0'.height : Int) < (h.height : Int) := by omega
    have HBE := Lib.hid (show (hs ++ [h])[best (hs ++ [h])]? = some g0' by rw [best_snoc hs h HT.out.ne, if_neg (by rw [HHT.out]; exact hgt), List.getElem?_append_left (best_lt HT.out.ne)]; exact E2.out)
    go_wp2
    go_ret
    refine ⟨by rw [HR.out]; rfl, ?_, FF3.out⟩
    rw [HAL.out]
    exact ⟨f0', g0', e3.out, HBE.out, by rw [HFE.out, HGE.out]; exact KK3.out, by rw [pairs_snoc, HM.out]; exact MM3.out, hne⟩
end Go.Proofs.YtmenchnjajpkmaaGreatDoor.Tk
end

section
namespace Go.Proofs.YtmenchnjajpkmaaGreatDoor.Mh
open Go ShaW Mem Codec
def h5 : Hd := ⟨List.replicate 32 0, List.replicate 32 0, 5, 0⟩
def d5 : Dg := [46, 157, 23, 136, 147, 69, 242, 130, 86, 181, 228, 51, 92, 154, 107, 220, 189, 35, 53, 143, 65, 1, 97, 177, 218, 104, 224, 192, 11, 147, 232, 50]
theorem id5 : mainId h5 = d5 := by kernel_rfl
def h6 : Hd := ⟨d5, List.replicate 32 0, 6, 0⟩
def d6 : Dg := [147, 233, 65, 159, 132, 34, 234, 110, 202, 65, 30, 151, 61, 133, 75, 66, 156, 173, 216, 250, 148, 121, 234, 130, 28, 119, 25, 63, 40, 40, 239, 104]
theorem id6 : mainId h6 = d6 := by kernel_rfl
theorem ne56 : d5 ≠ d6 := by decide
theorem ok5 : h5.Ok := by simp [h5, Hd.Ok]
theorem ok6 : h6.Ok := by simp [h6, d5, Hd.Ok]
theorem add6 : addE [h5] h6 = 0 := by
  have e1 : find [h5] (mainId h6) = none := by
    rw [id6]
    have : (mainId h5 == d6) = false := by rw [id5]; decide
    simp [find, List.findIdx?, List.findIdx?.go, this]
  have e2 : find [h5] h6.prev = some 0 := by
    have : (mainId h5 == d5) = true := by rw [id5]; decide
    show find [h5] d5 = some 0
    simp [find, List.findIdx?, List.findIdx?.go, this]
  unfold addE
  rw [e1, e2]
  rfl
theorem trk5 : Trk [h5] := Trk.one ok5
theorem addL6 : addL [h5] h6 = [h5, h6] := by unfold addL; rw [if_pos add6]; rfl
theorem trk56 : Trk [h5, h6] := by rw [← addL6]; exact trk5.add ok6
theorem again6 : addE [h5, h6] h6 = 170 := by
  have e1 : find [h5, h6] (mainId h6) = some 1 := trk56.find (k := 1) (g := h6) rfl
  unfold addE
  rw [e1]
  rfl
theorem addL66 : addL [h5, h6] h6 = [h5, h6] := by unfold addL; rw [if_neg (by rw [again6]; decide)]
theorem best56 : best [h5, h6] = 1 := by decide
theorem depth56 : depth [h5, h6] d5 d6 = some 1 := by
  have h1 := trk56.depth_eq d5 (k := 1) (h := h6) rfl
  have h2 := trk56.depth_eq d5 (k := 0) (h := h5) rfl
  rw [id6, if_neg (Ne.symm ne56), if_neg (by decide)] at h1
  rw [id5, if_pos rfl] at h2
  rw [h1]
  show (depth [h5, h6] d5 d5).map _ = _
  rw [h2]
  rfl
end Go.Proofs.YtmenchnjajpkmaaGreatDoor.Mh
end
