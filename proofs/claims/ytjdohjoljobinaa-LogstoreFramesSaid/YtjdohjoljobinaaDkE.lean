/- The walk of the disk's Sync. Conditions: a name is a text; at most 2^46 bytes; fewer than 2^62 steps. -/
import Derived.Test.YtjdohjoljobinaaDkD
namespace Go.Proofs.Ytjdohjoljobinaa.Dk
open Go Go.RowKit Mem Maps Ops Reps
open Go.Maps (Keyed string_keyed)
set_option linter.unusedVariables false
set_option linter.unusedSimpArgs false

set_option maxRecDepth 100000 in
theorem structFile : Arr.StructT Try.prog 94 [1, 1] := ⟨_, _, _, rfl, Try.underlying94, rfl, by kernel_rfl, by kernel_rfl⟩
set_option maxHeartbeats 4000000 in
theorem fine_calls (w : World) (v : Value) (last : Nat) : Calls Try.prog 78 #[fileV v last] w fun e w' => e = .returned (.int .i64 0) ∧ Below w.heap.size w w' := by
  unfold fileV
  go_enter Try.func78, Try.ntmps78
  go_upto_region 1 with ((with_reducible refine wpList_box rfl _ _ rfl [v, .int .i64 (last : Int)] rfl (fun w1 k1 b1 z1 => ?_)); have B1 := Lib.hid b1; clear k1 b1)
  go_wp2
  go_ret
  exact ⟨rfl, B1.out⟩
set_option maxHeartbeats 4000000 in
set_option maxRecDepth 100000 in
theorem sync1_calls (w : World) (q b g2 g3 : Nat) (d : Disk) (n : Nm) (v : Value) (bs : List UInt8) (last : Nat) (H0 : DkIs w q b d) (hn : n.length ≤ maxLen) (hv : Byt (fun k => k ≠ q ∧ k ≠ b) w v bs) (hu : usedF d.fs ≤ 2305843009213693952) (hl : bs.length ≤ 2305843009213693952)
    (k2 : Blk w g2 [.pointer (some ⟨q, 0, none⟩)] 27) (k3 : Blk w g3 [nmV n] 9) :
    Calls Try.prog 79 #[fileV v last, .pointer (some ⟨g2, 0, none⟩), .pointer (some ⟨g3, 0, none⟩)] w fun e w' => e = .returned (.tuple #[]) ∧ DkIs w' q b { d with fs := putF d.fs (n, bs, bs.length) } ∧ Fr (fun k => k = q ∨ k = b) w w' := by
  obtain ⟨va, vc, rfl, _⟩ := id hv
  have H := Lib.hid H0
  have HV := Lib.hid hv
  have K2 := Lib.hid k2
  have K3 := Lib.hid k3
  clear H0 hv k2 k3
  unfold fileV
  go_enter Try.func79, Try.ntmps79
  go_upto_region 1 with ((with_reducible refine wpList_box rfl _ _ rfl [.slice va bs.length vc, .int .i64 (last : Int)] rfl (fun w1 k1 b1 z1 => ?_)); have K1 := Lib.hid k1; have B1 := Lib.hid b1; clear k1 b1)
  have c0 := K1.out.cell (i := 0) rfl
  have c2 := (K2.out.below B1.out).cell (i := 0) rfl
  have c3 := (K3.out.below B1.out).cell (i := 0) rfl
  unfold nmV at c3
  have HH1 := Lib.hid (H.out.below B1.out)
  have HV1 := Lib.hid (HV.out.below B1.out)
  have hlay := lay_calls w1 q b d n (.slice va bs.length vc) bs bs.length HH1.out hn HV1.out hu hl
  unfold nmV fileV at hlay
  have HLY := Lib.hid hlay
  have F1 := Lib.hid (show Fr (fun k => k = q ∨ k = b) w w1 from Fr.ofBelowAll B1.out (Nat.le_refl _))
  clear hlay
  go_wp2_with fail
  refine HLY.out.mono ?_
  rintro e wg ⟨rfl, d1, f1⟩
  have D1 := Lib.hid d1
  have FG := Lib.hid (F1.out.trans f1)
  clear d1 f1
  go_wp2
  go_end0
  exact ⟨rfl, D1.out, FG.out⟩
def syncD (d : Disk) (n : Nm) : Disk × Int :=
  if d.dead = true then (d, 144) else match lookF d.fs n with
    | none => (d, 142)
    | some (bs, _) => if (stepD d).2 = true then ((stepD d).1, 144) else ({ (stepD d).1 with fs := putF d.fs (n, bs, bs.length) }, 0)
set_option maxHeartbeats 8000000 in
set_option maxRecDepth 100000 in
theorem sync_do (w : World) (q b g2 g3 : Nat) (d : Disk) (n : Nm) (H0 : DkIs w q b d) (hn : n.length ≤ maxLen) (hu : usedF d.fs ≤ 70368744177664)
    (h1 : 0 ≤ d.steps ∧ d.steps < 4611686018427387904) (h2 : -1 ≤ d.left) (h3 : d.left ≤ 9223372036854775807)
    (k2 : Blk w g2 [.pointer (some ⟨q, 0, none⟩)] 27) (k3 : Blk w g3 [nmV n] 9) (hg : g2 ≠ q ∧ g2 ≠ b ∧ g3 ≠ q ∧ g3 ≠ b) :
    Calls Try.prog 77 #[.pointer (some ⟨q, 0, none⟩), nmV n, .func (.func 78) #[] #[], .func (.func 79) #[] #[.pointer (some ⟨g2, 0, none⟩), .pointer (some ⟨g3, 0, none⟩)]] w fun e w' => e = .returned (.int .i64 (syncD d n).2) ∧ DkIs w' q b (syncD d n).1 ∧ Fr (fun k => k = q ∨ k = b) w w' := by
  obtain ⟨kl, hkl⟩ := key_str n hn
  have HKL := Lib.hid hkl
  have H := Lib.hid H0
  have K2 := Lib.hid k2
  have K3 := Lib.hid k3
  obtain ⟨l, m1, fi⟩ := H0.m
  have M1 := Lib.hid m1
  obtain ⟨r, ov, olast, hr, hrv, hx1, hob, hx2, hx3⟩ := look_file n fi
  obtain ⟨oa, oc, rfl, _⟩ := id hob
  have c2 := H0.k.cell (i := 2) rfl
  have c5 := H0.k.cell (i := 5) rfl
  have hlt := H0.lt
  have HR := Lib.hid hr
  have hlf := lenF_bytes d.fs n
  have hlu := len_used d.fs n
  obtain ⟨os, hos⟩ : ∃ x, bytesF d.fs n = x := ⟨_, rfl⟩
  have HOS := Lib.hid hos
  have hos2 : ((lookF d.fs n).map (·.1)).getD [] = os := hos
  rw [hos2] at hob hrv
  have hol : os.length ≤ 70368744177664 := by rw [← hos, ← hlf]; omega
  obtain ⟨is, his⟩ : ∃ x, (lookF d.fs n).isSome = x := ⟨_, rfl⟩
  have HIS := Lib.hid his
  have HRV := Lib.hid (show (if true = true then Value.tuple #[r.getD (.agg #[.slice none 0 0, .int .i64 0]), .bool r.isSome] else r.getD (.agg #[.slice none 0 0, .int .i64 0])) = .tuple #[.agg [Value.slice oa os.length oc, .int .i64 (olast : Int)].toArray, .bool is] from by rw [if_pos rfl, hrv, hx1, his]; rfl)
  have HOB := Lib.hid hob
  have HSZ : Hid (∀ v : Value, (Try.prog.info? 94).map (·.size) = some [v, .int .i64 (olast : Int)].length) := Lib.hid (fun _ => by kernel_rfl)
  have HON := Lib.hid (show ∀ v ∈ [Value.slice oa os.length oc, .int .i64 (olast : Int)], v.oneCell' = true from fun v hv => by
    rcases List.mem_cons.1 hv with rfl | hv
    · rfl
    · rw [List.mem_singleton.1 hv]; rfl)
  clear hkl m1 fi hr hrv hx1 hob hx2 hx3 hos hos2 hlf hlu his H0 k2 k3
  unfold nmV
  go_enter Try.func77, Try.ntmps77
  go_upto_region 2 with (first
    | ((with_reducible refine wpList_look rfl _ _ 89 true rfl 94 keyedS Try.underlying89 (zeroFile _) rfl M1.out (nmV n) kl rfl HKL.out r HR.out ?_); rw [HRV.out])
    | ((with_reducible refine wpList_alloc rfl _ rfl _ (zeroFile _) (fun wa ka ca za => ?_)); have KA := Lib.hid ka; have CA := Lib.hid ca; clear ka ca)
    | ((with_reducible refine wpList_put rfl _ _ _ rfl w.heap.size [Value.slice oa os.length oc, .int .i64 (olast : Int)] _ rfl rfl KA.out (HSZ.out _) rfl HON.out (fun wb kb fb zb => ?_)); have KB := Lib.hid kb; have CB := Lib.hid (show Below w.heap.size w wb from CA.out.trans (fb.below CA.out.size (fun k hk => by have hk : k = w.heap.size := hk; omega))); clear kb fb))
  have HB := Lib.hid (H.out.below CB.out)
  have OB := Lib.hid (HOB.out.below CB.out)
  have FB := Lib.hid (show Fr (fun k => k = q ∨ k = b) w wb from Fr.ofBelowAll CB.out (Nat.le_refl _))
  have K2B := Lib.hid (K2.out.below CB.out)
  have K3B := Lib.hid (K3.out.below CB.out)
  have hsb := CB.out.size
  clear KA CA za zb c2 c5 H HOB K2 K3 HR HRV M1
  have c5 := HB.out.k.cell (i := 5) rfl
  try simp only [Act.put, List.setIfInBounds_toArray, List.set_cons_zero, List.set_cons_succ]
  by_cases hd : d.dead = true
  · have HX := Lib.hid (show syncD d n = (d, 144) from if_pos hd)
    rw [hd] at c5
    go_wp2
    go_ret
    exact ⟨by rw [HX.out]; rfl, by rw [HX.out]; exact HB.out, FB.out⟩
  have hdf : d.dead = false := by simpa using hd
  rw [hdf] at c5
  rcases is with _ | _
  · have HX := Lib.hid (show syncD d n = (d, 142) from by
      unfold syncD
      rw [if_neg hd]
      have := HIS.out
      cases hlk : lookF d.fs n with
      | none => rfl
      | some x => rw [hlk] at this; cases this)
    go_wp2
    go_ret
    exact ⟨by rw [HX.out]; rfl, by rw [HX.out]; exact HB.out, FB.out⟩
  have HX := Lib.hid (show syncD d n = if (stepD d).2 = true then ((stepD d).1, 144) else ({ (stepD d).1 with fs := putF d.fs (n, os, os.length) }, 0) from by
    unfold syncD
    rw [if_neg hd]
    have h1 := HIS.out
    have h2 := HOS.out
    unfold bytesF at h2
    cases hlk : lookF d.fs n with
    | none => rw [hlk] at h1; cases h1
    | some x => rw [hlk] at h2; obtain ⟨x1, x2⟩ := x; simp only [Option.map_some, Option.getD_some] at h2; subst h2; rfl)
  go_wp2_with (first
    | (with_reducible refine wpList_load_blk rfl _ _ rfl w.heap.size [Value.slice oa os.length oc, .int .i64 (olast : Int)] rfl KB.out _ Try.underlying94 rfl (HSZ.out _) ?_))
  have hfine := fine_calls wb (.slice oa os.length oc) olast
  unfold fileV at hfine
  refine hfine.mono ?_
  rintro e wc ⟨rfl, g1⟩
  have HC := Lib.hid (HB.out.below g1)
  have KC := Lib.hid (KB.out.below g1)
  have OC := Lib.hid (OB.out.below g1)
  have K2C := Lib.hid (K2B.out.below g1)
  have K3C := Lib.hid (K3B.out.below g1)
  have FC := Lib.hid (FB.out.trans (show Fr (fun k => k = q ∨ k = b) wb wc from Fr.ofBelowAll g1 (Nat.le_refl _)))
  have hwq : ¬ w.heap.size = q := by omega
  have hwb : ¬ w.heap.size = b := by omega
  clear g1 hfine HB KB OB K2B K3B FB c5 CB
  go_wp2_with fail
  refine (step_calls wc q b d HC.out h1 h2 h3).mono ?_
  rintro e wd ⟨rfl, d1, f1⟩
  have DD := Lib.hid d1
  have KD := Lib.hid (KC.out.fr f1 (fun e => hwq e))
  have OD := Lib.hid (OC.out.fr f1 (fun k _ h e => h.1 e))
  have K2D := Lib.hid (K2C.out.fr f1 (fun e => hg.1 e))
  have K3D := Lib.hid (K3C.out.fr f1 (fun e => hg.2.2.1 e))
  have FD := Lib.hid (FC.out.trans (f1.mono (fun k _ h => .inl h)))
  have hfs : (stepD d).1.fs = d.fs := by unfold stepD; split; rfl; split <;> rfl
  obtain ⟨⟨ds, sb⟩, hs⟩ : ∃ x, stepD d = x := ⟨_, rfl⟩
  rw [hs] at DD HX hfs ⊢
  dsimp only at DD HX hfs ⊢
  have HFS := Lib.hid hfs
  clear d1 f1 hs HC KC OC K2C K3C FC hfs
  rcases sb with _ | _
  · go_wp2_with (first
      | (with_reducible refine wpList_load_blk rfl _ _ rfl w.heap.size [Value.slice oa os.length oc, .int .i64 (olast : Int)] rfl KD.out _ Try.underlying94 rfl (HSZ.out _) ?_))
    have hdone := sync1_calls wd q b g2 g3 ds n (.slice oa os.length oc) os olast DD.out hn OD.out (by rw [HFS.out]; omega) (by omega) K2D.out K3D.out
    unfold fileV at hdone
    refine hdone.mono ?_
    rintro e we ⟨rfl, d2, f2⟩
    have DE := Lib.hid d2
    have FE := Lib.hid (FD.out.trans f2)
    clear d2 f2 hdone
    go_wp2
    go_ret
    exact ⟨by rw [HX.out]; rfl, by rw [HX.out]; have := DE.out; rw [HFS.out] at this; exact this, FE.out⟩
  · go_wp2
    go_ret
    exact ⟨by rw [HX.out]; rfl, by rw [HX.out]; exact DD.out, FD.out⟩
set_option maxHeartbeats 8000000 in
set_option maxRecDepth 100000 in
theorem sync_calls (w : World) (q b : Nat) (d : Disk) (n : Nm) (H0 : DkIs w q b d) (hn : n.length ≤ maxLen) (hu : usedF d.fs ≤ 70368744177664)
    (h1 : 0 ≤ d.steps ∧ d.steps < 4611686018427387904) (h2 : -1 ≤ d.left) (h3 : d.left ≤ 9223372036854775807) :
    Calls Try.prog 50 #[.pointer (some ⟨q, 0, none⟩), nmV n] w fun e w' => e = .returned (.int .i64 (syncD d n).2) ∧ DkIs w' q b (syncD d n).1 ∧ Fr (fun k => k = q ∨ k = b) w w' := by
  have H := Lib.hid H0
  have hlt := H0.lt
  clear H0
  unfold nmV
  go_enter Try.func50, Try.ntmps50
  go_upto_region 1 with fail
  obtain ⟨w1, hw1⟩ : ∃ x, w.alloc (.cells #[.pointer (some ⟨q, 0, none⟩)] 27) = x := ⟨_, rfl⟩
  have K1 := Lib.hid (show Blk w1 w.heap.size [.pointer (some ⟨q, 0, none⟩)] 27 from by rw [← hw1]; exact Blk.new w _ _ _ rfl)
  have B1 := Lib.hid (show Below w.heap.size w w1 from by rw [← hw1]; exact below_alloc _ _)
  have z1 : w.heap.size + 1 = w1.heap.size := by rw [← hw1]; simp
  rw [hw1]
  clear hw1
  obtain ⟨w2, hw2⟩ : ∃ x, w1.alloc (.cells #[nmV n] 9) = x := ⟨_, rfl⟩
  have K2 := Lib.hid (show Blk w2 w1.heap.size [nmV n] 9 from by rw [← hw2]; exact Blk.new w1 _ _ _ rfl)
  have B2 := Lib.hid (show Below w1.heap.size w1 w2 from by rw [← hw2]; exact below_alloc _ _)
  have hw2' : w1.alloc (.cells #[.string ⟨n.toArray⟩] 9) = w2 := hw2
  rw [hw2', z1]
  clear hw2 hw2'
  have K1' := Lib.hid (K1.out.below B2.out)
  have H2 := Lib.hid ((H.out.below B1.out).below B2.out)
  have F2 := Lib.hid (show Fr (fun k => k = q ∨ k = b) w w2 from (Fr.ofBelowAll B1.out (Nat.le_refl _)).trans (Fr.ofBelowAll B2.out (Nat.le_refl _)))
  have c1 := K1'.out.cell (i := 0) rfl
  have c2 := show w2.cell? ⟨w1.heap.size, 0, none⟩ = some (.string ⟨n.toArray⟩) from K2.out.cell (i := 0) rfl
  have hdo := sync_do w2 q b w.heap.size w1.heap.size d n H2.out hn hu h1 h2 h3 K1'.out K2.out ⟨by omega, by omega, by omega, by omega⟩
  unfold nmV at hdo
  have HDO := Lib.hid hdo
  clear hdo K1 B1 B2 H
  go_wp2_with fail
  refine HDO.out.mono ?_
  rintro e we ⟨rfl, d2, f2⟩
  have DE := Lib.hid d2
  have FE := Lib.hid (F2.out.trans f2)
  clear d2 f2
  go_wp2
  go_ret
  exact ⟨rfl, DE.out, FE.out⟩
end Go.Proofs.Ytjdohjoljobinaa.Dk
