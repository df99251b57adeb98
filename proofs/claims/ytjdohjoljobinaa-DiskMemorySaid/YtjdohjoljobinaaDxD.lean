/- The walk of the disk's Append. Conditions: a name is a text; together at most 2^47 bytes; fewer than 2^62 steps. -/
import Derived.Test.YtjdohjoljobinaaDxC
import Derived.Test.YtjdohjoljobinaaConcat
namespace Go.Proofs.Ytjdohjoljobinaa.Dx
open Go Go.RowKit Mem Maps Ops Reps
open Go.Maps (Keyed string_keyed)
set_option linter.unusedVariables false
set_option linter.unusedSimpArgs false

section
variable {P : Program} {w : World} {ops : Array Oper} {rest : List Oper} {o : Oper} {a : Act} {K : Act → World → Prop} {Q : Exit → Act → World → Prop}
theorem wpList_bld2 (hgd : o.guard = none) {t e : TypeId} {z : Value} {bytes : Nat} (T : ElemT P t e z 1 bytes) (x y : Operand) (ho : o.op = .buildSlice t 2 #[(0, x), (1, y)]) (v u : Value) (hx : a.eval x = v) (hy : a.eval y = u) (hs : v.oneCell' = true) (hs2 : u.oneCell' = true)
    (h : ∀ w', Blk w' w.heap.size [v, u] e → Below w.heap.size w w' → w.heap.size + 1 = w'.heap.size → wpList P ops Q rest (a.put o.dst (.slice (some ⟨w.heap.size, 0, none⟩) 2 2)) w') : wpList P ops Q (o :: rest) a w := by
  refine wpList_plain hgd fun K hK => ?_
  have hc : v.cells = #[v] := by cases v <;> first | rfl | cases hs
  have hc2 : u.cells = #[u] := by cases u <;> first | rfl | cases hs2
  have hr := Arr.run_buildSlice T [v, u] (by simp [hc, hc2]) (by simp) (by simp) w
  simp [hc, hc2] at hr
  unfold Oper.wp
  simp [execOp, ho, hx, hy, hr, Result.andThen]
  exact hK _ _ (h _ (Blk.new w _ _ _ rfl) (below_alloc _ _) (by simp))
end
theorem byts_blk2 {w : World} {g : Nat} {v u : Value} {l m : List UInt8} {e : TypeId} (h : Blk w g [v, u] e) (hv : Byt Any w v l) (hu : Byt Any w u m) : Byts w (.slice (some ⟨g, 0, none⟩) 2 2) [l, m] := by
  refine ⟨_, 2, rfl, ⟨by simp, by unfold maxLen; omega, fun h => by cases h⟩, .inr ⟨g, 0, rfl, fun i hi => ?_⟩⟩
  match i, hi with
  | 0, _ => exact ⟨v, h.cell (i := 0) rfl, hv⟩
  | 1, _ => exact ⟨u, h.cell (i := 1) rfl, hu⟩
  | i + 2, h => simp at h; omega
set_option maxRecDepth 100000 in
theorem elemBB : ElemT Try.prog 131 23 (.slice none 0 0) 1 24 := ⟨Try.underlying131, ⟨_, rfl, by kernel_rfl, by kernel_rfl, by kernel_rfl⟩, by simp [Value.cells], by decide⟩
def lastF (fs : List XF) (n : Nm) : Nat := ((lookF fs n).map (·.2)).getD 0
def laidD (d : Disk) (n : Nm) (bs : List UInt8) : Disk := { d with fs := putF d.fs (n, bytesF d.fs n ++ bs, lastF d.fs n) }
def appendD (d : Disk) (n : Nm) (bs : List UInt8) : Disk × Int :=
  if d.dead = true then (d, 144) else if okName n = false then (d, 140) else if freeD d < (bs.length : Int) then (d, 141)
  else ((stepD (laidD d n bs)).1, if (stepD (laidD d n bs)).2 = true then 144 else 0)
theorem lenF_bytes (fs : List XF) (n : Nm) : lenF fs n = (bytesF fs n).length := by
  unfold lenF bytesF
  cases lookF fs n <;> rfl

set_option maxHeartbeats 8000000 in
set_option maxRecDepth 100000 in
theorem append_calls (w : World) (q b : Nat) (d : Disk) (n : Nm) (v : Value) (bs : List UInt8) {D : Nat → Prop} (H0 : DkIs D w q b d) (hn : n.length ≤ maxLen) (hv : Byt Any w v bs) (hu : usedF d.fs + bs.length ≤ 140737488355328)
    (hr1 : 0 ≤ d.room) (hr2 : d.room ≤ 9223372036854775807) (h1 : 0 ≤ d.steps ∧ d.steps < 4611686018427387904) (h2 : -1 ≤ d.left) (h3 : d.left ≤ 9223372036854775807) :
    Calls Try.prog 14 #[.pointer (some ⟨q, 0, none⟩), nmV n, v] w fun e w' => e = .returned (.int .i64 (appendD d n bs).2) ∧ DkIs D w' q b (appendD d n bs).1 ∧ Fr (fun k => k = q ∨ k = b) w w' := by
  obtain ⟨va, vc, rfl, _⟩ := id hv
  have H := Lib.hid H0
  have HV := Lib.hid hv
  have hlt := H0.lt
  have hne := H0.ne
  have c5 := H0.k.cell (i := 5) rfl
  clear hv H0
  go_enter Try.func14, Try.ntmps14
  by_cases hd : d.dead = true
  · have HX := Lib.hid (show appendD d n bs = (d, 144) from if_pos hd)
    rw [hd] at c5
    go_wp2
    go_ret
    exact ⟨by rw [HX.out]; rfl, by rw [HX.out]; exact H.out, Fr.refl _ _⟩
  have hdf : d.dead = false := by simpa using hd
  rw [hdf] at c5
  go_wp2_with fail
  refine (named_calls w n hn).mono ?_
  rintro e w0 ⟨rfl, rfl⟩
  obtain ⟨ok, hok⟩ : ∃ x, okName n = x := ⟨_, rfl⟩
  have HOK := Lib.hid hok
  rw [hok]
  clear hok c5
  rcases ok with _ | _
  · have HX := Lib.hid (show appendD d n bs = (d, 140) from by unfold appendD; rw [if_neg hd, if_pos HOK.out])
    go_wp2
    go_ret
    exact ⟨by rw [HX.out]; rfl, by rw [HX.out]; exact H.out, Fr.refl _ _⟩
  have hfr1 : -9223372036854775808 ≤ freeD d := by unfold freeD; omega
  have hfr2 : freeD d ≤ 9223372036854775807 := by unfold freeD; omega
  go_wp2_with fail
  refine (free_calls w q b d H.out hfr1 hfr2).mono ?_
  rintro e w1 ⟨rfl, g1⟩
  have H1 := Lib.hid (H.out.below g1)
  have V1 := Lib.hid (HV.out.below g1)
  have F1 := Lib.hid (show Fr (fun k => k = q ∨ k = b) w w1 from Fr.ofBelowAll g1 (Nat.le_refl _))
  have hs1 := g1.size
  obtain ⟨fr, hfr⟩ : ∃ x, freeD d = x := ⟨_, rfl⟩
  have HFR := Lib.hid hfr
  rw [hfr]
  clear g1 hfr hfr1 hfr2 H HV
  by_cases hx : fr < (bs.length : Int)
  · have HX := Lib.hid (show appendD d n bs = (d, 141) from by unfold appendD; rw [if_neg hd, if_neg (by rw [HOK.out]; decide), if_pos (by rw [HFR.out]; exact hx)])
    go_wp2
    go_ret
    exact ⟨by rw [HX.out]; rfl, by rw [HX.out]; exact H1.out, F1.out⟩
  have HX := Lib.hid (show appendD d n bs = ((stepD (laidD d n bs)).1, if (stepD (laidD d n bs)).2 = true then 144 else 0) from by unfold appendD; rw [if_neg hd, if_neg (by rw [HOK.out]; decide), if_neg (by rw [HFR.out]; exact hx)])
  obtain ⟨kl, hkl⟩ := key_str n hn
  have HKL := Lib.hid hkl
  obtain ⟨l, m1, fi⟩ := H1.out.m
  have M1 := Lib.hid m1
  obtain ⟨r, ov, olast, hr, hrv, hx1, hob, hx2, hx3⟩ := look_file n fi
  obtain ⟨oa, oc, rfl, _⟩ := id hob
  have c2 := H1.out.k.cell (i := 2) rfl
  have HR := Lib.hid hr
  have hlf := lenF_bytes d.fs n
  have hlu := len_used d.fs n
  obtain ⟨os, hos⟩ : ∃ x, bytesF d.fs n = x := ⟨_, rfl⟩
  have HOS := Lib.hid hos
  have hos2 : ((lookF d.fs n).map (·.1)).getD [] = os := hos
  rw [hos2] at hob hrv
  have hol : os.length + bs.length ≤ 140737488355328 := by rw [← hos, ← hlf]; omega
  have HOL := Lib.hid (show lastF d.fs n = olast from hx2.symm)
  have HRV := Lib.hid (show r.getD (.agg #[.slice none 0 0, .int .i64 0]) = .agg [Value.slice oa os.length oc, .int .i64 (olast : Int)].toArray from hrv)
  have HOB := Lib.hid hob
  have HSZ : Hid (∀ v : Value, (Try.prog.info? 94).map (·.size) = some [v, .int .i64 (olast : Int)].length) := Lib.hid (fun _ => by kernel_rfl)
  have HON := Lib.hid (show ∀ v ∈ [Value.slice oa os.length oc, .int .i64 (olast : Int)], v.oneCell' = true from fun v hv => by
    rcases List.mem_cons.1 hv with rfl | hv
    · rfl
    · rw [List.mem_singleton.1 hv]; rfl)
  clear hkl m1 fi hr hrv hx1 hob hx2 hx3 hos hos2 hlf hlu
  unfold nmV
  go_upto_region 8 with (first
    | ((with_reducible refine wpList_look rfl _ _ 89 false rfl 94 keyedS Try.underlying89 (zeroFile _) rfl M1.out (nmV n) kl rfl HKL.out r HR.out ?_); rw [if_neg (by decide), HRV.out])
    | ((with_reducible refine wpList_alloc rfl _ rfl _ (zeroFile _) (fun wa ka ca za => ?_)); have KA := Lib.hid ka; have CA := Lib.hid ca; clear ka ca)
    | ((with_reducible refine wpList_put rfl _ _ _ rfl w1.heap.size [Value.slice oa os.length oc, .int .i64 (olast : Int)] _ rfl rfl KA.out (HSZ.out _) rfl HON.out (fun wb kb fb zb => ?_)); have KB := Lib.hid kb; have CB := Lib.hid (show Below w1.heap.size w1 wb from CA.out.trans (fb.below CA.out.size (fun k hk => by have hk : k = w1.heap.size := hk; omega))); clear kb fb))
  have c0 := KB.out.cell (i := 0) rfl
  have OB1 := Lib.hid (HOB.out.any.below CB.out)
  have VB1 := Lib.hid (V1.out.below CB.out)
  have hsb := CB.out.size
  clear KA CA za zb c2
  try simp only [Act.put, List.setIfInBounds_toArray, List.set_cons_zero, List.set_cons_succ]
  go_wp2_with (with_reducible refine wpList_bld2 rfl elemBB _ _ rfl (.slice oa os.length oc) (.slice va bs.length vc) (by with_unfolding_all rfl) (by with_unfolding_all rfl) rfl rfl (fun wc kc bc zc => ?_); have KC := Lib.hid kc; have BC := Lib.hid bc; clear kc bc)
  have OC := Lib.hid (byts_blk2 KC.out (OB1.out.below BC.out) (VB1.out.below BC.out))
  have KB2 := Lib.hid (KB.out.below BC.out)
  have CC := Lib.hid (CB.out.trans (BC.out.mono hsb))
  have hg7 : w1.heap.size < wc.heap.size := KB2.out.lt
  have hsc := CC.out.size
  clear KC BC OB1 VB1 KB CB zc
  refine (Cat.concat_calls wc _ [os, bs] OC.out (by simp; omega) (by simp)).mono ?_
  rintro e we ⟨nv, rfl, g1, g2⟩
  obtain ⟨m, hm⟩ : ∃ x, os ++ bs = x := ⟨_, rfl⟩
  have hm2 : [os, bs].flatten = m := by rw [← hm]; simp
  have HM := Lib.hid hm
  have hml : m.length ≤ 140737488355328 := by rw [← hm]; simp; omega
  rw [hm2] at g1
  obtain ⟨na, nc, rfl, _⟩ := id g1.byt
  have NB := Lib.hid (show Byt (fun k => wc.heap.size ≤ k) we (.slice na m.length nc) m from g1.byt.mono (fun k _ h => h.2))
  have KE := Lib.hid (KB2.out.below g2)
  have CE := Lib.hid (CC.out.trans (g2.mono hsc))
  have hse := CE.out.size
  clear g1 g2 hm hm2 OC KB2 CC
  go_upto_region 9 with (with_reducible refine wpList_setc rfl _ _ _ rfl w1.heap.size 0 rfl _ rfl rfl KE.out (by simp) (by kernel_rfl) (fun wf kf ff zf => ?_); have KF0 := Lib.hid kf; have FF := Lib.hid ff; clear kf ff)
  have KF := Lib.hid (show Blk wf w1.heap.size [.slice na m.length nc, .int .i64 (olast : Int)] 94 from KF0.out)
  have NF := Lib.hid (show Byt D wf (.slice na m.length nc) m from (NB.out.fr FF.out (fun k _ h e => by have e : k = w1.heap.size := e; omega)).mono (fun k _ h => H1.out.fresh k (by omega)))
  have CF := Lib.hid (show Below w1.heap.size w1 wf from CE.out.trans (FF.out.below hse (fun k hk => by have hk : k = w1.heap.size := hk; omega)))
  have HF := Lib.hid (H1.out.below CF.out)
  have FW := Lib.hid (show Fr (fun k => k = q ∨ k = b) w wf from F1.out.trans (Fr.ofBelowAll CF.out (Nat.le_refl _)))
  clear KE NB CE FF KF0 zf H1 F1 CF V1 M1 HR HRV HOB
  go_wp2_with (first
    | (with_reducible refine wpList_load_blk rfl _ _ rfl w1.heap.size [.slice na m.length nc, .int .i64 (olast : Int)] rfl KF.out _ Try.underlying94 rfl (HSZ.out _) ?_))
  have hlay := lay_calls wf q b d n (.slice na m.length nc) m olast HF.out hn NF.out (by omega) (by omega)
  unfold nmV fileV at hlay
  refine hlay.mono ?_
  rintro e wg ⟨rfl, d1, f1⟩
  have HLD := Lib.hid (show ({ d with fs := putF d.fs (n, m, olast) } : Disk) = laidD d n bs from by unfold laidD; rw [HOS.out, HM.out, HOL.out])
  rw [HLD.out] at d1
  have DG := Lib.hid d1
  have FG := Lib.hid (FW.out.trans f1)
  clear d1 f1 FW HF NF KF hlay
  obtain ⟨dl, hdl⟩ : ∃ x, laidD d n bs = x := ⟨_, rfl⟩
  have HE1 := Lib.hid (show dl.steps = d.steps ∧ dl.left = d.left from by rw [← hdl]; exact ⟨rfl, rfl⟩)
  rw [hdl] at DG HX
  clear hdl
  go_wp2_with fail
  refine (step_calls wg q b dl DG.out (by rw [HE1.out.1]; exact h1) (by rw [HE1.out.2]; exact h2) (by rw [HE1.out.2]; exact h3)).mono ?_
  rintro e wh ⟨rfl, d2, f2⟩
  have DH := Lib.hid d2
  have FH := Lib.hid (FG.out.trans (f2.mono (fun k _ h => .inl h)))
  obtain ⟨⟨ds, sb⟩, hs⟩ : ∃ x, stepD dl = x := ⟨_, rfl⟩
  rw [hs] at DH HX ⊢
  dsimp only at DH HX ⊢
  clear d2 f2 hs
  rcases sb with _ | _
  · go_wp2
    go_ret
    exact ⟨by rw [HX.out]; rfl, by rw [HX.out]; exact DH.out, FH.out⟩
  · go_wp2
    go_ret
    exact ⟨by rw [HX.out]; rfl, by rw [HX.out]; exact DH.out, FH.out⟩
end Go.Proofs.Ytjdohjoljobinaa.Dx
