/- The walks of the disk's do, at each pair of function values, of the closures, and of Sync, Truncate, Rename, Remove. Conditions: a name is a text; at most 2^46 bytes; fewer than 2^62 steps. -/
import Derived.Test.YtjdohjoljobinaaDxE
namespace Go.Proofs.Ytjdohjoljobinaa.Dx
open Go Go.RowKit Mem Maps Ops Reps
open Go.Maps (Keyed string_keyed)
set_option linter.unusedVariables false
set_option linter.unusedSimpArgs false

set_option maxRecDepth 100000 in
theorem structFile : Arr.StructT Try.prog 94 [1, 1] := ⟨_, _, _, rfl, Try.underlying94, rfl, by kernel_rfl, by kernel_rfl⟩
def doD (d : Disk) (n : Nm) (y : Int) (X : Disk → Disk) : Disk × Int :=
  if d.dead = true then (d, 144) else if lookF d.fs n = none then (d, 142) else if y ≠ 0 then (d, y) else if (stepD d).2 = true then ((stepD d).1, 144) else (X (stepD d).1, 0)
theorem step_fs (d : Disk) : (stepD d).1.fs = d.fs := by unfold stepD; split; rfl; split <;> rfl
set_option maxHeartbeats 4000000 in
theorem fine_calls (w : World) (v : Value) (last : Nat) : Calls Try.prog 78 #[fileV v last] w fun e w' => e = .returned (.int .i64 0) ∧ Below w.heap.size w w' := by
  unfold fileV
  go_enter Try.func78, Try.ntmps78
  go_upto_region 1 with ((with_reducible refine wpList_box rfl _ _ rfl [v, .int .i64 (last : Int)] rfl (fun w1 k1 b1 z1 => ?_)); have B1 := Lib.hid b1; clear k1 b1)
  go_wp2
  go_ret
  exact ⟨rfl, B1.out⟩
set_option maxHeartbeats 8000000 in
set_option maxRecDepth 100000 in
theorem do_sync (w : World) (q b : Nat) (d : Disk) (n : Nm) {D : Nat → Prop} (H0 : DkIs D w q b d) (g2 g3 : Nat) (y : Int) (X : Disk → Disk) (hn : n.length ≤ maxLen)
    (h1 : 0 ≤ d.steps ∧ d.steps < 4611686018427387904) (h2 : -1 ≤ d.left) (h3 : d.left ≤ 9223372036854775807)
    (Hw : ∀ (v : Value) (last : Nat) (wb : World), lookF d.fs n = some (bytesF d.fs n, last) → Below w.heap.size w wb → Byt D wb v (bytesF d.fs n) → Calls Try.prog 78 #[fileV v last] wb fun e w' => e = .returned (.int .i64 y) ∧ Below wb.heap.size wb w')
    (Hd : ∀ (v : Value) (last : Nat) (wd : World), y = 0 → lookF d.fs n = some (bytesF d.fs n, last) → DkIs D wd q b (stepD d).1 → Fr (fun k => k = q) w wd → Byt D wd v (bytesF d.fs n) → Calls Try.prog 79 #[fileV v last, .pointer (some ⟨g2, 0, none⟩), .pointer (some ⟨g3, 0, none⟩)] wd fun e w' => e = .returned (.tuple #[]) ∧ DkIs D w' q b (X (stepD d).1) ∧ Fr (fun k => k = q ∨ k = b) wd w') :
    Calls Try.prog 77 #[.pointer (some ⟨q, 0, none⟩), nmV n, .func (.func 78) #[] #[], .func (.func 79) #[] #[.pointer (some ⟨g2, 0, none⟩), .pointer (some ⟨g3, 0, none⟩)]] w fun e w' => e = .returned (.int .i64 (doD d n y X).2) ∧ DkIs D w' q b (doD d n y X).1 ∧ Fr (fun k => k = q ∨ k = b) w w' := by
  obtain ⟨kl, hkl⟩ := key_str n hn
  have HKL := Lib.hid hkl
  have H := Lib.hid H0
  have HW := Lib.hid Hw
  have HD := Lib.hid Hd
  clear Hw Hd
  obtain ⟨l, m1, fi⟩ := H0.m
  have M1 := Lib.hid m1
  obtain ⟨r, ov, olast, hr, hrv, hx1, hob, hx2, hx3⟩ := look_file n fi
  obtain ⟨oa, oc, rfl, _⟩ := id hob
  have c2 := H0.k.cell (i := 2) rfl
  have c5 := H0.k.cell (i := 5) rfl
  have hlt := H0.lt
  have HR := Lib.hid hr
  obtain ⟨os, hos⟩ : ∃ x, bytesF d.fs n = x := ⟨_, rfl⟩
  have HOS := Lib.hid hos
  have hos2 : ((lookF d.fs n).map (·.1)).getD [] = os := hos
  rw [hos2] at hob hrv
  rw [hos] at HW HD
  obtain ⟨is, his⟩ : ∃ x, (lookF d.fs n).isSome = x := ⟨_, rfl⟩
  have HIS := Lib.hid his
  have HLK : Hid (is = true → lookF d.fs n = some (os, olast)) := Lib.hid (fun h => by
    rw [h] at his
    cases hlk : lookF d.fs n with
    | none => rw [hlk] at his; cases his
    | some x =>
      obtain ⟨x1, x2⟩ := x
      rw [hlk] at hx2 hos2
      simp only [Option.map_some, Option.getD_some] at hx2 hos2
      rw [hos2, hx2])
  have HRV := Lib.hid (show (if true = true then Value.tuple #[r.getD (.agg #[.slice none 0 0, .int .i64 0]), .bool r.isSome] else r.getD (.agg #[.slice none 0 0, .int .i64 0])) = .tuple #[.agg [Value.slice oa os.length oc, .int .i64 (olast : Int)].toArray, .bool is] from by rw [if_pos rfl, hrv, hx1, his]; rfl)
  have HOB := Lib.hid hob
  have HSZ := Lib.hid (fun v => file_size v olast)
  have HON := Lib.hid (file_one (.slice oa os.length oc) olast rfl)
  clear hkl m1 fi hr hrv hx1 hob hx2 hx3 hos hos2 his H0
  unfold nmV
  go_enter Try.func77, Try.ntmps77
  go_upto_region 2 with (first
    | ((with_reducible refine wpList_look rfl _ _ 89 true rfl 94 keyedS Try.underlying89 (zeroFile _) rfl M1.out (nmV n) kl rfl HKL.out r HR.out ?_); rw [HRV.out])
    | ((with_reducible refine wpList_alloc rfl _ rfl _ (zeroFile _) (fun wa ka ca za => ?_)); have KA := Lib.hid ka; have CA := Lib.hid ca; clear ka ca)
    | ((with_reducible refine wpList_put rfl _ _ _ rfl w.heap.size [Value.slice oa os.length oc, .int .i64 (olast : Int)] _ rfl rfl KA.out (HSZ.out _) rfl HON.out (fun wb kb fb zb => ?_)); have KB := Lib.hid kb; have CB := Lib.hid (show Below w.heap.size w wb from CA.out.trans (fb.below CA.out.size (fun k hk => by have hk : k = w.heap.size := hk; omega))); clear kb fb))
  have HB := Lib.hid (H.out.below CB.out)
  have OB := Lib.hid (HOB.out.below CB.out)
  have FB := Lib.hid (show Fr (fun k => k = q) w wb from Fr.ofBelowAll CB.out (Nat.le_refl _))
  have hsb := CB.out.size
  clear KA CA za zb c2 c5 H HOB HR HRV M1
  have c5 := HB.out.k.cell (i := 5) rfl
  try simp only [Act.put, List.setIfInBounds_toArray, List.set_cons_zero, List.set_cons_succ]
  by_cases hd : d.dead = true
  · have HX := Lib.hid (show doD d n y X = (d, 144) from if_pos hd)
    rw [hd] at c5
    go_wp2
    go_ret
    exact ⟨by rw [HX.out]; rfl, by rw [HX.out]; exact HB.out, FB.out.mono (fun k _ h => .inl h)⟩
  have hdf : d.dead = false := by simpa using hd
  rw [hdf] at c5
  rcases is with _ | _
  · have HX := Lib.hid (show doD d n y X = (d, 142) from by
      unfold doD
      rw [if_neg hd, if_pos (by have := HIS.out; cases hlk : lookF d.fs n with | none => rfl | some x => rw [hlk] at this; cases this)])
    go_wp2
    go_ret
    exact ⟨by rw [HX.out]; rfl, by rw [HX.out]; exact HB.out, FB.out.mono (fun k _ h => .inl h)⟩
  have HL := Lib.hid (HLK.out rfl)
  have HX0 := Lib.hid (show doD d n y X = if y ≠ 0 then (d, y) else if (stepD d).2 = true then ((stepD d).1, 144) else (X (stepD d).1, 0) from by
    unfold doD
    rw [if_neg hd, if_neg (by rw [HL.out]; simp)])
  clear HLK
  go_wp2_with (first
    | (with_reducible refine wpList_load_blk rfl _ _ rfl w.heap.size [Value.slice oa os.length oc, .int .i64 (olast : Int)] rfl KB.out _ Try.underlying94 rfl (HSZ.out _) ?_))
  have hfine := HW.out (.slice oa os.length oc) olast wb HL.out CB.out OB.out
  unfold fileV at hfine
  refine hfine.mono ?_
  rintro e wc ⟨rfl, g1⟩
  have HC := Lib.hid (HB.out.below g1)
  have KC := Lib.hid (KB.out.below g1)
  have OC := Lib.hid (OB.out.below g1)
  have FC := Lib.hid (FB.out.trans (show Fr (fun k => k = q) wb wc from Fr.ofBelowAll g1 (Nat.le_refl _)))
  have hwq : ¬ w.heap.size = q := by omega
  have hwb : ¬ w.heap.size = b := by omega
  clear g1 hfine HB KB OB FB c5 CB HW
  by_cases hy : y = 0
  rotate_left
  · have HX := Lib.hid (show doD d n y X = (d, y) from by rw [HX0.out, if_pos hy])
    have hyb : (y == 0) = false := by simp [hy]
    have hyn : (y != 0) = true := by simp [hy]
    go_wp2
    go_ret
    exact ⟨by rw [HX.out]; rfl, by rw [HX.out]; exact HC.out, FC.out.mono (fun k _ h => .inl h)⟩
  subst hy
  have HX := Lib.hid (show doD d n 0 X = if (stepD d).2 = true then ((stepD d).1, 144) else (X (stepD d).1, 0) from by rw [HX0.out, if_neg (by simp)])
  clear HX0
  go_wp2_with fail
  refine (step_calls wc q b d HC.out h1 h2 h3).mono ?_
  rintro e wd ⟨rfl, d1, f1⟩
  have DD := Lib.hid d1
  have KD := Lib.hid (KC.out.fr f1 (fun e => hwq e))
  have OD := Lib.hid (OC.out.fr f1 (fun k _ h e => HC.out.nd.1 (e ▸ h)))
  have FD := Lib.hid (FC.out.trans f1)
  clear d1 f1 HC KC OC FC
  have hdone := HD.out (.slice oa os.length oc) olast wd (by first | rfl | trivial) HL.out DD.out FD.out OD.out
  unfold fileV at hdone
  have HDN := Lib.hid hdone
  clear hdone HD
  obtain ⟨⟨ds, sb⟩, hs⟩ : ∃ x, stepD d = x := ⟨_, rfl⟩
  rw [hs] at DD HX HDN ⊢
  dsimp only at DD HX HDN ⊢
  clear hs
  rcases sb with _ | _
  · go_wp2_with (first
      | (with_reducible refine wpList_load_blk rfl _ _ rfl w.heap.size [Value.slice oa os.length oc, .int .i64 (olast : Int)] rfl KD.out _ Try.underlying94 rfl (HSZ.out _) ?_))
    refine HDN.out.mono ?_
    rintro e we ⟨rfl, d2, f2⟩
    have DE := Lib.hid d2
    have FE := Lib.hid ((FD.out.mono (T := fun k => k = q ∨ k = b) (fun k _ h => .inl h)).trans f2)
    clear d2 f2 HDN
    go_wp2
    go_ret
    exact ⟨by rw [HX.out]; rfl, by rw [HX.out]; exact DE.out, FE.out⟩
  · go_wp2
    go_ret
    exact ⟨by rw [HX.out]; rfl, by rw [HX.out]; exact DD.out, FD.out.mono (fun k _ h => .inl h)⟩
set_option maxHeartbeats 8000000 in
set_option maxRecDepth 100000 in
theorem do_remove (w : World) (q b : Nat) (d : Disk) (n : Nm) {D : Nat → Prop} (H0 : DkIs D w q b d) (g2 g3 : Nat) (y : Int) (X : Disk → Disk) (hn : n.length ≤ maxLen)
    (h1 : 0 ≤ d.steps ∧ d.steps < 4611686018427387904) (h2 : -1 ≤ d.left) (h3 : d.left ≤ 9223372036854775807)
    (Hw : ∀ (v : Value) (last : Nat) (wb : World), lookF d.fs n = some (bytesF d.fs n, last) → Below w.heap.size w wb → Byt D wb v (bytesF d.fs n) → Calls Try.prog 78 #[fileV v last] wb fun e w' => e = .returned (.int .i64 y) ∧ Below wb.heap.size wb w')
    (Hd : ∀ (v : Value) (last : Nat) (wd : World), y = 0 → lookF d.fs n = some (bytesF d.fs n, last) → DkIs D wd q b (stepD d).1 → Fr (fun k => k = q) w wd → Byt D wd v (bytesF d.fs n) → Calls Try.prog 94 #[fileV v last, .pointer (some ⟨g2, 0, none⟩), .pointer (some ⟨g3, 0, none⟩)] wd fun e w' => e = .returned (.tuple #[]) ∧ DkIs D w' q b (X (stepD d).1) ∧ Fr (fun k => k = q ∨ k = b) wd w') :
    Calls Try.prog 77 #[.pointer (some ⟨q, 0, none⟩), nmV n, .func (.func 78) #[] #[], .func (.func 94) #[] #[.pointer (some ⟨g2, 0, none⟩), .pointer (some ⟨g3, 0, none⟩)]] w fun e w' => e = .returned (.int .i64 (doD d n y X).2) ∧ DkIs D w' q b (doD d n y X).1 ∧ Fr (fun k => k = q ∨ k = b) w w' := by
  obtain ⟨kl, hkl⟩ := key_str n hn
  have HKL := Lib.hid hkl
  have H := Lib.hid H0
  have HW := Lib.hid Hw
  have HD := Lib.hid Hd
  clear Hw Hd
  obtain ⟨l, m1, fi⟩ := H0.m
  have M1 := Lib.hid m1
  obtain ⟨r, ov, olast, hr, hrv, hx1, hob, hx2, hx3⟩ := look_file n fi
  obtain ⟨oa, oc, rfl, _⟩ := id hob
  have c2 := H0.k.cell (i := 2) rfl
  have c5 := H0.k.cell (i := 5) rfl
  have hlt := H0.lt
  have HR := Lib.hid hr
  obtain ⟨os, hos⟩ : ∃ x, bytesF d.fs n = x := ⟨_, rfl⟩
  have HOS := Lib.hid hos
  have hos2 : ((lookF d.fs n).map (·.1)).getD [] = os := hos
  rw [hos2] at hob hrv
  rw [hos] at HW HD
  obtain ⟨is, his⟩ : ∃ x, (lookF d.fs n).isSome = x := ⟨_, rfl⟩
  have HIS := Lib.hid his
  have HLK : Hid (is = true → lookF d.fs n = some (os, olast)) := Lib.hid (fun h => by
    rw [h] at his
    cases hlk : lookF d.fs n with
    | none => rw [hlk] at his; cases his
    | some x =>
      obtain ⟨x1, x2⟩ := x
      rw [hlk] at hx2 hos2
      simp only [Option.map_some, Option.getD_some] at hx2 hos2
      rw [hos2, hx2])
  have HRV := Lib.hid (show (if true = true then Value.tuple #[r.getD (.agg #[.slice none 0 0, .int .i64 0]), .bool r.isSome] else r.getD (.agg #[.slice none 0 0, .int .i64 0])) = .tuple #[.agg [Value.slice oa os.length oc, .int .i64 (olast : Int)].toArray, .bool is] from by rw [if_pos rfl, hrv, hx1, his]; rfl)
  have HOB := Lib.hid hob
  have HSZ := Lib.hid (fun v => file_size v olast)
  have HON := Lib.hid (file_one (.slice oa os.length oc) olast rfl)
  clear hkl m1 fi hr hrv hx1 hob hx2 hx3 hos hos2 his H0
  unfold nmV
  go_enter Try.func77, Try.ntmps77
  go_upto_region 2 with (first
    | ((with_reducible refine wpList_look rfl _ _ 89 true rfl 94 keyedS Try.underlying89 (zeroFile _) rfl M1.out (nmV n) kl rfl HKL.out r HR.out ?_); rw [HRV.out])
    | ((with_reducible refine wpList_alloc rfl _ rfl _ (zeroFile _) (fun wa ka ca za => ?_)); have KA := Lib.hid ka; have CA := Lib.hid ca; clear ka ca)
    | ((with_reducible refine wpList_put rfl _ _ _ rfl w.heap.size [Value.slice oa os.length oc, .int .i64 (olast : Int)] _ rfl rfl KA.out (HSZ.out _) rfl HON.out (fun wb kb fb zb => ?_)); have KB := Lib.hid kb; have CB := Lib.hid (show Below w.heap.size w wb from CA.out.trans (fb.below CA.out.size (fun k hk => by have hk : k = w.heap.size := hk; omega))); clear kb fb))
  have HB := Lib.hid (H.out.below CB.out)
  have OB := Lib.hid (HOB.out.below CB.out)
  have FB := Lib.hid (show Fr (fun k => k = q) w wb from Fr.ofBelowAll CB.out (Nat.le_refl _))
  have hsb := CB.out.size
  clear KA CA za zb c2 c5 H HOB HR HRV M1
  have c5 := HB.out.k.cell (i := 5) rfl
  try simp only [Act.put, List.setIfInBounds_toArray, List.set_cons_zero, List.set_cons_succ]
  by_cases hd : d.dead = true
  · have HX := Lib.hid (show doD d n y X = (d, 144) from if_pos hd)
    rw [hd] at c5
    go_wp2
    go_ret
    exact ⟨by rw [HX.out]; rfl, by rw [HX.out]; exact HB.out, FB.out.mono (fun k _ h => .inl h)⟩
  have hdf : d.dead = false := by simpa using hd
  rw [hdf] at c5
  rcases is with _ | _
  · have HX := Lib.hid (show doD d n y X = (d, 142) from by
      unfold doD
      rw [if_neg hd, if_pos (by have := HIS.out; cases hlk : lookF d.fs n with | none => rfl | some x => rw [hlk] at this; cases this)])
    go_wp2
    go_ret
    exact ⟨by rw [HX.out]; rfl, by rw [HX.out]; exact HB.out, FB.out.mono (fun k _ h => .inl h)⟩
  have HL := Lib.hid (HLK.out rfl)
  have HX0 := Lib.hid (show doD d n y X = if y ≠ 0 then (d, y) else if (stepD d).2 = true then ((stepD d).1, 144) else (X (stepD d).1, 0) from by
    unfold doD
    rw [if_neg hd, if_neg (by rw [HL.out]; simp)])
  clear HLK
  go_wp2_with (first
    | (with_reducible refine wpList_load_blk rfl _ _ rfl w.heap.size [Value.slice oa os.length oc, .int .i64 (olast : Int)] rfl KB.out _ Try.underlying94 rfl (HSZ.out _) ?_))
  have hfine := HW.out (.slice oa os.length oc) olast wb HL.out CB.out OB.out
  unfold fileV at hfine
  refine hfine.mono ?_
  rintro e wc ⟨rfl, g1⟩
  have HC := Lib.hid (HB.out.below g1)
  have KC := Lib.hid (KB.out.below g1)
  have OC := Lib.hid (OB.out.below g1)
  have FC := Lib.hid (FB.out.trans (show Fr (fun k => k = q) wb wc from Fr.ofBelowAll g1 (Nat.le_refl _)))
  have hwq : ¬ w.heap.size = q := by omega
  have hwb : ¬ w.heap.size = b := by omega
  clear g1 hfine HB KB OB FB c5 CB HW
  by_cases hy : y = 0
  rotate_left
  · have HX := Lib.hid (show doD d n y X = (d, y) from by rw [HX0.out, if_pos hy])
    have hyb : (y == 0) = false := by simp [hy]
    have hyn : (y != 0) = true := by simp [hy]
    go_wp2
    go_ret
    exact ⟨by rw [HX.out]; rfl, by rw [HX.out]; exact HC.out, FC.out.mono (fun k _ h => .inl h)⟩
  subst hy
  have HX := Lib.hid (show doD d n 0 X = if (stepD d).2 = true then ((stepD d).1, 144) else (X (stepD d).1, 0) from by rw [HX0.out, if_neg (by simp)])
  clear HX0
  go_wp2_with fail
  refine (step_calls wc q b d HC.out h1 h2 h3).mono ?_
  rintro e wd ⟨rfl, d1, f1⟩
  have DD := Lib.hid d1
  have KD := Lib.hid (KC.out.fr f1 (fun e => hwq e))
  have OD := Lib.hid (OC.out.fr f1 (fun k _ h e => HC.out.nd.1 (e ▸ h)))
  have FD := Lib.hid (FC.out.trans f1)
  clear d1 f1 HC KC OC FC
  have hdone := HD.out (.slice oa os.length oc) olast wd (by first | rfl | trivial) HL.out DD.out FD.out OD.out
  unfold fileV at hdone
  have HDN := Lib.hid hdone
  clear hdone HD
  obtain ⟨⟨ds, sb⟩, hs⟩ : ∃ x, stepD d = x := ⟨_, rfl⟩
  rw [hs] at DD HX HDN ⊢
  dsimp only at DD HX HDN ⊢
  clear hs
  rcases sb with _ | _
  · go_wp2_with (first
      | (with_reducible refine wpList_load_blk rfl _ _ rfl w.heap.size [Value.slice oa os.length oc, .int .i64 (olast : Int)] rfl KD.out _ Try.underlying94 rfl (HSZ.out _) ?_))
    refine HDN.out.mono ?_
    rintro e we ⟨rfl, d2, f2⟩
    have DE := Lib.hid d2
    have FE := Lib.hid ((FD.out.mono (T := fun k => k = q ∨ k = b) (fun k _ h => .inl h)).trans f2)
    clear d2 f2 HDN
    go_wp2
    go_ret
    exact ⟨by rw [HX.out]; rfl, by rw [HX.out]; exact DE.out, FE.out⟩
  · go_wp2
    go_ret
    exact ⟨by rw [HX.out]; rfl, by rw [HX.out]; exact DD.out, FD.out.mono (fun k _ h => .inl h)⟩
set_option maxHeartbeats 8000000 in
set_option maxRecDepth 100000 in
theorem do_rename (w : World) (q b : Nat) (d : Disk) (n : Nm) {D : Nat → Prop} (H0 : DkIs D w q b d) (g2 g3 g4 : Nat) (y : Int) (X : Disk → Disk) (hn : n.length ≤ maxLen)
    (h1 : 0 ≤ d.steps ∧ d.steps < 4611686018427387904) (h2 : -1 ≤ d.left) (h3 : d.left ≤ 9223372036854775807)
    (Hw : ∀ (v : Value) (last : Nat) (wb : World), lookF d.fs n = some (bytesF d.fs n, last) → Below w.heap.size w wb → Byt D wb v (bytesF d.fs n) → Calls Try.prog 91 #[fileV v last, .pointer (some ⟨g4, 0, none⟩)] wb fun e w' => e = .returned (.int .i64 y) ∧ Below wb.heap.size wb w')
    (Hd : ∀ (v : Value) (last : Nat) (wd : World), y = 0 → lookF d.fs n = some (bytesF d.fs n, last) → DkIs D wd q b (stepD d).1 → Fr (fun k => k = q) w wd → Byt D wd v (bytesF d.fs n) → Calls Try.prog 92 #[fileV v last, .pointer (some ⟨g2, 0, none⟩), .pointer (some ⟨g3, 0, none⟩), .pointer (some ⟨g4, 0, none⟩)] wd fun e w' => e = .returned (.tuple #[]) ∧ DkIs D w' q b (X (stepD d).1) ∧ Fr (fun k => k = q ∨ k = b) wd w') :
    Calls Try.prog 77 #[.pointer (some ⟨q, 0, none⟩), nmV n, .func (.func 91) #[] #[.pointer (some ⟨g4, 0, none⟩)], .func (.func 92) #[] #[.pointer (some ⟨g2, 0, none⟩), .pointer (some ⟨g3, 0, none⟩), .pointer (some ⟨g4, 0, none⟩)]] w fun e w' => e = .returned (.int .i64 (doD d n y X).2) ∧ DkIs D w' q b (doD d n y X).1 ∧ Fr (fun k => k = q ∨ k = b) w w' := by
  obtain ⟨kl, hkl⟩ := key_str n hn
  have HKL := Lib.hid hkl
  have H := Lib.hid H0
  have HW := Lib.hid Hw
  have HD := Lib.hid Hd
  clear Hw Hd
  obtain ⟨l, m1, fi⟩ := H0.m
  have M1 := Lib.hid m1
  obtain ⟨r, ov, olast, hr, hrv, hx1, hob, hx2, hx3⟩ := look_file n fi
  obtain ⟨oa, oc, rfl, _⟩ := id hob
  have c2 := H0.k.cell (i := 2) rfl
  have c5 := H0.k.cell (i := 5) rfl
  have hlt := H0.lt
  have HR := Lib.hid hr
  obtain ⟨os, hos⟩ : ∃ x, bytesF d.fs n = x := ⟨_, rfl⟩
  have HOS := Lib.hid hos
  have hos2 : ((lookF d.fs n).map (·.1)).getD [] = os := hos
  rw [hos2] at hob hrv
  rw [hos] at HW HD
  obtain ⟨is, his⟩ : ∃ x, (lookF d.fs n).isSome = x := ⟨_, rfl⟩
  have HIS := Lib.hid his
  have HLK : Hid (is = true → lookF d.fs n = some (os, olast)) := Lib.hid (fun h => by
    rw [h] at his
    cases hlk : lookF d.fs n with
    | none => rw [hlk] at his; cases his
    | some x =>
      obtain ⟨x1, x2⟩ := x
      rw [hlk] at hx2 hos2
      simp only [Option.map_some, Option.getD_some] at hx2 hos2
      rw [hos2, hx2])
  have HRV := Lib.hid (show (if true = true then Value.tuple #[r.getD (.agg #[.slice none 0 0, .int .i64 0]), .bool r.isSome] else r.getD (.agg #[.slice none 0 0, .int .i64 0])) = .tuple #[.agg [Value.slice oa os.length oc, .int .i64 (olast : Int)].toArray, .bool is] from by rw [if_pos rfl, hrv, hx1, his]; rfl)
  have HOB := Lib.hid hob
  have HSZ := Lib.hid (fun v => file_size v olast)
  have HON := Lib.hid (file_one (.slice oa os.length oc) olast rfl)
  clear hkl m1 fi hr hrv hx1 hob hx2 hx3 hos hos2 his H0
  unfold nmV
  go_enter Try.func77, Try.ntmps77
  go_upto_region 2 with (first
    | ((with_reducible refine wpList_look rfl _ _ 89 true rfl 94 keyedS Try.underlying89 (zeroFile _) rfl M1.out (nmV n) kl rfl HKL.out r HR.out ?_); rw [HRV.out])
    | ((with_reducible refine wpList_alloc rfl _ rfl _ (zeroFile _) (fun wa ka ca za => ?_)); have KA := Lib.hid ka; have CA := Lib.hid ca; clear ka ca)
    | ((with_reducible refine wpList_put rfl _ _ _ rfl w.heap.size [Value.slice oa os.length oc, .int .i64 (olast : Int)] _ rfl rfl KA.out (HSZ.out _) rfl HON.out (fun wb kb fb zb => ?_)); have KB := Lib.hid kb; have CB := Lib.hid (show Below w.heap.size w wb from CA.out.trans (fb.below CA.out.size (fun k hk => by have hk : k = w.heap.size := hk; omega))); clear kb fb))
  have HB := Lib.hid (H.out.below CB.out)
  have OB := Lib.hid (HOB.out.below CB.out)
  have FB := Lib.hid (show Fr (fun k => k = q) w wb from Fr.ofBelowAll CB.out (Nat.le_refl _))
  have hsb := CB.out.size
  clear KA CA za zb c2 c5 H HOB HR HRV M1
  have c5 := HB.out.k.cell (i := 5) rfl
  try simp only [Act.put, List.setIfInBounds_toArray, List.set_cons_zero, List.set_cons_succ]
  by_cases hd : d.dead = true
  · have HX := Lib.hid (show doD d n y X = (d, 144) from if_pos hd)
    rw [hd] at c5
    go_wp2
    go_ret
    exact ⟨by rw [HX.out]; rfl, by rw [HX.out]; exact HB.out, FB.out.mono (fun k _ h => .inl h)⟩
  have hdf : d.dead = false := by simpa using hd
  rw [hdf] at c5
  rcases is with _ | _
  · have HX := Lib.hid (show doD d n y X = (d, 142) from by
      unfold doD
      rw [if_neg hd, if_pos (by have := HIS.out; cases hlk : lookF d.fs n with | none => rfl | some x => rw [hlk] at this; cases this)])
    go_wp2
    go_ret
    exact ⟨by rw [HX.out]; rfl, by rw [HX.out]; exact HB.out, FB.out.mono (fun k _ h => .inl h)⟩
  have HL := Lib.hid (HLK.out rfl)
  have HX0 := Lib.hid (show doD d n y X = if y ≠ 0 then (d, y) else if (stepD d).2 = true then ((stepD d).1, 144) else (X (stepD d).1, 0) from by
    unfold doD
    rw [if_neg hd, if_neg (by rw [HL.out]; simp)])
  clear HLK
  go_wp2_with (first
    | (with_reducible refine wpList_load_blk rfl _ _ rfl w.heap.size [Value.slice oa os.length oc, .int .i64 (olast : Int)] rfl KB.out _ Try.underlying94 rfl (HSZ.out _) ?_))
  have hfine := HW.out (.slice oa os.length oc) olast wb HL.out CB.out OB.out
  unfold fileV at hfine
  refine hfine.mono ?_
  rintro e wc ⟨rfl, g1⟩
  have HC := Lib.hid (HB.out.below g1)
  have KC := Lib.hid (KB.out.below g1)
  have OC := Lib.hid (OB.out.below g1)
  have FC := Lib.hid (FB.out.trans (show Fr (fun k => k = q) wb wc from Fr.ofBelowAll g1 (Nat.le_refl _)))
  have hwq : ¬ w.heap.size = q := by omega
  have hwb : ¬ w.heap.size = b := by omega
  clear g1 hfine HB KB OB FB c5 CB HW
  by_cases hy : y = 0
  rotate_left
  · have HX := Lib.hid (show doD d n y X = (d, y) from by rw [HX0.out, if_pos hy])
    have hyb : (y == 0) = false := by simp [hy]
    have hyn : (y != 0) = true := by simp [hy]
    go_wp2
    go_ret
    exact ⟨by rw [HX.out]; rfl, by rw [HX.out]; exact HC.out, FC.out.mono (fun k _ h => .inl h)⟩
  subst hy
  have HX := Lib.hid (show doD d n 0 X = if (stepD d).2 = true then ((stepD d).1, 144) else (X (stepD d).1, 0) from by rw [HX0.out, if_neg (by simp)])
  clear HX0
  go_wp2_with fail
  refine (step_calls wc q b d HC.out h1 h2 h3).mono ?_
  rintro e wd ⟨rfl, d1, f1⟩
  have DD := Lib.hid d1
  have KD := Lib.hid (KC.out.fr f1 (fun e => hwq e))
  have OD := Lib.hid (OC.out.fr f1 (fun k _ h e => HC.out.nd.1 (e ▸ h)))
  have FD := Lib.hid (FC.out.trans f1)
  clear d1 f1 HC KC OC FC
  have hdone := HD.out (.slice oa os.length oc) olast wd (by first | rfl | trivial) HL.out DD.out FD.out OD.out
  unfold fileV at hdone
  have HDN := Lib.hid hdone
  clear hdone HD
  obtain ⟨⟨ds, sb⟩, hs⟩ : ∃ x, stepD d = x := ⟨_, rfl⟩
  rw [hs] at DD HX HDN ⊢
  dsimp only at DD HX HDN ⊢
  clear hs
  rcases sb with _ | _
  · go_wp2_with (first
      | (with_reducible refine wpList_load_blk rfl _ _ rfl w.heap.size [Value.slice oa os.length oc, .int .i64 (olast : Int)] rfl KD.out _ Try.underlying94 rfl (HSZ.out _) ?_))
    refine HDN.out.mono ?_
    rintro e we ⟨rfl, d2, f2⟩
    have DE := Lib.hid d2
    have FE := Lib.hid ((FD.out.mono (T := fun k => k = q ∨ k = b) (fun k _ h => .inl h)).trans f2)
    clear d2 f2 HDN
    go_wp2
    go_ret
    exact ⟨by rw [HX.out]; rfl, by rw [HX.out]; exact DE.out, FE.out⟩
  · go_wp2
    go_ret
    exact ⟨by rw [HX.out]; rfl, by rw [HX.out]; exact DD.out, FD.out.mono (fun k _ h => .inl h)⟩
set_option maxHeartbeats 8000000 in
set_option maxRecDepth 100000 in
theorem do_truncate (w : World) (q b : Nat) (d : Disk) (n : Nm) {D : Nat → Prop} (H0 : DkIs D w q b d) (g2 g3 g4 : Nat) (y : Int) (X : Disk → Disk) (hn : n.length ≤ maxLen)
    (h1 : 0 ≤ d.steps ∧ d.steps < 4611686018427387904) (h2 : -1 ≤ d.left) (h3 : d.left ≤ 9223372036854775807)
    (Hw : ∀ (v : Value) (last : Nat) (wb : World), lookF d.fs n = some (bytesF d.fs n, last) → Below w.heap.size w wb → Byt D wb v (bytesF d.fs n) → Calls Try.prog 89 #[fileV v last, .pointer (some ⟨g4, 0, none⟩)] wb fun e w' => e = .returned (.int .i64 y) ∧ Below wb.heap.size wb w')
    (Hd : ∀ (v : Value) (last : Nat) (wd : World), y = 0 → lookF d.fs n = some (bytesF d.fs n, last) → DkIs D wd q b (stepD d).1 → Fr (fun k => k = q) w wd → Byt D wd v (bytesF d.fs n) → Calls Try.prog 90 #[fileV v last, .pointer (some ⟨g2, 0, none⟩), .pointer (some ⟨g3, 0, none⟩), .pointer (some ⟨g4, 0, none⟩)] wd fun e w' => e = .returned (.tuple #[]) ∧ DkIs D w' q b (X (stepD d).1) ∧ Fr (fun k => k = q ∨ k = b) wd w') :
    Calls Try.prog 77 #[.pointer (some ⟨q, 0, none⟩), nmV n, .func (.func 89) #[] #[.pointer (some ⟨g4, 0, none⟩)], .func (.func 90) #[] #[.pointer (some ⟨g2, 0, none⟩), .pointer (some ⟨g3, 0, none⟩), .pointer (some ⟨g4, 0, none⟩)]] w fun e w' => e = .returned (.int .i64 (doD d n y X).2) ∧ DkIs D w' q b (doD d n y X).1 ∧ Fr (fun k => k = q ∨ k = b) w w' := by
  obtain ⟨kl, hkl⟩ := key_str n hn
  have HKL := Lib.hid hkl
  have H := Lib.hid H0
  have HW := Lib.hid Hw
  have HD := Lib.hid Hd
  clear Hw Hd
  obtain ⟨l, m1, fi⟩ := H0.m
  have M1 := Lib.hid m1
  obtain ⟨r, ov, olast, hr, hrv, hx1, hob, hx2, hx3⟩ := look_file n fi
  obtain ⟨oa, oc, rfl, _⟩ := id hob
  have c2 := H0.k.cell (i := 2) rfl
  have c5 := H0.k.cell (i := 5) rfl
  have hlt := H0.lt
  have HR := Lib.hid hr
  obtain ⟨os, hos⟩ : ∃ x, bytesF d.fs n = x := ⟨_, rfl⟩
  have HOS := Lib.hid hos
  have hos2 : ((lookF d.fs n).map (·.1)).getD [] = os := hos
  rw [hos2] at hob hrv
  rw [hos] at HW HD
  obtain ⟨is, his⟩ : ∃ x, (lookF d.fs n).isSome = x := ⟨_, rfl⟩
  have HIS := Lib.hid his
  have HLK : Hid (is = true → lookF d.fs n = some (os, olast)) := Lib.hid (fun h => by
    rw [h] at his
    cases hlk : lookF d.fs n with
    | none => rw [hlk] at his; cases his
    | some x =>
      obtain ⟨x1, x2⟩ := x
      rw [hlk] at hx2 hos2
      simp only [Option.map_some, Option.getD_some] at hx2 hos2
      rw [hos2, hx2])
  have HRV := Lib.hid (show (if true = true then Value.tuple #[r.getD (.agg #[.slice none 0 0, .int .i64 0]), .bool r.isSome] else r.getD (.agg #[.slice none 0 0, .int .i64 0])) = .tuple #[.agg [Value.slice oa os.length oc, .int .i64 (olast : Int)].toArray, .bool is] from by rw [if_pos rfl, hrv, hx1, his]; rfl)
  have HOB := Lib.hid hob
  have HSZ := Lib.hid (fun v => file_size v olast)
  have HON := Lib.hid (file_one (.slice oa os.length oc) olast rfl)
  clear hkl m1 fi hr hrv hx1 hob hx2 hx3 hos hos2 his H0
  unfold nmV
  go_enter Try.func77, Try.ntmps77
  go_upto_region 2 with (first
    | ((with_reducible refine wpList_look rfl _ _ 89 true rfl 94 keyedS Try.underlying89 (zeroFile _) rfl M1.out (nmV n) kl rfl HKL.out r HR.out ?_); rw [HRV.out])
    | ((with_reducible refine wpList_alloc rfl _ rfl _ (zeroFile _) (fun wa ka ca za => ?_)); have KA := Lib.hid ka; have CA := Lib.hid ca; clear ka ca)
    | ((with_reducible refine wpList_put rfl _ _ _ rfl w.heap.size [Value.slice oa os.length oc, .int .i64 (olast : Int)] _ rfl rfl KA.out (HSZ.out _) rfl HON.out (fun wb kb fb zb => ?_)); have KB := Lib.hid kb; have CB := Lib.hid (show Below w.heap.size w wb from CA.out.trans (fb.below CA.out.size (fun k hk => by have hk : k = w.heap.size := hk; omega))); clear kb fb))
  have HB := Lib.hid (H.out.below CB.out)
  have OB := Lib.hid (HOB.out.below CB.out)
  have FB := Lib.hid (show Fr (fun k => k = q) w wb from Fr.ofBelowAll CB.out (Nat.le_refl _))
  have hsb := CB.out.size
  clear KA CA za zb c2 c5 H HOB HR HRV M1
  have c5 := HB.out.k.cell (i := 5) rfl
  try simp only [Act.put, List.setIfInBounds_toArray, List.set_cons_zero, List.set_cons_succ]
  by_cases hd : d.dead = true
  · have HX := Lib.hid (show doD d n y X = (d, 144) from if_pos hd)
    rw [hd] at c5
    go_wp2
    go_ret
    exact ⟨by rw [HX.out]; rfl, by rw [HX.out]; exact HB.out, FB.out.mono (fun k _ h => .inl h)⟩
  have hdf : d.dead = false := by simpa using hd
  rw [hdf] at c5
  rcases is with _ | _
  · have HX := Lib.hid (show doD d n y X = (d, 142) from by
      unfold doD
      rw [if_neg hd, if_pos (by have := HIS.out; cases hlk : lookF d.fs n with | none => rfl | some x => rw [hlk] at this; cases this)])
    go_wp2
    go_ret
    exact ⟨by rw [HX.out]; rfl, by rw [HX.out]; exact HB.out, FB.out.mono (fun k _ h => .inl h)⟩
  have HL := Lib.hid (HLK.out rfl)
  have HX0 := Lib.hid (show doD d n y X = if y ≠ 0 then (d, y) else if (stepD d).2 = true then ((stepD d).1, 144) else (X (stepD d).1, 0) from by
    unfold doD
    rw [if_neg hd, if_neg (by rw [HL.out]; simp)])
  clear HLK
  go_wp2_with (first
    | (with_reducible refine wpList_load_blk rfl _ _ rfl w.heap.size [Value.slice oa os.length oc, .int .i64 (olast : Int)] rfl KB.out _ Try.underlying94 rfl (HSZ.out _) ?_))
  have hfine := HW.out (.slice oa os.length oc) olast wb HL.out CB.out OB.out
  unfold fileV at hfine
  refine hfine.mono ?_
  rintro e wc ⟨rfl, g1⟩
  have HC := Lib.hid (HB.out.below g1)
  have KC := Lib.hid (KB.out.below g1)
  have OC := Lib.hid (OB.out.below g1)
  have FC := Lib.hid (FB.out.trans (show Fr (fun k => k = q) wb wc from Fr.ofBelowAll g1 (Nat.le_refl _)))
  have hwq : ¬ w.heap.size = q := by omega
  have hwb : ¬ w.heap.size = b := by omega
  clear g1 hfine HB KB OB FB c5 CB HW
  by_cases hy : y = 0
  rotate_left
  · have HX := Lib.hid (show doD d n y X = (d, y) from by rw [HX0.out, if_pos hy])
    have hyb : (y == 0) = false := by simp [hy]
    have hyn : (y != 0) = true := by simp [hy]
    go_wp2
    go_ret
    exact ⟨by rw [HX.out]; rfl, by rw [HX.out]; exact HC.out, FC.out.mono (fun k _ h => .inl h)⟩
  subst hy
  have HX := Lib.hid (show doD d n 0 X = if (stepD d).2 = true then ((stepD d).1, 144) else (X (stepD d).1, 0) from by rw [HX0.out, if_neg (by simp)])
  clear HX0
  go_wp2_with fail
  refine (step_calls wc q b d HC.out h1 h2 h3).mono ?_
  rintro e wd ⟨rfl, d1, f1⟩
  have DD := Lib.hid d1
  have KD := Lib.hid (KC.out.fr f1 (fun e => hwq e))
  have OD := Lib.hid (OC.out.fr f1 (fun k _ h e => HC.out.nd.1 (e ▸ h)))
  have FD := Lib.hid (FC.out.trans f1)
  clear d1 f1 HC KC OC FC
  have hdone := HD.out (.slice oa os.length oc) olast wd (by first | rfl | trivial) HL.out DD.out FD.out OD.out
  unfold fileV at hdone
  have HDN := Lib.hid hdone
  clear hdone HD
  obtain ⟨⟨ds, sb⟩, hs⟩ : ∃ x, stepD d = x := ⟨_, rfl⟩
  rw [hs] at DD HX HDN ⊢
  dsimp only at DD HX HDN ⊢
  clear hs
  rcases sb with _ | _
  · go_wp2_with (first
      | (with_reducible refine wpList_load_blk rfl _ _ rfl w.heap.size [Value.slice oa os.length oc, .int .i64 (olast : Int)] rfl KD.out _ Try.underlying94 rfl (HSZ.out _) ?_))
    refine HDN.out.mono ?_
    rintro e we ⟨rfl, d2, f2⟩
    have DE := Lib.hid d2
    have FE := Lib.hid ((FD.out.mono (T := fun k => k = q ∨ k = b) (fun k _ h => .inl h)).trans f2)
    clear d2 f2 HDN
    go_wp2
    go_ret
    exact ⟨by rw [HX.out]; rfl, by rw [HX.out]; exact DE.out, FE.out⟩
  · go_wp2
    go_ret
    exact ⟨by rw [HX.out]; rfl, by rw [HX.out]; exact DD.out, FD.out.mono (fun k _ h => .inl h)⟩
end Go.Proofs.Ytjdohjoljobinaa.Dx
