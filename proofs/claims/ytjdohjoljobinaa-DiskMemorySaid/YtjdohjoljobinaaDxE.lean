/- A file is taken out, plain; the walk of the disk's take. Condition: fewer than 2^61 bytes. -/
import Derived.Test.YtjdohjoljobinaaDxD
import Derived.Test.YtjdohjoljobinaaMaps3
namespace Go.Proofs.Ytjdohjoljobinaa.Dx
open Go Go.RowKit Mem Maps Ops Reps
open Go.Maps (Keyed string_keyed)
set_option linter.unusedVariables false
set_option linter.unusedSimpArgs false

def eraseF : List XF → Nm → List XF
  | [], _ => []
  | y :: r, n => if y.1 = n then r else y :: eraseF r n
theorem used_erase : ∀ (fs : List XF) (n : Nm), usedF (eraseF fs n) + lenF fs n = usedF fs
  | [], n => by simp [eraseF, usedF, lenF, lookF]
  | y :: r, n => by
    have ih := used_erase r n
    unfold eraseF
    by_cases h : y.1 = n
    · rw [if_pos h]
      simp [usedF, lenF, lookF, h]; omega
    · rw [if_neg h]
      simp [usedF, lenF, lookF, h] at ih ⊢; omega
theorem del_at {D : Nat → Prop} {w : World} (n : Nm) : ∀ {l : List (Value × Value)} {fs : List XF}, Files D w l fs → ∃ l', DelAt l (nmV n) l' ∧ Files D w l' (eraseF fs n) := by
  intro l fs h
  induction h with
  | nil => exact ⟨[], .inr ⟨by simp, rfl⟩, .nil⟩
  | @cons p y l fs h1 h2 ih =>
    obtain ⟨k, o⟩ := p
    obtain ⟨e1, e2, u, e3, e4⟩ := h1
    simp only at e1 e3
    by_cases hy : y.1 = n
    · exact ⟨l, .inl ⟨[], o, l, by rw [e1, hy]; rfl, rfl⟩, by unfold eraseF; rw [if_pos hy]; exact h2⟩
    · obtain ⟨l', hd, hf⟩ := ih
      refine ⟨(k, o) :: l', ?_, by unfold eraseF; rw [if_neg hy]; exact .cons ⟨e1, e2, u, e3, e4⟩ hf⟩
      rcases hd with ⟨pre, old, post, q1, q2⟩ | ⟨q1, q2⟩
      · exact .inl ⟨(k, o) :: pre, old, post, by rw [q1]; rfl, by rw [q2]; rfl⟩
      · refine .inr ⟨fun p hp => ?_, by rw [q2]⟩
        rcases List.mem_cons.1 hp with rfl | hp
        · simp only
          rw [e1]
          exact fun e => hy (nmV_inj e)
        · exact q1 p hp
theorem file_one (v : Value) (last : Nat) (h : v.oneCell' = true) : ∀ u ∈ [v, .int .i64 (last : Int)], u.oneCell' = true := fun u hu => by
  rcases List.mem_cons.1 hu with rfl | hu
  · exact h
  · rw [List.mem_singleton.1 hu]; rfl
theorem file_size (v : Value) (last : Nat) : (Try.prog.info? 94).map (·.size) = some [v, .int .i64 (last : Int)].length := by kernel_rfl
/-- what take hands back -/
def TakeT (D : Nat → Prop) (w : World) (q b : Nat) (d : Disk) (n : Nm) (e : Ending) (w' : World) : Prop := ∃ v, e = .returned (fileV v (lastF d.fs n)) ∧ Byt D w' v (bytesF d.fs n) ∧ DkIs D w' q b { d with fs := eraseF d.fs n } ∧ Fr (fun k => k = q ∨ k = b) w w'
set_option maxHeartbeats 8000000 in
set_option maxRecDepth 100000 in
theorem take_calls (w : World) (q b : Nat) (d : Disk) (n : Nm) {D : Nat → Prop} (H0 : DkIs D w q b d) (hn : n.length ≤ maxLen) (hu : usedF d.fs ≤ 2305843009213693952) :
    Calls Try.prog 93 #[.pointer (some ⟨q, 0, none⟩), nmV n] w (TakeT D w q b d n) := by
  obtain ⟨kl, hkl⟩ := key_str n hn
  have HKL := Lib.hid hkl
  have H := Lib.hid H0
  have hlt := H0.lt
  have hne := H0.ne
  have hbq : ¬ b = q := fun e => hne e.symm
  obtain ⟨l, m1, fi⟩ := H0.m
  have M1 := Lib.hid m1
  obtain ⟨r, ov, olast, hr, hrv, hx1, hob, hx2, hx3⟩ := look_file n fi
  obtain ⟨oa, oc, rfl, _⟩ := id hob
  have c2 := H0.k.cell (i := 2) rfl
  have HR := Lib.hid hr
  have hlf := lenF_bytes d.fs n
  have hus := used_erase d.fs n
  obtain ⟨os, hos⟩ : ∃ x, bytesF d.fs n = x := ⟨_, rfl⟩
  have HOS := Lib.hid hos
  have hos2 : ((lookF d.fs n).map (·.1)).getD [] = os := hos
  rw [hos2] at hob hrv
  rw [hlf, hos] at hus
  obtain ⟨uo, huo⟩ : ∃ k, usedF d.fs = k := ⟨_, rfl⟩
  obtain ⟨un, hun⟩ : ∃ k, usedF (eraseF d.fs n) = k := ⟨_, rfl⟩
  have HUN := Lib.hid hun
  simp only [hun, huo] at hus hu
  have HOL := Lib.hid (show lastF d.fs n = olast from hx2.symm)
  have HRV := Lib.hid (show r.getD (.agg #[.slice none 0 0, .int .i64 0]) = .agg [Value.slice oa os.length oc, .int .i64 (olast : Int)].toArray from hrv)
  have HOB := Lib.hid hob
  have HSZ := Lib.hid (fun v => file_size v olast)
  have HON := Lib.hid (file_one (.slice oa os.length oc) olast rfl)
  have HZ2 := Lib.hid (fun wx => (show (zeroValue 94).run Try.prog wx = .ok (.agg [Value.slice none 0 0, .int .i64 0].toArray) wx from zeroFile wx))
  obtain ⟨l', hdl, hfi⟩ := del_at n fi
  have HDL := Lib.hid hdl
  have HFI := Lib.hid hfi
  have hw7 : IntKind.i64.wrap ((uo : Int) - (os.length : Int)) = (un : Int) := by rw [IntKind.wrap_i64]; omega
  have KD := Lib.hid (show diskC d b = [.int .i64 d.room, .int .i64 (uo : Int), .map (some b), .int .i64 d.steps, .int .i64 d.left, .bool d.dead] from by rw [← huo]; rfl)
  clear hkl m1 fi hr hrv hx1 hob hx2 hx3 H0 hos hos2 hlf huo hun hdl hfi
  unfold nmV
  go_enter Try.func93, Try.ntmps93
  go_upto_region 1 with ((with_reducible refine wpList_alloc rfl _ rfl _ (HZ2.out _) (fun w0 k0 b0 z0 => ?_)); have K0 := Lib.hid k0; have B0 := Lib.hid b0; clear k0 b0)
  have H1 := Lib.hid (H.out.below B0.out)
  have M1' := Lib.hid (M1.out.below B0.out)
  have OB1 := Lib.hid (HOB.out.below B0.out)
  clear c2
  have c2 := H1.out.k.cell (i := 2) rfl
  go_upto_region 2 with (first
    | ((with_reducible refine wpList_look rfl _ _ 89 false rfl 94 keyedS Try.underlying89 (zeroFile _) rfl M1'.out (nmV n) kl rfl HKL.out r HR.out ?_); rw [if_neg (by decide), HRV.out])
    | ((with_reducible refine wpList_alloc rfl _ rfl _ (HZ2.out _) (fun wa ka ca za => ?_)); have KA := Lib.hid ka; have CA := Lib.hid ca; clear ka ca)
    | ((with_reducible refine wpList_put rfl _ _ _ rfl w0.heap.size [Value.slice oa os.length oc, .int .i64 (olast : Int)] _ rfl rfl KA.out (HSZ.out _) rfl HON.out (fun wb kb fb zb => ?_)); have KB := Lib.hid kb; have CB := Lib.hid (show Below w0.heap.size w0 wb from CA.out.trans (fb.below CA.out.size (fun k hk => by have hk : k = w0.heap.size := hk; omega))); clear kb fb))
  have HB := Lib.hid (H1.out.below CB.out)
  have OB := Lib.hid (OB1.out.below CB.out)
  have K0B := Lib.hid (K0.out.below CB.out)
  have MB := Lib.hid (M1'.out.below CB.out)
  have FB := Lib.hid (show Fr (fun k => k = q ∨ k = b) w wb from (Fr.ofBelowAll B0.out (Nat.le_refl _)).trans (Fr.ofBelowAll CB.out (Nat.le_refl _)))
  have hs0 : w.heap.size < w0.heap.size := by omega
  have hsb : w0.heap.size < wb.heap.size := by omega
  have hgq : ¬ w0.heap.size = q := by omega
  have hgb : ¬ w0.heap.size = b := by omega
  have hwq : ¬ w.heap.size = q := by omega
  have hwb : ¬ w.heap.size = b := by omega
  have hww : ¬ w.heap.size = w0.heap.size := by omega
  clear KA CA za zb c2 z0 H1 M1 M1' OB1 K0 CB B0
  have KQ := Lib.hid (show Blk wb q [.int .i64 d.room, .int .i64 (uo : Int), .map (some b), .int .i64 d.steps, .int .i64 d.left, .bool d.dead] 91 from by rw [← KD.out]; exact HB.out.k)
  have HC1 := Lib.hid (show wb.drew.cell? ⟨q, 1, none⟩ = some (.int .i64 (uo : Int)) from KQ.out.cell (i := 1) rfl)
  try simp only [Act.put, List.setIfInBounds_toArray, List.set_cons_zero, List.set_cons_succ]
  refine wp_region_held_drew (S := (fun w' => Fr (fun k => k = q) wb w')) (by kernel_rfl) (Fr.refl _ _).drew (fun hHeld => ?_)
  refine wpAnyH_take (i := 0) (oi := ⟨_, _, _, _, _, _⟩) (v := ?_) rfl (by kernel_rfl) (by kernel_rfl) (by kernel_rfl) (fun _ _ _ h => h) (Or.inl ⟨by rfl, ?_⟩) (by assumption) ?_
  rotate_left
  · intro w hSw; go_simp; try (with_reducible rfl)
  try simp only [Act.put, List.setIfInBounds_toArray, List.set_cons_zero, List.set_cons_succ]
  refine wpAnyH_take (i := 1) (oi := ⟨_, _, _, _, _, _⟩) (v := ?_) rfl (by kernel_rfl) (by kernel_rfl) (by kernel_rfl) (fun _ _ _ h => h) (Or.inl ⟨by rfl, ?_⟩) (by assumption) ?_
  rotate_left
  · intro w hSw; go_simp; try (with_reducible rfl)
  try simp only [Act.put, List.setIfInBounds_toArray, List.set_cons_zero, List.set_cons_succ]
  refine wpAnyH_take (i := 2) (oi := ⟨_, _, _, _, _, _⟩) (v := ?_) rfl (by kernel_rfl) (by kernel_rfl) (by kernel_rfl) (fun _ _ _ h => h) (Or.inl ⟨by rfl, ?_⟩) (by assumption) ?_
  rotate_left
  · intro w hSw; go_simp; try (with_reducible rfl)
  try simp only [Act.put, List.setIfInBounds_toArray, List.set_cons_zero, List.set_cons_succ]
  refine wpAnyH_take (i := 4) (oi := ⟨_, _, _, _, _, _⟩) (v := ?_) rfl (by kernel_rfl) (by kernel_rfl) (by kernel_rfl) (fun _ _ _ h => h) (Or.inl ⟨by rfl, ?_⟩) (by assumption) ?_
  rotate_left
  · intro w hSw; go_simp; try (with_reducible rfl)
  try simp only [Act.put, List.setIfInBounds_toArray, List.set_cons_zero, List.set_cons_succ]
  refine wpAnyH_take (i := 5) (oi := ⟨_, _, _, _, _, _⟩) (v := .slice oa os.length oc) rfl (by kernel_rfl) (by kernel_rfl) (by kernel_rfl) (fun _ _ _ h => h) (Or.inl ⟨by rfl, fun w hSw => (by have c := (KB.out.fr hSw (fun e => hgq e)).cell (i := 0) rfl; go_simp; try (with_reducible rfl))⟩) (by assumption) ?_
  try simp only [Act.put, List.setIfInBounds_toArray, List.set_cons_zero, List.set_cons_succ]
  refine wpAnyH_take (i := 6) (oi := ⟨_, _, _, _, _, _⟩) (v := ?_) rfl (by kernel_rfl) (by kernel_rfl) (by kernel_rfl) (fun _ _ _ h => h) (Or.inl ⟨by rfl, ?_⟩) (by assumption) ?_
  rotate_left
  · intro w hSw; go_simp; try (with_reducible rfl)
  try simp only [Act.put, List.setIfInBounds_toArray, List.set_cons_zero, List.set_cons_succ]
  refine wpAnyH_ready (rs := [3]) (by kernel_rfl) (by simp) ?_
  refine AllReadyH.cons (o := ⟨_, _, _, _, _, _⟩) rfl (fun K hK => ?_) AllReadyH.nil
  have c1 := HC1.out
  go_simp
  refine hK.out _ _ (by exact (Fr.refl _ _).drew) (fun hHeld => ?_)
  clear c1
  try simp only [Act.put, List.setIfInBounds_toArray, List.set_cons_zero, List.set_cons_succ]
  clear hK
  refine wpAnyH_take (i := 7) (oi := ⟨_, _, _, _, _, _⟩) (v := ?_) rfl (by kernel_rfl) (by kernel_rfl) (by kernel_rfl) (fun _ _ _ h => h) (Or.inl ⟨by rfl, ?_⟩) (by assumption) ?_
  rotate_left
  · intro w hSw; go_simp; try (with_reducible rfl)
  try simp only [Act.put, List.setIfInBounds_toArray, List.set_cons_zero, List.set_cons_succ]
  refine wpAnyH_take (i := 8) (oi := ⟨_, _, _, _, _, _⟩) (v := ?_) rfl (by kernel_rfl) (by kernel_rfl) (by kernel_rfl) (fun _ _ _ h => h) (Or.inl ⟨by rfl, ?_⟩) (by assumption) ?_
  rotate_left
  · intro w hSw; go_simp; try (with_reducible rfl)
  try simp only [Act.put, List.setIfInBounds_toArray, List.set_cons_zero, List.set_cons_succ]
  refine wpAnyH_take (i := 9) (oi := ⟨_, _, _, _, _, _⟩) (v := ?_) rfl (by kernel_rfl) (by kernel_rfl) (by kernel_rfl) (fun _ _ _ h => h) (Or.inl ⟨by rfl, ?_⟩) (by assumption) ?_
  rotate_left
  · intro w hSw; go_simp; try (with_reducible rfl)
  try simp only [Act.put, List.setIfInBounds_toArray, List.set_cons_zero, List.set_cons_succ]
  refine wpAnyH_ready (rs := [10]) (by kernel_rfl) (by simp) ?_
  refine AllReadyH.cons (o := ⟨_, _, _, _, _, _⟩) rfl (fun K hK => ?_) AllReadyH.nil
  rw [if_pos (by rfl)]
  refine wp_setc _ _ _ rfl q 1 rfl _ rfl rfl KQ.out (by simp) (by kernel_rfl) (fun w3 k3 f3 z3 => ?_)
  have K3 := Lib.hid k3
  have F3 := Lib.hid (show Fr (fun k => k = q) wb w3 from (Fr.refl _ wb).drew.trans f3)
  refine hK.out _ _ (by exact F3.out) (fun hHeld => ?_)
  clear k3 f3 z3
  try simp only [Act.put, List.setIfInBounds_toArray, List.set_cons_zero, List.set_cons_succ]
  clear hK
  refine wpAnyH_done (by kernel_rfl) ?_ _
  clear hHeld hw7
  have KT3 := Lib.hid (show Blk w3 q [.int .i64 d.room, .int .i64 (un : Int), .map (some b), .int .i64 d.steps, .int .i64 d.left, .bool d.dead] 91 from K3.out)
  have M3 := Lib.hid (show MapIs Try.prog 9 w3 b l from MB.out.fr F3.out (fun e => hbq e))
  have c2 := KT3.out.cell (i := 2) rfl
  go_upto_region 4 with (with_reducible refine wpList_del rfl _ _ 89 rfl 94 keyedS Try.underlying89 rfl M3.out (nmV n) kl rfl HKL.out HDL.out (fun w5 m5 f5 => ?_); have M5 := Lib.hid m5; have F5 := Lib.hid f5; clear m5 f5)
  clear c2
  have FX := Lib.hid (show Fr (fun k => k = q ∨ k = b) wb w5 from (F3.out.mono (fun k _ h => .inl h)).trans (F5.out.mono (fun k _ h => .inr h)))
  have FQ := Lib.hid (FB.out.trans FX.out)
  have K5 := Lib.hid (KB.out.fr FX.out (fun e => by rcases e with e | e; exact hgq e; exact hgb e))
  have K05 := Lib.hid (K0B.out.fr FX.out (fun e => by rcases e with e | e; exact hwq e; exact hwb e))
  have KT5 := Lib.hid (KT3.out.fr F5.out (fun e => hne e))
  clear FB FX K3 KT3 M3 F3 F5 KB K0B HB OB MB KQ HC1
  go_wp2_with (first
    | (with_reducible refine wpList_load_blk rfl _ _ rfl w0.heap.size [Value.slice oa os.length oc, .int .i64 (olast : Int)] rfl K5.out _ Try.underlying94 rfl (HSZ.out _) ?_)
    | ((with_reducible refine wpList_put rfl _ _ _ rfl w.heap.size [Value.slice oa os.length oc, .int .i64 (olast : Int)] _ rfl rfl K05.out (HSZ.out _) rfl HON.out (fun w6 k6 f6 z6 => ?_)); have K6 := Lib.hid k6; have F6 := Lib.hid f6; clear k6 f6))
  have FQ6 := Lib.hid (show Fr (fun k => k = q ∨ k = b) w w6 from FQ.out.trans' F6.out (fun k hk e => by have e : k = w.heap.size := e; omega))
  refine bodyPost_ret (v := .agg [Value.slice oa os.length oc, .int .i64 (olast : Int)].toArray) (results_row1 Try.results93 _ _ w.heap.size _ _ rfl K6.out Try.underlying94 rfl (HSZ.out _)) rfl ⟨.slice oa os.length oc, ?_, ?_, ⟨?_, ⟨l', M5.out.fr F6.out (fun e => hwb (show b = w.heap.size from e).symm), HFI.out.fr FQ6.out (fun k _ hk e => ?_)⟩, hne, H.out.nd, fun k hk => H.out.fresh k (Nat.le_trans FQ6.out.size hk)⟩, FQ6.out⟩
  · rw [HOL.out]; rfl
  · rw [HOS.out]
    exact HOB.out.fr FQ6.out (fun k _ hk e => by rcases e with e | e; exact H.out.nd.1 (e ▸ hk); exact H.out.nd.2 (e ▸ hk))
  · show Blk w6 q [.int .i64 d.room, .int .i64 (usedF (eraseF d.fs n) : Int), .map (some b), .int .i64 d.steps, .int .i64 d.left, .bool d.dead] _
    rw [HUN.out]
    exact KT5.out.fr F6.out (fun e => hwq (show q = w.heap.size from e).symm)
  · rcases e with e | e
    · exact H.out.nd.1 (e ▸ hk)
    · exact H.out.nd.2 (e ▸ hk)
end Go.Proofs.Ytjdohjoljobinaa.Dx
