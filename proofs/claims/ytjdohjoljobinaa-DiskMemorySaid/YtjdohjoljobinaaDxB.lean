/- Files by names, plain; the walk of the program's lay. Condition: fewer than 2^62 bytes. -/
import Derived.Test.YtjdohjoljobinaaDxA
import Derived.OrdersHeld
import Derived.Deep.RegionHeld
import Derived.Deep.MidRow
namespace Go.Proofs.Ytjdohjoljobinaa.Dx
open Go Go.RowKit Mem Maps Ops Reps
open Go.Maps (Keyed string_keyed)
set_option linter.unusedVariables false
set_option linter.unusedSimpArgs false

def putF : List XF → XF → List XF
  | [], x => [x]
  | y :: r, x => if y.1 = x.1 then x :: r else y :: putF r x
def lookF : List XF → Nm → Option (List UInt8 × Nat)
  | [], _ => none
  | y :: r, n => if y.1 = n then some y.2 else lookF r n
def lenF (fs : List XF) (n : Nm) : Nat := ((lookF fs n).map fun y => y.1.length).getD 0
theorem used_put : ∀ (fs : List XF) (x : XF), usedF (putF fs x) + lenF fs x.1 = usedF fs + x.2.1.length
  | [], x => by simp [putF, usedF, lenF, lookF]
  | y :: r, x => by
    have ih := used_put r x
    unfold putF
    by_cases h : y.1 = x.1
    · rw [if_pos h]
      simp [usedF, lenF, lookF, h]; omega
    · rw [if_neg h]
      simp [usedF, lenF, lookF, h] at ih ⊢; omega
theorem len_used : ∀ (fs : List XF) (n : Nm), lenF fs n ≤ usedF fs
  | [], n => by simp [lenF, lookF]
  | y :: r, n => by
    have ih := len_used r n
    by_cases h : y.1 = n
    · simp [usedF, lenF, lookF, h]
    · simp [usedF, lenF, lookF, h] at ih ⊢; omega
theorem put_at {D : Nat → Prop} {w : World} {n bs : List UInt8} {v : Value} {last : Nat} (hn : n.length ≤ maxLen) (hv : Byt D w v bs) : ∀ {l : List (Value × Value)} {fs : List XF}, Files D w l fs → ∃ l', PutAt l (nmV n) (fileV v last) l' ∧ Files D w l' (putF fs (n, bs, last)) := by
  intro l fs h
  induction h with
  | nil => exact ⟨[(nmV n, fileV v last)], .inr ⟨by simp, rfl⟩, .cons ⟨rfl, hn, v, rfl, hv⟩ .nil⟩
  | @cons p y l fs h1 h2 ih =>
    obtain ⟨k, o⟩ := p
    obtain ⟨e1, e2, u, e3, e4⟩ := h1
    by_cases hy : y.1 = n
    · refine ⟨(nmV n, fileV v last) :: l, .inl ⟨[], o, l, by rw [← hy]; simp only at e1; rw [e1]; rfl, rfl⟩, ?_⟩
      unfold putF
      rw [if_pos hy]
      exact .cons ⟨rfl, hn, v, rfl, hv⟩ h2
    · obtain ⟨l', hp, hf⟩ := ih
      refine ⟨(k, o) :: l', ?_, ?_⟩
      · rcases hp with ⟨pre, old, post, q1, q2⟩ | ⟨q1, q2⟩
        · exact .inl ⟨(k, o) :: pre, old, post, by rw [q1]; rfl, by rw [q2]; rfl⟩
        · refine .inr ⟨fun p hp => ?_, by rw [q2]; rfl⟩
          rcases List.mem_cons.1 hp with rfl | hp
          · simp only at e1 ⊢
            rw [e1]
            exact fun e => hy (nmV_inj e)
          · exact q1 p hp
      · unfold putF
        rw [if_neg hy]
        exact .cons ⟨e1, e2, u, e3, e4⟩ hf
theorem look_at {D : Nat → Prop} {w : World} (n : Nm) : ∀ {l : List (Value × Value)} {fs : List XF}, Files D w l fs → ∃ r, AtKey l (nmV n) r ∧ ((lookF fs n = none ∧ r = none) ∨ ∃ bs last v, lookF fs n = some (bs, last) ∧ r = some (fileV v last) ∧ Byt D w v bs) := by
  intro l fs h
  induction h with
  | nil => exact ⟨none, .inl ⟨rfl, by simp⟩, .inl ⟨rfl, rfl⟩⟩
  | @cons p y l fs h1 h2 ih =>
    obtain ⟨k, o⟩ := p
    obtain ⟨e1, e2, u, e3, e4⟩ := h1
    simp only at e1 e3
    by_cases hy : y.1 = n
    · exact ⟨some o, .inr ⟨o, rfl, by rw [e1, hy]; simp⟩, .inr ⟨y.2.1, y.2.2, u, by unfold lookF; rw [if_pos hy], by rw [e3], e4⟩⟩
    · obtain ⟨r, hr, hx⟩ := ih
      refine ⟨r, ?_, ?_⟩
      · rcases hr with ⟨q1, q2⟩ | ⟨v, q1, q2⟩
        · refine .inl ⟨q1, fun p hp => ?_⟩
          rcases List.mem_cons.1 hp with rfl | hp
          · simp only
            rw [e1]
            exact fun e => hy (nmV_inj e)
          · exact q2 p hp
        · exact .inr ⟨v, q1, List.mem_cons_of_mem _ q2⟩
      · unfold lookF
        rw [if_neg hy]
        exact hx
theorem zeroFile (w : World) : (zeroValue 94).run Try.prog w = .ok (.agg #[.slice none 0 0, .int .i64 0]) w := by kernel_rfl
/-- what a lookup tells: a file's value, or the zero one -/
theorem look_file {D : Nat → Prop} {w : World} (n : Nm) {l : List (Value × Value)} {fs : List XF} (h : Files D w l fs) : ∃ r v last, AtKey l (nmV n) r ∧ r.getD (.agg #[.slice none 0 0, .int .i64 0]) = fileV v last ∧ r.isSome = (lookF fs n).isSome ∧ Byt D w v (((lookF fs n).map (·.1)).getD []) ∧ (last : Nat) = ((lookF fs n).map (·.2)).getD 0 ∧ v.cells = #[v] := by
  obtain ⟨r, hr, hx⟩ := look_at n h
  rcases hx with ⟨e1, e2⟩ | ⟨bs, last, v, e1, e2, e3⟩
  · refine ⟨r, .slice none 0 0, 0, hr, by rw [e2]; rfl, by rw [e1, e2]; rfl, by rw [e1]; exact ⟨none, 0, rfl, ⟨Nat.le_refl _, Nat.zero_le _, fun _ => rfl⟩, .inl rfl⟩, by rw [e1]; rfl, rfl⟩
  · refine ⟨r, v, last, hr, by rw [e2]; rfl, by rw [e1, e2]; rfl, by rw [e1]; exact e3, by rw [e1]; rfl, ?_⟩
    obtain ⟨_, _, rfl, _⟩ := id e3
    rfl
set_option maxHeartbeats 8000000 in
set_option maxRecDepth 100000 in
theorem lay_calls (w : World) (q b : Nat) (d : Disk) (n : Nm) (v : Value) (bs : List UInt8) (last : Nat) {D : Nat → Prop} (H0 : DkIs D w q b d) (hn : n.length ≤ maxLen) (hv : Byt D w v bs) (hu : usedF d.fs ≤ 2305843009213693952) (hl : bs.length ≤ 2305843009213693952) :
    Calls Try.prog 53 #[.pointer (some ⟨q, 0, none⟩), nmV n, fileV v last] w fun e w' => e = .returned (.tuple #[]) ∧ DkIs D w' q b { d with fs := putF d.fs (n, bs, last) } ∧ Fr (fun k => k = q ∨ k = b) w w' := by
  obtain ⟨va, vc, rfl, _⟩ := id hv
  obtain ⟨kl, hkl⟩ := key_str n hn
  have HKL := Lib.hid hkl
  have hlt := H0.lt
  have H := Lib.hid H0
  have HV := Lib.hid hv
  have hne := H0.ne
  have hbq : ¬ b = q := fun e => hne e.symm
  have hus := used_put d.fs (n, bs, last)
  have hle := len_used d.fs n
  clear H0 hv hkl
  unfold fileV nmV
  go_enter Try.func53, Try.ntmps53
  go_upto_region 1 with ((with_reducible refine wpList_box rfl _ _ rfl [.slice va bs.length vc, .int .i64 (last : Int)] rfl (fun w1 k1 b1 z1 => ?_)); have K1 := Lib.hid k1; have B1 := Lib.hid b1; clear k1 b1)
  have H1 := Lib.hid (H.out.below B1.out)
  have hq1 : ¬ w.heap.size = q := by omega
  have hb1 : ¬ w.heap.size = b := by omega
  have HSZ := Lib.hid (show (Try.prog.info? 94).map (·.size) = some [Value.slice va bs.length vc, .int .i64 (last : Int)].length from by kernel_rfl)
  obtain ⟨l, m1, fi⟩ := H1.out.m
  have M1 := Lib.hid m1
  obtain ⟨r, ov, olast, hr, hrv, hx1, hob, hx2, hx3⟩ := look_file n fi
  clear hx1 hx2 hx3
  obtain ⟨oa, oc, rfl, _⟩ := id hob
  obtain ⟨ol, hol⟩ : ∃ k, lenF d.fs n = k := ⟨_, rfl⟩
  have hol' : (((lookF d.fs n).map (·.1)).getD []).length = ol := by
    rw [← hol]
    unfold lenF
    cases lookF d.fs n <;> rfl
  have HR := Lib.hid hr
  have HRV := Lib.hid (show r.getD (.agg #[.slice none 0 0, .int .i64 0]) = .agg #[.slice oa ol oc, .int .i64 (olast : Int)] from by rw [hrv, hol']; rfl)
  obtain ⟨l', hpa, hfi⟩ := put_at (v := .slice va bs.length vc) (last := last) hn (HV.out.below B1.out) fi
  have HPA := Lib.hid hpa
  have HFI := Lib.hid hfi
  obtain ⟨uo, huo⟩ : ∃ k, usedF d.fs = k := ⟨_, rfl⟩
  obtain ⟨un, hun⟩ : ∃ k, usedF (putF d.fs (n, bs, last)) = k := ⟨_, rfl⟩
  have HUN := Lib.hid hun
  simp only [hun, hol, huo] at hus hle hu
  have hw15 : IntKind.i64.wrap ((bs.length : Int) - (ol : Int)) = (bs.length : Int) - (ol : Int) := by rw [IntKind.wrap_i64]; omega
  have hw16 : IntKind.i64.wrap ((uo : Int) + ((bs.length : Int) - (ol : Int))) = (un : Int) := by rw [IntKind.wrap_i64]; omega
  have KQ := Lib.hid (show Blk w1 q [.int .i64 d.room, .int .i64 (uo : Int), .map (some b), .int .i64 d.steps, .int .i64 d.left, .bool d.dead] 91 from by rw [← huo]; exact H1.out.k)
  have HC1 := Lib.hid (show w1.drew.cell? ⟨q, 1, none⟩ = some (.int .i64 (uo : Int)) from KQ.out.cell (i := 1) rfl)
  have HC2 := Lib.hid (show w1.cell? ⟨q, 2, none⟩ = some (.map (some b)) from KQ.out.cell (i := 2) rfl)
  have hfl : ∀ w', (Instr.field 94 (.agg #[.slice oa ol oc, .int .i64 (olast : Int)]) 0).run Try.prog w' = .ok (.slice oa ol oc) w' := fun w' => run_field_cell (cs := [.slice oa ol oc, .int .i64 (olast : Int)]) Try.underlying94 rfl (by kernel_rfl) rfl
  clear m1 fi hr hrv hob hpa hfi hun huo hol hol'
  try simp only [Act.put, List.setIfInBounds_toArray, List.set_cons_zero, List.set_cons_succ]
  refine wp_region_held_drew (S := (fun w' => Fr (fun k => k = q) w1 w' ∧ w'.cell? ⟨q, 2, none⟩ = some (.map (some b)))) (by kernel_rfl) ⟨(Fr.refl _ _).drew, HC2.out⟩ (fun hHeld => ?_)
  refine wpAnyH_take (i := 0) (oi := ⟨_, _, _, _, _, _⟩) (v := ?_) rfl (by kernel_rfl) (by kernel_rfl) (by kernel_rfl) (fun _ _ _ h => h) (Or.inl ⟨by rfl, ?_⟩) (by assumption) ?_
  rotate_left
  · intro w hSw; go_simp; try (with_reducible rfl)
  try simp only [Act.put, List.setIfInBounds_toArray, List.set_cons_zero, List.set_cons_succ]
  refine wpAnyH_take (i := 1) (oi := ⟨_, _, _, _, _, _⟩) (v := ?_) rfl (by kernel_rfl) (by kernel_rfl) (by kernel_rfl) (fun _ _ _ h => h) (Or.inl ⟨by rfl, ?_⟩) (by assumption) ?_
  rotate_left
  · intro w hSw; go_simp; try (with_reducible rfl)
  try simp only [Act.put, List.setIfInBounds_toArray, List.set_cons_zero, List.set_cons_succ]
  refine wpAnyH_take (i := 2) (oi := ⟨_, _, _, _, _, _⟩) (v := ?_) rfl (by kernel_rfl) (by kernel_rfl) (by kernel_rfl) (fun _ _ _ h => h) (Or.inl ⟨by rfl, ?_⟩) (by assumption) ?_
  rotate_left
  · intro w hSw; go_simp; try (with_reducible rfl)
  try simp only [Act.put, List.setIfInBounds_toArray, List.set_cons_zero, List.set_cons_succ]
  refine wpAnyH_take (i := 4) (oi := ⟨_, _, _, _, _, _⟩) (v := ?_) rfl (by kernel_rfl) (by kernel_rfl) (by kernel_rfl) (fun _ _ _ h => h) (Or.inl ⟨by rfl, ?_⟩) (by assumption) ?_
  rotate_left
  · intro w hSw; go_simp; try (with_reducible rfl)
  try simp only [Act.put, List.setIfInBounds_toArray, List.set_cons_zero, List.set_cons_succ]
  refine wpAnyH_take (i := 5) (oi := ⟨_, _, _, _, _, _⟩) (v := .slice va bs.length vc) rfl (by kernel_rfl) (by kernel_rfl) (by kernel_rfl) (fun _ _ _ h => h) (Or.inl ⟨by rfl, fun w hSw => (by have c := (K1.out.fr hSw.1 (fun e => hq1 e)).cell (i := 0) rfl; go_simp; try (with_reducible rfl))⟩) (by assumption) ?_
  try simp only [Act.put, List.setIfInBounds_toArray, List.set_cons_zero, List.set_cons_succ]
  refine wpAnyH_take (i := 6) (oi := ⟨_, _, _, _, _, _⟩) (v := ?_) rfl (by kernel_rfl) (by kernel_rfl) (by kernel_rfl) (fun _ _ _ h => h) (Or.inl ⟨by rfl, ?_⟩) (by assumption) ?_
  rotate_left
  · intro w hSw; go_simp; try (with_reducible rfl)
  try simp only [Act.put, List.setIfInBounds_toArray, List.set_cons_zero, List.set_cons_succ]
  refine wpAnyH_take (i := 7) (oi := ⟨_, _, _, _, _, _⟩) (v := ?_) rfl (by kernel_rfl) (by kernel_rfl) (by kernel_rfl) (fun _ _ _ h => h) (Or.inl ⟨by rfl, ?_⟩) (by assumption) ?_
  rotate_left
  · intro w hSw; go_simp; try (with_reducible rfl)
  try simp only [Act.put, List.setIfInBounds_toArray, List.set_cons_zero, List.set_cons_succ]
  refine wpAnyH_take (i := 8) (oi := ⟨_, _, _, _, _, _⟩) (v := ?_) rfl (by kernel_rfl) (by kernel_rfl) (by kernel_rfl) (fun _ _ _ h => h) (Or.inl ⟨by rfl, ?_⟩) (by assumption) ?_
  rotate_left
  · intro w hSw; go_simp; try (with_reducible rfl)
  try simp only [Act.put, List.setIfInBounds_toArray, List.set_cons_zero, List.set_cons_succ]
  refine wpAnyH_take (i := 9) (oi := ⟨_, _, _, _, _, _⟩) (v := ?_) rfl (by kernel_rfl) (by kernel_rfl) (by kernel_rfl) (fun _ _ _ h => h) (Or.inl ⟨by rfl, ?_⟩) (by assumption) ?_
  rotate_left
  · intro w hSw; go_simp; try (with_reducible rfl)
  try simp only [Act.put, List.setIfInBounds_toArray, List.set_cons_zero, List.set_cons_succ]
  refine wpAnyH_take (i := 10) (oi := ⟨_, _, _, _, _, _⟩) (v := .map (some b)) rfl (by kernel_rfl) (by kernel_rfl) (by kernel_rfl) (fun _ _ _ h => h) (Or.inl ⟨by rfl, fun w hSw => (by have c := hSw.2; go_simp; try (with_reducible rfl))⟩) (by assumption) ?_
  try simp only [Act.put, List.setIfInBounds_toArray, List.set_cons_zero, List.set_cons_succ]
  refine wpAnyH_take (i := 11) (oi := ⟨_, _, _, _, _, _⟩) (v := ?_) rfl (by kernel_rfl) (by kernel_rfl) (by kernel_rfl) (fun _ _ _ h => h) (Or.inl ⟨by rfl, ?_⟩) (by assumption) ?_
  rotate_left
  · intro w hSw; go_simp; try (with_reducible rfl)
  try simp only [Act.put, List.setIfInBounds_toArray, List.set_cons_zero, List.set_cons_succ]
  refine wpAnyH_take (i := 12) (oi := ⟨_, _, _, _, _, _⟩) rfl (by kernel_rfl) (by kernel_rfl) (by kernel_rfl) (fun _ _ _ h => h) (yieldsIf_look (by rfl) _ _ 89 false rfl 94 keyedS Try.underlying89 zeroFile rfl (fun w' h => M1.out.fr h.1 (fun e => H.out.ne (show b = q from e).symm)) (nmV n) kl rfl HKL.out r HR.out (.agg #[.slice oa ol oc, .int .i64 (olast : Int)]) (by rw [if_neg (by decide)]; exact HRV.out)) (by assumption) ?_
  try simp only [Act.put, List.setIfInBounds_toArray, List.set_cons_zero, List.set_cons_succ]
  refine wpAnyH_take (i := 13) (oi := ⟨_, _, _, _, _, _⟩) (v := ?_) rfl (by kernel_rfl) (by kernel_rfl) (by kernel_rfl) (fun _ _ _ h => h) (Or.inl ⟨by rfl, ?_⟩) (by assumption) ?_
  rotate_left
  · intro w hSw; go_simp; try (with_reducible rfl)
  try simp only [Act.put, List.setIfInBounds_toArray, List.set_cons_zero, List.set_cons_succ]
  refine wpAnyH_take (i := 14) (oi := ⟨_, _, _, _, _, _⟩) (v := ?_) rfl (by kernel_rfl) (by kernel_rfl) (by kernel_rfl) (fun _ _ _ h => h) (Or.inl ⟨by rfl, ?_⟩) (by assumption) ?_
  rotate_left
  · intro w hSw; go_simp; try (with_reducible rfl)
  try simp only [Act.put, List.setIfInBounds_toArray, List.set_cons_zero, List.set_cons_succ]
  refine wpAnyH_take (i := 15) (oi := ⟨_, _, _, _, _, _⟩) (v := ?_) rfl (by kernel_rfl) (by kernel_rfl) (by kernel_rfl) (fun _ _ _ h => h) (Or.inl ⟨by rfl, ?_⟩) (by assumption) ?_
  rotate_left
  · intro w hSw; go_simp; try (with_reducible rfl)
  try simp only [Act.put, List.setIfInBounds_toArray, List.set_cons_zero, List.set_cons_succ]
  refine wpAnyH_ready (rs := [3]) (by kernel_rfl) (by simp) ?_
  refine AllReadyH.cons (o := ⟨_, _, _, _, _, _⟩) rfl (fun K hK => ?_) AllReadyH.nil
  have c1 := HC1.out
  go_simp
  refine hK.out _ _ (by exact ⟨(Fr.refl _ _).drew, HC2.out⟩) (fun hHeld => ?_)
  clear c1
  try simp only [Act.put, List.setIfInBounds_toArray, List.set_cons_zero, List.set_cons_succ]
  clear hK
  refine wpAnyH_take (i := 16) (oi := ⟨_, _, _, _, _, _⟩) (v := ?_) rfl (by kernel_rfl) (by kernel_rfl) (by kernel_rfl) (fun _ _ _ h => h) (Or.inl ⟨by rfl, ?_⟩) (by assumption) ?_
  rotate_left
  · intro w hSw; go_simp; try (with_reducible rfl)
  try simp only [Act.put, List.setIfInBounds_toArray, List.set_cons_zero, List.set_cons_succ]
  refine wpAnyH_take (i := 17) (oi := ⟨_, _, _, _, _, _⟩) (v := ?_) rfl (by kernel_rfl) (by kernel_rfl) (by kernel_rfl) (fun _ _ _ h => h) (Or.inl ⟨by rfl, ?_⟩) (by assumption) ?_
  rotate_left
  · intro w hSw; go_simp; try (with_reducible rfl)
  try simp only [Act.put, List.setIfInBounds_toArray, List.set_cons_zero, List.set_cons_succ]
  refine wpAnyH_take (i := 18) (oi := ⟨_, _, _, _, _, _⟩) (v := ?_) rfl (by kernel_rfl) (by kernel_rfl) (by kernel_rfl) (fun _ _ _ h => h) (Or.inl ⟨by rfl, ?_⟩) (by assumption) ?_
  rotate_left
  · intro w hSw; go_simp; try (with_reducible rfl)
  try simp only [Act.put, List.setIfInBounds_toArray, List.set_cons_zero, List.set_cons_succ]
  refine wpAnyH_ready (rs := [19]) (by kernel_rfl) (by simp) ?_
  refine AllReadyH.cons (o := ⟨_, _, _, _, _, _⟩) rfl (fun K hK => ?_) AllReadyH.nil
  rw [if_pos (by rfl)]
  refine wp_setc _ _ _ rfl q 1 rfl _ rfl rfl KQ.out (by simp) (by kernel_rfl) (fun w3 k3 f3 z3 => ?_)
  have K3 := Lib.hid k3
  have F3 := Lib.hid (show Fr (fun k => k = q) w1 w3 from (Fr.refl _ w1).drew.trans f3)
  refine hK.out _ _ (by exact ⟨F3.out, k3.cell (i := 2) rfl⟩) (fun hHeld => ?_)
  clear k3 f3 z3
  try simp only [Act.put, List.setIfInBounds_toArray, List.set_cons_zero, List.set_cons_succ]
  clear hK
  refine wpAnyH_done (by kernel_rfl) ?_ _
  go_upto_region 2 with fail
  clear hHeld hw15 hw16 hfl
  have KT3 := Lib.hid (show Blk w3 q [.int .i64 d.room, .int .i64 (un : Int), .map (some b), .int .i64 d.steps, .int .i64 d.left, .bool d.dead] 91 from K3.out)
  have M3 := Lib.hid (show MapIs Try.prog 9 w3.drew b l from (M1.out.fr F3.out (fun e => hbq e)).drew)
  have hb3 : (Fr (fun k => k = q) w1 w3) := F3.out
  refine wp_region_held_drew (S := (fun w' => Fr (fun k => k = q ∨ k = b) w1 w' ∧ w'.cell? ⟨q, 2, none⟩ = some (.map (some b)))) (by kernel_rfl) ⟨(F3.out.mono (fun k _ h => .inl h)).drew, KT3.out.cell (i := 2) rfl⟩ (fun hHeld => ?_)
  refine wpAnyH_take (i := 0) (oi := ⟨_, _, _, _, _, _⟩) (v := ?_) rfl (by kernel_rfl) (by kernel_rfl) (by kernel_rfl) (fun _ _ _ h => h) (Or.inl ⟨by rfl, ?_⟩) (by assumption) ?_
  rotate_left
  · intro w hSw; go_simp; try (with_reducible rfl)
  try simp only [Act.put, List.setIfInBounds_toArray, List.set_cons_zero, List.set_cons_succ]
  refine wpAnyH_take (i := 1) (oi := ⟨_, _, _, _, _, _⟩) (v := ?_) rfl (by kernel_rfl) (by kernel_rfl) (by kernel_rfl) (fun _ _ _ h => h) (Or.inl ⟨by rfl, ?_⟩) (by assumption) ?_
  rotate_left
  · intro w hSw; go_simp; try (with_reducible rfl)
  try simp only [Act.put, List.setIfInBounds_toArray, List.set_cons_zero, List.set_cons_succ]
  refine wpAnyH_take (i := 2) (oi := ⟨_, _, _, _, _, _⟩) (v := ?_) rfl (by kernel_rfl) (by kernel_rfl) (by kernel_rfl) (fun _ _ _ h => h) (Or.inl ⟨by rfl, ?_⟩) (by assumption) ?_
  rotate_left
  · intro w hSw; go_simp; try (with_reducible rfl)
  try simp only [Act.put, List.setIfInBounds_toArray, List.set_cons_zero, List.set_cons_succ]
  refine wpAnyH_take (i := 3) (oi := ⟨_, _, _, _, _, _⟩) (v := .map (some b)) rfl (by kernel_rfl) (by kernel_rfl) (by kernel_rfl) (fun _ _ _ h => h) (Or.inl ⟨by rfl, fun w hSw => (by have c := hSw.2; go_simp; try (with_reducible rfl))⟩) (by assumption) ?_
  try simp only [Act.put, List.setIfInBounds_toArray, List.set_cons_zero, List.set_cons_succ]
  refine wpAnyH_take (i := 4) (oi := ⟨_, _, _, _, _, _⟩) (v := ?_) rfl (by kernel_rfl) (by kernel_rfl) (by kernel_rfl) (fun _ _ _ h => h) (Or.inl ⟨by rfl, ?_⟩) (by assumption) ?_
  rotate_left
  · intro w hSw; go_simp; try (with_reducible rfl)
  try simp only [Act.put, List.setIfInBounds_toArray, List.set_cons_zero, List.set_cons_succ]
  refine wpAnyH_take (i := 5) (oi := ⟨_, _, _, _, _, _⟩) rfl (by kernel_rfl) (by kernel_rfl) (by kernel_rfl) (fun _ _ _ h => h) (yieldsIf_load_mid (by rfl) _ _ rfl w.heap.size 0 rfl [.slice va bs.length vc, .int .i64 (last : Int)] _ (fun _ h => Ops.blk_range (K1.out.fr h.1 (fun e => by rcases e with e | e; exact hq1 e; exact hb1 e))) Try.underlying94 rfl HSZ.out) (by assumption) ?_
  try simp only [Act.put, List.setIfInBounds_toArray, List.set_cons_zero, List.set_cons_succ]
  refine wpAnyH_ready (rs := [6]) (by kernel_rfl) (by simp) ?_
  refine AllReadyH.cons (o := ⟨_, _, _, _, _, _⟩) rfl (fun K hK => ?_) AllReadyH.nil
  rw [if_pos (by rfl)]
  refine wp_set _ _ _ 89 (.inl rfl) 94 keyedS Try.underlying89 rfl M3.out (nmV n) (fileV (.slice va bs.length vc) last) kl rfl rfl HKL.out HPA.out (fun w5 m5 f5 => ?_)
  have M5 := Lib.hid m5
  have F5 := Lib.hid (show Fr (fun k => k = q ∨ k = b) w1 w5 from (F3.out.mono (T := fun k => k = q ∨ k = b) (fun k _ h => .inl h)).trans (((Fr.refl _ w3).drew).trans (f5.mono (fun k _ h => .inr h))))
  have K5 := Lib.hid (KT3.out.fr (((Fr.refl _ w3).drew).trans f5) (fun e => H.out.ne e))
  refine hK.out _ _ (by exact ⟨F5.out, K5.out.cell (i := 2) rfl⟩) (fun hHeld => ?_)
  clear m5 f5
  try simp only [Act.put, List.setIfInBounds_toArray, List.set_cons_zero, List.set_cons_succ]
  clear hK
  refine wpAnyH_done (by kernel_rfl) ?_ _
  go_wp2
  go_end0
  refine ⟨rfl, ⟨?_, ⟨l', M5.out, ?_⟩, hne, H.out.nd, fun k hk => H.out.fresh k (Nat.le_trans ((Fr.ofBelowAll B1.out (Nat.le_refl _)).trans F5.out).size hk)⟩, (Fr.ofBelowAll B1.out (Nat.le_refl _)).trans F5.out⟩
  · show Blk _ q [.int .i64 d.room, .int .i64 (usedF (putF d.fs (n, bs, last)) : Int), .map (some b), .int .i64 d.steps, .int .i64 d.left, .bool d.dead] _
    rw [HUN.out]
    exact K5.out
  · exact HFI.out.fr F5.out (fun k _ hk e => by rcases e with e | e; exact H.out.nd.1 (e ▸ hk); exact H.out.nd.2 (e ▸ hk))
end Go.Proofs.Ytjdohjoljobinaa.Dx
