/- The walks of the store's Len, Size and Get. Condition: what is told is of at most 2^47 bytes. -/
import Derived.Test.YtjdohjoljobinaaLsB
namespace Go.Proofs.Ytjdohjoljobinaa.Ls
open Go Go.RowKit Mem Maps Ops Reps Dk Fra
open Go.Maps (Keyed string_keyed)
set_option linter.unusedVariables false
set_option linter.unusedSimpArgs false

set_option maxRecDepth 100000 in
theorem len_calls (w : World) (s q b mb size : Nat) (n : Nm) (ps : List (Nm × List UInt8)) (H : StIs w s q b mb n ps size) :
    Calls Try.prog 48 #[.pointer (some ⟨s, 0, none⟩)] w fun e w' => e = .returned (.int .i64 (ps.length : Int)) ∧ w = w' := by
  have c2 := H.k.cell (i := 2) rfl
  obtain ⟨l, m1, m2⟩ := H.m
  have hlen : l.length = ps.length := m2.length
  have M1 := Lib.hid m1
  have hln : ∀ ty, (Builtin.len_ #[122] ty #[.map (some mb)]).run Try.prog w = .ok (.int .i64 (ps.length : Int)) w := fun ty => by rw [← hlen]; exact run_len m1 Try.underlying122 ty
  clear H m1 m2 hlen M1
  go_enter Try.func48, Try.ntmps48
  go_wp2
  go_ret
  exact ⟨rfl, rfl⟩
set_option maxRecDepth 100000 in
theorem size_calls (w : World) (s q b mb size : Nat) (n : Nm) (ps : List (Nm × List UInt8)) (H : StIs w s q b mb n ps size) :
    Calls Try.prog 49 #[.pointer (some ⟨s, 0, none⟩)] w fun e w' => e = .returned (.int .i64 (size : Int)) ∧ w = w' := by
  have c3 := H.k.cell (i := 3) rfl
  clear H
  go_enter Try.func49, Try.ntmps49
  go_wp2
  go_ret
  exact ⟨rfl, rfl⟩
theorem zeroBy (w : World) : (zeroValue 23).run Try.prog w = .ok (.slice none 0 0) w := by kernel_rfl
def valF : List (Nm × List UInt8) → Nm → Option (List UInt8)
  | [], _ => none
  | y :: r, n => if y.1 = n then some y.2 else valF r n
theorem val_at {D : Nat → Prop} {w : World} (n : Nm) : ∀ {l : List (Value × Value)} {ps : List (Nm × List UInt8)}, All2 (pairIs D w) l ps → ∃ r, AtKey l (nmV n) r ∧ ((valF ps n = none ∧ r = none) ∨ ∃ bs v, valF ps n = some bs ∧ r = some v ∧ Byt D w v bs) := by
  intro l ps h
  induction h with
  | nil => exact ⟨none, .inl ⟨rfl, by simp⟩, .inl ⟨rfl, rfl⟩⟩
  | @cons p y l ps h1 h2 ih =>
    obtain ⟨k, o⟩ := p
    obtain ⟨e1, e2, e4⟩ := h1
    simp only at e1 e4
    by_cases hy : y.1 = n
    · exact ⟨some o, .inr ⟨o, rfl, by rw [e1, hy]; simp⟩, .inr ⟨y.2, o, by unfold valF; rw [if_pos hy], rfl, e4⟩⟩
    · obtain ⟨r, hr, hx⟩ := ih
      refine ⟨r, ?_, ?_⟩
      · rcases hr with ⟨q1, q2⟩ | ⟨v, q1, q2⟩
        · refine .inl ⟨q1, fun p hp => ?_⟩
          rcases List.mem_cons.1 hp with rfl | hp
          · simp only
            rw [e1]
            exact fun e => hy (nmV_inj e)
          · exact q2 p hp
        · exact .inr ⟨v, q1, List.mem_cons_of_mem _ q2⟩
      · unfold valF
        rw [if_neg hy]
        exact hx
def GetT (w : World) (ps : List (Nm × List UInt8)) (n : Nm) (e : Ending) (w' : World) : Prop := ∃ v, e = .returned (.tuple #[v, .bool (valF ps n).isSome]) ∧ Byt (fun k => w.heap.size ≤ k) w' v ((valF ps n).getD []) ∧ Below w.heap.size w w'
set_option maxHeartbeats 8000000 in
set_option maxRecDepth 100000 in
theorem get_calls (w : World) (s q b mb size : Nat) (n : Nm) (ps : List (Nm × List UInt8)) (H0 : StIs w s q b mb n ps size) (va : Value) (key : List UInt8) (hB : Byt Any w va key) (hk : key.length ≤ maxLen) (hl : ((valF ps key).getD []).length ≤ 140737488355328) :
    Calls Try.prog 47 #[.pointer (some ⟨s, 0, none⟩), va] w (GetT w ps key) := by
  obtain ⟨l, m1, m2⟩ := H0.m
  obtain ⟨r, hr, hx⟩ := val_at key m2
  obtain ⟨bs, hbs⟩ : ∃ x, (valF ps key).getD [] = x := ⟨_, rfl⟩
  obtain ⟨is, his⟩ : ∃ x, (valF ps key).isSome = x := ⟨_, rfl⟩
  have hy : ∃ ga gc, (Value.tuple #[r.getD (.slice none 0 0), .bool r.isSome]) = .tuple #[.slice ga bs.length gc, .bool is] ∧ Byt Any w (.slice ga bs.length gc) bs := by
    rcases hx with ⟨e1, e2⟩ | ⟨bs', v, e1, e2, e3⟩
    · rw [e1] at hbs his
      subst hbs
      subst his
      exact ⟨none, 0, by rw [e2]; rfl, ⟨none, 0, rfl, ⟨Nat.le_refl _, Nat.zero_le _, fun _ => rfl⟩, .inl rfl⟩⟩
    · rw [e1] at hbs his
      obtain ⟨a, c, rfl, _⟩ := id e3
      have hbs' : bs' = bs := hbs
      subst hbs'
      subst his
      exact ⟨a, c, by rw [e2]; rfl, e3.any⟩
  obtain ⟨ga, gc, hrv, hby⟩ := hy
  obtain ⟨kl, hkl⟩ := key_str key hk
  have HKL := Lib.hid hkl
  have H := Lib.hid H0
  have M := Lib.hid m1
  have HR := Lib.hid hr
  have HRV := Lib.hid hrv
  have HBY := Lib.hid hby
  have HB := Lib.hid hB
  have HBS := Lib.hid hbs
  have HIS := Lib.hid his
  have HSTR := Lib.hid (show str key = ⟨key.toArray⟩ from rfl)
  rw [hbs] at hl
  obtain ⟨ka, kc, rfl, _⟩ := id hB
  clear H0 m1 m2 hr hx hbs his hrv hby hkl hB
  go_enter Try.func47, Try.ntmps47
  go_upto_region 1 with fail
  refine wp_region_held_drew (S := (fun w' => Below w.heap.size w w')) (by kernel_rfl) (below_drew (Below.refl _ _)) (fun hHeld => ?_)
  refine wpAnyH_take (i := 0) (oi := ⟨_, _, _, _, _, _⟩) (v := ?_) rfl (by kernel_rfl) (by kernel_rfl) (by kernel_rfl) (fun _ _ _ h => h) (Or.inl ⟨by rfl, ?_⟩) (by assumption) ?_
  rotate_left
  · intro w hSw; go_simp; try (with_reducible rfl)
  try simp only [Act.put, List.setIfInBounds_toArray, List.set_cons_zero, List.set_cons_succ]
  refine wpAnyH_take (i := 1) (oi := ⟨_, _, _, _, _, _⟩) (v := ?_) rfl (by kernel_rfl) (by kernel_rfl) (by kernel_rfl) (fun _ _ _ h => h) (Or.inl ⟨by rfl, ?_⟩) (by assumption) ?_
  rotate_left
  · intro w hSw; go_simp; try (with_reducible rfl)
  try simp only [Act.put, List.setIfInBounds_toArray, List.set_cons_zero, List.set_cons_succ]
  refine wpAnyH_take (i := 2) (oi := ⟨_, _, _, _, _, _⟩) (v := ?_) rfl (by kernel_rfl) (by kernel_rfl) (by kernel_rfl) (fun _ _ _ h => h) (Or.inl ⟨by rfl, ?_⟩) (by assumption) ?_
  rotate_left
  · intro w hSw; go_simp; try (with_reducible rfl)
  try simp only [Act.put, List.setIfInBounds_toArray, List.set_cons_zero, List.set_cons_succ]
  refine wpAnyH_take (i := 3) (oi := ⟨_, _, _, _, _, _⟩) (v := .map (some mb)) rfl (by kernel_rfl) (by kernel_rfl) (by kernel_rfl) (fun _ _ _ h => h) (Or.inl ⟨by rfl, fun w hSw => (by have c := (H.out.below hSw).k.cell (i := 2) rfl; go_simp; try (with_reducible rfl))⟩) (by assumption) ?_
  try simp only [Act.put, List.setIfInBounds_toArray, List.set_cons_zero, List.set_cons_succ]
  refine wpAnyH_take (i := 4) (oi := ⟨_, _, _, _, _, _⟩) (v := ?_) rfl (by kernel_rfl) (by kernel_rfl) (by kernel_rfl) (fun _ _ _ h => h) (Or.inl ⟨by rfl, ?_⟩) (by assumption) ?_
  rotate_left
  · intro w hSw; go_simp; try (with_reducible rfl)
  try simp only [Act.put, List.setIfInBounds_toArray, List.set_cons_zero, List.set_cons_succ]
  refine wpAnyH_take (i := 5) (oi := ⟨_, _, _, _, _, _⟩) (v := .string ⟨key.toArray⟩) rfl (by kernel_rfl) (by kernel_rfl) (by kernel_rfl) (fun _ _ _ h => h) (Or.inl ⟨by rfl, fun w hSw => (by have c := run_convert_byt (P := Try.prog) (HB.out.below hSw) Try.underlying23 Try.underlying5 Try.underlying9; rw [HSTR.out] at c; go_simp; try (with_reducible rfl))⟩) (by assumption) ?_
  try simp only [Act.put, List.setIfInBounds_toArray, List.set_cons_zero, List.set_cons_succ]
  refine wpAnyH_take (i := 6) (oi := ⟨_, _, _, _, _, _⟩) rfl (by kernel_rfl) (by kernel_rfl) (by kernel_rfl) (fun _ _ _ h => h) (yieldsIf_look (by rfl) _ _ 122 true rfl 23 keyedS Try.underlying122 zeroBy rfl (fun w' h => M.out.below h) (nmV key) kl rfl HKL.out r HR.out (.tuple #[.slice ga bs.length gc, .bool is]) (by rw [if_pos rfl]; exact HRV.out)) (by assumption) ?_
  try simp only [Act.put, List.setIfInBounds_toArray, List.set_cons_zero, List.set_cons_succ]
  refine wpAnyH_take (i := 7) (oi := ⟨_, _, _, _, _, _⟩) (v := ?_) rfl (by kernel_rfl) (by kernel_rfl) (by kernel_rfl) (fun _ _ _ h => h) (Or.inl ⟨by rfl, ?_⟩) (by assumption) ?_
  rotate_left
  · intro w hSw; go_simp; try (with_reducible rfl)
  try simp only [Act.put, List.setIfInBounds_toArray, List.set_cons_zero, List.set_cons_succ]
  refine wpAnyH_take (i := 8) (oi := ⟨_, _, _, _, _, _⟩) (v := ?_) rfl (by kernel_rfl) (by kernel_rfl) (by kernel_rfl) (fun _ _ _ h => h) (Or.inl ⟨by rfl, ?_⟩) (by assumption) ?_
  rotate_left
  · intro w hSw; go_simp; try (with_reducible rfl)
  try simp only [Act.put, List.setIfInBounds_toArray, List.set_cons_zero, List.set_cons_succ]
  refine wpAnyH_take (i := 9) (oi := ⟨_, _, _, _, _, _⟩) (v := ?_) rfl (by kernel_rfl) (by kernel_rfl) (by kernel_rfl) (fun _ _ _ h => h) (Or.inl ⟨by rfl, ?_⟩) (by assumption) ?_
  rotate_left
  · intro w hSw; go_simp; try (with_reducible rfl)
  try simp only [Act.put, List.setIfInBounds_toArray, List.set_cons_zero, List.set_cons_succ]
  refine wpAnyH_take (i := 10) (oi := ⟨_, _, _, _, _, _⟩) (v := ?_) rfl (by kernel_rfl) (by kernel_rfl) (by kernel_rfl) (fun _ _ _ h => h) (Or.inl ⟨by rfl, ?_⟩) (by assumption) ?_
  rotate_left
  · intro w hSw; go_simp; try (with_reducible rfl)
  try simp only [Act.put, List.setIfInBounds_toArray, List.set_cons_zero, List.set_cons_succ]
  refine wpAnyH_take (i := 11) (oi := ⟨_, _, _, _, _, _⟩) (v := ?_) rfl (by kernel_rfl) (by kernel_rfl) (by kernel_rfl) (fun _ _ _ h => h) (Or.inl ⟨by rfl, ?_⟩) (by assumption) ?_
  rotate_left
  · intro w hSw; go_simp; try (with_reducible rfl)
  try simp only [Act.put, List.setIfInBounds_toArray, List.set_cons_zero, List.set_cons_succ]
  refine wpAnyH_done (by kernel_rfl) ?_ _
  go_upto_region 2 with fail
  go_wp2_with fail
  refine (CodecR.clone_calls _ _ _ bs (HBY.out.below hHeld) hl).mono ?_
  rintro e w5 ⟨xa, xc, rfl, o1, o2⟩
  have O5 := Lib.hid (show Byt (fun k => w.heap.size ≤ k) w5 (.slice xa bs.length xc) bs from o1.byt.mono (fun k _ h => by have h5 : w.drew.heap.size ≤ k := h.2; exact h5))
  have B5 := Lib.hid (hHeld.trans (o2.mono hHeld.size))
  clear o1 o2
  go_wp2
  go_ret2
  exact ⟨_, by rw [HIS.out]; rfl, by rw [HBS.out]; exact O5.out, B5.out⟩
end Go.Proofs.Ytjdohjoljobinaa.Ls
