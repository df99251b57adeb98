/- The walks of the closures of Sync, Remove and Rename. Conditions: a name is a text; at most 2^46 bytes; fewer than 2^62 steps. -/
import Derived.Test.YtjdohjoljobinaaDxG
namespace Go.Proofs.Ytjdohjoljobinaa.Dx
open Go Go.RowKit Mem Maps Ops Reps
open Go.Maps (Keyed string_keyed)
set_option linter.unusedVariables false
set_option linter.unusedSimpArgs false

def truY (k : Int) (len : Nat) : Int := if k < 0 ∨ (len : Int) < k then 143 else 0
set_option maxHeartbeats 8000000 in
set_option maxRecDepth 100000 in
theorem truncate1_calls (w : World) (q b g4 : Nat) (d : Disk) (n : Nm) (k : Int) (hk1 : -9223372036854775808 ≤ k) (hk2 : k ≤ 9223372036854775807) (v : Value) (bs : List UInt8) (last : Nat) {D : Nat → Prop} (H0 : DkIs D w q b d) (hn : n.length ≤ maxLen) (hv : Byt D w v bs) (hu : usedF d.fs ≤ 140737488355328) (hl : bs.length ≤ 140737488355328)
    (k4 : Blk w g4 [.int .i64 k] 3) :
    Calls Try.prog 89 #[fileV v last, .pointer (some ⟨g4, 0, none⟩)] w fun e w' => e = .returned (.int .i64 (truY k bs.length)) ∧ Below w.heap.size w w' := by
  obtain ⟨va, vc, rfl, _⟩ := id hv
  have H := Lib.hid H0
  have HV := Lib.hid hv
  have K4 := Lib.hid k4
  clear H0 hv k4
  unfold fileV
  go_enter Try.func89, Try.ntmps89
  go_upto_region 1 with ((with_reducible refine wpList_box rfl _ _ rfl [.slice va bs.length vc, .int .i64 (last : Int)] rfl (fun w1 k1 b1 z1 => ?_)); have K1 := Lib.hid k1; have B1 := Lib.hid b1; clear k1 b1)
  have c0 := K1.out.cell (i := 0) rfl
  have HH1 := Lib.hid (H.out.below B1.out)
  have HV1 := Lib.hid (HV.out.below B1.out)
  have F1 := Lib.hid (show Fr (fun k => k = q ∨ k = b) w w1 from Fr.ofBelowAll B1.out (Nat.le_refl _))
  have c4 := (K4.out.below B1.out).cell (i := 0) rfl
  by_cases h0 : k < 0
  · have HY := Lib.hid (show truY k bs.length = 143 from if_pos (.inl h0))
    have h0d : decide (k < 0) = true := by simpa using h0
    go_wp2
    go_ret
    exact ⟨by rw [HY.out]; rfl, B1.out⟩
  · have h0d : decide (k < 0) = false := by simpa using h0
    by_cases h1 : (bs.length : Int) < k
    · have HY := Lib.hid (show truY k bs.length = 143 from if_pos (.inr h1))
      have h1d : decide ((bs.length : Int) < k) = true := by simpa using h1
      go_wp2
      go_ret
      exact ⟨by rw [HY.out]; rfl, B1.out⟩
    · have HY := Lib.hid (show truY k bs.length = 0 from if_neg (by omega))
      have h1d : decide ((bs.length : Int) < k) = false := by simpa using h1
      go_wp2
      go_ret
      exact ⟨by rw [HY.out]; rfl, B1.out⟩
set_option maxHeartbeats 8000000 in
set_option maxRecDepth 100000 in
theorem truncate2_calls (w : World) (q b g2 g3 g4 : Nat) (d : Disk) (n : Nm) (k : Nat) (v : Value) (bs : List UInt8) (last : Nat) {D : Nat → Prop} (H0 : DkIs D w q b d) (hn : n.length ≤ maxLen) (hv : Byt D w v bs) (hu : usedF d.fs ≤ 140737488355328) (hl : bs.length ≤ 140737488355328)
    (k2 : Blk w g2 [.pointer (some ⟨q, 0, none⟩)] 27) (k3 : Blk w g3 [nmV n] 9) (k4 : Blk w g4 [.int .i64 k] 3) (hk : k ≤ bs.length) (hg : g2 ≠ q ∧ g2 ≠ b ∧ g3 ≠ q ∧ g3 ≠ b ∧ g4 ≠ q ∧ g4 ≠ b) :
    Calls Try.prog 90 #[fileV v last, .pointer (some ⟨g2, 0, none⟩), .pointer (some ⟨g3, 0, none⟩), .pointer (some ⟨g4, 0, none⟩)] w fun e w' => e = .returned (.tuple #[]) ∧ DkIs D w' q b { d with fs := putF d.fs (n, bs.take k, min last k) } ∧ Fr (fun k => k = q ∨ k = b) w w' := by
  obtain ⟨va, vc, rfl, _⟩ := id hv
  have H := Lib.hid H0
  have HV := Lib.hid hv
  have K2 := Lib.hid k2
  have K3 := Lib.hid k3
  have K4 := Lib.hid k4
  clear H0 hv k2 k3 k4
  unfold fileV
  go_enter Try.func90, Try.ntmps90
  go_upto_region 1 with ((with_reducible refine wpList_box rfl _ _ rfl [.slice va bs.length vc, .int .i64 (last : Int)] rfl (fun w1 k1 b1 z1 => ?_)); have K1 := Lib.hid k1; have B1 := Lib.hid b1; clear k1 b1)
  have c0 := K1.out.cell (i := 0) rfl
  have HH1 := Lib.hid (H.out.below B1.out)
  have HV1 := Lib.hid (HV.out.below B1.out)
  have F1 := Lib.hid (show Fr (fun k => k = q ∨ k = b) w w1 from Fr.ofBelowAll B1.out (Nat.le_refl _))
  have hz1 := B1.out.size
  have hlt := H.out.lt
  have hwq : ¬ w.heap.size = q := by omega
  have hwb : ¬ w.heap.size = b := by omega
  obtain ⟨ca, cc, hsl, cut⟩ := run_slice_hi (P := Try.prog) CodecW.elemB HV1.out k hk
  have CUT := Lib.hid cut.any
  clear cut
  have hlen : (bs.take k).length = k := by simp; omega
  have HLN := Lib.hid hlen
  clear hlen
  try simp only [Act.put, List.setIfInBounds_toArray, List.set_cons_zero, List.set_cons_succ]
  refine wp_region_held_drew (S := (fun w' => Fr (fun k => k = q ∨ k = b) w1 w')) (by kernel_rfl) (Fr.refl _ _).drew (fun hHeld => ?_)
  refine wpAnyH_take (i := 0) (oi := ⟨_, _, _, _, _, _⟩) (v := .pointer (some ⟨q, 0, none⟩)) rfl (by kernel_rfl) (by kernel_rfl) (by kernel_rfl) (fun _ _ _ h => h) (Or.inl ⟨by rfl, fun w hSw => (by have c := ((K2.out.below B1.out).fr hSw (fun e => by rcases e with e | e; exact hg.1 e; exact hg.2.1 e)).cell (i := 0) rfl; go_simp; try (with_reducible rfl))⟩) (by assumption) ?_
  try simp only [Act.put, List.setIfInBounds_toArray, List.set_cons_zero, List.set_cons_succ]
  refine wpAnyH_take (i := 1) (oi := ⟨_, _, _, _, _, _⟩) (v := .string ⟨n.toArray⟩) rfl (by kernel_rfl) (by kernel_rfl) (by kernel_rfl) (fun _ _ _ h => h) (Or.inl ⟨by rfl, fun w hSw => (by have c := ((K3.out.below B1.out).fr hSw (fun e => by rcases e with e | e; exact hg.2.2.1 e; exact hg.2.2.2.1 e)).cell (i := 0) rfl; unfold nmV at c; go_simp; try (with_reducible rfl))⟩) (by assumption) ?_
  try simp only [Act.put, List.setIfInBounds_toArray, List.set_cons_zero, List.set_cons_succ]
  refine wpAnyH_take (i := 2) (oi := ⟨_, _, _, _, _, _⟩) (v := ?_) rfl (by kernel_rfl) (by kernel_rfl) (by kernel_rfl) (fun _ _ _ h => h) (Or.inl ⟨by rfl, ?_⟩) (by assumption) ?_
  rotate_left
  · intro w hSw; go_simp; try (with_reducible rfl)
  try simp only [Act.put, List.setIfInBounds_toArray, List.set_cons_zero, List.set_cons_succ]
  refine wpAnyH_take (i := 3) (oi := ⟨_, _, _, _, _, _⟩) (v := .slice va bs.length vc) rfl (by kernel_rfl) (by kernel_rfl) (by kernel_rfl) (fun _ _ _ h => h) (Or.inl ⟨by rfl, fun w hSw => (by have c := (K1.out.fr hSw (fun e => by rcases e with e | e; exact hwq e; exact hwb e)).cell (i := 0) rfl; go_simp; try (with_reducible rfl))⟩) (by assumption) ?_
  try simp only [Act.put, List.setIfInBounds_toArray, List.set_cons_zero, List.set_cons_succ]
  refine wpAnyH_take (i := 4) (oi := ⟨_, _, _, _, _, _⟩) (v := .int .i64 (k : Int)) rfl (by kernel_rfl) (by kernel_rfl) (by kernel_rfl) (fun _ _ _ h => h) (Or.inl ⟨by rfl, fun w hSw => (by have c := ((K4.out.below B1.out).fr hSw (fun e => by rcases e with e | e; exact hg.2.2.2.2.1 e; exact hg.2.2.2.2.2 e)).cell (i := 0) rfl; go_simp; try (with_reducible rfl))⟩) (by assumption) ?_
  try simp only [Act.put, List.setIfInBounds_toArray, List.set_cons_zero, List.set_cons_succ]
  refine wpAnyH_take (i := 5) (oi := ⟨_, _, _, _, _, _⟩) (v := ?_) rfl (by kernel_rfl) (by kernel_rfl) (by kernel_rfl) (fun _ _ _ h => h) (Or.inl ⟨by rfl, ?_⟩) (by assumption) ?_
  rotate_left
  · intro w hSw; go_simp; try (with_reducible rfl)
  try simp only [Act.put, List.setIfInBounds_toArray, List.set_cons_zero, List.set_cons_succ]
  refine wpAnyH_take (i := 7) (oi := ⟨_, _, _, _, _, _⟩) (v := ?_) rfl (by kernel_rfl) (by kernel_rfl) (by kernel_rfl) (fun _ _ _ h => h) (Or.inl ⟨by rfl, ?_⟩) (by assumption) ?_
  rotate_left
  · intro w hSw; go_simp; try (with_reducible rfl)
  try simp only [Act.put, List.setIfInBounds_toArray, List.set_cons_zero, List.set_cons_succ]
  refine wpAnyH_take (i := 8) (oi := ⟨_, _, _, _, _, _⟩) (v := .int .i64 (last : Int)) rfl (by kernel_rfl) (by kernel_rfl) (by kernel_rfl) (fun _ _ _ h => h) (Or.inl ⟨by rfl, fun w hSw => (by have c := (K1.out.fr hSw (fun e => by rcases e with e | e; exact hwq e; exact hwb e)).cell (i := 1) rfl; go_simp; try (with_reducible rfl))⟩) (by assumption) ?_
  try simp only [Act.put, List.setIfInBounds_toArray, List.set_cons_zero, List.set_cons_succ]
  refine wpAnyH_take (i := 9) (oi := ⟨_, _, _, _, _, _⟩) (v := .int .i64 (k : Int)) rfl (by kernel_rfl) (by kernel_rfl) (by kernel_rfl) (fun _ _ _ h => h) (Or.inl ⟨by rfl, fun w hSw => (by have c := ((K4.out.below B1.out).fr hSw (fun e => by rcases e with e | e; exact hg.2.2.2.2.1 e; exact hg.2.2.2.2.2 e)).cell (i := 0) rfl; go_simp; try (with_reducible rfl))⟩) (by assumption) ?_
  try simp only [Act.put, List.setIfInBounds_toArray, List.set_cons_zero, List.set_cons_succ]
  refine wpAnyH_take (i := 10) (oi := ⟨_, _, _, _, _, _⟩) (v := ?_) rfl (by kernel_rfl) (by kernel_rfl) (by kernel_rfl) (fun _ _ _ h => h) (Or.inl ⟨by rfl, ?_⟩) (by assumption) ?_
  rotate_left
  · intro w hSw; go_simp; try (with_reducible rfl)
  try simp only [Act.put, List.setIfInBounds_toArray, List.set_cons_zero, List.set_cons_succ]
  refine wpAnyH_ready (rs := [6]) (by kernel_rfl) (by simp) ?_
  refine AllReadyH.cons (o := ⟨_, _, _, _, _, _⟩) rfl (fun K hK => ?_) AllReadyH.nil
  go_simp
  refine (CodecR.clone_calls _ _ _ (bs.take k) CUT.out.drew (by simp; omega)).mono ?_
  rintro e w2 ⟨xa, xc, rfl, o1, o2⟩
  have O2 := Lib.hid o1
  have B2 := Lib.hid ((below_drew (Below.refl w1.heap.size w1)).trans o2)
  clear o1 o2
  have HH2 := Lib.hid (HH1.out.below B2.out)
  have O2x := Lib.hid (O2.out.byt.mono (fun k _ h => HH1.out.fresh k (by have := h.2; exact this)) : Byt D w2 _ _)
  have F2 := Lib.hid (F1.out.trans (show Fr (fun k => k = q ∨ k = b) w1 w2 from Fr.ofBelowAll B2.out (Nat.le_refl _)))
  refine hK.out _ _ (by exact (Fr.ofBelowAll B2.out (Nat.le_refl _))) (fun hHeld => ?_)
  clear hK
  try simp only [Act.put, List.setIfInBounds_toArray, List.set_cons_zero, List.set_cons_succ]
  refine wpAnyH_take (i := 11) (oi := ⟨_, _, _, _, _, _⟩) (v := ?_) rfl (by kernel_rfl) (by kernel_rfl) (by kernel_rfl) (fun _ _ _ h => h) (Or.inl ⟨by rfl, ?_⟩) (by assumption) ?_
  rotate_left
  · intro w hSw; go_simp; try (with_reducible rfl)
  try simp only [Act.put, List.setIfInBounds_toArray, List.set_cons_zero, List.set_cons_succ]
  refine wpAnyH_ready (rs := [12]) (by kernel_rfl) (by simp) ?_
  refine AllReadyH.cons (o := ⟨_, _, _, _, _, _⟩) rfl (fun K hK => ?_) AllReadyH.nil
  go_simp
  have hlay := lay_calls w2 q b d n (.slice xa (bs.take k).length xc) (bs.take k) (min last k) HH2.out hn O2x.out (by omega) (by rw [HLN.out]; omega)
  unfold nmV fileV at hlay
  rw [HLN.out] at hlay
  have HLY := Lib.hid hlay
  clear hlay
  rw [show (if k < last then (k : Int) else (last : Int)) = ((min last k : Nat) : Int) from by split <;> omega]
  with_reducible refine HLY.out.mono ?_
  rintro e wg ⟨rfl, d1, f1⟩
  have D1 := Lib.hid d1
  have FG := Lib.hid (F2.out.trans f1)
  have FS := Lib.hid ((Fr.ofBelowAll B2.out (Nat.le_refl _) : Fr (fun k => k = q ∨ k = b) w1 w2).trans f1)
  clear d1 f1
  refine hK.out _ _ (by exact FS.out) (fun hHeld => ?_)
  clear hK
  try simp only [Act.put, List.setIfInBounds_toArray, List.set_cons_zero, List.set_cons_succ]
  refine wpAnyH_done (by kernel_rfl) ?_ _
  go_wp2
  go_end0
  exact ⟨rfl, D1.out, FG.out⟩
end Go.Proofs.Ytjdohjoljobinaa.Dx
