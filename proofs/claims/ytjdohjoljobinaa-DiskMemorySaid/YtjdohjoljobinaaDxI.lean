/- The walks of the disk's Sync, Remove, Rename, Truncate. Conditions: names are texts; at most 2^46 bytes; fewer than 2^62 steps. -/
import Derived.Test.YtjdohjoljobinaaDxH
namespace Go.Proofs.Ytjdohjoljobinaa.Dx
open Go Go.RowKit Mem Maps Ops Reps
open Go.Maps (Keyed string_keyed)
set_option linter.unusedVariables false
set_option linter.unusedSimpArgs false

def syncD (d : Disk) (n : Nm) : Disk × Int := doD d n 0 (fun d1 => { d1 with fs := putF d1.fs (n, bytesF d1.fs n, (bytesF d1.fs n).length) })
def removeD (d : Disk) (n : Nm) : Disk × Int := doD d n 0 (fun d1 => { d1 with fs := eraseF d1.fs n })
def renameD (d : Disk) (n m : Nm) : Disk × Int := doD d n (renY m) (renX n m)
def truncX (n : Nm) (k : Int) (d : Disk) : Disk := { d with fs := putF d.fs (n, (bytesF d.fs n).take k.toNat, min (lastF d.fs n) k.toNat) }
def truncD (d : Disk) (n : Nm) (k : Int) : Disk × Int := doD d n (truY k (bytesF d.fs n).length) (truncX n k)
theorem last_of {fs : List XF} {n : Nm} {bs : List UInt8} {last : Nat} (h : lookF fs n = some (bs, last)) : lastF fs n = last := by unfold lastF; rw [h]; rfl
theorem len_le (fs : List XF) (n : Nm) : (bytesF fs n).length ≤ usedF fs := by rw [← lenF_bytes]; exact len_used fs n
set_option maxHeartbeats 8000000 in
set_option maxRecDepth 100000 in
theorem sync_calls (w : World) (q b : Nat) (d : Disk) (n : Nm) {D : Nat → Prop} (H0 : DkIs D w q b d) (hn : n.length ≤ maxLen) (hu : usedF d.fs ≤ 70368744177664)
    (h1 : 0 ≤ d.steps ∧ d.steps < 4611686018427387904) (h2 : -1 ≤ d.left) (h3 : d.left ≤ 9223372036854775807) :
    Calls Try.prog 50 #[.pointer (some ⟨q, 0, none⟩), nmV n] w fun e w' => e = .returned (.int .i64 (syncD d n).2) ∧ DkIs D w' q b (syncD d n).1 ∧ Fr (fun k => k = q ∨ k = b) w w' := by
  have H := Lib.hid H0
  have hlt := H0.lt
  clear H0
  unfold nmV
  go_enter Try.func50, Try.ntmps50
  go_upto_region 1 with fail
  obtain ⟨w1, hw1⟩ : ∃ x, w.alloc (.cells #[.pointer (some ⟨q, 0, none⟩)] 27) = x := ⟨_, rfl⟩
  have K0 := Lib.hid (show Blk w1 w.heap.size [.pointer (some ⟨q, 0, none⟩)] 27 from by rw [← hw1]; exact Blk.new w _ _ _ rfl)
  have B0 := Lib.hid (show Below w.heap.size w w1 from by rw [← hw1]; exact below_alloc _ _)
  have z0 : w.heap.size + 1 = w1.heap.size := by rw [← hw1]; simp
  rw [hw1]
  clear hw1
  try rw [z0]
  obtain ⟨w2, hw2⟩ : ∃ x, w1.alloc (.cells #[.string ⟨n.toArray⟩] 9) = x := ⟨_, rfl⟩
  have K1 := Lib.hid (show Blk w2 w1.heap.size [nmV n] 9 from by rw [← hw2]; exact Blk.new w1 _ _ _ rfl)
  have B1 := Lib.hid (show Below w1.heap.size w1 w2 from by rw [← hw2]; exact below_alloc _ _)
  have z1 : w1.heap.size + 1 = w2.heap.size := by rw [← hw2]; simp
  rw [hw2]
  clear hw2
  try rw [z1]
  have L0 := Lib.hid (show Blk w2 w.heap.size _ _ from (K0.out.below B1.out))
  have c0 := L0.out.cell (i := 0) rfl
  have L1 := Lib.hid (show Blk w2 w1.heap.size _ _ from K1.out)
  have c1 := L1.out.cell (i := 0) rfl
  unfold nmV at c1
  have HW := Lib.hid (show DkIs D w2 q b d from ((H.out.below B0.out).below B1.out))
  have FW := Lib.hid (show Fr (fun k => k = q ∨ k = b) w w2 from ((Fr.ofBelowAll B0.out (Nat.le_refl _) : Fr (fun k => k = q ∨ k = b) w w1).trans (Fr.ofBelowAll B1.out (Nat.le_refl _))))
  have hz0 : w.heap.size < w2.heap.size := by omega
  have hz1 : w1.heap.size < w2.heap.size := by omega
  have hdo := do_sync w2 q b d n HW.out w.heap.size w1.heap.size 0 (fun d1 => { d1 with fs := putF d1.fs (n, bytesF d1.fs n, (bytesF d1.fs n).length) }) hn h1 h2 h3 (fun v last wb _ _ _ => fine_calls wb v last)
    (fun v last wd hy hl hD hf hb => by
      have hfs := step_fs d
      have hle := len_le d.fs n
      have hc := sync1_calls wd q b w.heap.size w1.heap.size (stepD d).1 n v (bytesF d.fs n) last hD hn hb (by rw [hfs]; omega) (by omega) (L0.out.fr hf (fun e => by have e : w.heap.size = q := e; omega)) (L1.out.fr hf (fun e => by have e : w1.heap.size = q := e; omega))
      rw [show bytesF d.fs n = bytesF (stepD d).1.fs n from by rw [hfs]] at hc
      exact hc)
  rw [show doD d n 0 (fun d1 => { d1 with fs := putF d1.fs (n, bytesF d1.fs n, (bytesF d1.fs n).length) }) = syncD d n from rfl] at hdo
  unfold nmV at hdo
  have HDO := Lib.hid hdo
  clear hdo
  go_wp2_with fail
  refine HDO.out.mono ?_
  rintro e we ⟨rfl, d2, f2⟩
  have DE := Lib.hid d2
  have FE := Lib.hid (FW.out.trans f2)
  clear d2 f2
  go_wp2
  go_ret
  exact ⟨rfl, DE.out, FE.out⟩
set_option maxHeartbeats 8000000 in
set_option maxRecDepth 100000 in
theorem remove_calls (w : World) (q b : Nat) (d : Disk) (n : Nm) {D : Nat → Prop} (H0 : DkIs D w q b d) (hn : n.length ≤ maxLen) (hu : usedF d.fs ≤ 70368744177664)
    (h1 : 0 ≤ d.steps ∧ d.steps < 4611686018427387904) (h2 : -1 ≤ d.left) (h3 : d.left ≤ 9223372036854775807) :
    Calls Try.prog 61 #[.pointer (some ⟨q, 0, none⟩), nmV n] w fun e w' => e = .returned (.int .i64 (removeD d n).2) ∧ DkIs D w' q b (removeD d n).1 ∧ Fr (fun k => k = q ∨ k = b) w w' := by
  have H := Lib.hid H0
  have hlt := H0.lt
  clear H0
  unfold nmV
  go_enter Try.func61, Try.ntmps61
  go_upto_region 1 with fail
  obtain ⟨w1, hw1⟩ : ∃ x, w.alloc (.cells #[.pointer (some ⟨q, 0, none⟩)] 27) = x := ⟨_, rfl⟩
  have K0 := Lib.hid (show Blk w1 w.heap.size [.pointer (some ⟨q, 0, none⟩)] 27 from by rw [← hw1]; exact Blk.new w _ _ _ rfl)
  have B0 := Lib.hid (show Below w.heap.size w w1 from by rw [← hw1]; exact below_alloc _ _)
  have z0 : w.heap.size + 1 = w1.heap.size := by rw [← hw1]; simp
  rw [hw1]
  clear hw1
  try rw [z0]
  obtain ⟨w2, hw2⟩ : ∃ x, w1.alloc (.cells #[.string ⟨n.toArray⟩] 9) = x := ⟨_, rfl⟩
  have K1 := Lib.hid (show Blk w2 w1.heap.size [nmV n] 9 from by rw [← hw2]; exact Blk.new w1 _ _ _ rfl)
  have B1 := Lib.hid (show Below w1.heap.size w1 w2 from by rw [← hw2]; exact below_alloc _ _)
  have z1 : w1.heap.size + 1 = w2.heap.size := by rw [← hw2]; simp
  rw [hw2]
  clear hw2
  try rw [z1]
  have L0 := Lib.hid (show Blk w2 w.heap.size _ _ from (K0.out.below B1.out))
  have c0 := L0.out.cell (i := 0) rfl
  have L1 := Lib.hid (show Blk w2 w1.heap.size _ _ from K1.out)
  have c1 := L1.out.cell (i := 0) rfl
  unfold nmV at c1
  have HW := Lib.hid (show DkIs D w2 q b d from ((H.out.below B0.out).below B1.out))
  have FW := Lib.hid (show Fr (fun k => k = q ∨ k = b) w w2 from ((Fr.ofBelowAll B0.out (Nat.le_refl _) : Fr (fun k => k = q ∨ k = b) w w1).trans (Fr.ofBelowAll B1.out (Nat.le_refl _))))
  have hz0 : w.heap.size < w2.heap.size := by omega
  have hz1 : w1.heap.size < w2.heap.size := by omega
  have hdo := do_remove w2 q b d n HW.out w.heap.size w1.heap.size 0 (fun d1 => { d1 with fs := eraseF d1.fs n }) hn h1 h2 h3 (fun v last wb _ _ _ => fine_calls wb v last)
    (fun v last wd hy hl hD hf hb => by
      have hfs := step_fs d
      have hle := len_le d.fs n
      exact remove1_calls wd q b w.heap.size w1.heap.size (stepD d).1 n v (bytesF d.fs n) last hD hn hb (by rw [hfs]; omega) (by omega) (L0.out.fr hf (fun e => by have e : w.heap.size = q := e; omega)) (L1.out.fr hf (fun e => by have e : w1.heap.size = q := e; omega)))
  rw [show doD d n 0 (fun d1 => { d1 with fs := eraseF d1.fs n }) = removeD d n from rfl] at hdo
  unfold nmV at hdo
  have HDO := Lib.hid hdo
  clear hdo
  go_wp2_with fail
  refine HDO.out.mono ?_
  rintro e we ⟨rfl, d2, f2⟩
  have DE := Lib.hid d2
  have FE := Lib.hid (FW.out.trans f2)
  clear d2 f2
  go_wp2
  go_ret
  exact ⟨rfl, DE.out, FE.out⟩
set_option maxHeartbeats 8000000 in
set_option maxRecDepth 100000 in
theorem rename_calls (w : World) (q b : Nat) (d : Disk) (n : Nm) (m : Nm) {D : Nat → Prop} (H0 : DkIs D w q b d) (hn : n.length ≤ maxLen) (hu : usedF d.fs ≤ 70368744177664)
    (h1 : 0 ≤ d.steps ∧ d.steps < 4611686018427387904) (h2 : -1 ≤ d.left) (h3 : d.left ≤ 9223372036854775807) (hm : m.length ≤ maxLen) :
    Calls Try.prog 60 #[.pointer (some ⟨q, 0, none⟩), nmV n, nmV m] w fun e w' => e = .returned (.int .i64 (renameD d n m).2) ∧ DkIs D w' q b (renameD d n m).1 ∧ Fr (fun k => k = q ∨ k = b) w w' := by
  have H := Lib.hid H0
  have hlt := H0.lt
  clear H0
  unfold nmV
  go_enter Try.func60, Try.ntmps60
  go_upto_region 1 with fail
  obtain ⟨w1, hw1⟩ : ∃ x, w.alloc (.cells #[.pointer (some ⟨q, 0, none⟩)] 27) = x := ⟨_, rfl⟩
  have K0 := Lib.hid (show Blk w1 w.heap.size [.pointer (some ⟨q, 0, none⟩)] 27 from by rw [← hw1]; exact Blk.new w _ _ _ rfl)
  have B0 := Lib.hid (show Below w.heap.size w w1 from by rw [← hw1]; exact below_alloc _ _)
  have z0 : w.heap.size + 1 = w1.heap.size := by rw [← hw1]; simp
  rw [hw1]
  clear hw1
  try rw [z0]
  obtain ⟨w2, hw2⟩ : ∃ x, w1.alloc (.cells #[.string ⟨n.toArray⟩] 9) = x := ⟨_, rfl⟩
  have K1 := Lib.hid (show Blk w2 w1.heap.size [nmV n] 9 from by rw [← hw2]; exact Blk.new w1 _ _ _ rfl)
  have B1 := Lib.hid (show Below w1.heap.size w1 w2 from by rw [← hw2]; exact below_alloc _ _)
  have z1 : w1.heap.size + 1 = w2.heap.size := by rw [← hw2]; simp
  rw [hw2]
  clear hw2
  try rw [z1]
  obtain ⟨w3, hw3⟩ : ∃ x, w2.alloc (.cells #[.string ⟨m.toArray⟩] 9) = x := ⟨_, rfl⟩
  have K2 := Lib.hid (show Blk w3 w2.heap.size [nmV m] 9 from by rw [← hw3]; exact Blk.new w2 _ _ _ rfl)
  have B2 := Lib.hid (show Below w2.heap.size w2 w3 from by rw [← hw3]; exact below_alloc _ _)
  have z2 : w2.heap.size + 1 = w3.heap.size := by rw [← hw3]; simp
  rw [hw3]
  clear hw3
  try rw [z2]
  have L0 := Lib.hid (show Blk w3 w.heap.size _ _ from ((K0.out.below B1.out).below B2.out))
  have c0 := L0.out.cell (i := 0) rfl
  have L1 := Lib.hid (show Blk w3 w1.heap.size _ _ from (K1.out.below B2.out))
  have c1 := L1.out.cell (i := 0) rfl
  unfold nmV at c1
  have L2 := Lib.hid (show Blk w3 w2.heap.size _ _ from K2.out)
  have c2 := L2.out.cell (i := 0) rfl
  unfold nmV at c2
  have HW := Lib.hid (show DkIs D w3 q b d from (((H.out.below B0.out).below B1.out).below B2.out))
  have FW := Lib.hid (show Fr (fun k => k = q ∨ k = b) w w3 from (((Fr.ofBelowAll B0.out (Nat.le_refl _) : Fr (fun k => k = q ∨ k = b) w w1).trans (Fr.ofBelowAll B1.out (Nat.le_refl _))).trans (Fr.ofBelowAll B2.out (Nat.le_refl _))))
  have hz0 : w.heap.size < w3.heap.size := by omega
  have hz1 : w1.heap.size < w3.heap.size := by omega
  have hz2 : w2.heap.size < w3.heap.size := by omega
  have hdo := do_rename w3 q b d n HW.out w.heap.size w1.heap.size w2.heap.size (renY m) (renX n m) hn h1 h2 h3
    (fun v last wb hl hb hv => by
      have hle := len_le d.fs n
      exact rename1_calls wb q b w2.heap.size d n m hm v (bytesF d.fs n) last (HW.out.below hb) hn hv (by omega) (by omega) (L2.out.below hb))
    (fun v last wd hy hl hD hf hb => by
      have hfs := step_fs d
      have hle := len_le d.fs n
      exact rename2_calls wd q b w.heap.size w1.heap.size w2.heap.size (stepD d).1 n m hm v (bytesF d.fs n) last hD hn hb (by rw [hfs]; omega) (by omega) (L0.out.fr hf (fun e => by have e : w.heap.size = q := e; omega)) (L1.out.fr hf (fun e => by have e : w1.heap.size = q := e; omega)) (L2.out.fr hf (fun e => by have e : w2.heap.size = q := e; omega)) ⟨by omega, by omega, by omega, by omega⟩)
  rw [show doD d n (renY m) (renX n m) = renameD d n m from rfl] at hdo
  unfold nmV at hdo
  have HDO := Lib.hid hdo
  clear hdo
  go_wp2_with fail
  refine HDO.out.mono ?_
  rintro e we ⟨rfl, d2, f2⟩
  have DE := Lib.hid d2
  have FE := Lib.hid (FW.out.trans f2)
  clear d2 f2
  go_wp2
  go_ret
  exact ⟨rfl, DE.out, FE.out⟩
set_option maxHeartbeats 8000000 in
set_option maxRecDepth 100000 in
theorem truncate_calls (w : World) (q b : Nat) (d : Disk) (n : Nm) (k : Int) {D : Nat → Prop} (H0 : DkIs D w q b d) (hn : n.length ≤ maxLen) (hu : usedF d.fs ≤ 70368744177664)
    (h1 : 0 ≤ d.steps ∧ d.steps < 4611686018427387904) (h2 : -1 ≤ d.left) (h3 : d.left ≤ 9223372036854775807) (hk1 : -9223372036854775808 ≤ k) (hk2 : k ≤ 9223372036854775807) :
    Calls Try.prog 59 #[.pointer (some ⟨q, 0, none⟩), nmV n, .int .i64 k] w fun e w' => e = .returned (.int .i64 (truncD d n k).2) ∧ DkIs D w' q b (truncD d n k).1 ∧ Fr (fun k => k = q ∨ k = b) w w' := by
  have H := Lib.hid H0
  have hlt := H0.lt
  clear H0
  unfold nmV
  go_enter Try.func59, Try.ntmps59
  go_upto_region 1 with fail
  obtain ⟨w1, hw1⟩ : ∃ x, w.alloc (.cells #[.pointer (some ⟨q, 0, none⟩)] 27) = x := ⟨_, rfl⟩
  have K0 := Lib.hid (show Blk w1 w.heap.size [.pointer (some ⟨q, 0, none⟩)] 27 from by rw [← hw1]; exact Blk.new w _ _ _ rfl)
  have B0 := Lib.hid (show Below w.heap.size w w1 from by rw [← hw1]; exact below_alloc _ _)
  have z0 : w.heap.size + 1 = w1.heap.size := by rw [← hw1]; simp
  rw [hw1]
  clear hw1
  try rw [z0]
  obtain ⟨w2, hw2⟩ : ∃ x, w1.alloc (.cells #[.string ⟨n.toArray⟩] 9) = x := ⟨_, rfl⟩
  have K1 := Lib.hid (show Blk w2 w1.heap.size [nmV n] 9 from by rw [← hw2]; exact Blk.new w1 _ _ _ rfl)
  have B1 := Lib.hid (show Below w1.heap.size w1 w2 from by rw [← hw2]; exact below_alloc _ _)
  have z1 : w1.heap.size + 1 = w2.heap.size := by rw [← hw2]; simp
  rw [hw2]
  clear hw2
  try rw [z1]
  obtain ⟨w3, hw3⟩ : ∃ x, w2.alloc (.cells #[.int .i64 k] 3) = x := ⟨_, rfl⟩
  have K2 := Lib.hid (show Blk w3 w2.heap.size [.int .i64 k] 3 from by rw [← hw3]; exact Blk.new w2 _ _ _ rfl)
  have B2 := Lib.hid (show Below w2.heap.size w2 w3 from by rw [← hw3]; exact below_alloc _ _)
  have z2 : w2.heap.size + 1 = w3.heap.size := by rw [← hw3]; simp
  rw [hw3]
  clear hw3
  try rw [z2]
  have L0 := Lib.hid (show Blk w3 w.heap.size _ _ from ((K0.out.below B1.out).below B2.out))
  have c0 := L0.out.cell (i := 0) rfl
  have L1 := Lib.hid (show Blk w3 w1.heap.size _ _ from (K1.out.below B2.out))
  have c1 := L1.out.cell (i := 0) rfl
  unfold nmV at c1
  have L2 := Lib.hid (show Blk w3 w2.heap.size _ _ from K2.out)
  have c2 := L2.out.cell (i := 0) rfl
  have HW := Lib.hid (show DkIs D w3 q b d from (((H.out.below B0.out).below B1.out).below B2.out))
  have FW := Lib.hid (show Fr (fun k => k = q ∨ k = b) w w3 from (((Fr.ofBelowAll B0.out (Nat.le_refl _) : Fr (fun k => k = q ∨ k = b) w w1).trans (Fr.ofBelowAll B1.out (Nat.le_refl _))).trans (Fr.ofBelowAll B2.out (Nat.le_refl _))))
  have hz0 : w.heap.size < w3.heap.size := by omega
  have hz1 : w1.heap.size < w3.heap.size := by omega
  have hz2 : w2.heap.size < w3.heap.size := by omega
  have hdo := do_truncate w3 q b d n HW.out w.heap.size w1.heap.size w2.heap.size (truY k (bytesF d.fs n).length) (truncX n k) hn h1 h2 h3
    (fun v last wb hl hb hv => by
      have hle := len_le d.fs n
      exact truncate1_calls wb q b w2.heap.size d n k hk1 hk2 v (bytesF d.fs n) last (HW.out.below hb) hn hv (by omega) (by omega) (L2.out.below hb))
    (fun v last wd hy hl hD hf hb => by
      have hfs := step_fs d
      have hle := len_le d.fs n
      have hk0 : ¬ (k < 0 ∨ ((bytesF d.fs n).length : Int) < k) := fun h => by
        unfold truY at hy
        rw [if_pos h] at hy
        cases hy
      obtain ⟨kk, rfl⟩ : ∃ kk : Nat, k = (kk : Int) := ⟨k.toNat, by omega⟩
      have hc := truncate2_calls wd q b w.heap.size w1.heap.size w2.heap.size (stepD d).1 n kk v (bytesF d.fs n) last hD hn hb (by rw [hfs]; omega) (by omega) (L0.out.fr hf (fun e => by have e : w.heap.size = q := e; omega)) (L1.out.fr hf (fun e => by have e : w1.heap.size = q := e; omega)) (L2.out.fr hf (fun e => by have e : w2.heap.size = q := e; omega)) (by omega) ⟨by omega, by omega, by omega, by omega, by omega, by omega⟩
      rw [show truncX n (kk : Int) (stepD d).1 = { (stepD d).1 with fs := putF (stepD d).1.fs (n, (bytesF d.fs n).take kk, min last kk) } from by unfold truncX; rw [hfs, last_of hl]; rfl]
      exact hc)
  rw [show doD d n (truY k (bytesF d.fs n).length) (truncX n k) = truncD d n k from rfl] at hdo
  unfold nmV at hdo
  have HDO := Lib.hid hdo
  clear hdo
  go_wp2_with fail
  refine HDO.out.mono ?_
  rintro e we ⟨rfl, d2, f2⟩
  have DE := Lib.hid d2
  have FE := Lib.hid (FW.out.trans f2)
  clear d2 f2
  go_wp2
  go_ret
  exact ⟨rfl, DE.out, FE.out⟩
end Go.Proofs.Ytjdohjoljobinaa.Dx
