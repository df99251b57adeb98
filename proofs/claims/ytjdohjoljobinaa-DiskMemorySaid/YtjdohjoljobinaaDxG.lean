/- The walks of the closures of Sync, Remove and Rename. Conditions: a name is a text; at most 2^46 bytes; fewer than 2^62 steps. -/
import Derived.Test.YtjdohjoljobinaaDxF
namespace Go.Proofs.Ytjdohjoljobinaa.Dx
open Go Go.RowKit Mem Maps Ops Reps
open Go.Maps (Keyed string_keyed)
set_option linter.unusedVariables false
set_option linter.unusedSimpArgs false

def renY (m : Nm) : Int := if okName m = true then 0 else 140
def renX (n m : Nm) (d : Disk) : Disk := { d with fs := putF (eraseF (eraseF d.fs n) m) (m, bytesF d.fs n, lastF d.fs n) }
set_option maxHeartbeats 8000000 in
set_option maxRecDepth 100000 in
theorem sync1_calls (w : World) (q b g2 g3 : Nat) (d : Disk) (n : Nm) (v : Value) (bs : List UInt8) (last : Nat) {D : Nat → Prop} (H0 : DkIs D w q b d) (hn : n.length ≤ maxLen) (hv : Byt D w v bs) (hu : usedF d.fs ≤ 140737488355328) (hl : bs.length ≤ 140737488355328)
    (k2 : Blk w g2 [.pointer (some ⟨q, 0, none⟩)] 27) (k3 : Blk w g3 [nmV n] 9) :
    Calls Try.prog 79 #[fileV v last, .pointer (some ⟨g2, 0, none⟩), .pointer (some ⟨g3, 0, none⟩)] w fun e w' => e = .returned (.tuple #[]) ∧ DkIs D w' q b { d with fs := putF d.fs (n, bs, bs.length) } ∧ Fr (fun k => k = q ∨ k = b) w w' := by
  obtain ⟨va, vc, rfl, _⟩ := id hv
  have H := Lib.hid H0
  have HV := Lib.hid hv
  have K2 := Lib.hid k2
  have K3 := Lib.hid k3
  clear H0 hv k2 k3
  unfold fileV
  go_enter Try.func79, Try.ntmps79
  go_upto_region 1 with ((with_reducible refine wpList_box rfl _ _ rfl [.slice va bs.length vc, .int .i64 (last : Int)] rfl (fun w1 k1 b1 z1 => ?_)); have K1 := Lib.hid k1; have B1 := Lib.hid b1; clear k1 b1)
  have c0 := K1.out.cell (i := 0) rfl
  have HH1 := Lib.hid (H.out.below B1.out)
  have HV1 := Lib.hid (HV.out.below B1.out)
  have F1 := Lib.hid (show Fr (fun k => k = q ∨ k = b) w w1 from Fr.ofBelowAll B1.out (Nat.le_refl _))
  have c2 := (K2.out.below B1.out).cell (i := 0) rfl
  have c3 := (K3.out.below B1.out).cell (i := 0) rfl
  unfold nmV at c3
  have hlay := lay_calls w1 q b d n (.slice va bs.length vc) bs bs.length HH1.out hn HV1.out (by omega) (by omega)
  unfold nmV fileV at hlay
  have HLY := Lib.hid hlay
  clear hlay
  go_wp2_with fail
  refine HLY.out.mono ?_
  rintro e wg ⟨rfl, d1, f1⟩
  have D1 := Lib.hid d1
  have FG := Lib.hid (F1.out.trans f1)
  clear d1 f1
  go_wp2
  go_end0
  exact ⟨rfl, D1.out, FG.out⟩
set_option maxHeartbeats 8000000 in
set_option maxRecDepth 100000 in
theorem remove1_calls (w : World) (q b g2 g3 : Nat) (d : Disk) (n : Nm) (v : Value) (bs : List UInt8) (last : Nat) {D : Nat → Prop} (H0 : DkIs D w q b d) (hn : n.length ≤ maxLen) (hv : Byt D w v bs) (hu : usedF d.fs ≤ 140737488355328) (hl : bs.length ≤ 140737488355328)
    (k2 : Blk w g2 [.pointer (some ⟨q, 0, none⟩)] 27) (k3 : Blk w g3 [nmV n] 9) :
    Calls Try.prog 94 #[fileV v last, .pointer (some ⟨g2, 0, none⟩), .pointer (some ⟨g3, 0, none⟩)] w fun e w' => e = .returned (.tuple #[]) ∧ DkIs D w' q b { d with fs := eraseF d.fs n } ∧ Fr (fun k => k = q ∨ k = b) w w' := by
  obtain ⟨va, vc, rfl, _⟩ := id hv
  have H := Lib.hid H0
  have HV := Lib.hid hv
  have K2 := Lib.hid k2
  have K3 := Lib.hid k3
  clear H0 hv k2 k3
  unfold fileV
  go_enter Try.func94, Try.ntmps94
  go_upto_region 1 with ((with_reducible refine wpList_box rfl _ _ rfl [.slice va bs.length vc, .int .i64 (last : Int)] rfl (fun w1 k1 b1 z1 => ?_)); have K1 := Lib.hid k1; have B1 := Lib.hid b1; clear k1 b1)
  have c0 := K1.out.cell (i := 0) rfl
  have HH1 := Lib.hid (H.out.below B1.out)
  have HV1 := Lib.hid (HV.out.below B1.out)
  have F1 := Lib.hid (show Fr (fun k => k = q ∨ k = b) w w1 from Fr.ofBelowAll B1.out (Nat.le_refl _))
  have c2 := (K2.out.below B1.out).cell (i := 0) rfl
  have c3 := (K3.out.below B1.out).cell (i := 0) rfl
  unfold nmV at c3
  have htk := take_calls w1 q b d n HH1.out hn (by omega)
  unfold nmV at htk
  have HTK := Lib.hid htk
  clear htk
  go_wp2_with fail
  refine HTK.out.mono ?_
  rintro e wg ⟨fv, rfl, _, d1, f1⟩
  have D1 := Lib.hid d1
  have FG := Lib.hid (F1.out.trans f1)
  clear d1 f1
  go_wp2
  go_end0
  exact ⟨rfl, D1.out, FG.out⟩
set_option maxHeartbeats 8000000 in
set_option maxRecDepth 100000 in
theorem rename1_calls (w : World) (q b g4 : Nat) (d : Disk) (n : Nm) (m : Nm) (hm : m.length ≤ maxLen) (v : Value) (bs : List UInt8) (last : Nat) {D : Nat → Prop} (H0 : DkIs D w q b d) (hn : n.length ≤ maxLen) (hv : Byt D w v bs) (hu : usedF d.fs ≤ 140737488355328) (hl : bs.length ≤ 140737488355328)
    (k4 : Blk w g4 [nmV m] 9) :
    Calls Try.prog 91 #[fileV v last, .pointer (some ⟨g4, 0, none⟩)] w fun e w' => e = .returned (.int .i64 (renY m)) ∧ Below w.heap.size w w' := by
  obtain ⟨va, vc, rfl, _⟩ := id hv
  have H := Lib.hid H0
  have HV := Lib.hid hv
  have K4 := Lib.hid k4
  clear H0 hv k4
  unfold fileV
  go_enter Try.func91, Try.ntmps91
  go_upto_region 1 with ((with_reducible refine wpList_box rfl _ _ rfl [.slice va bs.length vc, .int .i64 (last : Int)] rfl (fun w1 k1 b1 z1 => ?_)); have K1 := Lib.hid k1; have B1 := Lib.hid b1; clear k1 b1)
  have c0 := K1.out.cell (i := 0) rfl
  have HH1 := Lib.hid (H.out.below B1.out)
  have HV1 := Lib.hid (HV.out.below B1.out)
  have F1 := Lib.hid (show Fr (fun k => k = q ∨ k = b) w w1 from Fr.ofBelowAll B1.out (Nat.le_refl _))
  have c4 := (K4.out.below B1.out).cell (i := 0) rfl
  unfold nmV at c4
  have hnm := named_calls w1 m hm
  unfold nmV at hnm
  have HNM := Lib.hid hnm
  clear hnm
  go_wp2_with fail
  refine HNM.out.mono ?_
  rintro e w2 ⟨rfl, rfl⟩
  obtain ⟨ok, hok⟩ : ∃ x, okName m = x := ⟨_, rfl⟩
  have HOK := Lib.hid hok
  rw [hok]
  clear hok
  cases ok
  · have HY := Lib.hid (show renY m = 140 from by unfold renY; rw [if_neg (by rw [HOK.out]; decide)])
    go_wp2
    go_ret
    exact ⟨by rw [HY.out]; rfl, B1.out⟩
  · have HY := Lib.hid (show renY m = 0 from by unfold renY; rw [if_pos HOK.out])
    go_wp2
    go_ret
    exact ⟨by rw [HY.out]; rfl, B1.out⟩
set_option maxHeartbeats 8000000 in
set_option maxRecDepth 100000 in
theorem rename2_calls (w : World) (q b g2 g3 g4 : Nat) (d : Disk) (n : Nm) (m : Nm) (hm : m.length ≤ maxLen) (v : Value) (bs : List UInt8) (last : Nat) {D : Nat → Prop} (H0 : DkIs D w q b d) (hn : n.length ≤ maxLen) (hv : Byt D w v bs) (hu : usedF d.fs ≤ 140737488355328) (hl : bs.length ≤ 140737488355328)
    (k2 : Blk w g2 [.pointer (some ⟨q, 0, none⟩)] 27) (k3 : Blk w g3 [nmV n] 9) (k4 : Blk w g4 [nmV m] 9) (hg : g2 ≠ q ∧ g2 ≠ b ∧ g4 ≠ q ∧ g4 ≠ b) :
    Calls Try.prog 92 #[fileV v last, .pointer (some ⟨g2, 0, none⟩), .pointer (some ⟨g3, 0, none⟩), .pointer (some ⟨g4, 0, none⟩)] w fun e w' => e = .returned (.tuple #[]) ∧ DkIs D w' q b (renX n m d) ∧ Fr (fun k => k = q ∨ k = b) w w' := by
  obtain ⟨va, vc, rfl, _⟩ := id hv
  have H := Lib.hid H0
  have HV := Lib.hid hv
  have K2 := Lib.hid k2
  have K3 := Lib.hid k3
  have K4 := Lib.hid k4
  clear H0 hv k2 k3 k4
  unfold fileV
  go_enter Try.func92, Try.ntmps92
  go_upto_region 1 with ((with_reducible refine wpList_box rfl _ _ rfl [.slice va bs.length vc, .int .i64 (last : Int)] rfl (fun w1 k1 b1 z1 => ?_)); have K1 := Lib.hid k1; have B1 := Lib.hid b1; clear k1 b1)
  have c0 := K1.out.cell (i := 0) rfl
  have HH1 := Lib.hid (H.out.below B1.out)
  have HV1 := Lib.hid (HV.out.below B1.out)
  have F1 := Lib.hid (show Fr (fun k => k = q ∨ k = b) w w1 from Fr.ofBelowAll B1.out (Nat.le_refl _))
  have c2 := (K2.out.below B1.out).cell (i := 0) rfl
  have c3 := (K3.out.below B1.out).cell (i := 0) rfl
  unfold nmV at c3
  have c4 := (K4.out.below B1.out).cell (i := 0) rfl
  unfold nmV at c4
  have htk := take_calls w1 q b d n HH1.out hn (by omega)
  unfold nmV at htk
  have HTK := Lib.hid htk
  have HE1 := used_erase d.fs n
  have HE2 := used_erase (eraseF d.fs n) m
  have hlf := lenF_bytes d.fs n
  obtain ⟨d1, hd1⟩ : ∃ x, ({ d with fs := eraseF d.fs n } : Disk) = x := ⟨_, rfl⟩
  have hu1 : usedF d1.fs ≤ 140737488355328 := by rw [← hd1]; dsimp only; omega
  obtain ⟨d2, hd2⟩ : ∃ x, ({ d1 with fs := eraseF d1.fs m } : Disk) = x := ⟨_, rfl⟩
  have hu2 : usedF d2.fs ≤ 140737488355328 := by rw [← hd2, ← hd1]; dsimp only; omega
  obtain ⟨os, hos⟩ : ∃ x, bytesF d.fs n = x := ⟨_, rfl⟩
  obtain ⟨ol, hol⟩ : ∃ x, lastF d.fs n = x := ⟨_, rfl⟩
  have hol2 : os.length ≤ 140737488355328 := by rw [← hos, ← hlf]; omega
  have HX := Lib.hid (show renX n m d = { d2 with fs := putF d2.fs (m, os, ol) } from by rw [← hd2, ← hd1, ← hos, ← hol]; rfl)
  have HD2 := Lib.hid hd2
  unfold TakeT at HTK
  rw [hos, hol, hd1] at HTK
  have HZ := Lib.hid (show ∀ wx, (zeroValue 94).run Try.prog wx = .ok (.agg [Value.slice none 0 0, .int .i64 0].toArray) wx from fun wx => zeroFile wx)
  clear htk HE1 HE2 hlf hd1 hd2 hos hol
  go_wp2_with fail
  refine HTK.out.mono ?_
  rintro e w2 ⟨fv, rfl, o1, d1x, f1⟩
  obtain ⟨fa, fc, rfl, _⟩ := id o1
  have O2 := Lib.hid o1
  have D2 := Lib.hid d1x
  have F2 := Lib.hid (F1.out.trans f1)
  have FS1 := Lib.hid f1
  have hz2 := f1.size
  have hz1 := B1.out.size
  have hlt := H.out.lt
  have hsz1 : w.heap.size < w1.heap.size := by omega
  clear o1 d1x f1
  have HSZ := Lib.hid (fun v => file_size v ol)
  have HON := Lib.hid (file_one (.slice fa os.length fc) ol rfl)
  have L2 := Lib.hid K2.out.lt
  have L3 := Lib.hid K3.out.lt
  have L4 := Lib.hid K4.out.lt
  have N2 := Lib.hid (show Blk w2 g2 _ _ from (K2.out.below B1.out).fr FS1.out (fun e => by rcases e with e | e; exact hg.1 e; exact hg.2.1 e))
  have N4 := Lib.hid (show Blk w2 g4 _ _ from (K4.out.below B1.out).fr FS1.out (fun e => by rcases e with e | e; exact hg.2.2.1 e; exact hg.2.2.2 e))
  unfold fileV
  go_upto_region 2 with (first
    | ((with_reducible refine wpList_alloc rfl _ rfl _ (HZ.out _) (fun wa ka ca za => ?_)); have KA := Lib.hid ka; have CA := Lib.hid ca; clear ka ca)
    | ((with_reducible refine wpList_put rfl _ _ _ rfl w2.heap.size [Value.slice fa os.length fc, .int .i64 (ol : Int)] _ rfl rfl KA.out (HSZ.out _) rfl HON.out (fun wb kb fb zb => ?_)); have KB := Lib.hid kb; have CB := Lib.hid (show Below w2.heap.size w2 wb from CA.out.trans (fb.below CA.out.size (fun k hk => by have hk : k = w2.heap.size := hk; omega))); clear kb fb))
  have DB := Lib.hid (D2.out.below CB.out)
  have OB := Lib.hid (O2.out.below CB.out)
  have NB2 := Lib.hid (N2.out.below CB.out)
  have NB4 := Lib.hid (N4.out.below CB.out)
  have FB := Lib.hid (F2.out.trans (show Fr (fun k => k = q ∨ k = b) w2 wb from Fr.ofBelowAll CB.out (Nat.le_refl _)))
  have hzb := CB.out.size
  clear c0 c2 c3 c4 KA CA za zb D2 O2 N2 N4 F2 FS1 HTK
  have c2 := NB2.out.cell (i := 0) rfl
  have c4 := NB4.out.cell (i := 0) rfl
  unfold nmV at c4
  have htk := take_calls wb q b d1 m DB.out hm (by omega)
  unfold nmV TakeT at htk
  rw [HD2.out] at htk
  have HTK := Lib.hid htk
  clear htk
  go_wp2_with fail
  refine HTK.out.mono ?_
  rintro e w3 ⟨fv, rfl, _, d2x, f2⟩
  have D3 := Lib.hid d2x
  have hbq : ¬ w2.heap.size = q := by omega
  have hbb : ¬ w2.heap.size = b := by omega
  have K3B := Lib.hid (KB.out.fr f2 (fun e => by rcases e with e | e; exact hbq e; exact hbb e))
  have O3 := Lib.hid (OB.out.fr f2 (fun k _ h e => by rcases e with e | e; exact H.out.nd.1 (e ▸ h); exact H.out.nd.2 (e ▸ h)))
  have NC2 := Lib.hid (NB2.out.fr f2 (fun e => by rcases e with e | e; exact hg.1 e; exact hg.2.1 e))
  have NC4 := Lib.hid (NB4.out.fr f2 (fun e => by rcases e with e | e; exact hg.2.2.1 e; exact hg.2.2.2 e))
  have F3 := Lib.hid (FB.out.trans f2)
  clear d2x f2 c2 c4 HTK DB OB NB2 NB4 FB KB
  have c2 := NC2.out.cell (i := 0) rfl
  have c4 := NC4.out.cell (i := 0) rfl
  unfold nmV at c4
  have hlay := lay_calls w3 q b d2 m (.slice fa os.length fc) os ol D3.out hm O3.out (by omega) (by omega)
  unfold nmV fileV at hlay
  rw [← HX.out] at hlay
  have HLY := Lib.hid hlay
  clear hlay
  go_wp2_with (first
    | (with_reducible refine wpList_load_blk rfl _ _ rfl w2.heap.size [Value.slice fa os.length fc, .int .i64 (ol : Int)] rfl K3B.out _ Try.underlying94 rfl (HSZ.out _) ?_))
  refine HLY.out.mono ?_
  rintro e wg ⟨rfl, d1, f1⟩
  have D1 := Lib.hid d1
  have FG := Lib.hid (F3.out.trans f1)
  clear d1 f1
  go_wp2
  go_end0
  exact ⟨rfl, D1.out, FG.out⟩
end Go.Proofs.Ytjdohjoljobinaa.Dx
