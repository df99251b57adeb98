/- The walk of the laws' begun. Conditions: a header as it reads; the tables are laid. -/
import Derived.Test.YtmenchnjajpkmaaDoorTk2
import Derived.Test.YtmenchnjajpkmaaDoorTr
import Derived.Test.YtmenchnjajpkmaaDoorTb0
namespace Go.Proofs.YtmenchnjajpkmaaDoor.Tb
open Go Go.RowKit Mem Codec Mh Maps Ops Wh Ww ShaW Arr Tk Tr
set_option linter.unusedVariables false

/-- what begun keeps -/
structure BG (w : World) (first : Hd) (hs : List Hd) (t1 b1 t2 b2 g4 : Nat) (wx : World) : Prop where
  x : TrkIs wx t1 b1 hs
  y : TrkIs wx t2 b2 [first]
  g : Blk wx g4 h5.cells 32
  p : TabB wx 1
  r : TabB wx 0
  b : Below w.heap.size w wx
section
variable {w a c : World} {first : Hd} {hs : List Hd} {t1 b1 t2 b2 g4 : Nat}
theorem BG.below (h : BG w first hs t1 b1 t2 b2 g4 a) (hb : Below a.heap.size a c) : BG w first hs t1 b1 t2 b2 g4 c := ⟨h.x.below hb, h.y.below hb, h.g.below hb, h.p.below hb, h.r.below hb, h.b.trans (hb.mono h.b.size)⟩
theorem BG.drew (h : BG w first hs t1 b1 t2 b2 g4 a) : BG w first hs t1 b1 t2 b2 g4 a.drew := ⟨h.x.drew, h.y.drew, h.g.drew, h.p, h.r, below_drew h.b⟩
theorem BG.add {hd : Hd} {e : Ending} (h : BG w first hs t1 b1 t2 b2 g4 a) (k : AddT a t1 b1 hs hd e c) (n1 : w.heap.size ≤ t1) (n2 : w.heap.size ≤ b1) (n3 : t2 ≠ t1) (n4 : t2 ≠ b1) (n5 : b2 ≠ t1) (n6 : b2 ≠ b1) (n7 : g4 ≠ t1) (n8 : g4 ≠ b1) (hp : 1 < w.heap.size) (hr : 0 < w.heap.size) : BG w first (addL hs hd) t1 b1 t2 b2 g4 c := by
  obtain ⟨_, k2, k3⟩ := k
  exact ⟨k2, h.y.fr k3 (fun e => by rcases e with e | e <;> omega) (fun e => by rcases e with e | e <;> omega), h.g.fr k3 (fun e => by rcases e with e | e <;> omega), h.p.fr k3 (fun e => by rcases e with e | e <;> omega), h.r.fr k3 (fun e => by rcases e with e | e <;> omega), h.b.trans (k3.below h.b.size (fun i e => by rcases e with e | e <;> omega))⟩
end
theorem built5 : Tryd.prog.built 32 [(2, .int .u64 5)] = some h5.cells.toArray := by kernel_rfl
theorem built6 : Tryd.prog.built 32 [(0, dv d5), (2, .int .u64 6)] = some h6.cells.toArray := by kernel_rfl
/-- what begun hands back -/
def BegT (w : World) (first : Hd) (e : Ending) (w' : World) : Prop := ∃ t b, e = .returned (.tuple #[.pointer (some ⟨t, 0, none⟩), .bool true]) ∧ w.heap.size ≤ t ∧ w.heap.size ≤ b ∧ TrkIs w' t b [first] ∧ Below w.heap.size w w'

theorem hbest : bestId [h5, h6] = d6 := by unfold bestId; rw [best56]; exact id6
set_option maxHeartbeats 16000000 in
set_option maxRecDepth 100000 in
theorem begun_calls (w : World) (first : Hd) (ok : first.Ok) (hP : TabB w 1) (hR : TabB w 0) :
    Calls Tryd.prog 9 #[hv first] w (BegT w first) := by
  have hp := (Array.getElem?_eq_some_iff.1 hP.choose_spec.choose_spec).1
  have hr := (Array.getElem?_eq_some_iff.1 hR.choose_spec.choose_spec).1
  have HPL := Lib.hid hp
  have HRL := Lib.hid hr
  have HP := Lib.hid hP
  have HR := Lib.hid hR
  have OK := Lib.hid ok
  clear hp hr hP hR ok
  go_enter Tryd.func9, Tryd.ntmps9
  go_upto_region 2 with (first
    | ((with_reducible refine wpList_box rfl _ _ rfl first.cells rfl (fun w1 k1 c1 z1 => ?_)); have K1 := Lib.hid k1; have B1 := Lib.hid c1; clear k1 c1)
    | (refine wpList_built rfl 32 [(2, .const (.int .u64 5))] rfl h5.cells built5 ?_)
    | ((with_reducible refine wpList_alloc rfl _ rfl _ (zeroV _) (fun w2 k2 c2 z2 => ?_)); have K2 := Lib.hid k2; have B2 := Lib.hid (B1.out.trans (c2.mono (by omega))); have F2 := Lib.hid (K1.out.below c2); clear k2 c2)
    | ((with_reducible refine wpList_put rfl _ _ _ rfl w1.heap.size h5.cells _ rfl rfl K2.out (szH ok5) rfl h5.one (fun w3 k3 c3 z3 => ?_)); have K3 := Lib.hid k3; have F3 := Lib.hid (F2.out.fr c3 (by omega)); have B3 := Lib.hid (B2.out.trans (c3.below (by omega) (fun k hk => by omega))); clear k3 c3))
  have P3 := Lib.hid (HP.out.below B3.out)
  have R3 := Lib.hid (HR.out.below B3.out)
  have hg4 : w.heap.size < w1.heap.size := by omega
  have hg4' : w1.heap.size < w3.heap.size := by omega
  clear K1 B1 K2 B2 F2 HP HR
  generalize w1.heap.size = g4 at *
  go_wp2_with (first | (with_reducible refine wpList_load_blk rfl _ _ rfl g4 h5.cells rfl K3.out _ Tryd.underlying32 rfl (szH ok5) ?_))
  refine (new_calls w3 h5 ok5 P3.out).mono ?_
  rintro e w4 ⟨t1, b1, rfl, n1, n2, x4, c4⟩
  have X4 := Lib.hid x4
  have G4 := Lib.hid (K3.out.below c4)
  have F4 := Lib.hid (F3.out.below c4)
  have P4 := Lib.hid (P3.out.below c4)
  have R4 := Lib.hid (R3.out.below c4)
  have B4 := Lib.hid (B3.out.trans (c4.mono B3.out.size))
  have hl1 := x4.lt.1
  have hl2 := x4.lt.2
  have hs4 := c4.size
  have hs3 := B3.out.size
  clear x4 c4 K3 F3 P3 R3 B3
  go_wp2_with (first | (with_reducible refine wpList_load_blk rfl _ _ rfl w.heap.size first.cells rfl F4.out _ Tryd.underlying32 rfl (szH OK.out) ?_))
  refine (new_calls w4 first OK.out P4.out).mono ?_
  rintro e w5 ⟨t2, b2, rfl, n3, n4, x5, c5⟩
  have HS := Lib.hid (show BG w first [h5] t1 b1 t2 b2 g4 w5 from ⟨X4.out.below c5, x5, G4.out.below c5, P4.out.below c5, R4.out.below c5, B4.out.trans (c5.mono B4.out.size)⟩)
  have hs5 := c5.size
  clear x5 c5 X4 G4 F4 P4 R4 B4
  go_upto_region 6 with fail
  go_wp2_with (first | (with_reducible refine wpList_load_blk rfl _ _ rfl g4 h5.cells rfl HS.out.g _ Tryd.underlying32 rfl (szH ok5) ?_))
  refine (ref_mainId_calls w5 h5 ok5 HS.out.r).mono ?_
  rintro e w6 ⟨rfl, c6⟩
  rw [id5]
  have S6 := Lib.hid (HS.out.below c6)
  have hs6 := c6.size
  have hy1 := S6.out.y.lt.1
  have hy2 := S6.out.y.lt.2
  have hw6 := S6.out.b.size
  clear c6 HS
  go_upto_region 7 with (first
    | (refine wpList_built rfl 32 [(0, .tmp 24), (2, .const (.int .u64 6))] rfl h6.cells built6 ?_)
    | ((with_reducible refine wpList_alloc rfl _ rfl _ (zeroV _) (fun w7 k7 c7 z7 => ?_)); have K7 := Lib.hid k7; have S7 := Lib.hid (S6.out.below c7); clear k7 c7)
    | ((with_reducible refine wpList_put rfl _ _ _ rfl w6.heap.size h6.cells _ rfl rfl K7.out (szH ok6) rfl h6.one (fun w8 k8 c8 z8 => ?_)); have K8 := Lib.hid k8; have S8 := Lib.hid (show BG w first [h5] t1 b1 t2 b2 g4 w8 from ⟨S7.out.x.fr c8 (by omega) (by omega), S7.out.y.fr c8 (by omega) (by omega), S7.out.g.fr c8 (by omega), S7.out.p.fr c8 (by have := HPL.out; omega), S7.out.r.fr c8 (by have := HRL.out; omega), S7.out.b.trans (c8.below (by omega) (fun k hk => by omega))⟩); clear k8 c8))
  have g7a : t1 < w6.heap.size := by omega
  have g7b : b1 < w6.heap.size := by omega
  have g7c : w.heap.size < w6.heap.size := by omega
  have m1 : w.heap.size ≤ t1 := by omega
  have m2 : w.heap.size ≤ b1 := by omega
  have m3 : w.heap.size ≤ t2 := by omega
  have m4 : w.heap.size ≤ b2 := by omega
  clear S6 S7 K7
  generalize w6.heap.size = g7 at *
  go_wp2_with (first | (with_reducible refine wpList_load_blk rfl _ _ rfl g7 h6.cells rfl K8.out _ Tryd.underlying32 rfl (szH ok6) ?_))
  refine (add_calls w8 t1 b1 [h5] trk5 h6 ok6 S8.out.x S8.out.p).mono ?_
  rintro e w9 hA
  have S9 := Lib.hid (show BG w first [h5, h6] t1 b1 t2 b2 g4 w9 from by
    rw [← addL6]
    exact S8.out.add hA m1 m2 (by omega) (by omega) (by omega) (by omega) (by omega) (by omega) HPL.out HRL.out)
  have K9 := Lib.hid (K8.out.fr hA.2.2 (fun e => by rcases e with e | e <;> omega))
  obtain rfl := hA.1
  rw [add6]
  clear hA S8 K8
  go_wp2_with (first | (with_reducible refine wpList_load_blk rfl _ _ rfl g7 h6.cells rfl K9.out _ Tryd.underlying32 rfl (szH ok6) ?_))
  refine (add_calls w9 t1 b1 [h5, h6] trk56 h6 ok6 S9.out.x S9.out.p).mono ?_
  rintro e w10 hA
  have S10 := Lib.hid (show BG w first [h5, h6] t1 b1 t2 b2 g4 w10 from by
    have := S9.out.add hA m1 m2 (by omega) (by omega) (by omega) (by omega) (by omega) (by omega) HPL.out HRL.out
    rw [addL66] at this
    exact this)
  have K10 := Lib.hid (K9.out.fr hA.2.2 (fun e => by rcases e with e | e <;> omega))
  obtain rfl := hA.1
  rw [again6]
  have hq : ∀ w, (Op.equalIn 10000 24 (.agg (d6.map byt).toArray) (.agg (d6.map byt).toArray)).run Tryd.prog w = .ok true w := fun w => by rw [run_equal_u8 Tryd.underlying24 (i := _) rfl (by kernel_rfl) Tryd.underlying5 w d6 d6 (by decide) (by decide)]; simp
  clear hA S9 K9
  go_wp2
  refine wp_region_held_drew (S := (fun w' => BG w first [h5, h6] t1 b1 t2 b2 g4 w' ∧ Blk w' g7 h6.cells 32)) (by kernel_rfl) ⟨S10.out.drew, K10.out.drew⟩ (fun hHeld => ?_)
  refine wpAnyH_take (i := 0) (oi := ⟨_, _, _, _, _, _⟩) (v := ?_) rfl (by kernel_rfl) (by kernel_rfl) (by kernel_rfl) (fun _ _ _ h => h) (Or.inl ⟨by rfl, ?_⟩) (by assumption) ?_
  rotate_left
  · intro w hSw; go_simp; try (with_reducible rfl)
  try simp only [Act.put, List.setIfInBounds_toArray, List.set_cons_zero, List.set_cons_succ]
  refine wpAnyH_take (i := 1) (oi := ⟨_, _, _, _, _, _⟩) rfl (by kernel_rfl) (by kernel_rfl) (by kernel_rfl) (fun _ _ _ h => h) (yieldsIf_load_mid (by rfl) _ _ rfl g4 0 rfl h5.cells _ (fun _ h => blk_range h.1.g) Tryd.underlying32 rfl (szH ok5)) (by assumption) ?_
  try simp only [Act.put, List.setIfInBounds_toArray, List.set_cons_zero, List.set_cons_succ]
  refine wpAnyH_take (i := 3) (oi := ⟨_, _, _, _, _, _⟩) rfl (by kernel_rfl) (by kernel_rfl) (by kernel_rfl) (fun _ _ _ h => h) (yieldsIf_load_mid (by rfl) _ _ rfl g7 0 rfl h6.cells _ (fun _ h => blk_range h.2) Tryd.underlying32 rfl (szH ok6)) (by assumption) ?_
  try simp only [Act.put, List.setIfInBounds_toArray, List.set_cons_zero, List.set_cons_succ]
  refine wpAnyH_ready (rs := [2]) (by kernel_rfl) (by simp) ?_
  refine AllReadyH.cons (o := ⟨_, _, _, _, _, _⟩) rfl (fun K hK => ?_) AllReadyH.nil
  go_simp
  refine (ref_mainId_calls _ h5 ok5 hHeld.1.r).mono ?_
  rintro e wz ⟨rfl, gz⟩
  rw [id5]
  refine hK.out _ _ (by exact ⟨hHeld.1.below gz, hHeld.2.below gz⟩) (fun hHeld => ?_)
  clear hK
  try simp only [Act.put, List.setIfInBounds_toArray, List.set_cons_zero, List.set_cons_succ]
  clear gz
  refine wpAnyH_ready (rs := [4]) (by kernel_rfl) (by simp) ?_
  refine AllReadyH.cons (o := ⟨_, _, _, _, _, _⟩) rfl (fun K hK => ?_) AllReadyH.nil
  go_simp
  refine (ref_mainId_calls _ h6 ok6 hHeld.1.r).mono ?_
  rintro e wz ⟨rfl, gz⟩
  rw [id6]
  refine hK.out _ _ (by exact ⟨hHeld.1.below gz, hHeld.2.below gz⟩) (fun hHeld => ?_)
  clear hK
  try simp only [Act.put, List.setIfInBounds_toArray, List.set_cons_zero, List.set_cons_succ]
  clear gz
  refine wpAnyH_ready (rs := [5]) (by kernel_rfl) (by simp) ?_
  refine AllReadyH.cons (o := ⟨_, _, _, _, _, _⟩) rfl (fun K hK => ?_) AllReadyH.nil
  go_simp
  refine (depth_calls _ t1 b1 [h5, h6] trk56 (by decide) d5 d6 (by decide) (by decide) hHeld.1.x).mono ?_
  rintro e wz ⟨rfl, gz⟩
  rw [depth56]
  simp only [Option.getD_some, Option.isSome_some]
  refine hK.out _ _ (by exact ⟨hHeld.1.below gz, hHeld.2.below gz⟩) (fun hHeld => ?_)
  clear hK
  try simp only [Act.put, List.setIfInBounds_toArray, List.set_cons_zero, List.set_cons_succ]
  clear gz
  refine wpAnyH_take (i := 6) (oi := ⟨_, _, _, _, _, _⟩) (v := ?_) rfl (by kernel_rfl) (by kernel_rfl) (by kernel_rfl) (fun _ _ _ h => h) (Or.inl ⟨by rfl, ?_⟩) (by assumption) ?_
  rotate_left
  · intro w hSw; go_simp; try (with_reducible rfl)
  try simp only [Act.put, List.setIfInBounds_toArray, List.set_cons_zero, List.set_cons_succ]
  refine wpAnyH_take (i := 7) (oi := ⟨_, _, _, _, _, _⟩) (v := ?_) rfl (by kernel_rfl) (by kernel_rfl) (by kernel_rfl) (fun _ _ _ h => h) (Or.inl ⟨by rfl, ?_⟩) (by assumption) ?_
  rotate_left
  · intro w hSw; go_simp; try (with_reducible rfl)
  try simp only [Act.put, List.setIfInBounds_toArray, List.set_cons_zero, List.set_cons_succ]
  refine wpAnyH_take (i := 8) (oi := ⟨_, _, _, _, _, _⟩) (v := ?_) rfl (by kernel_rfl) (by kernel_rfl) (by kernel_rfl) (fun _ _ _ h => h) (Or.inl ⟨by rfl, ?_⟩) (by assumption) ?_
  rotate_left
  · intro w hSw; go_simp; try (with_reducible rfl)
  try simp only [Act.put, List.setIfInBounds_toArray, List.set_cons_zero, List.set_cons_succ]
  refine wpAnyH_take (i := 9) (oi := ⟨_, _, _, _, _, _⟩) (v := ?_) rfl (by kernel_rfl) (by kernel_rfl) (by kernel_rfl) (fun _ _ _ h => h) (Or.inl ⟨by rfl, ?_⟩) (by assumption) ?_
  rotate_left
  · intro w hSw; go_simp; try (with_reducible rfl)
  try simp only [Act.put, List.setIfInBounds_toArray, List.set_cons_zero, List.set_cons_succ]
  refine wpAnyH_take (i := 10) (oi := ⟨_, _, _, _, _, _⟩) (v := ?_) rfl (by kernel_rfl) (by kernel_rfl) (by kernel_rfl) (fun _ _ _ h => h) (Or.inl ⟨by rfl, ?_⟩) (by assumption) ?_
  rotate_left
  · intro w hSw; go_simp; try (with_reducible rfl)
  try simp only [Act.put, List.setIfInBounds_toArray, List.set_cons_zero, List.set_cons_succ]
  refine wpAnyH_done (by kernel_rfl) ?_ _
  have S11 := Lib.hid hHeld
  clear hHeld S10 K10
  go_wp2
  refine wp_region_held_drew (S := (fun w' => BG w first [h5, h6] t1 b1 t2 b2 g4 w' ∧ Blk w' g7 h6.cells 32)) (by kernel_rfl) ⟨S11.out.1.drew, S11.out.2.drew⟩ (fun hHeld => ?_)
  refine wpAnyH_take (i := 0) (oi := ⟨_, _, _, _, _, _⟩) (v := ?_) rfl (by kernel_rfl) (by kernel_rfl) (by kernel_rfl) (fun _ _ _ h => h) (Or.inl ⟨by rfl, ?_⟩) (by assumption) ?_
  rotate_left
  · intro w hSw; go_simp; try (with_reducible rfl)
  try simp only [Act.put, List.setIfInBounds_toArray, List.set_cons_zero, List.set_cons_succ]
  refine wpAnyH_take (i := 1) (oi := ⟨_, _, _, _, _, _⟩) (v := ?_) rfl (by kernel_rfl) (by kernel_rfl) (by kernel_rfl) (fun _ _ _ h => h) (Or.inl ⟨by rfl, ?_⟩) (by assumption) ?_
  rotate_left
  · intro w hSw; go_simp; try (with_reducible rfl)
  try simp only [Act.put, List.setIfInBounds_toArray, List.set_cons_zero, List.set_cons_succ]
  refine wpAnyH_take (i := 2) (oi := ⟨_, _, _, _, _, _⟩) (v := ?_) rfl (by kernel_rfl) (by kernel_rfl) (by kernel_rfl) (fun _ _ _ h => h) (Or.inl ⟨by rfl, ?_⟩) (by assumption) ?_
  rotate_left
  · intro w hSw; go_simp; try (with_reducible rfl)
  try simp only [Act.put, List.setIfInBounds_toArray, List.set_cons_zero, List.set_cons_succ]
  refine wpAnyH_take (i := 3) (oi := ⟨_, _, _, _, _, _⟩) (v := ?_) rfl (by kernel_rfl) (by kernel_rfl) (by kernel_rfl) (fun _ _ _ h => h) (Or.inl ⟨by rfl, ?_⟩) (by assumption) ?_
  rotate_left
  · intro w hSw; go_simp; try (with_reducible rfl)
  try simp only [Act.put, List.setIfInBounds_toArray, List.set_cons_zero, List.set_cons_succ]
  refine wpAnyH_take (i := 4) (oi := ⟨_, _, _, _, _, _⟩) (v := ?_) rfl (by kernel_rfl) (by kernel_rfl) (by kernel_rfl) (fun _ _ _ h => h) (Or.inl ⟨by rfl, ?_⟩) (by assumption) ?_
  rotate_left
  · intro w hSw; go_simp; try (with_reducible rfl)
  try simp only [Act.put, List.setIfInBounds_toArray, List.set_cons_zero, List.set_cons_succ]
  refine wpAnyH_take (i := 5) (oi := ⟨_, _, _, _, _, _⟩) (v := ?_) rfl (by kernel_rfl) (by kernel_rfl) (by kernel_rfl) (fun _ _ _ h => h) (Or.inl ⟨by rfl, ?_⟩) (by assumption) ?_
  rotate_left
  · intro w hSw; go_simp; try (with_reducible rfl)
  try simp only [Act.put, List.setIfInBounds_toArray, List.set_cons_zero, List.set_cons_succ]
  refine wpAnyH_take (i := 6) (oi := ⟨_, _, _, _, _, _⟩) (v := ?_) rfl (by kernel_rfl) (by kernel_rfl) (by kernel_rfl) (fun _ _ _ h => h) (Or.inl ⟨by rfl, ?_⟩) (by assumption) ?_
  rotate_left
  · intro w hSw; go_simp; try (with_reducible rfl)
  try simp only [Act.put, List.setIfInBounds_toArray, List.set_cons_zero, List.set_cons_succ]
  refine wpAnyH_take (i := 7) (oi := ⟨_, _, _, _, _, _⟩) (v := ?_) rfl (by kernel_rfl) (by kernel_rfl) (by kernel_rfl) (fun _ _ _ h => h) (Or.inl ⟨by rfl, ?_⟩) (by assumption) ?_
  rotate_left
  · intro w hSw; go_simp; try (with_reducible rfl)
  try simp only [Act.put, List.setIfInBounds_toArray, List.set_cons_zero, List.set_cons_succ]
  refine wpAnyH_take (i := 8) (oi := ⟨_, _, _, _, _, _⟩) (v := ?_) rfl (by kernel_rfl) (by kernel_rfl) (by kernel_rfl) (fun _ _ _ h => h) (Or.inl ⟨by rfl, ?_⟩) (by assumption) ?_
  rotate_left
  · intro w hSw; go_simp; try (with_reducible rfl)
  try simp only [Act.put, List.setIfInBounds_toArray, List.set_cons_zero, List.set_cons_succ]
  refine wpAnyH_take (i := 10) (oi := ⟨_, _, _, _, _, _⟩) rfl (by kernel_rfl) (by kernel_rfl) (by kernel_rfl) (fun _ _ _ h => h) (yieldsIf_load_mid (by rfl) _ _ rfl g7 0 rfl h6.cells _ (fun _ h => blk_range h.2) Tryd.underlying32 rfl (szH ok6)) (by assumption) ?_
  try simp only [Act.put, List.setIfInBounds_toArray, List.set_cons_zero, List.set_cons_succ]
  refine wpAnyH_ready (rs := [9]) (by kernel_rfl) (by simp) ?_
  refine AllReadyH.cons (o := ⟨_, _, _, _, _, _⟩) rfl (fun K hK => ?_) AllReadyH.nil
  go_simp
  refine (best_calls _ t1 b1 [h5, h6] hHeld.1.x).mono ?_
  rintro e wz ⟨rfl, gz⟩
  rw [hbest]
  refine hK.out _ _ (by exact ⟨hHeld.1.below gz, hHeld.2.below gz⟩) (fun hHeld => ?_)
  clear hK
  try simp only [Act.put, List.setIfInBounds_toArray, List.set_cons_zero, List.set_cons_succ]
  clear gz
  refine wpAnyH_ready (rs := [11]) (by kernel_rfl) (by simp) ?_
  refine AllReadyH.cons (o := ⟨_, _, _, _, _, _⟩) rfl (fun K hK => ?_) AllReadyH.nil
  go_simp
  refine (ref_mainId_calls _ h6 ok6 hHeld.1.r).mono ?_
  rintro e wz ⟨rfl, gz⟩
  rw [id6]
  refine hK.out _ _ (by exact ⟨hHeld.1.below gz, hHeld.2.below gz⟩) (fun hHeld => ?_)
  clear hK
  try simp only [Act.put, List.setIfInBounds_toArray, List.set_cons_zero, List.set_cons_succ]
  clear gz
  refine wpAnyH_take (i := 12) (oi := ⟨_, _, _, _, _, _⟩) (v := ?_) rfl (by kernel_rfl) (by kernel_rfl) (by kernel_rfl) (fun _ _ _ h => h) (Or.inl ⟨by rfl, ?_⟩) (by assumption) ?_
  rotate_left
  · intro w hSw; go_simp; try (with_reducible rfl)
  try simp only [Act.put, List.setIfInBounds_toArray, List.set_cons_zero, List.set_cons_succ]
  refine wpAnyH_take (i := 13) (oi := ⟨_, _, _, _, _, _⟩) (v := ?_) rfl (by kernel_rfl) (by kernel_rfl) (by kernel_rfl) (fun _ _ _ h => h) (Or.inl ⟨by rfl, ?_⟩) (by assumption) ?_
  rotate_left
  · intro w hSw; go_simp; try (with_reducible rfl)
  try simp only [Act.put, List.setIfInBounds_toArray, List.set_cons_zero, List.set_cons_succ]
  refine wpAnyH_take (i := 14) (oi := ⟨_, _, _, _, _, _⟩) (v := ?_) rfl (by kernel_rfl) (by kernel_rfl) (by kernel_rfl) (fun _ _ _ h => h) (Or.inl ⟨by rfl, ?_⟩) (by assumption) ?_
  rotate_left
  · intro w hSw; go_simp; try (with_reducible rfl)
  try simp only [Act.put, List.setIfInBounds_toArray, List.set_cons_zero, List.set_cons_succ]
  refine wpAnyH_take (i := 15) (oi := ⟨_, _, _, _, _, _⟩) (v := ?_) rfl (by kernel_rfl) (by kernel_rfl) (by kernel_rfl) (fun _ _ _ h => h) (Or.inl ⟨by rfl, ?_⟩) (by assumption) ?_
  rotate_left
  · intro w hSw; go_simp; try (with_reducible rfl)
  try simp only [Act.put, List.setIfInBounds_toArray, List.set_cons_zero, List.set_cons_succ]
  refine wpAnyH_take (i := 16) (oi := ⟨_, _, _, _, _, _⟩) (v := ?_) rfl (by kernel_rfl) (by kernel_rfl) (by kernel_rfl) (fun _ _ _ h => h) (Or.inl ⟨by rfl, ?_⟩) (by assumption) ?_
  rotate_left
  · intro w hSw; go_simp; try (with_reducible rfl)
  try simp only [Act.put, List.setIfInBounds_toArray, List.set_cons_zero, List.set_cons_succ]
  refine wpAnyH_take (i := 17) (oi := ⟨_, _, _, _, _, _⟩) (v := ?_) rfl (by kernel_rfl) (by kernel_rfl) (by kernel_rfl) (fun _ _ _ h => h) (Or.inl ⟨by rfl, ?_⟩) (by assumption) ?_
  rotate_left
  · intro w hSw; go_simp; try (with_reducible rfl)
  try simp only [Act.put, List.setIfInBounds_toArray, List.set_cons_zero, List.set_cons_succ]
  refine wpAnyH_take (i := 18) (oi := ⟨_, _, _, _, _, _⟩) (v := ?_) rfl (by kernel_rfl) (by kernel_rfl) (by kernel_rfl) (fun _ _ _ h => h) (Or.inl ⟨by rfl, ?_⟩) (by assumption) ?_
  rotate_left
  · intro w hSw; go_simp; try (with_reducible rfl)
  try simp only [Act.put, List.setIfInBounds_toArray, List.set_cons_zero, List.set_cons_succ]
  refine wpAnyH_take (i := 19) (oi := ⟨_, _, _, _, _, _⟩) (v := ?_) rfl (by kernel_rfl) (by kernel_rfl) (by kernel_rfl) (fun _ _ _ h => h) (Or.inl ⟨by rfl, ?_⟩) (by assumption) ?_
  rotate_left
  · intro w hSw; go_simp; try (with_reducible rfl)
  try simp only [Act.put, List.setIfInBounds_toArray, List.set_cons_zero, List.set_cons_succ]
  refine wpAnyH_take (i := 20) (oi := ⟨_, _, _, _, _, _⟩) (v := ?_) rfl (by kernel_rfl) (by kernel_rfl) (by kernel_rfl) (fun _ _ _ h => h) (Or.inl ⟨by rfl, ?_⟩) (by assumption) ?_
  rotate_left
  · intro w hSw; go_simp; try (with_reducible rfl)
  try simp only [Act.put, List.setIfInBounds_toArray, List.set_cons_zero, List.set_cons_succ]
  refine wpAnyH_take (i := 21) (oi := ⟨_, _, _, _, _, _⟩) (v := ?_) rfl (by kernel_rfl) (by kernel_rfl) (by kernel_rfl) (fun _ _ _ h => h) (Or.inl ⟨by rfl, ?_⟩) (by assumption) ?_
  rotate_left
  · intro w hSw; go_simp; try (with_reducible rfl)
  try simp only [Act.put, List.setIfInBounds_toArray, List.set_cons_zero, List.set_cons_succ]
  refine wpAnyH_take (i := 22) (oi := ⟨_, _, _, _, _, _⟩) (v := ?_) rfl (by kernel_rfl) (by kernel_rfl) (by kernel_rfl) (fun _ _ _ h => h) (Or.inl ⟨by rfl, ?_⟩) (by assumption) ?_
  rotate_left
  · intro w hSw; go_simp; try (with_reducible rfl)
  try simp only [Act.put, List.setIfInBounds_toArray, List.set_cons_zero, List.set_cons_succ]
  refine wpAnyH_ready (rs := [23]) (by kernel_rfl) (by simp) ?_
  refine AllReadyH.cons (o := ⟨_, _, _, _, _, _⟩) rfl (fun K hK => ?_) AllReadyH.nil
  go_simp
  refine (len_calls _ t1 b1 [h5, h6] hHeld.1.x).mono ?_
  rintro e wz ⟨rfl, rfl⟩
  refine hK.out _ _ (by exact hHeld) (fun hHeld => ?_)
  clear hK
  try simp only [Act.put, List.setIfInBounds_toArray, List.set_cons_zero, List.set_cons_succ]
  refine wpAnyH_take (i := 24) (oi := ⟨_, _, _, _, _, _⟩) (v := ?_) rfl (by kernel_rfl) (by kernel_rfl) (by kernel_rfl) (fun _ _ _ h => h) (Or.inl ⟨by rfl, ?_⟩) (by assumption) ?_
  rotate_left
  · intro w hSw; go_simp; try (with_reducible rfl)
  try simp only [Act.put, List.setIfInBounds_toArray, List.set_cons_zero, List.set_cons_succ]
  refine wpAnyH_take (i := 25) (oi := ⟨_, _, _, _, _, _⟩) (v := ?_) rfl (by kernel_rfl) (by kernel_rfl) (by kernel_rfl) (fun _ _ _ h => h) (Or.inl ⟨by rfl, ?_⟩) (by assumption) ?_
  rotate_left
  · intro w hSw; go_simp; try (with_reducible rfl)
  try simp only [Act.put, List.setIfInBounds_toArray, List.set_cons_zero, List.set_cons_succ]
  refine wpAnyH_take (i := 26) (oi := ⟨_, _, _, _, _, _⟩) (v := ?_) rfl (by kernel_rfl) (by kernel_rfl) (by kernel_rfl) (fun _ _ _ h => h) (Or.inl ⟨by rfl, ?_⟩) (by assumption) ?_
  rotate_left
  · intro w hSw; go_simp; try (with_reducible rfl)
  try simp only [Act.put, List.setIfInBounds_toArray, List.set_cons_zero, List.set_cons_succ]
  refine wpAnyH_take (i := 27) (oi := ⟨_, _, _, _, _, _⟩) (v := ?_) rfl (by kernel_rfl) (by kernel_rfl) (by kernel_rfl) (fun _ _ _ h => h) (Or.inl ⟨by rfl, ?_⟩) (by assumption) ?_
  rotate_left
  · intro w hSw; go_simp; try (with_reducible rfl)
  try simp only [Act.put, List.setIfInBounds_toArray, List.set_cons_zero, List.set_cons_succ]
  refine wpAnyH_done (by kernel_rfl) ?_ _
  go_wp2
  go_ret2
  exact ⟨t2, b2, rfl, m3, m4, hHeld.1.y, hHeld.1.b⟩
end Go.Proofs.YtmenchnjajpkmaaDoor.Tb
