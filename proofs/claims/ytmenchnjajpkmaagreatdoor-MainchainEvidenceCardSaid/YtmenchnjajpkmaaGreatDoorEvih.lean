/- The walk of the laws' begun. Conditions: a header as it reads; the tables are laid. The walk of the laws' fed. Conditions: headers as they read, of at most 2^47 - 4096 bytes; the tables are laid. Trees of digests, in plain Lean: the cut, the root, the path, what a path comes to. No program here. Walks of Leaf and Node, the program's and the reference's. Conditions: the thing is of at most 2^47 - 4096 bytes; the tables are laid. Walks of the wire's writer: must, kind, key, a list of keys, params. Condition: the bytes together are at most 2^47. Walks of the program's Params (bytes of a federation). Condition: the keys are read at most 2^41. Walks of the reference's W: must, small, many, params, done; the reference's Params. Condition: the bytes together are at most 2^47. How a thing of so many cells reads as plain data, and slices of such things. Program-independent; no condition. -/
import Derived.Test.YtmenchnjajpkmaaGreatDoorEvif
import Derived.Test.YtmenchnjajpkmaaGreatDoorEvig
import Derived.Lib.BitFns
import Derived.Test.YtmenchnjajpkmaaGreatDoorEvid
import Derived.Test.YtmenchnjajpkmaaGreatDoorEvie
section
namespace Go.Proofs.YtmenchnjajpkmaaGreatDoor.Tb
open Go Go.RowKit Mem Codec Mh Maps Ops Wh Ww ShaW Arr Tk Tr
set_option linter.unusedVariables false

/-- what begun keeps -/
structure BG (w : World) (first : Hd) (hs : List Hd) (t1 b1 t2 b2 g4 : Nat) (wx : World) : Prop where
  x : TrkIs wx t1 b1 hs
  y : TrkIs wx t2 b2 [first]
  g : Blk wx g4 h5.cells 41
  p : TabB wx 1
  r : TabB wx 0
  b : Below w.heap.size w wx
section
variable {w a c : World} {first : Hd} {hs : List Hd} {t1 b1 t2 b2 g4 : Nat}
theorem BG.below (h : BG w first hs t1 b1 t2 b2 g4 a) (hb : Below a.heap.size a c) : BG w first hs t1 b1 t2 b2 g4 c := ⟨h.x.below hb, h.y.below hb, h.g.below hb, h.p.below hb, h.r.below hb, h.b.trans (hb.mono h.b.size)⟩
theorem BG.drew (h : BG w first hs t1 b1 t2 b2 g4 a) : BG w first hs t1 b1 t2 b2 g4 a.drew := ⟨h.x.drew, h.y.drew, h.g.drew, h.p, h.r, below_drew h.b⟩
theorem BG.add {hd : Hd} {e : Ending} (h : BG w first hs t1 b1 t2 b2 g4 a) (k : AddT a t1 b1 hs hd e c) (n1 : w.heap.size ≤ t1) (n2 : w.heap.size ≤ b1) (n3 : t2 ≠ t1) (n4 : t2 ≠ b1) (n5 : b2 ≠ t1) (n6 : b2 ≠ b1) (n7 : g4 ≠ t1) (n8 : g4 ≠ b1) (hp : 1 < w.heap.size) (hr : 0 < w.heap.size) : BG w first (addL hs hd) t1 b1 t2 b2 g4 c := by
  obtain ⟨_, k2, k3⟩ := k
  exact ⟨k2, h.y.fr k3 (fun e => by rcases e with e | e <;> omega) (fun e => by rcases e with e | e <;> omega), h.g.fr k3 (fun e => by rcases e with e | e <;> omega), h.p.fr k3 (fun e => by rcases e with e | e <;> omega), h.r.fr k3 (fun e => by rcases e with e | e <;> omega), h.b.trans (k3.below h.b.size (fun i e => by rcases e with e | e <;> omega))⟩
end
theorem built5 : Tryz.prog.built 41 [(2, .int .u64 5)] = some h5.cells.toArray := by kernel_rfl
theorem built6 : Tryz.prog.built 41 [(0, dv d5), (2, .int .u64 6)] = some h6.cells.toArray := by kernel_rfl
/-- what begun hands back -/
def BegT (w : World) (first : Hd) (e : Ending) (w' : World) : Prop := ∃ t b, e = .returned (.tuple #[.pointer (some ⟨t, 0, none⟩), .bool true]) ∧ w.heap.size ≤ t ∧ w.heap.size ≤ b ∧ TrkIs w' t b [first] ∧ Below w.heap.size w w'

theorem hbest : bestId [h5, h6] = d6 := by unfold bestId; rw [best56]; exact id6
set_option maxHeartbeats 16000000 in
set_option maxRecDepth 100000 in
theorem begun_calls (w : World) (first : Hd) (ok : first.Ok) (hP : TabB w 1) (hR : TabB w 0) :
    Calls Tryz.prog 10 #[hv first] w (BegT w first) := by
  have hp := (Array.getElem?_eq_some_iff.1 hP.choose_spec.choose_spec).1
  have hr := (Array.getElem?_eq_some_iff.1 hR.choose_spec.choose_spec).1
  have HPL := Lib.hid hp
  have HRL := Lib.hid hr
  have HP := Lib.hid hP
  have HR := Lib.hid hR
  have OK := Lib.hid ok
  clear hp hr hP hR ok
  go_enter Tryz.func10, Tryz.ntmps10
  go_upto_region 2 with (first
    | ((with_reducible refine wpList_box rfl _ _ rfl first.cells rfl (fun w1 k1 c1 z1 => ?_)); have K1 := Lib.hid k1; have B1 := Lib.hid c1; clear k1 c1)
    | (refine wpList_built rfl 41 [(2, .const (.int .u64 5))] rfl h5.cells built5 ?_)
    | ((with_reducible refine wpList_alloc rfl _ rfl _ (zeroV _) (fun w2 k2 c2 z2 => ?_)); have K2 := Lib.hid k2; have B2 := Lib.hid (B1.out.trans (c2.mono (by omega))); have F2 := Lib.hid (K1.out.below c2); clear k2 c2)
    | ((with_reducible refine wpList_put rfl _ _ _ rfl w1.heap.size h5.cells _ rfl rfl K2.out (szH ok5) rfl h5.one (fun w3 k3 c3 z3 => ?_)); have K3 := Lib.hid k3; have F3 := Lib.hid (F2.out.fr c3 (by omega)); have B3 := Lib.hid (B2.out.trans (c3.below (by omega) (fun k hk => by omega))); clear k3 c3))
  have P3 := Lib.hid (HP.out.below B3.out)
  have R3 := Lib.hid (HR.out.below B3.out)
  have hg4 : w.heap.size < w1.heap.size := by omega
  have hg4' : w1.heap.size < w3.heap.size := by omega
  clear K1 B1 K2 B2 F2 HP HR
  generalize w1.heap.size = g4 at *
  go_wp2_with (first | (with_reducible refine wpList_load_blk rfl _ _ rfl g4 h5.cells rfl K3.out _ Tryz.underlying41 rfl (szH ok5) ?_))
  refine (new_calls w3 h5 ok5 P3.out).mono ?_
  rintro e w4 ⟨t1, b1, rfl, n1, n2, x4, c4⟩
  have X4 := Lib.hid x4
  have G4 := Lib.hid (K3.out.below c4)
  have F4 := Lib.hid (F3.out.below c4)
  have P4 := Lib.hid (P3.out.below c4)
  have R4 := Lib.hid (R3.out.below c4)
  have B4 := Lib.hid (B3.out.trans (c4.mono B3.out.size))
  have hl1 := x4.lt.1
  have hl2 := x4.lt.2
  have hs4 := c4.size
  have hs3 := B3.out.size
  clear x4 c4 K3 F3 P3 R3 B3
  go_wp2_with (first | (with_reducible refine wpList_load_blk rfl _ _ rfl w.heap.size first.cells rfl F4.out _ Tryz.underlying41 rfl (szH OK.out) ?_))
  refine (new_calls w4 first OK.out P4.out).mono ?_
  rintro e w5 ⟨t2, b2, rfl, n3, n4, x5, c5⟩
  have HS := Lib.hid (show BG w first [h5] t1 b1 t2 b2 g4 w5 from ⟨X4.out.below c5, x5, G4.out.below c5, P4.out.below c5, R4.out.below c5, B4.out.trans (c5.mono B4.out.size)⟩)
  have hs5 := c5.size
  clear x5 c5 X4 G4 F4 P4 R4 B4
  go_upto_region 6 with fail
  go_wp2_with (first | (with_reducible refine wpList_load_blk rfl _ _ rfl g4 h5.cells rfl HS.out.g _ Tryz.underlying41 rfl (szH ok5) ?_))
  refine (ref_mainId_calls w5 h5 ok5 HS.out.r).mono ?_
  rintro e w6 ⟨rfl, c6⟩
  rw [id5]
  have S6 := Lib.hid (HS.out.below c6)
  have hs6 := c6.size
  have hy1 := S6.out.y.lt.1
  have hy2 := S6.out.y.lt.2
  have hw6 := S6.out.b.size
  clear c6 HS
  go_upto_region 7 with (first
    | (refine wpList_built rfl 41 [(0, .tmp 24), (2, .const (.int .u64 6))] rfl h6.cells built6 ?_)
    | ((with_reducible refine wpList_alloc rfl _ rfl _ (zeroV _) (fun w7 k7 c7 z7 => ?_)); have K7 := Lib.hid k7; have S7 := Lib.hid (S6.out.below c7); clear k7 c7)
    | ((with_reducible refine wpList_put rfl _ _ _ rfl w6.heap.size h6.cells _ rfl rfl K7.out (szH ok6) rfl h6.one (fun w8 k8 c8 z8 => ?_)); have K8 := Lib.hid k8; have S8 := Lib.hid (show BG w first [h5] t1 b1 t2 b2 g4 w8 from ⟨S7.out.x.fr c8 (by omega) (by omega), S7.out.y.fr c8 (by omega) (by omega), S7.out.g.fr c8 (by omega), S7.out.p.fr c8 (by have := HPL.out; omega), S7.out.r.fr c8 (by have := HRL.out; omega), S7.out.b.trans (c8.below (by omega) (fun k hk => by omega))⟩); clear k8 c8))
  have g7a : t1 < w6.heap.size := by omega
  have g7b : b1 < w6.heap.size := by omega
  have g7c : w.heap.size < w6.heap.size := by omega
  have m1 : w.heap.size ≤ t1 := by omega
  have m2 : w.heap.size ≤ b1 := by omega
  have m3 : w.heap.size ≤ t2 := by omega
  have m4 : w.heap.size ≤ b2 := by omega
  clear S6 S7 K7
  generalize w6.heap.size = g7 at *
  go_wp2_with (first | (with_reducible refine wpList_load_blk rfl _ _ rfl g7 h6.cells rfl K8.out _ Tryz.underlying41 rfl (szH ok6) ?_))
  refine (add_calls w8 t1 b1 [h5] trk5 h6 ok6 S8.out.x S8.out.p).mono ?_
  rintro e w9 hA
  have S9 := Lib.hid (show BG w first [h5, h6] t1 b1 t2 b2 g4 w9 from by
    rw [← addL6]
    exact S8.out.add hA m1 m2 (by omega) (by omega) (by omega) (by omega) (by omega) (by omega) HPL.out HRL.out)
  have K9 := Lib.hid (K8.out.fr hA.2.2 (fun e => by rcases e with e | e <;> omega))
  obtain rfl := hA.1
  rw [add6]
  clear hA S8 K8
  go_wp2_with (first | (with_reducible refine wpList_load_blk rfl _ _ rfl g7 h6.cells rfl K9.out _ Tryz.underlying41 rfl (szH ok6) ?_))
  refine (add_calls w9 t1 b1 [h5, h6] trk56 h6 ok6 S9.out.x S9.out.p).mono ?_
  rintro e w10 hA
  have S10 := Lib.hid (show BG w first [h5, h6] t1 b1 t2 b2 g4 w10 from by
    have := S9.out.add hA m1 m2 (by omega) (by omega) (by omega) (by omega) (by omega) (by omega) HPL.out HRL.out
    rw [addL66] at this
    exact this)
  have K10 := Lib.hid (K9.out.fr hA.2.2 (fun e => by rcases e with e | e <;> omega))
  obtain rfl := hA.1
  rw [again6]
  have hq : ∀ w, (Op.equalIn 10000 24 (.agg (d6.map byt).toArray) (.agg (d6.map byt).toArray)).run Tryz.prog w = .ok true w := fun w => by rw [run_equal_u8 Tryz.underlying24 (i := _) rfl (by kernel_rfl) Tryz.underlying5 w d6 d6 (by decide) (by decide)]; simp
  clear hA S9 K9
  go_wp2
  refine wp_region_held_drew (S := (fun w' => BG w first [h5, h6] t1 b1 t2 b2 g4 w' ∧ Blk w' g7 h6.cells 41)) (by kernel_rfl) ⟨S10.out.drew, K10.out.drew⟩ (fun hHeld => ?_)
  refine wpAnyH_take (i := 0) (oi := ⟨_, _, _, _, _, _⟩) (v := ?_) rfl (by kernel_rfl) (by kernel_rfl) (by kernel_rfl) (fun _ _ _ h => h) (Or.inl ⟨by rfl, ?_⟩) (by assumption) ?_
  rotate_left
  · intro w hSw; go_simp; try (with_reducible rfl)
  try simp only [Act.put, List.setIfInBounds_toArray, List.set_cons_zero, List.set_cons_succ]
  refine wpAnyH_take (i := 1) (oi := ⟨_, _, _, _, _, _⟩) rfl (by kernel_rfl) (by kernel_rfl) (by kernel_rfl) (fun _ _ _ h => h) (yieldsIf_load_mid (by rfl) _ _ rfl g4 0 rfl h5.cells _ (fun _ h => blk_range h.1.g) Tryz.underlying41 rfl (szH ok5)) (by assumption) ?_
  try simp only [Act.put, List.setIfInBounds_toArray, List.set_cons_zero, List.set_cons_succ]
  refine wpAnyH_take (i := 3) (oi := ⟨_, _, _, _, _, _⟩) rfl (by kernel_rfl) (by kernel_rfl) (by kernel_rfl) (fun _ _ _ h => h) (yieldsIf_load_mid (by rfl) _ _ rfl g7 0 rfl h6.cells _ (fun _ h => blk_range h.2) Tryz.underlying41 rfl (szH ok6)) (by assumption) ?_
  try simp only [Act.put, List.setIfInBounds_toArray, List.set_cons_zero, List.set_cons_succ]
  refine wpAnyH_ready (rs := [2]) (by kernel_rfl) (by simp) ?_
  refine AllReadyH.cons (o := ⟨_, _, _, _, _, _⟩) rfl (fun K hK => ?_) AllReadyH.nil
  go_simp
  refine (ref_mainId_calls _ h5 ok5 hHeld.1.r).mono ?_
  rintro e wz ⟨rfl, gz⟩
  rw [id5]
  refine hK.out _ _ (by exact ⟨hHeld.1.below gz, hHeld.2.below gz⟩) (fun hHeld => ?_)
  clear hK
  try simp only [Act.put, List.setIfInBounds_toArray, List.set_cons_zero, List.set_cons_succ]
  clear gz
  refine wpAnyH_ready (rs := [4]) (by kernel_rfl) (by simp) ?_
  refine AllReadyH.cons (o := ⟨_, _, _, _, _, _⟩) rfl (fun K hK => ?_) AllReadyH.nil
  go_simp
  refine (ref_mainId_calls _ h6 ok6 hHeld.1.r).mono ?_
  rintro e wz ⟨rfl, gz⟩
  rw [id6]
  refine hK.out _ _ (by exact ⟨hHeld.1.below gz, hHeld.2.below gz⟩) (fun hHeld => ?_)
  clear hK
  try simp only [Act.put, List.setIfInBounds_toArray, List.set_cons_zero, List.set_cons_succ]
  clear gz
  refine wpAnyH_ready (rs := [5]) (by kernel_rfl) (by simp) ?_
  refine AllReadyH.cons (o := ⟨_, _, _, _, _, _⟩) rfl (fun K hK => ?_) AllReadyH.nil
  go_simp
  refine (depth_calls _ t1 b1 [h5, h6] trk56 (by decide) d5 d6 (by decide) (by decide) hHeld.1.x).mono ?_
  rintro e wz ⟨rfl, gz⟩
  rw [depth56]
  simp only [Option.getD_some, Option.isSome_some]
  refine hK.out _ _ (by exact ⟨hHeld.1.below gz, hHeld.2.below gz⟩) (fun hHeld => ?_)
  clear hK
  try simp only [Act.put, List.setIfInBounds_toArray, List.set_cons_zero, List.set_cons_succ]
  clear gz
  refine wpAnyH_take (i := 6) (oi := ⟨_, _, _, _, _, _⟩) (v := ?_) rfl (by kernel_rfl) (by kernel_rfl) (by kernel_rfl) (fun _ _ _ h => h) (Or.inl ⟨by rfl, ?_⟩) (by assumption) ?_
  rotate_left
  · intro w hSw; go_simp; try (with_reducible rfl)
  try simp only [Act.put, List.setIfInBounds_toArray, List.set_cons_zero, List.set_cons_succ]
  refine wpAnyH_take (i := 7) (oi := ⟨_, _, _, _, _, _⟩) (v := ?_) rfl (by kernel_rfl) (by kernel_rfl) (by kernel_rfl) (fun _ _ _ h => h) (Or.inl ⟨by rfl, ?_⟩) (by assumption) ?_
  rotate_left
  · intro w hSw; go_simp; try (with_reducible rfl)
  try simp only [Act.put, List.setIfInBounds_toArray, List.set_cons_zero, List.set_cons_succ]
  refine wpAnyH_take (i := 8) (oi := ⟨_, _, _, _, _, _⟩) (v := ?_) rfl (by kernel_rfl) (by kernel_rfl) (by kernel_rfl) (fun _ _ _ h => h) (Or.inl ⟨by rfl, ?_⟩) (by assumption) ?_
  rotate_left
  · intro w hSw; go_simp; try (with_reducible rfl)
  try simp only [Act.put, List.setIfInBounds_toArray, List.set_cons_zero, List.set_cons_succ]
  refine wpAnyH_take (i := 9) (oi := ⟨_, _, _, _, _, _⟩) (v := ?_) rfl (by kernel_rfl) (by kernel_rfl) (by kernel_rfl) (fun _ _ _ h => h) (Or.inl ⟨by rfl, ?_⟩) (by assumption) ?_
  rotate_left
  · intro w hSw; go_simp; try (with_reducible rfl)
  try simp only [Act.put, List.setIfInBounds_toArray, List.set_cons_zero, List.set_cons_succ]
  refine wpAnyH_take (i := 10) (oi := ⟨_, _, _, _, _, _⟩) (v := ?_) rfl (by kernel_rfl) (by kernel_rfl) (by kernel_rfl) (fun _ _ _ h => h) (Or.inl ⟨by rfl, ?_⟩) (by assumption) ?_
  rotate_left
  · intro w hSw; go_simp; try (with_reducible rfl)
  try simp only [Act.put, List.setIfInBounds_toArray, List.set_cons_zero, List.set_cons_succ]
  refine wpAnyH_done (by kernel_rfl) ?_ _
  have S11 := Lib.hid hHeld
  clear hHeld S10 K10
  go_wp2
  refine wp_region_held_drew (S := (fun w' => BG w first [h5, h6] t1 b1 t2 b2 g4 w' ∧ Blk w' g7 h6.cells 41)) (by kernel_rfl) ⟨S11.out.1.drew, S11.out.2.drew⟩ (fun hHeld => ?_)
  refine wpAnyH_take (i := 0) (oi := ⟨_, _, _, _, _, _⟩) (v := ?_) rfl (by kernel_rfl) (by kernel_rfl) (by kernel_rfl) (fun _ _ _ h => h) (Or.inl ⟨by rfl, ?_⟩) (by assumption) ?_
  rotate_left
  · intro w hSw; go_simp; try (with_reducible rfl)
  try simp only [Act.put, List.setIfInBounds_toArray, List.set_cons_zero, List.set_cons_succ]
  refine wpAnyH_take (i := 1) (oi := ⟨_, _, _, _, _, _⟩) (v := ?_) rfl (by kernel_rfl) (by kernel_rfl) (by kernel_rfl) (fun _ _ _ h => h) (Or.inl ⟨by rfl, ?_⟩) (by assumption) ?_
  rotate_left
  · intro w hSw; go_simp; try (with_reducible rfl)
  try simp only [Act.put, List.setIfInBounds_toArray, List.set_cons_zero, List.set_cons_succ]
  refine wpAnyH_take (i := 2) (oi := ⟨_, _, _, _, _, _⟩) (v := ?_) rfl (by kernel_rfl) (by kernel_rfl) (by kernel_rfl) (fun _ _ _ h => h) (Or.inl ⟨by rfl, ?_⟩) (by assumption) ?_
  rotate_left
  · intro w hSw; go_simp; try (with_reducible rfl)
  try simp only [Act.put, List.setIfInBounds_toArray, List.set_cons_zero, List.set_cons_succ]
  refine wpAnyH_take (i := 3) (oi := ⟨_, _, _, _, _, _⟩) (v := ?_) rfl (by kernel_rfl) (by kernel_rfl) (by kernel_rfl) (fun _ _ _ h => h) (Or.inl ⟨by rfl, ?_⟩) (by assumption) ?_
  rotate_left
  · intro w hSw; go_simp; try (with_reducible rfl)
  try simp only [Act.put, List.setIfInBounds_toArray, List.set_cons_zero, List.set_cons_succ]
  refine wpAnyH_take (i := 4) (oi := ⟨_, _, _, _, _, _⟩) (v := ?_) rfl (by kernel_rfl) (by kernel_rfl) (by kernel_rfl) (fun _ _ _ h => h) (Or.inl ⟨by rfl, ?_⟩) (by assumption) ?_
  rotate_left
  · intro w hSw; go_simp; try (with_reducible rfl)
  try simp only [Act.put, List.setIfInBounds_toArray, List.set_cons_zero, List.set_cons_succ]
  refine wpAnyH_take (i := 5) (oi := ⟨_, _, _, _, _, _⟩) (v := ?_) rfl (by kernel_rfl) (by kernel_rfl) (by kernel_rfl) (fun _ _ _ h => h) (Or.inl ⟨by rfl, ?_⟩) (by assumption) ?_
  rotate_left
  · intro w hSw; go_simp; try (with_reducible rfl)
  try simp only [Act.put, List.setIfInBounds_toArray, List.set_cons_zero, List.set_cons_succ]
  refine wpAnyH_take (i := 6) (oi := ⟨_, _, _, _, _, _⟩) (v := ?_) rfl (by kernel_rfl) (by kernel_rfl) (by kernel_rfl) (fun _ _ _ h => h) (Or.inl ⟨by rfl, ?_⟩) (by assumption) ?_
  rotate_left
  · intro w hSw; go_simp; try (with_reducible rfl)
  try simp only [Act.put, List.setIfInBounds_toArray, List.set_cons_zero, List.set_cons_succ]
  refine wpAnyH_take (i := 7) (oi := ⟨_, _, _, _, _, _⟩) (v := ?_) rfl (by kernel_rfl) (by kernel_rfl) (by kernel_rfl) (fun _ _ _ h => h) (Or.inl ⟨by rfl, ?_⟩) (by assumption) ?_
  rotate_left
  · intro w hSw; go_simp; try (with_reducible rfl)
  try simp only [Act.put, List.setIfInBounds_toArray, List.set_cons_zero, List.set_cons_succ]
  refine wpAnyH_take (i := 8) (oi := ⟨_, _, _, _, _, _⟩) (v := ?_) rfl (by kernel_rfl) (by kernel_rfl) (by kernel_rfl) (fun _ _ _ h => h) (Or.inl ⟨by rfl, ?_⟩) (by assumption) ?_
  rotate_left
  · intro w hSw; go_simp; try (with_reducible rfl)
  try simp only [Act.put, List.setIfInBounds_toArray, List.set_cons_zero, List.set_cons_succ]
  refine wpAnyH_take (i := 10) (oi := ⟨_, _, _, _, _, _⟩) rfl (by kernel_rfl) (by kernel_rfl) (by kernel_rfl) (fun _ _ _ h => h) (yieldsIf_load_mid (by rfl) _ _ rfl g7 0 rfl h6.cells _ (fun _ h => blk_range h.2) Tryz.underlying41 rfl (szH ok6)) (by assumption) ?_
  try simp only [Act.put, List.setIfInBounds_toArray, List.set_cons_zero, List.set_cons_succ]
  refine wpAnyH_ready (rs := [9]) (by kernel_rfl) (by simp) ?_
  refine AllReadyH.cons (o := ⟨_, _, _, _, _, _⟩) rfl (fun K hK => ?_) AllReadyH.nil
  go_simp
  refine (best_calls _ t1 b1 [h5, h6] hHeld.1.x).mono ?_
  rintro e wz ⟨rfl, gz⟩
  rw [hbest]
  refine hK.out _ _ (by exact ⟨hHeld.1.below gz, hHeld.2.below gz⟩) (fun hHeld => ?_)
  clear hK
  try simp only [Act.put, List.setIfInBounds_toArray, List.set_cons_zero, List.set_cons_succ]
  clear gz
  refine wpAnyH_ready (rs := [11]) (by kernel_rfl) (by simp) ?_
  refine AllReadyH.cons (o := ⟨_, _, _, _, _, _⟩) rfl (fun K hK => ?_) AllReadyH.nil
  go_simp
  refine (ref_mainId_calls _ h6 ok6 hHeld.1.r).mono ?_
  rintro e wz ⟨rfl, gz⟩
  rw [id6]
  refine hK.out _ _ (by exact ⟨hHeld.1.below gz, hHeld.2.below gz⟩) (fun hHeld => ?_)
  clear hK
  try simp only [Act.put, List.setIfInBounds_toArray, List.set_cons_zero, List.set_cons_succ]
  clear gz
  refine wpAnyH_take (i := 12) (oi := ⟨_, _, _, _, _, _⟩) (v := ?_) rfl (by kernel_rfl) (by kernel_rfl) (by kernel_rfl) (fun _ _ _ h => h) (Or.inl ⟨by rfl, ?_⟩) (by assumption) ?_
  rotate_left
  · intro w hSw; go_simp; try (with_reducible rfl)
  try simp only [Act.put, List.setIfInBounds_toArray, List.set_cons_zero, List.set_cons_succ]
  refine wpAnyH_take (i := 13) (oi := ⟨_, _, _, _, _, _⟩) (v := ?_) rfl (by kernel_rfl) (by kernel_rfl) (by kernel_rfl) (fun _ _ _ h => h) (Or.inl ⟨by rfl, ?_⟩) (by assumption) ?_
  rotate_left
  · intro w hSw; go_simp; try (with_reducible rfl)
  try simp only [Act.put, List.setIfInBounds_toArray, List.set_cons_zero, List.set_cons_succ]
  refine wpAnyH_take (i := 14) (oi := ⟨_, _, _, _, _, _⟩) (v := ?_) rfl (by kernel_rfl) (by kernel_rfl) (by kernel_rfl) (fun _ _ _ h => h) (Or.inl ⟨by rfl, ?_⟩) (by assumption) ?_
  rotate_left
  · intro w hSw; go_simp; try (with_reducible rfl)
  try simp only [Act.put, List.setIfInBounds_toArray, List.set_cons_zero, List.set_cons_succ]
  refine wpAnyH_take (i := 15) (oi := ⟨_, _, _, _, _, _⟩) (v := ?_) rfl (by kernel_rfl) (by kernel_rfl) (by kernel_rfl) (fun _ _ _ h => h) (Or.inl ⟨by rfl, ?_⟩) (by assumption) ?_
  rotate_left
  · intro w hSw; go_simp; try (with_reducible rfl)
  try simp only [Act.put, List.setIfInBounds_toArray, List.set_cons_zero, List.set_cons_succ]
  refine wpAnyH_take (i := 16) (oi := ⟨_, _, _, _, _, _⟩) (v := ?_) rfl (by kernel_rfl) (by kernel_rfl) (by kernel_rfl) (fun _ _ _ h => h) (Or.inl ⟨by rfl, ?_⟩) (by assumption) ?_
  rotate_left
  · intro w hSw; go_simp; try (with_reducible rfl)
  try simp only [Act.put, List.setIfInBounds_toArray, List.set_cons_zero, List.set_cons_succ]
  refine wpAnyH_take (i := 17) (oi := ⟨_, _, _, _, _, _⟩) (v := ?_) rfl (by kernel_rfl) (by kernel_rfl) (by kernel_rfl) (fun _ _ _ h => h) (Or.inl ⟨by rfl, ?_⟩) (by assumption) ?_
  rotate_left
  · intro w hSw; go_simp; try (with_reducible rfl)
  try simp only [Act.put, List.setIfInBounds_toArray, List.set_cons_zero, List.set_cons_succ]
  refine wpAnyH_take (i := 18) (oi := ⟨_, _, _, _, _, _⟩) (v := ?_) rfl (by kernel_rfl) (by kernel_rfl) (by kernel_rfl) (fun _ _ _ h => h) (Or.inl ⟨by rfl, ?_⟩) (by assumption) ?_
  rotate_left
  · intro w hSw; go_simp; try (with_reducible rfl)
  try simp only [Act.put, List.setIfInBounds_toArray, List.set_cons_zero, List.set_cons_succ]
  refine wpAnyH_take (i := 19) (oi := ⟨_, _, _, _, _, _⟩) (v := ?_) rfl (by kernel_rfl) (by kernel_rfl) (by kernel_rfl) (fun _ _ _ h => h) (Or.inl ⟨by rfl, ?_⟩) (by assumption) ?_
  rotate_left
  · intro w hSw; go_simp; try (with_reducible rfl)
  try simp only [Act.put, List.setIfInBounds_toArray, List.set_cons_zero, List.set_cons_succ]
  refine wpAnyH_take (i := 20) (oi := ⟨_, _, _, _, _, _⟩) (v := ?_) rfl (by kernel_rfl) (by kernel_rfl) (by kernel_rfl) (fun _ _ _ h => h) (Or.inl ⟨by rfl, ?_⟩) (by assumption) ?_
  rotate_left
  · intro w hSw; go_simp; try (with_reducible rfl)
  try simp only [Act.put, List.setIfInBounds_toArray, List.set_cons_zero, List.set_cons_succ]
  refine wpAnyH_take (i := 21) (oi := ⟨_, _, _, _, _, _⟩) (v := ?_) rfl (by kernel_rfl) (by kernel_rfl) (by kernel_rfl) (fun _ _ _ h => h) (Or.inl ⟨by rfl, ?_⟩) (by assumption) ?_
  rotate_left
  · intro w hSw; go_simp; try (with_reducible rfl)
  try simp only [Act.put, List.setIfInBounds_toArray, List.set_cons_zero, List.set_cons_succ]
  refine wpAnyH_take (i := 22) (oi := ⟨_, _, _, _, _, _⟩) (v := ?_) rfl (by kernel_rfl) (by kernel_rfl) (by kernel_rfl) (fun _ _ _ h => h) (Or.inl ⟨by rfl, ?_⟩) (by assumption) ?_
  rotate_left
  · intro w hSw; go_simp; try (with_reducible rfl)
  try simp only [Act.put, List.setIfInBounds_toArray, List.set_cons_zero, List.set_cons_succ]
  refine wpAnyH_ready (rs := [23]) (by kernel_rfl) (by simp) ?_
  refine AllReadyH.cons (o := ⟨_, _, _, _, _, _⟩) rfl (fun K hK => ?_) AllReadyH.nil
  go_simp
  refine (len_calls _ t1 b1 [h5, h6] hHeld.1.x).mono ?_
  rintro e wz ⟨rfl, rfl⟩
  refine hK.out _ _ (by exact hHeld) (fun hHeld => ?_)
  clear hK
  try simp only [Act.put, List.setIfInBounds_toArray, List.set_cons_zero, List.set_cons_succ]
  refine wpAnyH_take (i := 24) (oi := ⟨_, _, _, _, _, _⟩) (v := ?_) rfl (by kernel_rfl) (by kernel_rfl) (by kernel_rfl) (fun _ _ _ h => h) (Or.inl ⟨by rfl, ?_⟩) (by assumption) ?_
  rotate_left
  · intro w hSw; go_simp; try (with_reducible rfl)
  try simp only [Act.put, List.setIfInBounds_toArray, List.set_cons_zero, List.set_cons_succ]
  refine wpAnyH_take (i := 25) (oi := ⟨_, _, _, _, _, _⟩) (v := ?_) rfl (by kernel_rfl) (by kernel_rfl) (by kernel_rfl) (fun _ _ _ h => h) (Or.inl ⟨by rfl, ?_⟩) (by assumption) ?_
  rotate_left
  · intro w hSw; go_simp; try (with_reducible rfl)
  try simp only [Act.put, List.setIfInBounds_toArray, List.set_cons_zero, List.set_cons_succ]
  refine wpAnyH_take (i := 26) (oi := ⟨_, _, _, _, _, _⟩) (v := ?_) rfl (by kernel_rfl) (by kernel_rfl) (by kernel_rfl) (fun _ _ _ h => h) (Or.inl ⟨by rfl, ?_⟩) (by assumption) ?_
  rotate_left
  · intro w hSw; go_simp; try (with_reducible rfl)
  try simp only [Act.put, List.setIfInBounds_toArray, List.set_cons_zero, List.set_cons_succ]
  refine wpAnyH_take (i := 27) (oi := ⟨_, _, _, _, _, _⟩) (v := ?_) rfl (by kernel_rfl) (by kernel_rfl) (by kernel_rfl) (fun _ _ _ h => h) (Or.inl ⟨by rfl, ?_⟩) (by assumption) ?_
  rotate_left
  · intro w hSw; go_simp; try (with_reducible rfl)
  try simp only [Act.put, List.setIfInBounds_toArray, List.set_cons_zero, List.set_cons_succ]
  refine wpAnyH_done (by kernel_rfl) ?_ _
  go_wp2
  go_ret2
  exact ⟨t2, b2, rfl, m3, m4, hHeld.1.y, hHeld.1.b⟩
end Go.Proofs.YtmenchnjajpkmaaGreatDoor.Tb
end

section
namespace Go.Proofs.YtmenchnjajpkmaaGreatDoor.Tf
open Go Go.RowKit Mem Codec Mh Maps Ops Wh Ww ShaW Arr Tk Tr Tb
set_option linter.unusedVariables false

/-- the reference's track, in no block of some -/
def RO (bad : Nat → Prop) (w : World) (v : Value) (hs : List Hd) : Prop := RT (fun k => k < w.heap.size ∧ ¬ bad k) w v hs
section
variable {bad worse S : Nat → Prop} {w w' : World} {v : Value} {hs : List Hd}
theorem RO.below (h : RO bad w v hs) (hb : Below w.heap.size w w') : RO bad w' v hs := (RT.below h hb).mono (fun k _ h => ⟨by have := hb.size; omega, h.2⟩)
theorem RO.drew (h : RO bad w v hs) : RO bad w.drew v hs := RT.drew h
theorem RO.fr (h : RO bad w v hs) (hf : Fr S w w') (hS : ∀ k, S k → bad k) (ht : ¬ S 0) : RO bad w' v hs := (RT.fr h hf (fun k _ hk e => hk.2 (hS k e)) ht).mono (fun k _ h => ⟨by have := hf.size; omega, h.2⟩)
theorem RO.mono (h : RO bad w v hs) (hw : ∀ k, k < w.heap.size → worse k → bad k) : RO worse w v hs := RT.mono h (fun k hk h => ⟨h.1, fun e => h.2 (hw k hk e)⟩)
theorem RO.of (h : RT (fun k => (k < w.heap.size ∧ ¬ bad k) ∨ w.heap.size ≤ k) w' v hs) (hb : ∀ k, bad k → k < w.heap.size) : RO bad w' v hs :=
  RT.mono h (fun k hk h => ⟨hk, fun e => by have := hb k e; rcases h with h | h; exact h.2 e; omega⟩)
theorem RO.new (h : RT (fun k => w.heap.size ≤ k) w' v hs) (hb : ∀ k, bad k → k < w.heap.size) : RO bad w' v hs :=
  RT.mono h (fun k hk h => ⟨hk, fun e => by have := hb k e; omega⟩)
end
/-- what comes of headers, one behind the other -/
def fedL (hs l : List Hd) : List Hd := l.foldl addL hs
theorem fedL_snoc (hs l : List Hd) (h : Hd) : fedL hs (l ++ [h]) = addL (fedL hs l) h := by simp [fedL]
theorem new_put {g : Nat} {a b c : World} (hg : g = a.heap.size) (h : Below a.heap.size a b) (f : Fr (fun k => k = g) b c) : Below a.heap.size a c := h.trans (f.below h.size (fun k hk => by have : k = g := hk; omega))
theorem addL_len (hs : List Hd) (h : Hd) : (addL hs h).length ≤ hs.length + 1 := by unfold addL; split <;> simp
theorem fedL_len (hs : List Hd) : ∀ l : List Hd, (fedL hs l).length ≤ hs.length + l.length := by
  intro l
  rw [← List.reverse_reverse l]
  induction l.reverse with
  | nil => simp [fedL]
  | cons h r ih =>
    rw [List.reverse_cons, fedL_snoc]
    have := addL_len (fedL hs r.reverse) h
    simp only [List.length_append, List.length_singleton] at *
    omega
theorem trk_fed {hs : List Hd} (T : Trk hs) : ∀ l : List Hd, (∀ h ∈ l, h.Ok) → Trk (fedL hs l) := by
  intro l
  rw [← List.reverse_reverse l]
  induction l.reverse with
  | nil => intro _; exact T
  | cons h r ih =>
    intro hl
    rw [List.reverse_cons, fedL_snoc]
    exact (ih (fun x hx => hl x (by simp at hx ⊢; exact .inl hx))).add (hl h (by simp))
/-- what fed keeps -/
structure FD (w : World) (t b g9 g5 : Nat) (hs : List Hd) (wx : World) : Prop where
  x : TrkIs wx t b hs
  k9 : ∃ v, Blk wx g9 [v] 37 ∧ RO (fun k => k = t ∨ k = b ∨ k = g9 ∨ k = g5 ∨ k < w.heap.size) wx v hs
  k5 : Blk wx g5 [.slice none 0 0] 37
  p : TabB wx 1
  b : Below w.heap.size w wx
section
variable {w a c : World} {t b g9 g5 : Nat} {hs : List Hd}
theorem FD.below (h : FD w t b g9 g5 hs a) (hb : Below a.heap.size a c) : FD w t b g9 g5 hs c := by
  obtain ⟨v, k1, k2⟩ := h.k9
  exact ⟨h.x.below hb, ⟨v, k1.below hb, k2.below hb⟩, h.k5.below hb, h.p.below hb, h.b.trans (hb.mono h.b.size)⟩
end
/-- what fed hands back -/
def FedT (w : World) (hs : List Hd) (e : Ending) (w' : World) : Prop :=
  ∃ t b v, e = .returned (.tuple #[.pointer (some ⟨t, 0, none⟩), rv v, .bool true]) ∧ w.heap.size ≤ t ∧ w.heap.size ≤ b ∧ TrkIs w' t b hs ∧ RO (fun k => k = t ∨ k = b ∨ k < w.heap.size) w' v hs ∧ Below w.heap.size w w'

set_option maxHeartbeats 16000000 in
set_option maxRecDepth 100000 in
theorem fed_calls (w : World) (first : Hd) (ok : first.Ok) (vi : Value) (inp : List Hd) (hin : Arr 66 Any w vi (rows inp)) (hok : ∀ h ∈ inp, h.Ok) (hn : (inp.length + 2) * 80 ≤ 140737488355328) (hP : TabB w 1) (hR : TabB w 0) :
    Calls Tryz.prog 5 #[hv first, vi] w (FedT w (fedL [first] inp)) := by
  obtain ⟨ai, ci, rfl, hci, hcm, _⟩ := hin.form
  rw [rows_len] at hin hci ⊢
  unfold maxLen at hcm
  have hp := (Array.getElem?_eq_some_iff.1 hP.choose_spec.choose_spec).1
  have hr := (Array.getElem?_eq_some_iff.1 hR.choose_spec.choose_spec).1
  have HPL := Lib.hid hp
  have HRL := Lib.hid hr
  have HP := Lib.hid hP
  have HR := Lib.hid hR
  have OK := Lib.hid ok
  have HIN := Lib.hid hin
  have HOK := Lib.hid hok
  clear hp hr hP hR ok hin hok
  go_enter Tryz.func5, Tryz.ntmps5
  go_upto_region 1 with (first
    | ((with_reducible refine wpList_box rfl _ _ rfl first.cells rfl (fun w1 k1 c1 z1 => ?_)); have K1 := Lib.hid k1; have B1 := Lib.hid c1; clear k1 c1)
    | ((with_reducible refine wpList_alloc rfl _ rfl _ (zeroT _) (fun w2 k2 c2 z2 => ?_)); have K2 := Lib.hid k2; have B2 := Lib.hid (B1.out.trans (c2.mono (by omega))); have F2 := Lib.hid (K1.out.below c2); clear k2 c2))
  have hg5 : w.heap.size < w1.heap.size := by omega
  have hg5' : w1.heap.size < w2.heap.size := by omega
  clear K1 B1
  generalize w1.heap.size = g5 at *
  go_wp2_with (first | (with_reducible refine wpList_load_blk rfl _ _ rfl w.heap.size first.cells rfl F2.out _ Tryz.underlying41 rfl (szH OK.out) ?_))
  refine (begun_calls w2 first OK.out (HP.out.below B2.out) (HR.out.below B2.out)).mono ?_
  rintro e w3 ⟨t, b, rfl, n1, n2, x3, c3⟩
  have hl1 := x3.lt.1
  have hl2 := x3.lt.2
  have hs3 := c3.size
  have hs2 := B2.out.size
  have X3 := Lib.hid x3
  have F3 := Lib.hid (F2.out.below c3)
  have K3 := Lib.hid (K2.out.below c3)
  have B3 := Lib.hid (B2.out.trans (c3.mono hs2))
  clear x3 c3 K2 F2 B2
  go_wp2_with (first | (with_reducible refine wpList_load_blk rfl _ _ rfl w.heap.size first.cells rfl F3.out _ Tryz.underlying41 rfl (szH OK.out) ?_))
  refine (rnew_calls w3 first OK.out (HR.out.below B3.out)).mono ?_
  rintro e w4 ⟨v, rfl, r4, c4⟩
  obtain ⟨va, vc, rfl, _⟩ := r4.form
  have R4 := Lib.hid r4
  have X4 := Lib.hid (X3.out.below c4)
  have K4 := Lib.hid (K3.out.below c4)
  have B4 := Lib.hid (B3.out.trans (c4.mono B3.out.size))
  have hs4 := c4.size
  have RO4 := Lib.hid (show RO (fun k => k = t ∨ k = b ∨ k = w4.heap.size ∨ k = g5 ∨ k < w.heap.size) w4 (.slice va [first].length vc) [first] from r4.mono (fun k hk h => ⟨hk, fun e => by rcases e with e | e | e | e | e <;> omega⟩))
  have hg5x : g5 < w4.heap.size := by omega
  clear r4 c4 X3 F3 K3 B3
  go_upto_region 3 with (first
    | ((with_reducible refine wpList_alloc rfl _ rfl _ (zeroT _) (fun w5 k5 c5 z5 => ?_)); have K5 := Lib.hid k5; have R5 := Lib.hid (RO4.out.below c5); have X5 := Lib.hid (X4.out.below c5); have D5 := Lib.hid (K4.out.below c5); have B5 := Lib.hid (B4.out.trans (c5.mono B4.out.size)); clear k5 c5)
    | ((with_reducible refine wpList_put rfl _ _ _ rfl w4.heap.size [.slice va [first].length vc] _ rfl rfl K5.out (szRT _) rfl (one_slice _ _ _) (fun w6 k6 c6 z6 => ?_)); have K6 := Lib.hid k6; have F6 := Lib.hid c6; clear k6 c6))
  have hw5 := B5.out.size
  have hg9 : t < w4.heap.size := by omega
  have hg9b : b < w4.heap.size := by omega
  have hg95 : g5 < w4.heap.size := by omega
  have hg9w : w.heap.size < w4.heap.size := by omega
  have HS := Lib.hid (show FD w t b w4.heap.size g5 [first] w6 from ⟨X5.out.fr F6.out (by omega) (by omega), ⟨_, K6.out, R5.out.fr F6.out (fun k hk => .inr (.inr (.inl hk))) (by have := HRL.out; show ¬ 0 = _; omega)⟩, D5.out.fr F6.out (by omega), (HP.out.below B5.out).fr F6.out (by have := HPL.out; show ¬ 1 = _; omega), B5.out.trans (F6.out.below hw5 (fun k hk => by have : k = w4.heap.size := hk; omega))⟩)
  have m1 : w.heap.size ≤ t := by omega
  have m2 : w.heap.size ≤ b := by omega
  have m5 : w.heap.size ≤ g5 := by omega
  have m6 : t ≠ g5 := by omega
  have m7 : b ≠ g5 := by omega
  clear X4 K4 R4 B4 K5 R5 X5 D5 B5 K6 F6 RO4
  generalize w4.heap.size = g9 at *
  go_wp2
  go_loopw [26] (fun i' wx => ∃ i : Nat, i ≤ inp.length ∧ i' = .int .i64 (i : Int) ∧ FD w t b g9 g5 (fedL [first] (inp.take i)) wx) (fun i' _ => inp.length - (intOf i').toNat)
  case atStart => exact ⟨0, Nat.zero_le _, rfl, HS.out⟩
  case round =>
    obtain ⟨i, hi, rfl, hS⟩ := hrel
    have SX := Lib.hid hS
    obtain ⟨hs, hhs⟩ : ∃ x, fedL [first] (inp.take i) = x := ⟨_, rfl⟩
    have hlen : hs.length ≤ i + 1 := by rw [← hhs]; have := fedL_len [first] (inp.take i); simp at this; omega
    have HTK := Lib.hid (show Trk hs by rw [← hhs]; exact trk_fed (Trk.one OK.out) _ (fun x hx => HOK.out x (List.mem_of_mem_take hx)))
    rw [hhs] at SX
    have HHS := Lib.hid hhs
    clear hS hhs
    by_cases hlt : i < inp.length
    · have hin2 := HIN.out.below (by omega) SX.out.b
      obtain ⟨bi, oi, ci', e0, _, r0⟩ := HIN.out.at i (by rw [rows_len]; exact hlt)
      rw [rows_len] at e0
      cases e0
      obtain ⟨g, hg⟩ : ∃ g, inp[i]'hlt = g := ⟨_, rfl⟩
      have HRG := Lib.hid (show wr.rangeAt bi (oi + i * 66) g.cells from by
        have h1 := Arr.rangeAt_fr r0 (Fr.ofBelow SX.out.b) (by have := Arr.rangeAt_lt r0 (by rw [rows_get hlt]; intro e; have := (HOK.out _ (List.getElem_mem hlt)).len; rw [e] at this; simp at this); show ¬ w.heap.size ≤ bi; omega)
        rw [rows_get hlt, hg] at h1
        exact h1)
      have OKG := Lib.hid (show g.Ok from by rw [← hg]; exact HOK.out _ (List.getElem_mem hlt))
      have HNX := Lib.hid (show fedL [first] (inp.take (i + 1)) = addL hs g by rw [List.take_add_one, List.getElem?_eq_getElem hlt, hg]; show fedL _ (_ ++ [g]) = _; rw [fedL_snoc, HHS.out])
      have hltI : (i : Int) < (inp.length : Int) := by omega
      have h0I : (0 : Int) ≤ (i : Int) := by omega
      have hww := SX.out.b.size
      clear hg r0 hin2
      have hx1 := SX.out.x.lt.1
      have hx2 := SX.out.x.lt.2
      have hx3 : g9 < wr.heap.size := SX.out.k9.choose_spec.1.lt
      have hx4 := SX.out.k5.lt
      have HZL := Lib.hid (show zeroH.cells.length = g.cells.length by rw [zeroH_len, OKG.out.len])
      go_upto_region 8 with (first
        | (with_reducible refine wpList_load_mid rfl _ _ rfl bi (oi + i * 66) rfl g.cells _ HRG.out Tryz.underlying41 rfl (szH OKG.out) ?_)
        | ((with_reducible refine wpList_alloc rfl _ rfl _ (zeroV _) (fun wa ka ca za => ?_)); have KA := Lib.hid ka; have CA := Lib.hid ca; clear ka ca)
        | ((with_reducible refine wpList_put rfl _ _ _ rfl wr.heap.size g.cells _ rfl rfl KA.out (szH OKG.out) HZL.out g.one (fun wb kb fb zb => ?_)); have KB := Lib.hid kb; have CB := Lib.hid (new_put rfl CA.out fb); have SB := Lib.hid (SX.out.below CB.out); clear kb fb))
      clear KA CA HRG
      obtain ⟨v9, kv, rv9⟩ := SB.out.k9
      obtain ⟨av, cv, rfl, _⟩ := rv9.form
      have HV := Lib.hid kv
      have RV := Lib.hid rv9
      have hgb : wr.heap.size < wb.heap.size := KB.out.lt
      clear kv rv9
      generalize wr.heap.size = gb at *
      go_wp2_with (first
        | (with_reducible refine wpList_load_blk rfl _ _ rfl g9 [.slice av hs.length cv] rfl HV.out _ Tryz.underlying37 rfl (szRT _) ?_)
        | (with_reducible refine wpList_load_blk rfl _ _ rfl gb g.cells rfl KB.out _ Tryz.underlying41 rfl (szH OKG.out) ?_))
      refine (radd_calls _ wb _ hs HTK.out.ok g OKG.out (by omega) (fun k hk => hk.1) RV.out).mono ?_
      rintro e wc ⟨v', rfl, r', cc⟩
      obtain ⟨av2, cv2, rfl, _⟩ := r'.form
      have RC := Lib.hid (RO.of r' (fun k e => by rcases e with e | e | e | e | e <;> omega))
      have SC := Lib.hid (SB.out.below cc)
      have KBC := Lib.hid (KB.out.below cc)
      have hsc := cc.size
      clear r' cc RV HV KB SB
      go_upto_region 9 with (first
        | ((with_reducible refine wpList_alloc rfl _ rfl _ (zeroT _) (fun wd kd cd zd => ?_)); have KD := Lib.hid kd; have CD := Lib.hid cd; clear kd cd)
        | ((with_reducible refine wpList_put rfl _ _ _ rfl wc.heap.size [.slice av2 (addL hs g).length cv2] _ rfl rfl KD.out (szRT _) rfl (one_slice _ _ _) (fun we ke fe ze => ?_)); have KE := Lib.hid ke; have CE := Lib.hid (new_put rfl CD.out fe); clear ke fe))
      have SE := Lib.hid (SC.out.below CE.out)
      have RE := Lib.hid (RC.out.below CE.out)
      have KBE := Lib.hid (KBC.out.below CE.out)
      have hgd : wc.heap.size < we.heap.size := KE.out.lt
      clear SC RC KBC KD CD CE
      generalize wc.heap.size = gd at *
      have hy1 := SE.out.x.lt.1
      have hy2 := SE.out.x.lt.2
      go_wp2_with (first | (with_reducible refine wpList_load_blk rfl _ _ rfl gb g.cells rfl KBE.out _ Tryz.underlying41 rfl (szH OKG.out) ?_))
      refine (add_calls we t b hs HTK.out g OKG.out SE.out.x SE.out.p).mono ?_
      rintro e wf hA
      have RF := Lib.hid (RE.out.fr hA.2.2 (fun k hk => by rcases hk with hk | hk; exact .inl hk; exact .inr (.inl hk)) (fun e => by have := HRL.out; rcases e with e | e <;> omega))
      have KF := Lib.hid (KE.out.fr hA.2.2 (fun e => by rcases e with e | e <;> omega))
      have XF := Lib.hid hA.2.1
      obtain ⟨old9, ko9, _⟩ := SE.out.k9
      have K9 := Lib.hid (ko9.fr hA.2.2 (fun e => by rcases e with e | e <;> omega))
      have K5 := Lib.hid (SE.out.k5.fr hA.2.2 (fun e => by rcases e with e | e <;> omega))
      have PF := Lib.hid (SE.out.p.fr hA.2.2 (fun e => by have := HPL.out; rcases e with e | e <;> omega))
      have BF := Lib.hid (SE.out.b.trans (hA.2.2.below SE.out.b.size (fun k e => by rcases e with e | e <;> omega)))
      have hbf := BF.out.size
      obtain rfl := hA.1
      obtain ⟨n, hn⟩ : ∃ n, addE hs g = n := ⟨_, rfl⟩
      rw [hn]
      have hnn : (n != n) = false := by simp
      clear hA SE RE KBE KE hn ko9
      go_wp2_with (first
        | (with_reducible refine wpList_load_blk rfl _ _ rfl gd [.slice av2 (addL hs g).length cv2] rfl KF.out _ Tryz.underlying37 rfl (szRT _) ?_)
        | ((with_reducible refine wpList_put rfl _ _ _ rfl g9 [.slice av2 (addL hs g).length cv2] _ rfl rfl K9.out (szRT _) rfl (one_slice _ _ _) (fun wg kg fg zg => ?_)); have KG := Lib.hid kg; have FG := Lib.hid fg; clear kg fg))
      have HSG := Lib.hid (show FD w t b g9 g5 (addL hs g) wg from ⟨XF.out.fr FG.out (by omega) (by omega), ⟨_, KG.out, RF.out.fr FG.out (fun k hk => .inr (.inr (.inl hk))) (by have := HRL.out; show ¬ 0 = g9; omega)⟩, K5.out.fr FG.out (by omega), PF.out.fr FG.out (by have := HPL.out; show ¬ 1 = g9; omega), BF.out.trans (FG.out.below hbf (fun k (hk : k = g9) => by omega))⟩)
      go_roundw
      case rel => exact ⟨i + 1, by omega, by go_num, by rw [HNX.out]; exact HSG.out⟩
      case measure => simp [intOf]; omega
    · obtain rfl : i = inp.length := by omega
      have HFL := Lib.hid (show fedL [first] inp = hs by rw [← HHS.out, List.take_length])
      obtain ⟨v9, kv, rv9⟩ := SX.out.k9
      obtain ⟨av, cv, rfl, _⟩ := rv9.form
      have hww := SX.out.b.size
      have HK9 := Lib.hid kv
      have HRV := Lib.hid rv9
      have hbd := HTK.out.ne
      clear kv rv9
      rw [HFL.out]
      obtain ⟨bi9, hbi⟩ : ∃ x, bestId hs = x := ⟨_, rfl⟩
      have HBI := Lib.hid hbi
      have HBL := Lib.hid (show bi9.length = 32 by rw [← hbi]; exact bestId_length hs)
      have hq : ∀ w, (Op.equalIn 10000 24 (.agg (bi9.map byt).toArray) (.agg (bi9.map byt).toArray)).run Tryz.prog w = .ok true w := fun w => by rw [run_equal_u8 Tryz.underlying24 (i := _) rfl (by kernel_rfl) Tryz.underlying5 w bi9 bi9 HBL.out HBL.out]; simp
      clear hbi
      go_wp2
      refine wp_region_held_drew (S := (fun w' => TrkIs w' t b hs ∧ Blk w' g9 [.slice av hs.length cv] 37 ∧ RO (fun k => k = t ∨ k = b ∨ k = g9 ∨ k = g5 ∨ k < w.heap.size) w' (.slice av hs.length cv) hs ∧ (∃ x, Blk w' g5 [x] 37) ∧ Below w.heap.size w w')) (by kernel_rfl) ⟨SX.out.x.drew, HK9.out.drew, HRV.out.drew, ⟨_, SX.out.k5.drew⟩, below_drew SX.out.b⟩ (fun hHeld => ?_)
      refine wpAnyH_take (i := 0) (oi := ⟨_, _, _, _, _, _⟩) (v := ?_) rfl (by kernel_rfl) (by kernel_rfl) (by kernel_rfl) (fun _ _ _ h => h) (Or.inl ⟨by rfl, ?_⟩) (by assumption) ?_
      rotate_left
      · intro w hSw; go_simp; try (with_reducible rfl)
      try simp only [Act.put, List.setIfInBounds_toArray, List.set_cons_zero, List.set_cons_succ]
      refine wpAnyH_take (i := 1) (oi := ⟨_, _, _, _, _, _⟩) rfl (by kernel_rfl) (by kernel_rfl) (by kernel_rfl) (fun _ _ _ h => h) (yieldsIf_load_mid (by rfl) _ _ rfl g9 0 rfl [.slice av hs.length cv] _ (fun _ h => blk_range h.2.1) Tryz.underlying37 rfl (szRT _)) (by assumption) ?_
      try simp only [Act.put, List.setIfInBounds_toArray, List.set_cons_zero, List.set_cons_succ]
      refine wpAnyH_take (i := 2) (oi := ⟨_, _, _, _, _, _⟩) (v := ?_) rfl (by kernel_rfl) (by kernel_rfl) (by kernel_rfl) (fun _ _ _ h => h) (Or.inl ⟨by rfl, ?_⟩) (by assumption) ?_
      rotate_left
      · intro w hSw; go_simp; try (with_reducible rfl)
      try simp only [Act.put, List.setIfInBounds_toArray, List.set_cons_zero, List.set_cons_succ]
      refine wpAnyH_take (i := 4) (oi := ⟨_, _, _, _, _, _⟩) rfl (by kernel_rfl) (by kernel_rfl) (by kernel_rfl) (fun _ _ _ h => h) (yieldsIf_load_mid (by rfl) _ _ rfl g9 0 rfl [.slice av hs.length cv] _ (fun _ h => blk_range h.2.1) Tryz.underlying37 rfl (szRT _)) (by assumption) ?_
      try simp only [Act.put, List.setIfInBounds_toArray, List.set_cons_zero, List.set_cons_succ]
      refine wpAnyH_ready (rs := [3]) (by kernel_rfl) (by simp) ?_
      refine AllReadyH.cons (o := ⟨_, _, _, _, _, _⟩) rfl (fun K hK => ?_) AllReadyH.nil
      go_simp
      refine (best_calls _ t b hs hHeld.1).mono ?_
      rintro e wz ⟨rfl, gz⟩
      rw [HBI.out]
      refine hK.out _ _ (by exact ⟨hHeld.1.below gz, hHeld.2.1.below gz, hHeld.2.2.1.below gz, (hHeld.2.2.2.1.elim fun x hx => ⟨x, hx.below gz⟩), hHeld.2.2.2.2.trans (gz.mono hHeld.2.2.2.2.size)⟩) (fun hHeld => ?_)
      clear hK
      try simp only [Act.put, List.setIfInBounds_toArray, List.set_cons_zero, List.set_cons_succ]
      clear gz
      refine wpAnyH_ready (rs := [5]) (by kernel_rfl) (by simp) ?_
      refine AllReadyH.cons (o := ⟨_, _, _, _, _, _⟩) rfl (fun K hK => ?_) AllReadyH.nil
      go_simp
      refine (rbest_calls _ _ _ hs hbd HTK.out.ok hHeld.2.2.1).mono ?_
      rintro e wz ⟨rfl, gz⟩
      rw [HBI.out]
      refine hK.out _ _ (by exact ⟨hHeld.1.below gz, hHeld.2.1.below gz, hHeld.2.2.1.below gz, (hHeld.2.2.2.1.elim fun x hx => ⟨x, hx.below gz⟩), hHeld.2.2.2.2.trans (gz.mono hHeld.2.2.2.2.size)⟩) (fun hHeld => ?_)
      clear hK
      try simp only [Act.put, List.setIfInBounds_toArray, List.set_cons_zero, List.set_cons_succ]
      clear gz
      refine wpAnyH_take (i := 6) (oi := ⟨_, _, _, _, _, _⟩) (v := ?_) rfl (by kernel_rfl) (by kernel_rfl) (by kernel_rfl) (fun _ _ _ h => h) (Or.inl ⟨by rfl, ?_⟩) (by assumption) ?_
      rotate_left
      · intro w hSw; go_simp; try (with_reducible rfl)
      try simp only [Act.put, List.setIfInBounds_toArray, List.set_cons_zero, List.set_cons_succ]
      refine wpAnyH_take (i := 7) (oi := ⟨_, _, _, _, _, _⟩) (v := ?_) rfl (by kernel_rfl) (by kernel_rfl) (by kernel_rfl) (fun _ _ _ h => h) (Or.inl ⟨by rfl, ?_⟩) (by assumption) ?_
      rotate_left
      · intro w hSw; go_simp; try (with_reducible rfl)
      try simp only [Act.put, List.setIfInBounds_toArray, List.set_cons_zero, List.set_cons_succ]
      refine wpAnyH_take (i := 8) (oi := ⟨_, _, _, _, _, _⟩) (v := ?_) rfl (by kernel_rfl) (by kernel_rfl) (by kernel_rfl) (fun _ _ _ h => h) (Or.inl ⟨by rfl, ?_⟩) (by assumption) ?_
      rotate_left
      · intro w hSw; go_simp; try (with_reducible rfl)
      try simp only [Act.put, List.setIfInBounds_toArray, List.set_cons_zero, List.set_cons_succ]
      refine wpAnyH_take (i := 10) (oi := ⟨_, _, _, _, _, _⟩) (v := ?_) rfl (by kernel_rfl) (by kernel_rfl) (by kernel_rfl) (fun _ _ _ h => h) (Or.inl ⟨by rfl, ?_⟩) (by assumption) ?_
      rotate_left
      · intro w hSw; go_simp; try (with_reducible rfl)
      try simp only [Act.put, List.setIfInBounds_toArray, List.set_cons_zero, List.set_cons_succ]
      refine wpAnyH_take (i := 11) (oi := ⟨_, _, _, _, _, _⟩) (v := .slice av hs.length cv) rfl (by kernel_rfl) (by kernel_rfl) (by kernel_rfl) (fun _ _ _ h => h) (Or.inl ⟨by rfl, fun w hSw => (by have c := hSw.2.1.cell (i := 0) rfl; go_simp; try (with_reducible rfl))⟩) (by assumption) ?_
      try simp only [Act.put, List.setIfInBounds_toArray, List.set_cons_zero, List.set_cons_succ]
      refine wpAnyH_take (i := 12) (oi := ⟨_, _, _, _, _, _⟩) (v := ?_) rfl (by kernel_rfl) (by kernel_rfl) (by kernel_rfl) (fun _ _ _ h => h) (Or.inl ⟨by rfl, ?_⟩) (by assumption) ?_
      rotate_left
      · intro w hSw; go_simp; try (with_reducible rfl)
      try simp only [Act.put, List.setIfInBounds_toArray, List.set_cons_zero, List.set_cons_succ]
      refine wpAnyH_ready (rs := [9]) (by kernel_rfl) (by simp) ?_
      refine AllReadyH.cons (o := ⟨_, _, _, _, _, _⟩) rfl (fun K hK => ?_) AllReadyH.nil
      go_simp
      refine (len_calls _ t b hs hHeld.1).mono ?_
      rintro e wz ⟨rfl, rfl⟩
      refine hK.out _ _ (by exact hHeld) (fun hHeld => ?_)
      clear hK
      try simp only [Act.put, List.setIfInBounds_toArray, List.set_cons_zero, List.set_cons_succ]
      refine wpAnyH_take (i := 13) (oi := ⟨_, _, _, _, _, _⟩) (v := ?_) rfl (by kernel_rfl) (by kernel_rfl) (by kernel_rfl) (fun _ _ _ h => h) (Or.inl ⟨by rfl, ?_⟩) (by assumption) ?_
      rotate_left
      · intro w hSw; go_simp; try (with_reducible rfl)
      try simp only [Act.put, List.setIfInBounds_toArray, List.set_cons_zero, List.set_cons_succ]
      refine wpAnyH_take (i := 14) (oi := ⟨_, _, _, _, _, _⟩) (v := ?_) rfl (by kernel_rfl) (by kernel_rfl) (by kernel_rfl) (fun _ _ _ h => h) (Or.inl ⟨by rfl, ?_⟩) (by assumption) ?_
      rotate_left
      · intro w hSw; go_simp; try (with_reducible rfl)
      try simp only [Act.put, List.setIfInBounds_toArray, List.set_cons_zero, List.set_cons_succ]
      refine wpAnyH_take (i := 15) (oi := ⟨_, _, _, _, _, _⟩) (v := ?_) rfl (by kernel_rfl) (by kernel_rfl) (by kernel_rfl) (fun _ _ _ h => h) (Or.inl ⟨by rfl, ?_⟩) (by assumption) ?_
      rotate_left
      · intro w hSw; go_simp; try (with_reducible rfl)
      try simp only [Act.put, List.setIfInBounds_toArray, List.set_cons_zero, List.set_cons_succ]
      refine wpAnyH_ready (rs := [16]) (by kernel_rfl) (by simp) ?_
      refine AllReadyH.cons (o := ⟨_, _, _, _, _, _⟩) rfl (fun K hK => ?_) AllReadyH.nil
      rw [if_pos (by rfl)]
      obtain ⟨x5, hx5⟩ := hHeld.2.2.2.1
      refine wp_put _ _ _ rfl g5 [.slice av hs.length cv] _ rfl rfl hx5 (szRT _) rfl (one_slice _ _ _) (fun wb kb fb zb => ?_)
      refine hK.out _ _ (by exact ⟨hHeld.1.fr fb (by omega) (by omega), hHeld.2.1.fr fb (by omega), hHeld.2.2.1.fr fb (fun k hk => .inr (.inr (.inr (.inl hk)))) (by have := HRL.out; show ¬ 0 = g5; omega), ⟨_, kb⟩, hHeld.2.2.2.2.trans (fb.below hHeld.2.2.2.2.size (fun k (hk : k = g5) => by omega))⟩) (fun hHeld => ?_)
      have KB := Lib.hid kb
      clear kb fb
      clear hK
      refine wpAnyH_take (i := 17) (oi := ⟨_, _, _, _, _, _⟩) (v := ?_) rfl (by kernel_rfl) (by kernel_rfl) (by kernel_rfl) (fun _ _ _ h => h) (Or.inl ⟨by rfl, ?_⟩) (by assumption) ?_
      rotate_left
      · intro w hSw; go_simp; try (with_reducible rfl)
      try simp only [Act.put, List.setIfInBounds_toArray, List.set_cons_zero, List.set_cons_succ]
      refine wpAnyH_done (by kernel_rfl) ?_ _
      go_wp2
      exact bodyPost_ret (v := .tuple #[.pointer (some ⟨t, 0, none⟩), rv (.slice av hs.length cv), .bool true]) (results_row3 Tryz.results5 _ _ g5 _ _ rfl KB.out Tryz.underlying37 rfl (szRT _) _ rfl _ rfl) rfl (by rw [HFL.out]; exact ⟨t, b, _, rfl, m1, m2, hHeld.1, hHeld.2.2.1.mono (fun k _ (e : k = t ∨ k = b ∨ k < w.heap.size) => by rcases e with e | e | e; exact .inl e; exact .inr (.inl e); exact .inr (.inr (.inr (.inr e)))), hHeld.2.2.2.2⟩)
end Go.Proofs.YtmenchnjajpkmaaGreatDoor.Tf
end

section
namespace Go.Proofs.YtmenchnjajpkmaaGreatDoor.Mk
open Go ShaW

abbrev Dg := List UInt8
def leafD (b : List UInt8) : Dg := tagged ⟨#[116, 111, 108, 108, 104, 111, 117, 115, 101, 47, 108, 101, 97, 102]⟩ [b]
def nodeD (l r : Dg) : Dg := tagged ⟨#[116, 111, 108, 108, 104, 111, 117, 115, 101, 47, 110, 111, 100, 101]⟩ [l, r]
def noneD : Dg := tagged ⟨#[116, 111, 108, 108, 104, 111, 117, 115, 101, 47, 110, 111, 110, 101]⟩ []
theorem leafD_length (b : List UInt8) : (leafD b).length = 32 := tagged_length _ _
theorem nodeD_length (l r : Dg) : (nodeD l r).length = 32 := tagged_length _ _
theorem noneD_length : noneD.length = 32 := tagged_length _ _

theorem bitLenAux_bounds : ∀ (f x : Nat), 0 < x → x < 2 ^ f → 0 < Lib.bitLenAux f x ∧ 2 ^ (Lib.bitLenAux f x - 1) ≤ x ∧ x < 2 ^ Lib.bitLenAux f x
  | 0, x, h0, h1 => by simp at h1; omega
  | f + 1, x, h0, h1 => by
    unfold Lib.bitLenAux
    rw [if_neg (by omega)]
    by_cases h2 : x / 2 = 0
    · have : x = 1 := by omega
      subst this
      have e0 : Lib.bitLenAux f (1 / 2) = 0 := by rw [show (1 / 2 : Nat) = 0 from rfl]; cases f <;> simp [Lib.bitLenAux]
      rw [e0]; simp
    · have ih := bitLenAux_bounds f (x / 2) (by omega) (by rw [Nat.pow_succ] at h1; omega)
      obtain ⟨i0, i1, i2⟩ := ih
      generalize Lib.bitLenAux f (x / 2) = b at *
      obtain ⟨c, rfl⟩ : ∃ c, b = c + 1 := ⟨b - 1, by omega⟩
      have e1 : 1 + (c + 1) - 1 = c + 1 := by omega
      have e2 : c + 1 - 1 = c := by omega
      rw [e1]
      rw [e2] at i1
      have p1 : 2 ^ (c + 1) = 2 * 2 ^ c := by rw [Nat.pow_succ]; omega
      have p2 : 2 ^ (1 + (c + 1)) = 2 * 2 ^ (c + 1) := by rw [Nat.pow_add]
      refine ⟨by omega, ?_, ?_⟩ <;> omega
/-- the greatest power of two below a number -/
def cutN (n : Nat) : Nat := 2 ^ (Lib.bitLen (n - 1) - 1)
theorem cutN_bounds {n : Nat} (h : 2 ≤ n) (h2 : n ≤ 9223372036854775808) : 1 ≤ cutN n ∧ cutN n < n ∧ n ≤ 2 * cutN n := by
  obtain ⟨h0, h1, h2⟩ := bitLenAux_bounds 64 (n - 1) (by omega) (by omega)
  unfold cutN Lib.bitLen
  generalize Lib.bitLenAux 64 (n - 1) = b at *
  obtain ⟨c, rfl⟩ : ∃ c, b = c + 1 := ⟨b - 1, by omega⟩
  rw [show c + 1 - 1 = c from rfl] at *
  have p1 : 2 ^ (c + 1) = 2 * 2 ^ c := by rw [Nat.pow_succ]; omega
  have p0 : 1 ≤ 2 ^ c := Nat.one_le_two_pow
  omega
/-- where the cut is below n, as the recursion wants it (whatever n) -/
def cutAt (n : Nat) : Nat := min (max (cutN n) 1) (n - 1)
theorem cutAt_eq {n : Nat} (h : 2 ≤ n) (h2 : n ≤ 9223372036854775808) : cutAt n = cutN n := by
  have := cutN_bounds h h2
  unfold cutAt; omega
theorem cutAt_lt {n : Nat} (h : 2 ≤ n) : 1 ≤ cutAt n ∧ cutAt n < n := by unfold cutAt; omega

def root (ds : List Dg) : Dg := if ds.length ≤ 1 then ds.headD noneD else nodeD (root (ds.take (cutAt ds.length))) (root (ds.drop (cutAt ds.length)))
termination_by ds.length
decreasing_by
  · have := cutAt_lt (n := ds.length) (by omega); simp; omega
  · have := cutAt_lt (n := ds.length) (by omega); simp; omega
theorem root_nil : root [] = noneD := by rw [root]; rfl
theorem root_one (d : Dg) : root [d] = d := by rw [root]; rfl
theorem root_many {ds : List Dg} (h : 2 ≤ ds.length) : root ds = nodeD (root (ds.take (cutAt ds.length))) (root (ds.drop (cutAt ds.length))) := by rw [root, if_neg (by omega)]
theorem root_length : ∀ (n : Nat) (ds : List Dg), ds.length = n → (∀ d ∈ ds, d.length = 32) → (root ds).length = 32
  | n, ds, hn, h => by
    by_cases h1 : ds.length ≤ 1
    · rw [root, if_pos h1]
      cases ds with
      | nil => exact noneD_length
      | cons d r => exact h d (by simp)
    · rw [root, if_neg h1]; exact nodeD_length _ _
/-- the trees beside the way, the lowest first -/
def path (ds : List Dg) (p : Nat) : List Dg :=
  if ds.length ≤ 1 then [] else
  if p < cutAt ds.length then path (ds.take (cutAt ds.length)) p ++ [root (ds.drop (cutAt ds.length))]
  else path (ds.drop (cutAt ds.length)) (p - cutAt ds.length) ++ [root (ds.take (cutAt ds.length))]
termination_by ds.length
decreasing_by
  · have := cutAt_lt (n := ds.length) (by omega); simp; omega
  · have := cutAt_lt (n := ds.length) (by omega); simp; omega
theorem path_one {ds : List Dg} {p : Nat} (h : ds.length ≤ 1) : path ds p = [] := by rw [path, if_pos h]
theorem path_left {ds : List Dg} {p : Nat} (h : 2 ≤ ds.length) (hp : p < cutAt ds.length) : path ds p = path (ds.take (cutAt ds.length)) p ++ [root (ds.drop (cutAt ds.length))] := by
  rw [path, if_neg (by omega), if_pos hp]
theorem path_right {ds : List Dg} {p : Nat} (h : 2 ≤ ds.length) (hp : ¬ p < cutAt ds.length) : path ds p = path (ds.drop (cutAt ds.length)) (p - cutAt ds.length) ++ [root (ds.take (cutAt ds.length))] := by
  rw [path, if_neg (by omega), if_neg hp]
/-- on which side the way goes, from the root down: true: on the right -/
def sides (p n : Nat) : List Bool :=
  if n ≤ 1 then [] else if p < cutAt n then false :: sides p (cutAt n) else true :: sides (p - cutAt n) (n - cutAt n)
termination_by n
decreasing_by
  · have := cutAt_lt (n := n) (by omega); omega
  · have := cutAt_lt (n := n) (by omega); omega
/-- the path's length hangs on the place and on how many there are alone -/
theorem path_length : ∀ (n : Nat) (ds : List Dg) (p : Nat), ds.length = n → (path ds p).length = (sides p n).length := by
  intro n
  induction n using Nat.strongRecOn with
  | ind n ih =>
    intro ds p hn
    by_cases h : n ≤ 1
    · rw [path_one (by omega), sides, if_pos h]; rfl
    · have hc := cutAt_lt (n := n) (by omega)
      rw [sides, if_neg h]
      by_cases hp : p < cutAt n
      · rw [path_left (by omega) (by rw [hn]; exact hp), if_pos hp, List.length_append, hn, ih (cutAt n) hc.2 _ _ (by simp; omega)]; simp
      · rw [path_right (by omega) (by rw [hn]; exact hp), if_neg hp, List.length_append, hn, ih (n - cutAt n) (by omega) _ _ (by simp; omega)]; simp
/-- one step up: the pair, and what it comes to -/
def pairOf (leaf d : Dg) (right : Bool) : Dg × Dg := if right then (d, leaf) else (leaf, d)
def nodeP (x : Dg × Dg) : Dg := nodeD x.1 x.2
/-- the pairs from a leaf up: the sides from the lowest on -/
def ups (leaf : Dg) : List Bool → List Dg → List (Dg × Dg)
  | s :: ss, d :: ds => pairOf leaf d s :: ups (nodeP (pairOf leaf d s)) ss ds
  | _, _ => []
def topOf (leaf : Dg) : List Bool → List Dg → Dg
  | s :: ss, d :: ds => topOf (nodeP (pairOf leaf d s)) ss ds
  | _, _ => leaf
/-- where a leaf and a path come to; none: the path has not the right length, or the place is none -/
def rise (leaf : Dg) (p n : Nat) (ds : List Dg) : Option Dg := if p < n ∧ (sides p n).length = ds.length then some (topOf leaf (sides p n).reverse ds) else none

theorem topOf_snoc : ∀ (leaf : Dg) (ss : List Bool) (ds : List Dg) (s : Bool) (d : Dg), ss.length = ds.length → topOf leaf (ss ++ [s]) (ds ++ [d]) = nodeP (pairOf (topOf leaf ss ds) d s)
  | leaf, [], [], s, d, _ => rfl
  | leaf, a :: ss, b :: ds, s, d, h => by
    simp only [List.cons_append, topOf]
    exact topOf_snoc _ ss ds s d (by simpa using h)
  | _, [], _ :: _, _, _, h => by simp at h
  | _, _ :: _, [], _, _, h => by simp at h
end Go.Proofs.YtmenchnjajpkmaaGreatDoor.Mk
end

section
namespace Go.Proofs.YtmenchnjajpkmaaGreatDoor.MkW
open Go Go.RowKit Mem Sha ShaW Mk Arr
set_option linter.unusedVariables false

/-- a digest as a value -/
abbrev dv (d : Dg) : Value := .agg (d.map byt).toArray
theorem szD : (Tryz.prog.info? 24).map (·.size) = some 32 := by kernel_rfl
theorem szD' {m : Dg} (h : m.length = 32) : (Tryz.prog.info? 24).map (·.size) = some (m.map byt).length := szD.trans (by rw [List.length_map, h])
theorem szD'' {m : Dg} (h : m.length = 32) : (Tryz.prog.info? 24).map (·.size) = some (m.map byt).toArray.size := szD.trans (by rw [List.size_toArray, List.length_map, h])
/-- a digest's block, as it is made -/
theorem start32 (w : World) : ∃ W, w.alloc (.cells #[.int .u8 0, .int .u8 0, .int .u8 0, .int .u8 0, .int .u8 0, .int .u8 0, .int .u8 0, .int .u8 0, .int .u8 0, .int .u8 0, .int .u8 0, .int .u8 0, .int .u8 0, .int .u8 0, .int .u8 0, .int .u8 0, .int .u8 0, .int .u8 0, .int .u8 0, .int .u8 0, .int .u8 0, .int .u8 0, .int .u8 0, .int .u8 0, .int .u8 0, .int .u8 0, .int .u8 0, .int .u8 0, .int .u8 0, .int .u8 0, .int .u8 0, .int .u8 0] 24) = W ∧ Hid (Blk W w.heap.size (List.replicate 32 (.int .u8 0)) 24) ∧ Hid (Below w.heap.size w W) ∧ w.heap.size + 1 = W.heap.size :=
  ⟨_, rfl, Lib.hid (new32 w), Lib.hid ((Below.refl _ _).alloc (Nat.le_refl _) _), by simp⟩
theorem byts_one (w : World) (v : Value) (l : List UInt8) (e : TypeId) (hv : Byt Any w v l) : Byts (w.alloc (.cells #[v] e)) (.slice (some ⟨w.heap.size, 0, none⟩) 1 1) [l] := by
  refine ⟨_, 1, rfl, ⟨by simp, by unfold maxLen; omega, fun h => by cases h⟩, .inr ⟨w.heap.size, 0, rfl, fun i hi => ?_⟩⟩
  obtain rfl : i = 0 := by simpa using hi
  exact ⟨v, (Blk.new w #[v] e [v] rfl).cell (i := 0) rfl, hv.below ((Below.refl _ _).alloc (Nat.le_refl _) _)⟩
theorem byts_two (w : World) (v u : Value) (l m : List UInt8) (e : TypeId) (hv : Byt Any w v l) (hu : Byt Any w u m) : Byts (w.alloc (.cells #[v, u] e)) (.slice (some ⟨w.heap.size, 0, none⟩) 2 2) [l, m] := by
  refine ⟨_, 2, rfl, ⟨by simp, by unfold maxLen; omega, fun h => by cases h⟩, .inr ⟨w.heap.size, 0, rfl, fun i hi => ?_⟩⟩
  have hb : Below w.heap.size w (w.alloc (.cells #[v, u] e)) := (Below.refl _ _).alloc (Nat.le_refl _) _
  match i, hi with
  | 0, _ => exact ⟨v, (Blk.new w #[v, u] e [v, u] rfl).cell (i := 0) rfl, hv.below hb⟩
  | 1, _ => exact ⟨u, (Blk.new w #[v, u] e [v, u] rfl).cell (i := 1) rfl, hu.below hb⟩
  | i + 2, h => simp at h; omega

set_option maxHeartbeats 4000000 in
set_option maxRecDepth 100000 in
theorem leaf_calls (w : World) (v : Value) (b : List UInt8) (hB : Byt Any w v b) (hl : b.length ≤ 140737488351232) (hT : TabB w 1) :
    Calls Tryz.prog 29 #[v] w fun e w' => e = .returned (dv (leafD b)) ∧ Below w.heap.size w w' := by
  obtain ⟨a, c, rfl, hk, _⟩ := id hB
  obtain ⟨W, hW, H0, HB, hs⟩ := start32 w
  have HBW := Lib.hid (hB.below HB.out)
  have HT := Lib.hid (hT.below HB.out)
  clear hB hT
  go_enter Tryz.func29, Tryz.ntmps29
  go_upto_region 1 with fail
  clear hW
  have hal : Below W.heap.size W (W.alloc (.cells #[.slice a b.length c] 25)) := (Below.refl _ _).alloc (Nat.le_refl _) _
  have HY := Lib.hid (byts_one W (.slice a b.length c) b 25 HBW.out)
  have HAL := Lib.hid hal
  have H1 := Lib.hid (H0.out.below hal)
  clear hal
  go_wp2_with fail
  refine (tagged_calls _ _ _ [b] HY.out (by decide) (by simp; omega) (by simp) (HT.out.below HAL.out)).mono ?_
  rintro e w2 ⟨rfl, g⟩
  have H2 := Lib.hid (H1.out.below g)
  have HB2 := Lib.hid (HB.out.trans ((HAL.out.trans (g.mono HAL.out.size)).mono (by omega)))
  have HE := Lib.hid (show leafD b = tagged _ [b] from rfl)
  have HML := Lib.hid (leafD_length b)
  have HONE := Lib.hid (one_cells (leafD b))
  rw [← HE.out]
  obtain ⟨m, hm⟩ : ∃ m, leafD b = m := ⟨_, rfl⟩
  rw [hm] at HML HONE ⊢
  have HM := Lib.hid hm
  clear g H1 HB hm HE
  go_wp2_with (with_reducible refine wpList_store_blk rfl _ _ _ rfl w.heap.size (m.map byt) _ rfl _ rfl rfl H2.out (szD' HML.out) (by simp [HML.out]) HONE.out ?_)
  exact bodyPost_ret (v := dv m) (results_cell_row Tryz.results29 _ _ w.heap.size 24 _ (0, 0) _ rfl (H2.out.row _) Tryz.underlying24 rfl (szD'' HML.out)) rfl ⟨by rw [HM.out], below_setRow HB2.out (Nat.le_refl _) _⟩

set_option maxHeartbeats 4000000 in
set_option maxRecDepth 100000 in
theorem ref_leaf_calls (w : World) (v : Value) (b : List UInt8) (hB : Byt Any w v b) (hl : b.length ≤ 140737488351232) (hT : TabB w 0) :
    Calls Tryz.prog 12 #[v] w fun e w' => e = .returned (dv (leafD b)) ∧ Below w.heap.size w w' := by
  obtain ⟨a, c, rfl, hk, _⟩ := id hB
  obtain ⟨W, hW, H0, HB, hs⟩ := start32 w
  have HBW := Lib.hid (hB.below HB.out)
  have HT := Lib.hid (hT.below HB.out)
  clear hB hT
  go_enter Tryz.func12, Tryz.ntmps12
  go_upto_region 1 with fail
  clear hW
  have hal : Below W.heap.size W (W.alloc (.cells #[.slice a b.length c] 25)) := (Below.refl _ _).alloc (Nat.le_refl _) _
  have HY := Lib.hid (byts_one W (.slice a b.length c) b 25 HBW.out)
  have HAL := Lib.hid hal
  have H1 := Lib.hid (H0.out.below hal)
  clear hal
  go_wp2_with fail
  refine (ref_tagged_calls _ _ _ [b] HY.out (by decide) (by simp; omega) (by simp) (HT.out.below HAL.out)).mono ?_
  rintro e w2 ⟨rfl, g⟩
  have H2 := Lib.hid (H1.out.below g)
  have HB2 := Lib.hid (HB.out.trans ((HAL.out.trans (g.mono HAL.out.size)).mono (by omega)))
  have HE := Lib.hid (show leafD b = tagged _ [b] from rfl)
  have HML := Lib.hid (leafD_length b)
  have HONE := Lib.hid (one_cells (leafD b))
  rw [← HE.out]
  obtain ⟨m, hm⟩ : ∃ m, leafD b = m := ⟨_, rfl⟩
  rw [hm] at HML HONE ⊢
  have HM := Lib.hid hm
  clear g H1 HB hm HE
  go_wp2_with (with_reducible refine wpList_store_blk rfl _ _ _ rfl w.heap.size (m.map byt) _ rfl _ rfl rfl H2.out (szD' HML.out) (by simp [HML.out]) HONE.out ?_)
  exact bodyPost_ret (v := dv m) (results_cell_row Tryz.results12 _ _ w.heap.size 24 _ (0, 0) _ rfl (H2.out.row _) Tryz.underlying24 rfl (szD'' HML.out)) rfl ⟨by rw [HM.out], below_setRow HB2.out (Nat.le_refl _) _⟩
end Go.Proofs.YtmenchnjajpkmaaGreatDoor.MkW
end

section
namespace Go.Proofs.YtmenchnjajpkmaaGreatDoor.Wt
open Go Go.RowKit Mem Codec CodecW Ww Arr Ops
set_option linter.unusedVariables false

section
variable {S : Nat → Prop} {w0 w w' : World} {q : Nat} {m m' : List UInt8} {bad bad' : Bool}
theorem At.below (H : At S w0 w q m bad) (hb : Below w.heap.size w w') : At S w0 w' q m bad := by
  have h1 := hb.size
  refine ⟨(H.1.below hb).mono (fun k _ h => ?_), ?_, H.2.2⟩
  · rcases h with h | h
    · exact .inl h
    · exact .inr ⟨h.1, by omega⟩
  · exact H.2.1.trans' (Fr.ofBelow hb) (fun i hi h => by have := H.2.1.size; have h : w.heap.size ≤ i := h; omega)
/-- a call that leaves other memory behind than the writer's -/
theorem At.back (H : At S w0 w q m bad) (K : At (Plus S w0 w) w w' q m' bad') : At S w0 w' q m' bad' := Ww.At.leave0 H K
theorem At.must (H : At S w0 w q m bad) (b : Bool) : At S w0 (w.setCell ⟨q, 1, none⟩ (.bool b)) q m b ∧ w.cell? ⟨q, 1, none⟩ = some (.bool bad) ∧ w.frozen? ⟨q, 1, none⟩ = false := by
  obtain ⟨⟨h1, p, h2, h3⟩, h4, h5⟩ := H
  have hsz : (w.setCell ⟨q, 1, none⟩ (.bool b)).heap.size = w.heap.size := by simp [World.setCell]
  have hpl : ∀ k, Plus S w0 w k → Plus S w0 (w.setCell ⟨q, 1, none⟩ (.bool b)) k := fun k h => by
    rcases h with h | h
    · exact .inl h
    · exact .inr ⟨h.1, by rw [hsz]; exact h.2⟩
  have hf : Fr (fun k => k = q) w (w.setCell ⟨q, 1, none⟩ (.bool b)) := Fr.setCell (S := fun k => k = q) (p := ⟨q, 1, none⟩) (Fr.refl _ w) (.inr rfl) _
  refine ⟨⟨⟨hpl q h1, p, by simpa using h2.set 1 (.bool b), ?_⟩, h4.trans' hf (fun i hi h => ?_), h5⟩, h2.cell rfl, h2.free 1⟩
  · exact (h3.fr hf (fun k _ h => h.2)).mono (fun k _ h => ⟨hpl k h.1, h.2⟩)
  · have h : i = q := h
    subst h
    rcases h1 with h1 | h1
    · exact h1
    · omega
end
set_option maxHeartbeats 4000000 in
theorem must_calls (S : Nat → Prop) (w0 w : World) (q : Nat) (m : List UInt8) (bad ok : Bool) (H : At S w0 w q m bad) :
    Calls Tryz.prog 108 #[.pointer (some ⟨q, 0, none⟩), .bool ok] w fun e w' => e = .returned (.tuple #[]) ∧ At S w0 w' q m (bad || !ok) := by
  obtain ⟨h1, c1, f1⟩ := At.must H (bad || !ok)
  have H1 := Lib.hid h1
  clear h1 H
  cases bad <;> cases ok <;>
  · go_enter Tryz.func108, Tryz.ntmps108
    go_wp2
    go_end0
    exact ⟨rfl, H1.out⟩
theorem oneK (d : List UInt8) : ∀ v ∈ d.map byt, v.oneCell' = true := fun v hv => by obtain ⟨_, _, rfl⟩ := List.mem_map.1 hv; rfl

theorem var_len9 (n : Nat) : (var n).length ≤ 9 := by rw [var_length]; exact vlen_le n
end Go.Proofs.YtmenchnjajpkmaaGreatDoor.Wt
end

section
namespace Go.Proofs.YtmenchnjajpkmaaGreatDoor.Wt
open Go Go.RowKit Mem Codec CodecW Ww Arr Ops
set_option linter.unusedVariables false

def u8 (t : Int) : UInt8 := UInt8.ofNat (t % 256).toNat
theorem u8_wrap (t : Int) : IntKind.u8.wrap t = ((u8 t).toNat : Int) := by
  rw [IntKind.wrap_u8]
  unfold u8
  rw [UInt8.toNat_ofNat']
  omega
/-- a federation's bytes, and whether it has none -/
def encP (t : Int) (l : List (List UInt8)) : List UInt8 := u8 t :: (var l.length ++ l.flatten)
def badP (t : Int) (l : List (List UInt8)) : Bool := !(decide (0 ≤ t) && decide (t ≤ 255)) || !decide ((l.length : Int) ≤ 16)
theorem flat_len {n : Nat} : ∀ (x : List (List UInt8)), (∀ d ∈ x, d.length = n) → x.flatten.length = x.length * n
  | [], _ => by simp
  | d :: r, hx => by rw [List.flatten_cons, List.length_append, hx d (by simp), flat_len r (fun y hy => hx y (by simp [hy])), List.length_cons, Nat.succ_mul]; omega
/-- what a thing's bytes are told as -/
def told (enc : List UInt8) : Bool → List UInt8
  | true => []
  | false => enc
def toldE : Bool → Int
  | true => 120
  | false => 0
def Told (B : Nat) (enc : List UInt8) (bad : Bool) (e : Ending) (w' : World) : Prop :=
  ∃ a c, e = .returned (.tuple #[.slice a (told enc bad).length c, .int .i64 (toldE bad)]) ∧ OwnB B 5 w' (.slice a (told enc bad).length c) (told enc bad)
end Go.Proofs.YtmenchnjajpkmaaGreatDoor.Wt
end

section
namespace Go.Proofs.YtmenchnjajpkmaaGreatDoor.Wt
open Go Go.RowKit Mem Codec CodecW Ww Arr Ops Rw RfW CodecN
set_option linter.unusedVariables false

section
variable {S : Nat → Prop} {w0 w w' : World} {q : Nat} {m m' : List UInt8} {bad bad' : Bool}
theorem RAt.must (H : RAt S w0 w q m bad) : RAt S w0 (w.setCell ⟨q, 1, none⟩ (.bool true)) q m true ∧ w.cell? ⟨q, 1, none⟩ = some (.bool bad) ∧ w.frozen? ⟨q, 1, none⟩ = false := by
  obtain ⟨⟨h1, v, h2, h3, h6⟩, h4, h5⟩ := H
  have hsz : (w.setCell ⟨q, 1, none⟩ (.bool true)).heap.size = w.heap.size := by simp [World.setCell]
  have hpl : ∀ k, Plus S w0 w k → Plus S w0 (w.setCell ⟨q, 1, none⟩ (.bool true)) k := fun k h => by
    rcases h with h | h
    · exact .inl h
    · exact .inr ⟨h.1, by rw [hsz]; exact h.2⟩
  have hf : Fr (fun k => k = q) w (w.setCell ⟨q, 1, none⟩ (.bool true)) := Fr.setCell (S := fun k => k = q) (p := ⟨q, 1, none⟩) (Fr.refl _ w) (.inr rfl) _
  refine ⟨⟨⟨hpl q h1, v, by simpa using h2.set 1 (.bool true), h3.fr hf (fun k hk => (h6 k hk).2), fun k hk => ⟨hpl k (h6 k hk).1, (h6 k hk).2⟩⟩, h4.trans' hf (fun i hi h => ?_), h5⟩, h2.cell rfl, h2.free 1⟩
  · have h : i = q := h
    subst h
    rcases h1 with h1 | h1
    · exact h1
    · omega
end
set_option maxHeartbeats 4000000 in
theorem rmust_calls (S : Nat → Prop) (w0 w : World) (q : Nat) (m : List UInt8) (bad ok : Bool) (H : RAt S w0 w q m bad) :
    Calls Tryz.prog 82 #[.pointer (some ⟨q, 0, none⟩), .bool ok] w fun e w' => e = .returned (.tuple #[]) ∧ RAt S w0 w' q m (bad || !ok) := by
  obtain ⟨h1, c1, f1⟩ := RAt.must H
  have H1 := Lib.hid h1
  have H0 := Lib.hid H
  clear h1 H
  cases ok
  · go_enter Tryz.func82, Tryz.ntmps82
    go_wp2
    go_end0
    exact ⟨rfl, by rw [Bool.not_false, Bool.or_true]; exact H1.out⟩
  · go_enter Tryz.func82, Tryz.ntmps82
    go_wp2
    go_end0
    exact ⟨rfl, by rw [Bool.not_true, Bool.or_false]; exact H0.out⟩
theorem byt_one (w : World) (n : Int) (c : UInt8) (hn : n = (c.toNat : Int)) : Byt Any (w.alloc (.cells #[.int .u8 n] 5)) (.slice (some ⟨w.heap.size, 0, none⟩) 1 1) [c] := (own_one w n c hn).byt.mono (fun _ _ _ => trivial)
set_option maxHeartbeats 4000000 in
theorem many_calls (S : Nat → Prop) (w0 w : World) (q : Nat) (m : List UInt8) (bad : Bool) (n : Nat) (most : Int) (H : RAt S w0 w q m bad) (hn : n < 9223372036854775808) (hlen : m.length + 9 ≤ 140737488355328) :
    Calls Tryz.prog 58 #[.pointer (some ⟨q, 0, none⟩), .int .i64 (n : Int), .int .i64 most] w fun e w' => e = .returned (.tuple #[]) ∧ RAt S w0 w' q (m ++ var n) (bad || !decide ((n : Int) ≤ most)) := by
  have H1 := Lib.hid H
  have hvl := var_len9 n
  obtain ⟨ok, hok⟩ : ∃ ok, decide ((n : Int) ≤ most) = ok := ⟨_, rfl⟩
  rw [hok]
  clear H
  go_enter Tryz.func58, Tryz.ntmps58
  go_wp2_with fail
  try rw [hok]
  refine (rmust_calls S w0 w q m bad ok H1.out).mono ?_
  rintro e w1 ⟨rfl, g1⟩
  have G1 := Lib.hid g1
  clear g1
  go_wp2_with fail
  refine (ref_var_calls w1 n (by omega)).mono ?_
  rintro e w2 ⟨a, rfl, r1, r2⟩
  have G2 := Lib.hid (RAt.below G1.out r2)
  have R1 := Lib.hid r1
  clear r1 r2
  go_wp2_with fail
  refine (raw_to _ Any w0 _ q m _ _ (var n) G2.out (R1.out.byt.mono (fun _ _ _ => trivial)) (by omega)).mono ?_
  rintro e w3 ⟨rfl, r1⟩
  have GF := Lib.hid r1
  clear r1
  go_wp2
  go_end0
  exact ⟨rfl, GF.out⟩

set_option maxHeartbeats 4000000 in
theorem done_calls (S : Nat → Prop) (w : World) (q : Nat) (m : List UInt8) (bad : Bool) (H : RefIs S w q m bad) :
    Calls Tryz.prog 37 #[.pointer (some ⟨q, 0, none⟩)] w fun e w' => Told 0 m bad e w' ∧ w = w' := by
  obtain ⟨a, c, g2, g3, g4, _, _⟩ := H.opened
  have c0 := g2.cell (i := 0) rfl
  have c1 := g2.cell (i := 1) rfl
  have G3 := Lib.hid g3
  clear g2 g3 g4 H
  cases bad
  · go_enter Tryz.func37, Tryz.ntmps37
    go_wp2
    go_ret2
    exact ⟨⟨a, c, rfl, G3.out⟩, rfl⟩
  · go_enter Tryz.func37, Tryz.ntmps37
    go_wp2
    go_ret2
    exact ⟨⟨none, 0, rfl, OwnB.nil _ _ _⟩, rfl⟩
end Go.Proofs.YtmenchnjajpkmaaGreatDoor.Wt
end

section
namespace Go.Proofs.YtmenchnjajpkmaaGreatDoor.Reps
open Go Go.RowKit Mem Row Arr Ops
set_option linter.unusedVariables false

/-- both lists, one by one -/
inductive All2 {α β : Type} (R : α → β → Prop) : List α → List β → Prop
  | nil : All2 R [] []
  | cons {a b l m} : R a b → All2 R l m → All2 R (a :: l) (b :: m)
section
variable {α β : Type} {R R' : α → β → Prop}
theorem All2.length {l : List α} {m : List β} (h : All2 R l m) : l.length = m.length := by
  induction h with
  | nil => rfl
  | cons _ _ ih => simp [ih]
theorem All2.imp {l : List α} {m : List β} (h : All2 R l m) (hi : ∀ a b, R a b → R' a b) : All2 R' l m := by
  induction h with
  | nil => exact .nil
  | cons h1 _ ih => exact .cons (hi _ _ h1) ih
theorem All2.append {l l' : List α} {m m' : List β} (h : All2 R l m) (h' : All2 R l' m') : All2 R (l ++ l') (m ++ m') := by
  induction h with
  | nil => exact h'
  | cons h1 _ ih => exact .cons h1 ih
theorem All2.snoc {l : List α} {m : List β} {a : α} {b : β} (h : All2 R l m) (h1 : R a b) : All2 R (l ++ [a]) (m ++ [b]) := h.append (.cons h1 .nil)
theorem All2.get {l : List α} {m : List β} (h : All2 R l m) : ∀ (i : Nat) (hi : i < l.length) (hj : i < m.length), R (l[i]'hi) (m[i]'hj) := by
  induction h with
  | nil => intro i hi; simp at hi
  | cons h1 _ ih =>
    intro i hi hj
    cases i with
    | zero => exact h1
    | succ i => exact ih i (by simpa using hi) (by simpa using hj)
theorem All2.left {l : List α} {m : List β} (h : All2 R l m) {a : α} (ha : a ∈ l) : ∃ b, b ∈ m ∧ R a b := by
  induction h with
  | nil => cases ha
  | cons h1 _ ih =>
    rcases List.mem_cons.1 ha with rfl | ha
    · exact ⟨_, by simp, h1⟩
    · obtain ⟨b, h2, h3⟩ := ih ha; exact ⟨b, by simp [h2], h3⟩
theorem All2.ofMap {γ : Type} (f : γ → α) (g : γ → β) : ∀ (l : List γ), (∀ x ∈ l, R (f x) (g x)) → All2 R (l.map f) (l.map g)
  | [], _ => .nil
  | x :: r, h => .cons (h x (by simp)) (All2.ofMap f g r (fun y hy => h y (by simp [hy])))
end

/-- a way in which so many cells read as plain data, whose memory lies in blocks of D -/
structure Rep {α : Type} (k : Nat) (R : (Nat → Prop) → World → List Value → α → Prop) : Prop where
  pos : 0 < k
  len : ∀ {D w cs x}, R D w cs x → cs.length = k
  one : ∀ {D w cs x}, R D w cs x → ∀ v ∈ cs, v.oneCell' = true
  fr : ∀ {D S w w' cs x}, R D w cs x → Fr S w w' → (∀ b, b < w.heap.size → D b → ¬ S b) → R D w' cs x
  mono : ∀ {D E w cs x}, R D w cs x → (∀ b, b < w.heap.size → D b → E b) → R E w cs x
section
variable {α β : Type} {k : Nat} {R : (Nat → Prop) → World → List Value → α → Prop}
theorem Rep.below (T : Rep k R) {D : Nat → Prop} {w w' : World} {cs : List Value} {x : α} (h : R D w cs x) (hb : Below w.heap.size w w') : R D w' cs x := T.fr h (Fr.ofBelow hb) (fun b h1 _ h2 => by omega)
theorem Rep.lt (T : Rep k R) {D : Nat → Prop} {w : World} {cs : List Value} {x : α} (h : R D w cs x) : R (fun b => b < w.heap.size ∧ D b) w cs x := T.mono h (fun _ h1 h2 => ⟨h1, h2⟩)
theorem Rep.any (T : Rep k R) {D : Nat → Prop} {w : World} {cs : List Value} {x : α} (h : R D w cs x) : R Any w cs x := T.mono h (fun _ _ _ => trivial)
theorem Rep.fr_lt (T : Rep k R) {D S : Nat → Prop} {w w' : World} {cs : List Value} {x : α} (h : R D w cs x) (hf : Fr S w w') (hn : ∀ b, b < w.heap.size → D b → ¬ S b) : R (fun b => b < w.heap.size ∧ D b) w' cs x := T.fr (T.lt h) hf (fun b h1 h2 => hn b h1 h2.2)

/-- a slice of such things -/
def Sl (k : Nat) (R : (Nat → Prop) → World → List Value → α → Prop) (D : Nat → Prop) (w : World) (v : Value) (xs : List α) : Prop := ∃ css, Arr k D w v css ∧ All2 (R D w) css xs
theorem Sl.form {D : Nat → Prop} {w : World} {v : Value} {xs : List α} (h : Sl k R D w v xs) : ∃ a cap, v = .slice a xs.length cap ∧ xs.length ≤ cap ∧ cap ≤ maxLen ∧ (a = none → cap = 0) := by
  obtain ⟨css, h1, h2⟩ := h
  rw [← h2.length]
  exact h1.form
theorem Sl.at {D : Nat → Prop} {w : World} {v : Value} {xs : List α} (h : Sl k R D w v xs) (i : Nat) (hi : i < xs.length) : ∃ b off cap cs, v = .slice (some ⟨b, off, none⟩) xs.length cap ∧ D b ∧ w.rangeAt b (off + i * k) cs ∧ R D w cs (xs[i]'hi) := by
  obtain ⟨css, h1, h2⟩ := h
  have hl := h2.length
  obtain ⟨b, off, cap, e1, e2, e3⟩ := h1.at i (by omega)
  rw [hl] at e1
  exact ⟨b, off, cap, _, e1, e2, e3, h2.get i (by omega) hi⟩
theorem Sl.nil (k : Nat) (R : (Nat → Prop) → World → List Value → α → Prop) (D : Nat → Prop) (w : World) : Sl k R D w (.slice none 0 0) [] := ⟨[], Arr.nil _ _ _, .nil⟩
theorem rep_sl (T : Rep k R) : Rep 1 (fun D w cs (xs : List α) => ∃ v, cs = [v] ∧ Sl k R D w v xs) where
  pos := by omega
  len := by rintro D w cs x ⟨v, rfl, _⟩; rfl
  one := by
    rintro D w cs x ⟨v, rfl, h⟩ u hu
    obtain ⟨a, c, rfl, _⟩ := h.form
    rw [List.mem_singleton.1 hu]; rfl
  fr := by
    rintro D S w w' cs x ⟨v, rfl, css, h1, h2⟩ hf hn
    exact ⟨v, rfl, css, h1.fr T.pos hf hn, h2.imp fun _ _ h => T.fr h hf hn⟩
  mono := by
    rintro D E w cs x ⟨v, rfl, css, h1, h2⟩ hn
    exact ⟨v, rfl, css, h1.mono T.pos hn, h2.imp fun _ _ h => T.mono h hn⟩
theorem Sl.fr (T : Rep k R) {D S : Nat → Prop} {w w' : World} {v : Value} {xs : List α} (h : Sl k R D w v xs) (hf : Fr S w w') (hn : ∀ b, b < w.heap.size → D b → ¬ S b) : Sl k R D w' v xs := by
  obtain ⟨css, h1, h2⟩ := h
  exact ⟨css, h1.fr T.pos hf hn, h2.imp fun _ _ h => T.fr h hf hn⟩
theorem Sl.mono (T : Rep k R) {D E : Nat → Prop} {w : World} {v : Value} {xs : List α} (h : Sl k R D w v xs) (hn : ∀ b, b < w.heap.size → D b → E b) : Sl k R E w v xs := by
  obtain ⟨css, h1, h2⟩ := h
  exact ⟨css, h1.mono T.pos hn, h2.imp fun _ _ h => T.mono h hn⟩
theorem Sl.below (T : Rep k R) {D : Nat → Prop} {w w' : World} {v : Value} {xs : List α} (h : Sl k R D w v xs) (hb : Below w.heap.size w w') : Sl k R D w' v xs := h.fr T (Fr.ofBelow hb) (fun b h1 _ h2 => by omega)
/-- a slice of bytes as one cell -/
theorem rep_byt : Rep 1 (fun D w cs (l : List UInt8) => ∃ v, cs = [v] ∧ Byt D w v l) where
  pos := by omega
  len := by rintro D w cs x ⟨v, rfl, _⟩; rfl
  one := by
    rintro D w cs x ⟨v, rfl, a, c, rfl, _⟩ u hu
    rw [List.mem_singleton.1 hu]; rfl
  fr := by
    rintro D S w w' cs x ⟨v, rfl, h⟩ hf hn
    exact ⟨v, rfl, h.fr hf hn⟩
  mono := by
    rintro D E w cs x ⟨v, rfl, h⟩ hn
    exact ⟨v, rfl, h.mono hn⟩
/-- plain cells -/
theorem rep_plain (k : Nat) (hk : 0 < k) (f : α → List Value) (Ok : α → Prop) (hl : ∀ x, Ok x → (f x).length = k) (h1 : ∀ x, Ok x → ∀ v ∈ f x, v.oneCell' = true) : Rep k (fun (_ : Nat → Prop) (_ : World) cs (x : α) => Ok x ∧ cs = f x) where
  pos := hk
  len := by rintro D w cs x ⟨h, rfl⟩; exact hl x h
  one := by rintro D w cs x ⟨h, rfl⟩; exact h1 x h
  fr := by rintro D S w w' cs x h _ _; exact h
  mono := by rintro D E w cs x h _; exact h
/-- two side by side -/
def PairR (R : (Nat → Prop) → World → List Value → α → Prop) (R' : (Nat → Prop) → World → List Value → β → Prop) : (Nat → Prop) → World → List Value → α × β → Prop := fun D w cs x => ∃ c1 c2, cs = c1 ++ c2 ∧ R D w c1 x.1 ∧ R' D w c2 x.2
theorem rep_pair {m : Nat} {R' : (Nat → Prop) → World → List Value → β → Prop} (T : Rep k R) (U : Rep m R') : Rep (k + m) (PairR R R') where
  pos := by have := T.pos; omega
  len := by rintro D w cs x ⟨c1, c2, rfl, h1, h2⟩; rw [List.length_append, T.len h1, U.len h2]
  one := by
    rintro D w cs x ⟨c1, c2, rfl, h1, h2⟩ v hv
    rcases List.mem_append.1 hv with hv | hv
    · exact T.one h1 v hv
    · exact U.one h2 v hv
  fr := by rintro D S w w' cs x ⟨c1, c2, rfl, h1, h2⟩ hf hn; exact ⟨c1, c2, rfl, T.fr h1 hf hn, U.fr h2 hf hn⟩
  mono := by rintro D E w cs x ⟨c1, c2, rfl, h1, h2⟩ hn; exact ⟨c1, c2, rfl, T.mono h1 hn, U.mono h2 hn⟩
/-- read through a function -/
theorem rep_conv (T : Rep k R) (q : β → α) : Rep k (fun D w cs (x : β) => R D w cs (q x)) where
  pos := T.pos
  len := T.len
  one := T.one
  fr := T.fr
  mono := T.mono
/-- one more thing, appended: v is the slice that was, v' the one that is -/
theorem push (T : Rep k R) {N : Nat} {v v' : Value} {A0 A F : World} {css : List (List Value)} {xs : List α} {cs : List Value} {x : α} {S S2 : Nat → Prop}
    (h6 : All2 (R (fun b => N ≤ b ∧ v.ownBlock ≠ some b) A0) css xs) (hx : R (fun b => A0.heap.size ≤ b) A cs x) (hf : Fr S A0 A) (hs : ∀ k, N ≤ k → ¬ S k) (hN : N ≤ A0.heap.size) (hv : ∀ k, v.ownBlock = some k → k < A0.heap.size)
    (hF : Fr S2 A F) (hs2 : ∀ k, k < A.heap.size → N ≤ k → S2 k → v.ownBlock = some k) (hv' : v'.ownBlock = v.ownBlock ∨ ∃ g, v'.ownBlock = some g ∧ A.heap.size ≤ g) :
    All2 (R (fun b => N ≤ b ∧ v'.ownBlock ≠ some b) F) (css ++ [cs]) (xs ++ [x]) := by
  have hsz := hf.size
  have hne : ∀ b, b < A.heap.size → v.ownBlock ≠ some b → v'.ownBlock ≠ some b := fun b hb h e => by
    rcases hv' with h1 | ⟨g, h1, h2⟩
    · exact h (h1.symm.trans e)
    · rw [h1] at e; cases e; omega
  refine All2.snoc (h6.imp fun _ _ h => ?_) ?_
  · have k1 := T.lt (T.fr h hf (fun b _ h1 e => hs b h1.1 e))
    exact T.mono (T.fr k1 hF (fun b hb h1 e => h1.2.2 (hs2 b hb h1.2.1 e))) (fun b _ h1 => ⟨h1.2.1, hne b h1.1 h1.2.2⟩)
  · have hb0 : ∀ b, A0.heap.size ≤ b → v.ownBlock ≠ some b := fun b h e => by have := hv b e; omega
    have k1 := T.lt hx
    exact T.mono (T.fr k1 hF (fun b hb h1 e => hb0 b h1.2 (hs2 b hb (by omega) e))) (fun b _ h1 => ⟨by omega, hne b h1.1 (hb0 b h1.2)⟩)
/-- the call's own list, read -/
theorem sl_own (T : Rep k R) {N : Nat} {e : TypeId} {w : World} {v : Value} {css : List (List Value)} {xs : List α} (h : OwnA k N e w v css) (h2 : All2 (R (fun b => N ≤ b ∧ v.ownBlock ≠ some b) w) css xs) : Sl k R (fun b => N ≤ b) w v xs :=
  ⟨css, h.arr.mono T.pos (fun b _ h => h.2), h2.imp fun _ _ h => T.mono h (fun b _ h => h.1)⟩
/-- one cell: a number, a truth, a slice -/
def RU64 : (Nat → Prop) → World → List Value → Nat → Prop := fun _ _ cs x => x < 18446744073709551616 ∧ cs = [.int .u64 (x : Int)]
def RU32 : (Nat → Prop) → World → List Value → Nat → Prop := fun _ _ cs x => x < 4294967296 ∧ cs = [.int .u32 (x : Int)]
def RI64 : (Nat → Prop) → World → List Value → Int → Prop := fun _ _ cs x => (-9223372036854775808 ≤ x ∧ x ≤ 9223372036854775807) ∧ cs = [.int .i64 x]
def RBool : (Nat → Prop) → World → List Value → Bool → Prop := fun _ _ cs x => True ∧ cs = [.bool x]
def RDgs (n : Nat) : (Nat → Prop) → World → List Value → List UInt8 → Prop := fun _ _ cs x => x.length = n ∧ cs = x.map byt
abbrev RDg : (Nat → Prop) → World → List Value → List UInt8 → Prop := RDgs 32
def RBy : (Nat → Prop) → World → List Value → List UInt8 → Prop := fun D w cs l => ∃ v, cs = [v] ∧ Byt D w v l
def RSl (k : Nat) (R : (Nat → Prop) → World → List Value → α → Prop) : (Nat → Prop) → World → List Value → List α → Prop := fun D w cs xs => ∃ v, cs = [v] ∧ Sl k R D w v xs
theorem one_mem {v : Value} (h : v.oneCell' = true) : ∀ u ∈ [v], u.oneCell' = true := fun u hu => by rw [List.mem_singleton.1 hu]; exact h
theorem rep_u64 : Rep 1 RU64 := rep_plain 1 (by omega) (fun x : Nat => [.int .u64 (x : Int)]) (fun x => x < 18446744073709551616) (fun _ _ => rfl) (fun _ _ => one_mem rfl)
theorem rep_u32 : Rep 1 RU32 := rep_plain 1 (by omega) (fun x : Nat => [.int .u32 (x : Int)]) (fun x => x < 4294967296) (fun _ _ => rfl) (fun _ _ => one_mem rfl)
theorem rep_i64 : Rep 1 RI64 := rep_plain 1 (by omega) (fun x : Int => [.int .i64 x]) (fun x => -9223372036854775808 ≤ x ∧ x ≤ 9223372036854775807) (fun _ _ => rfl) (fun _ _ => one_mem rfl)
theorem rep_bool : Rep 1 RBool := rep_plain 1 (by omega) (fun x : Bool => [.bool x]) (fun _ => True) (fun _ _ => rfl) (fun _ _ => one_mem rfl)
theorem rep_dgs (n : Nat) (hn : 0 < n) : Rep n (RDgs n) :=
  rep_plain n hn (fun x : List UInt8 => x.map byt) (fun x => x.length = n) (fun x h => by simpa using h) (fun x _ v hv => by obtain ⟨_, _, rfl⟩ := List.mem_map.1 hv; rfl)
theorem rep32 : Rep 32 RDg := rep_dgs 32 (by omega)
theorem rep_by : Rep 1 RBy := rep_byt
theorem rep_rsl (T : Rep k R) : Rep 1 (RSl k R) := rep_sl T
/-- one cell of a block -/
theorem blk_one {w : World} {b : Nat} {l : List Value} {e : TypeId} (h : Blk w b l e) (pre post : List Value) (v : Value) (hl : l = pre ++ (v :: post)) (n : Nat) (hn : pre.length = n) : w.cell? ⟨b, n, none⟩ = some v := by
  refine h.cell ?_
  subst hl; subst hn
  rw [List.getElem?_append_right (Nat.le_refl _), Nat.sub_self]; rfl
end
end Go.Proofs.YtmenchnjajpkmaaGreatDoor.Reps
end
