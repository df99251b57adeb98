/- The walk of the laws' begun. Conditions: a header as it reads; the tables are laid. What the law MainchainProves makes of its arguments, in plain Lean; its memory. No condition. A region that draws its order, whose calls come one behind the other while a variable may be made at any time between them. Program-independent; no condition. -/
import Derived.Test.YtmenchnjajpkmaaGreatDoorPrvn
import Derived.Test.YtmenchnjajpkmaaGreatDoorPrvk
import Derived.Test.YtmenchnjajpkmaaGreatDoorPrvm
import Derived.Test.YtmenchnjajpkmaaGreatDoorPrvi
import Derived.Test.YtmenchnjajpkmaaGreatDoorPrvg
section
namespace Go.Proofs.YtmenchnjajpkmaaGreatDoor.Tb
open Go Go.RowKit Mem Codec Mh Maps Ops Wh Ww ShaW Arr Tk Tr
set_option linter.unusedVariables false

/-- what begun keeps -/
structure BG (w : World) (first : Hd) (hs : List Hd) (t1 b1 t2 b2 g4 : Nat) (wx : World) : Prop where
  x : TrkIs wx t1 b1 hs
  y : TrkIs wx t2 b2 [first]
  g : Blk wx g4 h5.cells 41
  p : TabB wx 1
  r : TabB wx 0
  b : Below w.heap.size w wx
section
variable {w a c : World} {first : Hd} {hs : List Hd} {t1 b1 t2 b2 g4 : Nat}
theorem BG.below (h : BG w first hs t1 b1 t2 b2 g4 a) (hb : Below a.heap.size a c) : BG w first hs t1 b1 t2 b2 g4 c := ⟨h.x.below hb, h.y.below hb, h.g.below hb, h.p.below hb, h.r.below hb, h.b.trans (hb.mono h.b.size)⟩
theorem BG.drew (h : BG w first hs t1 b1 t2 b2 g4 a) : BG w first hs t1 b1 t2 b2 g4 a.drew := ⟨h.x.drew, h.y.drew, h.g.drew, h.p, h.r, below_drew h.b⟩
theorem BG.add {hd : Hd} {e : Ending} (h : BG w first hs t1 b1 t2 b2 g4 a) (k : AddT a t1 b1 hs hd e c) (n1 : w.heap.size ≤ t1) (n2 : w.heap.size ≤ b1) (n3 : t2 ≠ t1) (n4 : t2 ≠ b1) (n5 : b2 ≠ t1) (n6 : b2 ≠ b1) (n7 : g4 ≠ t1) (n8 : g4 ≠ b1) (hp : 1 < w.heap.size) (hr : 0 < w.heap.size) : BG w first (addL hs hd) t1 b1 t2 b2 g4 c := by
  obtain ⟨_, k2, k3⟩ := k
  exact ⟨k2, h.y.fr k3 (fun e => by rcases e with e | e <;> omega) (fun e => by rcases e with e | e <;> omega), h.g.fr k3 (fun e => by rcases e with e | e <;> omega), h.p.fr k3 (fun e => by rcases e with e | e <;> omega), h.r.fr k3 (fun e => by rcases e with e | e <;> omega), h.b.trans (k3.below h.b.size (fun i e => by rcases e with e | e <;> omega))⟩
end
theorem built5 : Tryz.prog.built 41 [(2, .int .u64 5)] = some h5.cells.toArray := by kernel_rfl
theorem built6 : Tryz.prog.built 41 [(0, dv d5), (2, .int .u64 6)] = some h6.cells.toArray := by kernel_rfl
/-- what begun hands back -/
def BegT (w : World) (first : Hd) (e : Ending) (w' : World) : Prop := ∃ t b, e = .returned (.tuple #[.pointer (some ⟨t, 0, none⟩), .bool true]) ∧ w.heap.size ≤ t ∧ w.heap.size ≤ b ∧ TrkIs w' t b [first] ∧ Below w.heap.size w w'

theorem hbest : bestId [h5, h6] = d6 := by unfold bestId; rw [best56]; exact id6
set_option maxHeartbeats 16000000 in
set_option maxRecDepth 100000 in
theorem begun_calls (w : World) (first : Hd) (ok : first.Ok) (hP : TabB w 1) (hR : TabB w 0) :
    Calls Tryz.prog 10 #[hv first] w (BegT w first) := by
  have hp := (Array.getElem?_eq_some_iff.1 hP.choose_spec.choose_spec).1
  have hr := (Array.getElem?_eq_some_iff.1 hR.choose_spec.choose_spec).1
  have HPL := Lib.hid hp
  have HRL := Lib.hid hr
  have HP := Lib.hid hP
  have HR := Lib.hid hR
  have OK := Lib.hid ok
  clear hp hr hP hR ok
  go_enter Tryz.func10, Tryz.ntmps10
  go_upto_region 2 with (first
    | ((with_reducible refine wpList_box rfl _ _ rfl first.cells rfl (fun w1 k1 c1 z1 => ?_)); have K1 := Lib.hid k1; have B1 := Lib.hid c1; clear k1 c1)
    | (refine wpList_built rfl 41 [(2, .const (.int .u64 5))] rfl h5.cells built5 ?_)
    | ((with_reducible refine wpList_alloc rfl _ rfl _ (zeroV _) (fun w2 k2 c2 z2 => ?_)); have K2 := Lib.hid k2; have B2 := Lib.hid (B1.out.trans (c2.mono (by omega))); have F2 := Lib.hid (K1.out.below c2); clear k2 c2)
    | ((with_reducible refine wpList_put rfl _ _ _ rfl w1.heap.size h5.cells _ rfl rfl K2.out (szH ok5) rfl h5.one (fun w3 k3 c3 z3 => ?_)); have K3 := Lib.hid k3; have F3 := Lib.hid (F2.out.fr c3 (by omega)); have B3 := Lib.hid (B2.out.trans (c3.below (by omega) (fun k hk => by omega))); clear k3 c3))
  have P3 := Lib.hid (HP.out.below B3.out)
  have R3 := Lib.hid (HR.out.below B3.out)
  have hg4 : w.heap.size < w1.heap.size := by omega
  have hg4' : w1.heap.size < w3.heap.size := by omega
  clear K1 B1 K2 B2 F2 HP HR
  generalize w1.heap.size = g4 at *
  go_wp2_with (first | (with_reducible refine wpList_load_blk rfl _ _ rfl g4 h5.cells rfl K3.out _ Tryz.underlying41 rfl (szH ok5) ?_))
  refine (new_calls w3 h5 ok5 P3.out).mono ?_
  rintro e w4 ⟨t1, b1, rfl, n1, n2, x4, c4⟩
  have X4 := Lib.hid x4
  have G4 := Lib.hid (K3.out.below c4)
  have F4 := Lib.hid (F3.out.below c4)
  have P4 := Lib.hid (P3.out.below c4)
  have R4 := Lib.hid (R3.out.below c4)
  have B4 := Lib.hid (B3.out.trans (c4.mono B3.out.size))
  have hl1 := x4.lt.1
  have hl2 := x4.lt.2
  have hs4 := c4.size
  have hs3 := B3.out.size
  clear x4 c4 K3 F3 P3 R3 B3
  go_wp2_with (first | (with_reducible refine wpList_load_blk rfl _ _ rfl w.heap.size first.cells rfl F4.out _ Tryz.underlying41 rfl (szH OK.out) ?_))
  refine (new_calls w4 first OK.out P4.out).mono ?_
  rintro e w5 ⟨t2, b2, rfl, n3, n4, x5, c5⟩
  have HS := Lib.hid (show BG w first [h5] t1 b1 t2 b2 g4 w5 from ⟨X4.out.below c5, x5, G4.out.below c5, P4.out.below c5, R4.out.below c5, B4.out.trans (c5.mono B4.out.size)⟩)
  have hs5 := c5.size
  clear x5 c5 X4 G4 F4 P4 R4 B4
  go_upto_region 6 with fail
  go_wp2_with (first | (with_reducible refine wpList_load_blk rfl _ _ rfl g4 h5.cells rfl HS.out.g _ Tryz.underlying41 rfl (szH ok5) ?_))
  refine (ref_mainId_calls w5 h5 ok5 HS.out.r).mono ?_
  rintro e w6 ⟨rfl, c6⟩
  rw [id5]
  have S6 := Lib.hid (HS.out.below c6)
  have hs6 := c6.size
  have hy1 := S6.out.y.lt.1
  have hy2 := S6.out.y.lt.2
  have hw6 := S6.out.b.size
  clear c6 HS
  go_upto_region 7 with (first
    | (refine wpList_built rfl 41 [(0, .tmp 24), (2, .const (.int .u64 6))] rfl h6.cells built6 ?_)
    | ((with_reducible refine wpList_alloc rfl _ rfl _ (zeroV _) (fun w7 k7 c7 z7 => ?_)); have K7 := Lib.hid k7; have S7 := Lib.hid (S6.out.below c7); clear k7 c7)
    | ((with_reducible refine wpList_put rfl _ _ _ rfl w6.heap.size h6.cells _ rfl rfl K7.out (szH ok6) rfl h6.one (fun w8 k8 c8 z8 => ?_)); have K8 := Lib.hid k8; have S8 := Lib.hid (show BG w first [h5] t1 b1 t2 b2 g4 w8 from ⟨S7.out.x.fr c8 (by omega) (by omega), S7.out.y.fr c8 (by omega) (by omega), S7.out.g.fr c8 (by omega), S7.out.p.fr c8 (by have := HPL.out; omega), S7.out.r.fr c8 (by have := HRL.out; omega), S7.out.b.trans (c8.below (by omega) (fun k hk => by omega))⟩); clear k8 c8))
  have g7a : t1 < w6.heap.size := by omega
  have g7b : b1 < w6.heap.size := by omega
  have g7c : w.heap.size < w6.heap.size := by omega
  have m1 : w.heap.size ≤ t1 := by omega
  have m2 : w.heap.size ≤ b1 := by omega
  have m3 : w.heap.size ≤ t2 := by omega
  have m4 : w.heap.size ≤ b2 := by omega
  clear S6 S7 K7
  generalize w6.heap.size = g7 at *
  go_wp2_with (first | (with_reducible refine wpList_load_blk rfl _ _ rfl g7 h6.cells rfl K8.out _ Tryz.underlying41 rfl (szH ok6) ?_))
  refine (add_calls w8 t1 b1 [h5] trk5 h6 ok6 S8.out.x S8.out.p).mono ?_
  rintro e w9 hA
  have S9 := Lib.hid (show BG w first [h5, h6] t1 b1 t2 b2 g4 w9 from by
    rw [← addL6]
    exact S8.out.add hA m1 m2 (by omega) (by omega) (by omega) (by omega) (by omega) (by omega) HPL.out HRL.out)
  have K9 := Lib.hid (K8.out.fr hA.2.2 (fun e => by rcases e with e | e <;> omega))
  obtain rfl := hA.1
  rw [add6]
  clear hA S8 K8
  go_wp2_with (first | (with_reducible refine wpList_load_blk rfl _ _ rfl g7 h6.cells rfl K9.out _ Tryz.underlying41 rfl (szH ok6) ?_))
  refine (add_calls w9 t1 b1 [h5, h6] trk56 h6 ok6 S9.out.x S9.out.p).mono ?_
  rintro e w10 hA
  have S10 := Lib.hid (show BG w first [h5, h6] t1 b1 t2 b2 g4 w10 from by
    have := S9.out.add hA m1 m2 (by omega) (by omega) (by omega) (by omega) (by omega) (by omega) HPL.out HRL.out
    rw [addL66] at this
    exact this)
  have K10 := Lib.hid (K9.out.fr hA.2.2 (fun e => by rcases e with e | e <;> omega))
  obtain rfl := hA.1
  rw [again6]
  have hq : ∀ w, (Op.equalIn 10000 24 (.agg (d6.map byt).toArray) (.agg (d6.map byt).toArray)).run Tryz.prog w = .ok true w := fun w => by rw [run_equal_u8 Tryz.underlying24 (i := _) rfl (by kernel_rfl) Tryz.underlying5 w d6 d6 (by decide) (by decide)]; simp
  clear hA S9 K9
  go_wp2
  refine wp_region_held_drew (S := (fun w' => BG w first [h5, h6] t1 b1 t2 b2 g4 w' ∧ Blk w' g7 h6.cells 41)) (by kernel_rfl) ⟨S10.out.drew, K10.out.drew⟩ (fun hHeld => ?_)
  refine wpAnyH_take (i := 0) (oi := ⟨_, _, _, _, _, _⟩) (v := ?_) rfl (by kernel_rfl) (by kernel_rfl) (by kernel_rfl) (fun _ _ _ h => h) (Or.inl ⟨by rfl, ?_⟩) (by assumption) ?_
  rotate_left
  · intro w hSw; go_simp; try (with_reducible rfl)
  try simp only [Act.put, List.setIfInBounds_toArray, List.set_cons_zero, List.set_cons_succ]
  refine wpAnyH_take (i := 1) (oi := ⟨_, _, _, _, _, _⟩) rfl (by kernel_rfl) (by kernel_rfl) (by kernel_rfl) (fun _ _ _ h => h) (yieldsIf_load_mid (by rfl) _ _ rfl g4 0 rfl h5.cells _ (fun _ h => blk_range h.1.g) Tryz.underlying41 rfl (szH ok5)) (by assumption) ?_
  try simp only [Act.put, List.setIfInBounds_toArray, List.set_cons_zero, List.set_cons_succ]
  refine wpAnyH_take (i := 3) (oi := ⟨_, _, _, _, _, _⟩) rfl (by kernel_rfl) (by kernel_rfl) (by kernel_rfl) (fun _ _ _ h => h) (yieldsIf_load_mid (by rfl) _ _ rfl g7 0 rfl h6.cells _ (fun _ h => blk_range h.2) Tryz.underlying41 rfl (szH ok6)) (by assumption) ?_
  try simp only [Act.put, List.setIfInBounds_toArray, List.set_cons_zero, List.set_cons_succ]
  refine wpAnyH_ready (rs := [2]) (by kernel_rfl) (by simp) ?_
  refine AllReadyH.cons (o := ⟨_, _, _, _, _, _⟩) rfl (fun K hK => ?_) AllReadyH.nil
  go_simp
  refine (ref_mainId_calls _ h5 ok5 hHeld.1.r).mono ?_
  rintro e wz ⟨rfl, gz⟩
  rw [id5]
  refine hK.out _ _ (by exact ⟨hHeld.1.below gz, hHeld.2.below gz⟩) (fun hHeld => ?_)
  clear hK
  try simp only [Act.put, List.setIfInBounds_toArray, List.set_cons_zero, List.set_cons_succ]
  clear gz
  refine wpAnyH_ready (rs := [4]) (by kernel_rfl) (by simp) ?_
  refine AllReadyH.cons (o := ⟨_, _, _, _, _, _⟩) rfl (fun K hK => ?_) AllReadyH.nil
  go_simp
  refine (ref_mainId_calls _ h6 ok6 hHeld.1.r).mono ?_
  rintro e wz ⟨rfl, gz⟩
  rw [id6]
  refine hK.out _ _ (by exact ⟨hHeld.1.below gz, hHeld.2.below gz⟩) (fun hHeld => ?_)
  clear hK
  try simp only [Act.put, List.setIfInBounds_toArray, List.set_cons_zero, List.set_cons_succ]
  clear gz
  refine wpAnyH_ready (rs := [5]) (by kernel_rfl) (by simp) ?_
  refine AllReadyH.cons (o := ⟨_, _, _, _, _, _⟩) rfl (fun K hK => ?_) AllReadyH.nil
  go_simp
  refine (depth_calls _ t1 b1 [h5, h6] trk56 (by decide) d5 d6 (by decide) (by decide) hHeld.1.x).mono ?_
  rintro e wz ⟨rfl, gz⟩
  rw [depth56]
  simp only [Option.getD_some, Option.isSome_some]
  refine hK.out _ _ (by exact ⟨hHeld.1.below gz, hHeld.2.below gz⟩) (fun hHeld => ?_)
  clear hK
  try simp only [Act.put, List.setIfInBounds_toArray, List.set_cons_zero, List.set_cons_succ]
  clear gz
  refine wpAnyH_take (i := 6) (oi := ⟨_, _, _, _, _, _⟩) (v := ?_) rfl (by kernel_rfl) (by kernel_rfl) (by kernel_rfl) (fun _ _ _ h => h) (Or.inl ⟨by rfl, ?_⟩) (by assumption) ?_
  rotate_left
  · intro w hSw; go_simp; try (with_reducible rfl)
  try simp only [Act.put, List.setIfInBounds_toArray, List.set_cons_zero, List.set_cons_succ]
  refine wpAnyH_take (i := 7) (oi := ⟨_, _, _, _, _, _⟩) (v := ?_) rfl (by kernel_rfl) (by kernel_rfl) (by kernel_rfl) (fun _ _ _ h => h) (Or.inl ⟨by rfl, ?_⟩) (by assumption) ?_
  rotate_left
  · intro w hSw; go_simp; try (with_reducible rfl)
  try simp only [Act.put, List.setIfInBounds_toArray, List.set_cons_zero, List.set_cons_succ]
  refine wpAnyH_take (i := 8) (oi := ⟨_, _, _, _, _, _⟩) (v := ?_) rfl (by kernel_rfl) (by kernel_rfl) (by kernel_rfl) (fun _ _ _ h => h) (Or.inl ⟨by rfl, ?_⟩) (by assumption) ?_
  rotate_left
  · intro w hSw; go_simp; try (with_reducible rfl)
  try simp only [Act.put, List.setIfInBounds_toArray, List.set_cons_zero, List.set_cons_succ]
  refine wpAnyH_take (i := 9) (oi := ⟨_, _, _, _, _, _⟩) (v := ?_) rfl (by kernel_rfl) (by kernel_rfl) (by kernel_rfl) (fun _ _ _ h => h) (Or.inl ⟨by rfl, ?_⟩) (by assumption) ?_
  rotate_left
  · intro w hSw; go_simp; try (with_reducible rfl)
  try simp only [Act.put, List.setIfInBounds_toArray, List.set_cons_zero, List.set_cons_succ]
  refine wpAnyH_take (i := 10) (oi := ⟨_, _, _, _, _, _⟩) (v := ?_) rfl (by kernel_rfl) (by kernel_rfl) (by kernel_rfl) (fun _ _ _ h => h) (Or.inl ⟨by rfl, ?_⟩) (by assumption) ?_
  rotate_left
  · intro w hSw; go_simp; try (with_reducible rfl)
  try simp only [Act.put, List.setIfInBounds_toArray, List.set_cons_zero, List.set_cons_succ]
  refine wpAnyH_done (by kernel_rfl) ?_ _
  have S11 := Lib.hid hHeld
  clear hHeld S10 K10
  go_wp2
  refine wp_region_held_drew (S := (fun w' => BG w first [h5, h6] t1 b1 t2 b2 g4 w' ∧ Blk w' g7 h6.cells 41)) (by kernel_rfl) ⟨S11.out.1.drew, S11.out.2.drew⟩ (fun hHeld => ?_)
  refine wpAnyH_take (i := 0) (oi := ⟨_, _, _, _, _, _⟩) (v := ?_) rfl (by kernel_rfl) (by kernel_rfl) (by kernel_rfl) (fun _ _ _ h => h) (Or.inl ⟨by rfl, ?_⟩) (by assumption) ?_
  rotate_left
  · intro w hSw; go_simp; try (with_reducible rfl)
  try simp only [Act.put, List.setIfInBounds_toArray, List.set_cons_zero, List.set_cons_succ]
  refine wpAnyH_take (i := 1) (oi := ⟨_, _, _, _, _, _⟩) (v := ?_) rfl (by kernel_rfl) (by kernel_rfl) (by kernel_rfl) (fun _ _ _ h => h) (Or.inl ⟨by rfl, ?_⟩) (by assumption) ?_
  rotate_left
  · intro w hSw; go_simp; try (with_reducible rfl)
  try simp only [Act.put, List.setIfInBounds_toArray, List.set_cons_zero, List.set_cons_succ]
  refine wpAnyH_take (i := 2) (oi := ⟨_, _, _, _, _, _⟩) (v := ?_) rfl (by kernel_rfl) (by kernel_rfl) (by kernel_rfl) (fun _ _ _ h => h) (Or.inl ⟨by rfl, ?_⟩) (by assumption) ?_
  rotate_left
  · intro w hSw; go_simp; try (with_reducible rfl)
  try simp only [Act.put, List.setIfInBounds_toArray, List.set_cons_zero, List.set_cons_succ]
  refine wpAnyH_take (i := 3) (oi := ⟨_, _, _, _, _, _⟩) (v := ?_) rfl (by kernel_rfl) (by kernel_rfl) (by kernel_rfl) (fun _ _ _ h => h) (Or.inl ⟨by rfl, ?_⟩) (by assumption) ?_
  rotate_left
  · intro w hSw; go_simp; try (with_reducible rfl)
  try simp only [Act.put, List.setIfInBounds_toArray, List.set_cons_zero, List.set_cons_succ]
  refine wpAnyH_take (i := 4) (oi := ⟨_, _, _, _, _, _⟩) (v := ?_) rfl (by kernel_rfl) (by kernel_rfl) (by kernel_rfl) (fun _ _ _ h => h) (Or.inl ⟨by rfl, ?_⟩) (by assumption) ?_
  rotate_left
  · intro w hSw; go_simp; try (with_reducible rfl)
  try simp only [Act.put, List.setIfInBounds_toArray, List.set_cons_zero, List.set_cons_succ]
  refine wpAnyH_take (i := 5) (oi := ⟨_, _, _, _, _, _⟩) (v := ?_) rfl (by kernel_rfl) (by kernel_rfl) (by kernel_rfl) (fun _ _ _ h => h) (Or.inl ⟨by rfl, ?_⟩) (by assumption) ?_
  rotate_left
  · intro w hSw; go_simp; try (with_reducible rfl)
  try simp only [Act.put, List.setIfInBounds_toArray, List.set_cons_zero, List.set_cons_succ]
  refine wpAnyH_take (i := 6) (oi := ⟨_, _, _, _, _, _⟩) (v := ?_) rfl (by kernel_rfl) (by kernel_rfl) (by kernel_rfl) (fun _ _ _ h => h) (Or.inl ⟨by rfl, ?_⟩) (by assumption) ?_
  rotate_left
  · intro w hSw; go_simp; try (with_reducible rfl)
  try simp only [Act.put, List.setIfInBounds_toArray, List.set_cons_zero, List.set_cons_succ]
  refine wpAnyH_take (i := 7) (oi := ⟨_, _, _, _, _, _⟩) (v := ?_) rfl (by kernel_rfl) (by kernel_rfl) (by kernel_rfl) (fun _ _ _ h => h) (Or.inl ⟨by rfl, ?_⟩) (by assumption) ?_
  rotate_left
  · intro w hSw; go_simp; try (with_reducible rfl)
  try simp only [Act.put, List.setIfInBounds_toArray, List.set_cons_zero, List.set_cons_succ]
  refine wpAnyH_take (i := 8) (oi := ⟨_, _, _, _, _, _⟩) (v := ?_) rfl (by kernel_rfl) (by kernel_rfl) (by kernel_rfl) (fun _ _ _ h => h) (Or.inl ⟨by rfl, ?_⟩) (by assumption) ?_
  rotate_left
  · intro w hSw; go_simp; try (with_reducible rfl)
  try simp only [Act.put, List.setIfInBounds_toArray, List.set_cons_zero, List.set_cons_succ]
  refine wpAnyH_take (i := 10) (oi := ⟨_, _, _, _, _, _⟩) rfl (by kernel_rfl) (by kernel_rfl) (by kernel_rfl) (fun _ _ _ h => h) (yieldsIf_load_mid (by rfl) _ _ rfl g7 0 rfl h6.cells _ (fun _ h => blk_range h.2) Tryz.underlying41 rfl (szH ok6)) (by assumption) ?_
  try simp only [Act.put, List.setIfInBounds_toArray, List.set_cons_zero, List.set_cons_succ]
  refine wpAnyH_ready (rs := [9]) (by kernel_rfl) (by simp) ?_
  refine AllReadyH.cons (o := ⟨_, _, _, _, _, _⟩) rfl (fun K hK => ?_) AllReadyH.nil
  go_simp
  refine (best_calls _ t1 b1 [h5, h6] hHeld.1.x).mono ?_
  rintro e wz ⟨rfl, gz⟩
  rw [hbest]
  refine hK.out _ _ (by exact ⟨hHeld.1.below gz, hHeld.2.below gz⟩) (fun hHeld => ?_)
  clear hK
  try simp only [Act.put, List.setIfInBounds_toArray, List.set_cons_zero, List.set_cons_succ]
  clear gz
  refine wpAnyH_ready (rs := [11]) (by kernel_rfl) (by simp) ?_
  refine AllReadyH.cons (o := ⟨_, _, _, _, _, _⟩) rfl (fun K hK => ?_) AllReadyH.nil
  go_simp
  refine (ref_mainId_calls _ h6 ok6 hHeld.1.r).mono ?_
  rintro e wz ⟨rfl, gz⟩
  rw [id6]
  refine hK.out _ _ (by exact ⟨hHeld.1.below gz, hHeld.2.below gz⟩) (fun hHeld => ?_)
  clear hK
  try simp only [Act.put, List.setIfInBounds_toArray, List.set_cons_zero, List.set_cons_succ]
  clear gz
  refine wpAnyH_take (i := 12) (oi := ⟨_, _, _, _, _, _⟩) (v := ?_) rfl (by kernel_rfl) (by kernel_rfl) (by kernel_rfl) (fun _ _ _ h => h) (Or.inl ⟨by rfl, ?_⟩) (by assumption) ?_
  rotate_left
  · intro w hSw; go_simp; try (with_reducible rfl)
  try simp only [Act.put, List.setIfInBounds_toArray, List.set_cons_zero, List.set_cons_succ]
  refine wpAnyH_take (i := 13) (oi := ⟨_, _, _, _, _, _⟩) (v := ?_) rfl (by kernel_rfl) (by kernel_rfl) (by kernel_rfl) (fun _ _ _ h => h) (Or.inl ⟨by rfl, ?_⟩) (by assumption) ?_
  rotate_left
  · intro w hSw; go_simp; try (with_reducible rfl)
  try simp only [Act.put, List.setIfInBounds_toArray, List.set_cons_zero, List.set_cons_succ]
  refine wpAnyH_take (i := 14) (oi := ⟨_, _, _, _, _, _⟩) (v := ?_) rfl (by kernel_rfl) (by kernel_rfl) (by kernel_rfl) (fun _ _ _ h => h) (Or.inl ⟨by rfl, ?_⟩) (by assumption) ?_
  rotate_left
  · intro w hSw; go_simp; try (with_reducible rfl)
  try simp only [Act.put, List.setIfInBounds_toArray, List.set_cons_zero, List.set_cons_succ]
  refine wpAnyH_take (i := 15) (oi := ⟨_, _, _, _, _, _⟩) (v := ?_) rfl (by kernel_rfl) (by kernel_rfl) (by kernel_rfl) (fun _ _ _ h => h) (Or.inl ⟨by rfl, ?_⟩) (by assumption) ?_
  rotate_left
  · intro w hSw; go_simp; try (with_reducible rfl)
  try simp only [Act.put, List.setIfInBounds_toArray, List.set_cons_zero, List.set_cons_succ]
  refine wpAnyH_take (i := 16) (oi := ⟨_, _, _, _, _, _⟩) (v := ?_) rfl (by kernel_rfl) (by kernel_rfl) (by kernel_rfl) (fun _ _ _ h => h) (Or.inl ⟨by rfl, ?_⟩) (by assumption) ?_
  rotate_left
  · intro w hSw; go_simp; try (with_reducible rfl)
  try simp only [Act.put, List.setIfInBounds_toArray, List.set_cons_zero, List.set_cons_succ]
  refine wpAnyH_take (i := 17) (oi := ⟨_, _, _, _, _, _⟩) (v := ?_) rfl (by kernel_rfl) (by kernel_rfl) (by kernel_rfl) (fun _ _ _ h => h) (Or.inl ⟨by rfl, ?_⟩) (by assumption) ?_
  rotate_left
  · intro w hSw; go_simp; try (with_reducible rfl)
  try simp only [Act.put, List.setIfInBounds_toArray, List.set_cons_zero, List.set_cons_succ]
  refine wpAnyH_take (i := 18) (oi := ⟨_, _, _, _, _, _⟩) (v := ?_) rfl (by kernel_rfl) (by kernel_rfl) (by kernel_rfl) (fun _ _ _ h => h) (Or.inl ⟨by rfl, ?_⟩) (by assumption) ?_
  rotate_left
  · intro w hSw; go_simp; try (with_reducible rfl)
  try simp only [Act.put, List.setIfInBounds_toArray, List.set_cons_zero, List.set_cons_succ]
  refine wpAnyH_take (i := 19) (oi := ⟨_, _, _, _, _, _⟩) (v := ?_) rfl (by kernel_rfl) (by kernel_rfl) (by kernel_rfl) (fun _ _ _ h => h) (Or.inl ⟨by rfl, ?_⟩) (by assumption) ?_
  rotate_left
  · intro w hSw; go_simp; try (with_reducible rfl)
  try simp only [Act.put, List.setIfInBounds_toArray, List.set_cons_zero, List.set_cons_succ]
  refine wpAnyH_take (i := 20) (oi := ⟨_, _, _, _, _, _⟩) (v := ?_) rfl (by kernel_rfl) (by kernel_rfl) (by kernel_rfl) (fun _ _ _ h => h) (Or.inl ⟨by rfl, ?_⟩) (by assumption) ?_
  rotate_left
  · intro w hSw; go_simp; try (with_reducible rfl)
  try simp only [Act.put, List.setIfInBounds_toArray, List.set_cons_zero, List.set_cons_succ]
  refine wpAnyH_take (i := 21) (oi := ⟨_, _, _, _, _, _⟩) (v := ?_) rfl (by kernel_rfl) (by kernel_rfl) (by kernel_rfl) (fun _ _ _ h => h) (Or.inl ⟨by rfl, ?_⟩) (by assumption) ?_
  rotate_left
  · intro w hSw; go_simp; try (with_reducible rfl)
  try simp only [Act.put, List.setIfInBounds_toArray, List.set_cons_zero, List.set_cons_succ]
  refine wpAnyH_take (i := 22) (oi := ⟨_, _, _, _, _, _⟩) (v := ?_) rfl (by kernel_rfl) (by kernel_rfl) (by kernel_rfl) (fun _ _ _ h => h) (Or.inl ⟨by rfl, ?_⟩) (by assumption) ?_
  rotate_left
  · intro w hSw; go_simp; try (with_reducible rfl)
  try simp only [Act.put, List.setIfInBounds_toArray, List.set_cons_zero, List.set_cons_succ]
  refine wpAnyH_ready (rs := [23]) (by kernel_rfl) (by simp) ?_
  refine AllReadyH.cons (o := ⟨_, _, _, _, _, _⟩) rfl (fun K hK => ?_) AllReadyH.nil
  go_simp
  refine (len_calls _ t1 b1 [h5, h6] hHeld.1.x).mono ?_
  rintro e wz ⟨rfl, rfl⟩
  refine hK.out _ _ (by exact hHeld) (fun hHeld => ?_)
  clear hK
  try simp only [Act.put, List.setIfInBounds_toArray, List.set_cons_zero, List.set_cons_succ]
  refine wpAnyH_take (i := 24) (oi := ⟨_, _, _, _, _, _⟩) (v := ?_) rfl (by kernel_rfl) (by kernel_rfl) (by kernel_rfl) (fun _ _ _ h => h) (Or.inl ⟨by rfl, ?_⟩) (by assumption) ?_
  rotate_left
  · intro w hSw; go_simp; try (with_reducible rfl)
  try simp only [Act.put, List.setIfInBounds_toArray, List.set_cons_zero, List.set_cons_succ]
  refine wpAnyH_take (i := 25) (oi := ⟨_, _, _, _, _, _⟩) (v := ?_) rfl (by kernel_rfl) (by kernel_rfl) (by kernel_rfl) (fun _ _ _ h => h) (Or.inl ⟨by rfl, ?_⟩) (by assumption) ?_
  rotate_left
  · intro w hSw; go_simp; try (with_reducible rfl)
  try simp only [Act.put, List.setIfInBounds_toArray, List.set_cons_zero, List.set_cons_succ]
  refine wpAnyH_take (i := 26) (oi := ⟨_, _, _, _, _, _⟩) (v := ?_) rfl (by kernel_rfl) (by kernel_rfl) (by kernel_rfl) (fun _ _ _ h => h) (Or.inl ⟨by rfl, ?_⟩) (by assumption) ?_
  rotate_left
  · intro w hSw; go_simp; try (with_reducible rfl)
  try simp only [Act.put, List.setIfInBounds_toArray, List.set_cons_zero, List.set_cons_succ]
  refine wpAnyH_take (i := 27) (oi := ⟨_, _, _, _, _, _⟩) (v := ?_) rfl (by kernel_rfl) (by kernel_rfl) (by kernel_rfl) (fun _ _ _ h => h) (Or.inl ⟨by rfl, ?_⟩) (by assumption) ?_
  rotate_left
  · intro w hSw; go_simp; try (with_reducible rfl)
  try simp only [Act.put, List.setIfInBounds_toArray, List.set_cons_zero, List.set_cons_succ]
  refine wpAnyH_done (by kernel_rfl) ?_ _
  go_wp2
  go_ret2
  exact ⟨t2, b2, rfl, m3, m4, hHeld.1.y, hHeld.1.b⟩
end Go.Proofs.YtmenchnjajpkmaaGreatDoor.Tb
end

section
namespace Go.Proofs.YtmenchnjajpkmaaGreatDoor.Pv
open Go Go.RowKit Mem Sha ShaW Codec Mh Reps Wm Rm Rr Ev Mk Arr Ops Tk Tr Row Wt
open MkW (dcs)
set_option linter.unusedVariables false

structure Whr where
  pl : Int
  ab : Int
  va : Nat
  dp : Nat
  sc : List UInt8
  vs : Value
def whC (q : Whr) : List Value := [.int .i64 q.pl, .int .i64 q.ab, .int .u64 (q.va : Int), .int .u64 (q.dp : Int), q.vs]
/-- a transaction at a place, as the law has it -/
def modI (q : Whr) (i : Nat) (x : XMt) : XMt := if (i : Int) = q.pl then (x.1, x.2 ++ [(q.va, claimD q.sc)]) else x
def Ys (q : Whr) (xs : List XMt) : List XMt := xs.mapIdx (modI q)
theorem ys_len (q : Whr) (xs : List XMt) : (Ys q xs).length = xs.length := by simp [Ys]
theorem ys_get {q : Whr} {xs : List XMt} {i : Nat} (hi : i < xs.length) : (Ys q xs)[i]? = some (modI q i (xs[i]'hi)) := by simp [Ys, hi]
def leafY (y : XMt) : Mh.Dg := leafD (encMt y)
def OkT (x : XMt) : Prop := x.1 < 18446744073709551616 ∧ ∀ o ∈ x.2, o.1 < 18446744073709551616 ∧ o.2.length = 32
theorem okT_of {D : Nat → Prop} {w : World} {cs : List Value} {x : XMt} (h : RMt D w cs x) : OkT x := by
  obtain ⟨c1, c2, rfl, ⟨h1, _⟩, v, rfl, css, _, h2⟩ := h
  refine ⟨h1, fun o ho => ?_⟩
  have hx : ∀ {css : List (List Value)} {os : List XMo}, All2 (RMo D w) css os → ∀ o ∈ os, o.1 < 18446744073709551616 ∧ o.2.length = 32 := by
    intro css os h
    induction h with
    | nil => intro o ho; cases ho
    | cons h1 _ ih =>
      intro o ho
      rcases List.mem_cons.1 ho with rfl | ho
      · obtain ⟨_, _, _, ⟨k1, _⟩, k2, _⟩ := h1
        exact ⟨k1, k2⟩
      · exact ih o ho
  exact hx h2 o ho
theorem okT_mod {q : Whr} (hv : q.va < 18446744073709551616) {i : Nat} {x : XMt} (h : OkT x) : OkT (modI q i x) := by
  unfold modI
  split
  · refine ⟨h.1, fun o ho => ?_⟩
    rcases List.mem_append.1 ho with ho | ho
    · exact h.2 o ho
    · rw [List.mem_singleton.1 ho]; exact ⟨hv, claimD_length _⟩
  · exact h
theorem flatMap_len : ∀ l : List XMo, (∀ o ∈ l, o.2.length = 32) → (l.flatMap encMo).length = l.length * 40
  | [], _ => rfl
  | o :: l, h => by
    rw [List.flatMap_cons, List.length_append, flatMap_len l (fun x hx => h x (by simp [hx]))]
    have := h o (by simp)
    simp only [encMo, List.length_append, num_length, this, List.length_cons]; omega
theorem fits_of {x : XMt} (h : OkT x) (hl : x.2.length ≤ 1073741825) : (encMt x).length + 4200 ≤ 140737488355328 := by
  unfold encMt
  have h1 := flatMap_len x.2 (fun o ho => (h.2 o ho).2)
  have h2 : (Codec.var x.2.length).length ≤ 9 := by rw [var_length]; exact vlen_le _
  simp only [List.length_append, num_length, h1]
  omega
theorem good_len {y : XMt} (h : badMt y = false) : y.2.length ≤ 16 := by
  unfold badMt at h
  simp at h
  omega

/-- headers, each on the one ahead -/
def h1 (f : Hd) (rt : Mh.Dg) : Hd := ⟨mainId f, rt, f.height + 1, 0⟩
def up (h : Hd) : Nat → Hd
  | 0 => h
  | i + 1 => ⟨mainId (up h i), List.replicate 32 0, (up h i).height + 1, i⟩
def rowL (f h : Hd) (i : Nat) : List Hd := f :: (List.range (i + 1)).map (up h)
theorem rowL_succ (f h : Hd) (i : Nat) : rowL f h (i + 1) = rowL f h i ++ [up h (i + 1)] := by
  unfold rowL
  rw [List.range_succ (n := i + 1), List.map_append]
  rfl
theorem rowL_zero (f h : Hd) : rowL f h 0 = [f, h] := rfl
theorem rowL_len (f h : Hd) (i : Nat) : (rowL f h i).length = i + 2 := by simp [rowL]
theorem rowL_get {f h : Hd} {i k : Nat} (hk : k ≤ i) : (rowL f h i)[1 + k]? = some (up h k) := by
  unfold rowL
  rw [Nat.add_comm 1 k, List.getElem?_cons_succ, List.getElem?_map, List.getElem?_range (by omega)]
  rfl
theorem up_height (h : Hd) : ∀ i, (up h i).height = h.height + i
  | 0 => rfl
  | i + 1 => by show (up h i).height + 1 = _; rw [up_height h i]; omega
theorem up_ok {h : Hd} (ok : h.Ok) : ∀ i, h.height + i < 18446744073709551616 → (up h i).Ok
  | 0, _ => ok
  | i + 1, hi => ⟨mainId_length _, by simp [up], by show (up h i).height + 1 < _; rw [up_height]; omega, by show i < _; omega⟩
theorem row_ok {f h : Hd} (okf : f.Ok) (ok : h.Ok) (i : Nat) (hi : h.height + i < 18446744073709551616) : ∀ x ∈ rowL f h i, x.Ok := by
  intro x hx
  rcases List.mem_cons.1 hx with rfl | hx
  · exact okf
  · obtain ⟨k, hk, rfl⟩ := List.mem_map.1 hx
    have := List.mem_range.1 hk
    exact up_ok ok k (by omega)
theorem chain_row (f : Hd) (rt : Mh.Dg) : ∀ i, Chain (rowL f (h1 f rt) i)
  | 0 => by
    have := Chain.snoc (hs := []) (g := f) (h := h1 f rt) (Chain.one f) rfl rfl
    exact this
  | i + 1 => by
    have c := chain_row f rt i
    rw [rowL_succ]
    have e : ∃ pre, rowL f (h1 f rt) i = pre ++ [up (h1 f rt) i] := by
      cases i with
      | zero => exact ⟨[f], rfl⟩
      | succ i => exact ⟨_, rowL_succ _ _ i⟩
    obtain ⟨pre, e⟩ := e
    rw [e] at c ⊢
    exact c.snoc rfl rfl
/-- a header of such a row is taken -/
theorem add_row {R : List Hd} (c : Chain R) (d : Dis R R.length) {j : Nat} {x : Hd} (hx : R[j + 1]? = some x) (T : Trk (R.take (j + 1))) : addE (R.take (j + 1)) x = 0 ∧ addL (R.take (j + 1)) x = R.take (j + 2) := by
  have hl := (List.getElem?_eq_some_iff.1 hx).1
  obtain ⟨g, hg⟩ : ∃ g, R[j]? = some g := ⟨_, List.getElem?_eq_getElem (by omega)⟩
  have e : R.take (j + 1) = R.take j ++ [g] := by rw [List.take_add_one, hg]; rfl
  have e2 : R.take (j + 2) = R.take (j + 1) ++ [x] := by rw [List.take_add_one (i := j + 1), hx]; rfl
  have hn : ∀ y ∈ R.take (j + 1), mainId y ≠ mainId x := by
    intro y hy he
    obtain ⟨k, hk, hk2⟩ := List.getElem_of_mem hy
    have hkj : k < j + 1 := by simp at hk; omega
    have hyk : R[k]? = some y := by
      rw [List.getElem_take] at hk2
      rw [List.getElem?_eq_getElem (by omega), hk2]
    exact d (j + 1) k y x (by omega) (by omega) hx hyk he.symm
  have hc := c j g x hg hx
  rw [e] at T hn ⊢
  rw [e2, e]
  exact ⟨add_last T hn hc.1 hc.2, addL_last T hn hc.1 hc.2⟩
theorem trk_one {f : Hd} (ok : f.Ok) : Trk [f] := ⟨by simp, fun x hx => by rw [List.mem_singleton.1 hx]; exact ok, fun i j g h hi hj _ => by
  have h1 := (List.getElem?_eq_some_iff.1 hi).1
  have h2 := (List.getElem?_eq_some_iff.1 hj).1
  simp at h1 h2; omega, fun i h hi h0 => by have := (List.getElem?_eq_some_iff.1 hi).1; simp at this; omega⟩

/-- what the evidence brings -/
theorem evid_row {f : Hd} {rt : Mh.Dg} {A : Nat} (T : Trk (rowL f (h1 f rt) A)) (i : In) (y : XMt) (hok : OkT y) (hg : badMt y = false) (p : Nat) (Y : List XMt) (hY : Y[p]? = some y) (hrt : rt = root (Y.map leafY))
    (e1 : i.hd = mainId (h1 f rt)) (e2 : i.ov = mainId (up (h1 f rt) A)) (e3 : i.tx = encMt y) (e4 : i.ot = mtId y) (os : List XMo) (va : Nat) (e5 : y.2 = os ++ [(va, claimD i.sc)]) (e6 : i.ix = os.length) (e7 : i.pl = p) (e8 : i.mn = Y.length) (e9 : i.ds = path (Y.map leafY) p) :
    evid (rowL f (h1 f rt) A) i = if A < i.dp then (0, 173) else (va, 0) := by
  have c := chain_row f rt A
  have g1 : (rowL f (h1 f rt) A)[1]? = some (h1 f rt) := rowL_get (k := 0) (Nat.zero_le _)
  have g2 : (rowL f (h1 f rt) A)[1 + A]? = some (up (h1 f rt) A) := rowL_get (Nat.le_refl _)
  have hp := (List.getElem?_eq_some_iff.1 hY).1
  by_cases hd : A < i.dp
  · rw [if_pos hd]
    exact evid_deep T c g1 g2 i e1 e2 hd
  · rw [if_neg hd]
    have hix : i.ix < y.2.length := by rw [e5, e6]; simp
    have hgx : y.2[i.ix]'hix = (va, claimD i.sc) := by
      have : y.2[i.ix]? = some (va, claimD i.sc) := by rw [e5, e6]; simp
      rw [List.getElem?_eq_getElem hix] at this
      exact Option.some.inj this
    have hck : MkW.chk (h1 f rt).root (leafD i.tx) i.pl i.mn i.ds = true := by
      have := MkW.chk_path (Y.map leafY) p (by simpa using hp)
      rw [e7, e8, e9, e3]
      rw [List.getElem_map] at this
      have hyp : Y[p]'hp = y := (List.getElem?_eq_some_iff.1 hY).2
      rw [hyp, List.length_map] at this
      show MkW.chk rt _ _ _ _ = true
      rw [hrt]
      exact this
    have := evid_full T c g1 g2 i y e1 e2 hd hok.1 hok.2 (good_len hg) e3 e4 hix hck (by rw [hgx])
    rw [this, hgx]

theorem okX_of {D : Nat → Prop} {w : World} {v : Value} {xs : List XMt} (h : Sl 2 RMt D w v xs) : ∀ x ∈ xs, OkT x := by
  obtain ⟨css, _, h2⟩ := h
  have hx : ∀ {css : List (List Value)} {xs : List XMt}, All2 (RMt D w) css xs → ∀ x ∈ xs, OkT x := by
    intro css xs h
    induction h with
    | nil => intro o ho; cases ho
    | cons h1 _ ih =>
      intro o ho
      rcases List.mem_cons.1 ho with rfl | ho
      · exact okT_of h1
      · exact ih o ho
  exact hx h2
theorem ys_at {q : Whr} {xs : List XMt} (hva : q.va < 18446744073709551616) (hx : ∀ x ∈ xs, OkT x) {p : Nat} (hp : p < xs.length) (e : q.pl = (p : Int)) : ∃ y os, (Ys q xs)[p]? = some y ∧ OkT y ∧ y.2 = os ++ [(q.va, claimD q.sc)] := by
  refine ⟨_, (xs[p]'hp).2, ys_get hp, okT_mod hva (hx _ (List.getElem_mem hp)), ?_⟩
  unfold modI
  rw [if_pos e.symm]
theorem bestId_row (f : Hd) (rt : Mh.Dg) (A : Nat) : bestId (rowL f (h1 f rt) A) = mainId (up (h1 f rt) A) := by
  have c := chain_row f rt A
  have e : ∃ pre, rowL f (h1 f rt) A = pre ++ [up (h1 f rt) A] := by
    cases A with
    | zero => exact ⟨[f], rfl⟩
    | succ i => exact ⟨_, rowL_succ _ _ i⟩
  obtain ⟨pre, e⟩ := e
  rw [e] at c ⊢
  unfold bestId
  rw [best_chain c, List.getElem?_append_right (Nat.le_refl _), Nat.sub_self]
  rfl
/-- one part of a struct -/
theorem fill_part {place : Nat → Option (Nat × Nat)} {i off : Nat} {v : Value} {pre mid post : List Value} {rest : List (Nat × Value)} (hp : place i = some (off, v.cells.size)) (ho : pre.length = off) (hm : mid.length = v.cells.size) :
    Instr.fill place (pre ++ (mid ++ post)).toArray ((i, v) :: rest) = Instr.fill place (pre ++ (v.cells.toList ++ post)).toArray rest := by
  rw [Instr.fill]
  simp only [hp]
  rw [if_neg (by simp; omega)]
  congr 1
  apply Array.toList_inj.1
  have := set_run off v.cells.toList (pre ++ (mid ++ post)).toArray (by simp; omega)
  rw [← Array.foldl_toList, Array.toList_zipIdx, this]
  simp only [Array.length_toList]
  subst ho
  rw [List.take_left' rfl, List.drop_append, List.drop_of_length_le (by omega), List.nil_append, show pre.length + v.cells.size - pre.length = mid.length by omega, List.drop_left' rfl, List.append_assoc]
def Z32 : List Value := (List.replicate 32 0 : List UInt8).map byt
set_option maxRecDepth 100000 in
theorem tabH : ∃ it fields, Tryz.prog.info? 41 = some it ∧ Tryz.prog.underlying 41 = some (.struct fields) ∧ it.zero = some (.agg (Z32 ++ (Z32 ++ [Value.int .u64 0, Value.int .u64 0])).toArray) ∧ fields.toList.mapM (fun f => (Tryz.prog.info? f.type).map fun i => (f.offset, i.size)) = some (offs 0 [32, 32, 1, 1]) := ⟨_, _, rfl, Tryz.underlying41, by kernel_rfl, by kernel_rfl⟩
theorem built_h1 (d r : Mh.Dg) (hd : d.length = 32) (hr : r.length = 32) (n : Nat) : Tryz.prog.built 41 [(0, dv d), (2, .int .u64 (n : Int)), (1, dv r)] = some (Hd.cells ⟨d, r, n, 0⟩).toArray := by
  obtain ⟨it, fields, e1, e2, e3, e4⟩ := tabH
  unfold Program.built
  simp only [e1, e2, e3, e4]
  rw [show (Value.agg (Z32 ++ (Z32 ++ [Value.int .u64 0, Value.int .u64 0])).toArray).cells = ([] ++ (Z32 ++ (Z32 ++ [Value.int .u64 0, Value.int .u64 0]))).toArray from rfl]
  rw [fill_part (off := 0) (by simp [offs, Value.cells, hd]) rfl (by simp [Z32, Value.cells, hd])]
  rw [show (([] : List Value) ++ ((dv d).cells.toList ++ (Z32 ++ [Value.int .u64 0, Value.int .u64 0]))) = (d.map byt ++ Z32) ++ ([Value.int .u64 0] ++ [Value.int .u64 0]) by simp [Value.cells]]
  rw [fill_part (off := 64) (mid := [Value.int .u64 0]) (by simp [offs, Value.cells]) (by simp [Z32, hd]) rfl]
  rw [show ((d.map byt ++ Z32) ++ ((Value.int .u64 (n : Int)).cells.toList ++ [Value.int .u64 0])) = d.map byt ++ (Z32 ++ [Value.int .u64 (n : Int), Value.int .u64 0]) by simp [Value.cells]]
  rw [fill_part (off := 32) (by simp [offs, Value.cells, hr]) (by simp [hd]) (by simp [Z32, Value.cells, hr])]
  rw [Instr.fill]
  simp [Value.cells, Hd.cells]
theorem built_up (d : Mh.Dg) (hd : d.length = 32) (n m : Nat) : Tryz.prog.built 41 [(0, dv d), (2, .int .u64 (n : Int)), (3, .int .u64 (m : Int))] = some (Hd.cells ⟨d, List.replicate 32 0, n, m⟩).toArray := by
  obtain ⟨it, fields, e1, e2, e3, e4⟩ := tabH
  unfold Program.built
  simp only [e1, e2, e3, e4]
  rw [show (Value.agg (Z32 ++ (Z32 ++ [Value.int .u64 0, Value.int .u64 0])).toArray).cells = ([] ++ (Z32 ++ (Z32 ++ [Value.int .u64 0, Value.int .u64 0]))).toArray from rfl]
  rw [fill_part (off := 0) (by simp [offs, Value.cells, hd]) rfl (by simp [Z32, Value.cells, hd])]
  rw [show (([] : List Value) ++ ((dv d).cells.toList ++ (Z32 ++ [Value.int .u64 0, Value.int .u64 0]))) = (d.map byt ++ Z32) ++ ([Value.int .u64 0] ++ [Value.int .u64 0]) by simp [Value.cells]]
  rw [fill_part (off := 64) (mid := [Value.int .u64 0]) (by simp [offs, Value.cells]) (by simp [Z32, hd]) rfl]
  rw [show ((d.map byt ++ Z32) ++ ((Value.int .u64 (n : Int)).cells.toList ++ [Value.int .u64 0])) = (d.map byt ++ (Z32 ++ [Value.int .u64 (n : Int)])) ++ ([Value.int .u64 0] ++ []) by simp [Value.cells]]
  rw [fill_part (off := 65) (mid := [Value.int .u64 0]) (by simp [offs, Value.cells]) (by simp [Z32, hd]) rfl]
  rw [Instr.fill]
  simp [Value.cells, Hd.cells, Z32]

section
variable {P : Program} {w : World} {ops : Array Oper} {rest : List Oper} {o : Oper} {a : Act} {K : Act → World → Prop} {Q : Exit → Act → World → Prop}
theorem wpList_build2n (hgd : o.guard = none) {t e : TypeId} {z : Value} {k bytes : Nat} (T : ElemT P t e z k bytes) (x y : Operand) (ho : o.op = .buildSlice t 2 #[(0, x), (1, y)]) (l m : List Value) (hx : a.eval x = .agg l.toArray) (hy : a.eval y = .agg m.toArray) (hs : l.length = k) (hm : m.length = k) (hk : 2 * k ≤ 16777216)
    (h : ∀ w', Blk w' w.heap.size (l ++ m) e → Below w.heap.size w w' → w.heap.size + 1 = w'.heap.size → wpList P ops Q rest (a.put o.dst (.slice (some ⟨w.heap.size, 0, none⟩) 2 2)) w') : wpList P ops Q (o :: rest) a w := by
  refine wpList_plain hgd fun K hK => ?_
  have hr := Arr.run_buildSlice T [.agg l.toArray, .agg m.toArray] (by simp [Value.cells, hs, hm]) (by simpa using hk) (by simp) w
  simp at hr
  unfold Oper.wp
  simp [execOp, ho, hx, hy, hr, Value.cells, Result.andThen]
  exact hK _ _ (h _ (Blk.new w _ _ _ (by simp)) (below_alloc _ _) (by simp))
theorem wpList_build1c (hgd : o.guard = none) {t e : TypeId} {z : Value} {bytes : Nat} (T : ElemT P t e z 1 bytes) (x : Operand) (ho : o.op = .buildSlice t 1 #[(0, x)]) (v : Value) (hx : a.eval x = v) (hs : v.oneCell' = true)
    (h : ∀ w', Blk w' w.heap.size [v] e → Below w.heap.size w w' → w.heap.size + 1 = w'.heap.size → wpList P ops Q rest (a.put o.dst (.slice (some ⟨w.heap.size, 0, none⟩) 1 1)) w') : wpList P ops Q (o :: rest) a w :=
  wpList_plain hgd fun _ hK => wp_build1c T x ho v hx hs (fun w' h1 h2 h3 => hK _ _ (h w' h1 h2 h3))
end
theorem own_new {k N : Nat} {e : TypeId} {w : World} {g n : Nat} {xs : List (List Value)} (hb : Blk w g xs.flatten e) (hn : xs.length = n) (hx : ∀ x ∈ xs, x.length = k) (hg : N ≤ g) (hm : n ≤ maxLen) : OwnA k N e w (.slice (some ⟨g, 0, none⟩) n n) xs := by
  subst hn
  have hl := flatten_length xs hx
  refine ⟨⟨hl, Or.inr ⟨g, xs.length, xs.flatten.toArray, rfl, hg, hb, Nat.le_refl _, hm, by simpa using hl, ?_⟩⟩, hx⟩
  rw [List.toList_toArray, ← hl, List.take_length]
/-- what the law holds on to behind its first loop; the track may change -/
abbrev Off (t b : Nat) : Nat → Prop := fun k => k ≠ t ∧ k ≠ b
structure PB (w : World) (t b g3 g5 : Nat) (f : Hd) (q : Whr) (v9 v10 : Value) (Y : List XMt) (wx : World) : Prop where
  k3 : Blk wx g3 f.cells 41
  k5 : Blk wx g5 (whC q) 50
  l : Arr 32 (Off t b) wx v9 (dcs (Y.map leafY))
  r : Sl 1 RBy (Off t b) wx v10 (Y.map encMt)
  q : Byt (Off t b) wx q.vs q.sc
  p : TabB wx 1
  s : TabB wx 0
  bl : Below w.heap.size w wx
section
variable {w a c : World} {t b g3 g5 : Nat} {f : Hd} {q : Whr} {v9 v10 : Value} {Y : List XMt}
theorem PB.below (h : PB w t b g3 g5 f q v9 v10 Y a) (hb : Below a.heap.size a c) : PB w t b g3 g5 f q v9 v10 Y c :=
  ⟨h.k3.below hb, h.k5.below hb, h.l.below (by omega) hb, h.r.below rep_by hb, h.q.below hb, h.p.below hb, h.s.below hb, h.bl.trans (hb.mono h.bl.size)⟩
theorem PB.drew (h : PB w t b g3 g5 f q v9 v10 Y a) : PB w t b g3 g5 f q v9 v10 Y a.drew :=
  ⟨h.k3.drew, h.k5.drew, h.l, h.r, h.q, h.p, h.s, below_drew h.bl⟩
theorem PB.fr (h : PB w t b g3 g5 f q v9 v10 Y a) (hf : Fr (fun k => k = t ∨ k = b) a c) (h3 : g3 ≠ t ∧ g3 ≠ b) (h5 : g5 ≠ t ∧ g5 ≠ b) (ht : w.heap.size ≤ t) (hb : w.heap.size ≤ b)
    (hp : 1 < w.heap.size) (hs : 0 < w.heap.size) : PB w t b g3 g5 f q v9 v10 Y c :=
  ⟨h.k3.fr hf (fun e => by rcases e with e | e; exact h3.1 e; exact h3.2 e), h.k5.fr hf (fun e => by rcases e with e | e; exact h5.1 e; exact h5.2 e), h.l.fr (by omega) hf (fun k _ hk e => by rcases e with e | e; exact hk.1 e; exact hk.2 e),
    h.r.fr rep_by hf (fun k _ hk e => by rcases e with e | e; exact hk.1 e; exact hk.2 e), h.q.fr hf (fun k _ hk e => by rcases e with e | e; exact hk.1 e; exact hk.2 e), h.p.fr hf (fun e => by rcases e with e | e <;> omega), h.s.fr hf (fun e => by rcases e with e | e <;> omega),
    h.bl.trans (hf.below h.bl.size (fun k hk => by rcases hk with e | e <;> omega))⟩
theorem PB.c0 (h : PB w t b g3 g5 f q v9 v10 Y a) : a.cell? ⟨g5, 0, none⟩ = some (.int .i64 q.pl) := h.k5.cell (i := 0) rfl
theorem PB.c1 (h : PB w t b g3 g5 f q v9 v10 Y a) : a.cell? ⟨g5, 1, none⟩ = some (.int .i64 q.ab) := h.k5.cell (i := 1) rfl
theorem PB.c2 (h : PB w t b g3 g5 f q v9 v10 Y a) : a.cell? ⟨g5, 2, none⟩ = some (.int .u64 (q.va : Int)) := h.k5.cell (i := 2) rfl
theorem PB.c3 (h : PB w t b g3 g5 f q v9 v10 Y a) : a.cell? ⟨g5, 3, none⟩ = some (.int .u64 (q.dp : Int)) := h.k5.cell (i := 3) rfl
theorem PB.c4 (h : PB w t b g3 g5 f q v9 v10 Y a) : a.cell? ⟨g5, 4, none⟩ = some q.vs := h.k5.cell (i := 4) rfl
theorem PB.ch (h : PB w t b g3 g5 f q v9 v10 Y a) (ok : f.Ok) : a.cell? ⟨g3, 64, none⟩ = some (.int .u64 (f.height : Int)) := h.k3.cell (f.cell_height ok)
theorem PB.raw (h : PB w t b g3 g5 f q v9 v10 Y a) {p : Nat} {y : XMt} (hy : Y[p]? = some y) : ∃ bk off cap v, v10 = .slice (some ⟨bk, off, none⟩) Y.length cap ∧ a.cell? ⟨bk, off + p, none⟩ = some v ∧ Byt (Off t b) a v (encMt y) := by
  have hp := (List.getElem?_eq_some_iff.1 hy).1
  obtain ⟨bk, off, cap, cs, e, _, h1, v, rfl, h2⟩ := h.r.at p (by simpa using hp)
  refine ⟨bk, off, cap, v, by simpa using e, ?_, ?_⟩
  · have := h1 0 v rfl
    simpa using this
  · rw [List.getElem_map, (List.getElem?_eq_some_iff.1 hy).2] at h2
    exact h2
end
/-- the loop over the transactions: its two slices -/
structure L1 (N : Nat) (wN : World) (v9 v10 : Value) (Y : List XMt) (wx : World) : Prop where
  b : Below N wN wx
  o9 : OwnA 32 N 24 wx v9 (dcs (Y.map leafY))
  r : ∃ css, OwnA 1 N 25 wx v10 css ∧ All2 (RBy (fun k => N ≤ k ∧ v9.ownBlock ≠ some k ∧ v10.ownBlock ≠ some k) wx) css (Y.map encMt)
  ne : ∀ k, v9.ownBlock = some k → v10.ownBlock ≠ some k
section
variable {N : Nat} {wN a c : World} {v9 v10 : Value} {Y : List XMt}
theorem L1.below (h : L1 N wN v9 v10 Y a) (hN : N ≤ a.heap.size) (hb : Below a.heap.size a c) : L1 N wN v9 v10 Y c := by
  obtain ⟨css, h1, h2⟩ := h.r
  exact ⟨h.b.trans (hb.mono hN), h.o9.below hb, ⟨css, h1.below hb, h2.imp fun _ _ k => rep_by.below k hb⟩, h.ne⟩
theorem L1.zero (wN : World) : L1 wN.heap.size wN (.slice none 0 0) (.slice none 0 0) [] wN := ⟨Below.refl _ _, OwnA.nil _ _ _ _, ⟨[], OwnA.nil _ _ _ _, .nil⟩, fun k h => by cases h⟩
/-- and its leaf to the first one -/
theorem L1.leaf {y : XMt} {v9' : Value} {css : List (List Value)} {A : World} (hb : Below N wN a) (hN : N ≤ a.heap.size) (o9 : OwnA 32 N 24 a v9 (dcs (Y.map leafY))) (o10 : OwnA 1 N 25 a v10 css)
    (h2 : All2 (RBy (fun k => N ≤ k ∧ v9.ownBlock ≠ some k ∧ v10.ownBlock ≠ some k) a) css ((Y ++ [y]).map encMt)) (ne : ∀ k, v9.ownBlock = some k → v10.ownBlock ≠ some k) (hA : Below a.heap.size a A)
    (ho : OwnA 32 N 24 c v9' (dcs (Y.map leafY) ++ [(leafY y).map byt])) (hf : Fr (fun k => v9.ownBlock = some k) A c) (hv' : v9'.ownBlock = v9.ownBlock ∨ ∃ g, v9'.ownBlock = some g ∧ A.heap.size ≤ g) : L1 N wN v9' v10 (Y ++ [y]) c := by
  have hsA := hA.size
  have hsz := hf.size
  have hb9 := o9.lt
  have hb10 := o10.lt
  refine ⟨(hb.trans (hA.mono hN)).trans (hf.below (by omega) (fun k hk => (hb9 k hk).1)), ?_, ⟨css, (o10.below hA).fr hf (fun k hk e => ne k e hk), h2.imp fun _ _ k => ?_⟩, fun k hk e => ?_⟩
  · rw [List.map_append, List.map_singleton]
    show OwnA 32 N _ c v9' (List.map _ (_ ++ _))
    rw [List.map_append]
    exact ho
  · have k1 := rep_by.lt (rep_by.below (rep_by.lt k) hA)
    refine rep_by.mono (rep_by.fr k1 hf (fun b _ h1 e => h1.2.2.2.1 e)) (fun b _ h1 => ⟨h1.2.2.1, fun e => ?_, h1.2.2.2.2⟩)
    rcases hv' with e1 | ⟨g, e1, e2⟩
    · exact h1.2.2.2.1 (e1 ▸ e)
    · rw [e1] at e; cases e
      have := h1.2.1
      omega
  · rcases hv' with e1 | ⟨g, e1, e2⟩
    · exact ne k (e1 ▸ hk) e
    · rw [e1] at hk; cases hk
      have := (hb10 _ e).2
      omega
/-- a thing's bytes are appended to the second slice -/
theorem L1.raw {y : XMt} {v v' : Value} {css : List (List Value)} {A : World} (h : L1 N wN v9 v10 Y a) (hN : N ≤ a.heap.size) (h2 : All2 (RBy (fun k => N ≤ k ∧ v9.ownBlock ≠ some k ∧ v10.ownBlock ≠ some k) a) css (Y.map encMt)) (hA : Below a.heap.size a A)
    (hv : Byt (fun k => a.heap.size ≤ k) A v (encMt y)) (ho : OwnA 1 N 25 c v' (css ++ [[v]])) (hf : Fr (fun k => v10.ownBlock = some k) A c) (hb10 : ∀ k, v10.ownBlock = some k → N ≤ k ∧ k < a.heap.size) (hb9 : ∀ k, v9.ownBlock = some k → N ≤ k ∧ k < a.heap.size)
    (hv' : v'.ownBlock = v10.ownBlock ∨ ∃ g, v'.ownBlock = some g ∧ A.heap.size ≤ g) :
    Below N wN c ∧ OwnA 32 N 24 c v9 (dcs (Y.map leafY)) ∧ All2 (RBy (fun k => N ≤ k ∧ v9.ownBlock ≠ some k ∧ v'.ownBlock ≠ some k) c) (css ++ [[v]]) ((Y ++ [y]).map encMt) ∧ (∀ k, v9.ownBlock = some k → v'.ownBlock ≠ some k) := by
  have hsA := hA.size
  have hsz := hf.size
  refine ⟨(h.b.trans (hA.mono hN)).trans (hf.below (by omega) (fun k hk => (hb10 k hk).1)), (h.o9.below hA).fr hf (fun k hk e => h.ne k hk e), ?_, fun k hk e => ?_⟩
  · rw [List.map_append, List.map_singleton]
    have hnew : ∀ k, k < A.heap.size → v10.ownBlock ≠ some k → v'.ownBlock ≠ some k := fun k hk hn e => by
      rcases hv' with e1 | ⟨g, e1, e2⟩
      · exact hn (e1 ▸ e)
      · rw [e1] at e; cases e; omega
    refine All2.snoc (h2.imp fun _ _ k => ?_) ?_
    · have k1 := rep_by.lt (rep_by.below k hA)
      exact rep_by.mono (rep_by.fr k1 hf (fun b _ h1 e => h1.2.2.2 e)) (fun b _ h1 => ⟨h1.2.1, h1.2.2.1, hnew b h1.1 h1.2.2.2⟩)
    · have k1 : RBy (fun k => k < A.heap.size ∧ a.heap.size ≤ k) A [v] (encMt y) := ⟨v, rfl, hv.lt⟩
      exact rep_by.mono (rep_by.fr k1 hf (fun b _ h1 e => by have := (hb10 b e).2; omega)) (fun b _ h1 => ⟨by omega, fun e => by have := (hb9 b e).2; omega, hnew b h1.1 (fun e => by have := (hb10 b e).2; omega)⟩)
  · rcases hv' with e1 | ⟨g, e1, e2⟩
    · exact h.ne k hk (e1 ▸ e)
    · rw [e1] at e; cases e
      have := (hb9 k hk).2
      omega
end
/-- the loop over the headers above -/
structure R2 (N : Nat) (wB : World) (g15 g16 g17 : Nat) (f hd1 : Hd) (m1 : Mh.Dg) (v18 : Value) (i : Nat) (wx : World) : Prop where
  b : Below N wB wx
  k15 : Blk wx g15 (up hd1 i).cells 41
  k16 : Blk wx g16 (m1.map byt) 24
  k17 : Blk wx g17 ((mainId (up hd1 i)).map byt) 24
  o18 : OwnA 66 N 41 wx v18 (rows (rowL f hd1 i))
  d : ∀ k, v18.ownBlock = some k → k ≠ g15 ∧ k ≠ g16 ∧ k ≠ g17
theorem R2.below {N : Nat} {wB a c : World} {g15 g16 g17 : Nat} {f hd1 : Hd} {m1 : Mh.Dg} {v18 : Value} {i : Nat} (h : R2 N wB g15 g16 g17 f hd1 m1 v18 i a) (hN : N ≤ a.heap.size) (hb : Below a.heap.size a c) : R2 N wB g15 g16 g17 f hd1 m1 v18 i c :=
  ⟨h.b.trans (hb.mono hN), h.k15.below hb, h.k16.below hb, h.k17.below hb, h.o18.below hb, h.d⟩
theorem rows_one' (hs : List Hd) : ∀ x ∈ rows hs, ∀ c ∈ x, c.oneCell' = true := fun x hx c hc => by
  obtain ⟨h, _, rfl⟩ := List.mem_map.1 hx
  exact h.one c hc
theorem wpList_built3 {P : Program} {w : World} {ops : Array Oper} {rest : List Oper} {o : Oper} {a : Act} {Q : Exit → Act → World → Prop} (hgd : o.guard = none) {t : TypeId} {i1 i2 i3 : Nat} {x1 x2 x3 : Operand} (ho : o.op = .build t #[(i1, x1), (i2, x2), (i3, x3)]) {v1 v2 v3 : Value} (h1 : a.eval x1 = v1) (h2 : a.eval x2 = v2) (h3 : a.eval x3 = v3)
    {cs : List Value} (hb : P.built t [(i1, v1), (i2, v2), (i3, v3)] = some cs.toArray) (h : wpList P ops Q rest (a.put o.dst (.agg cs.toArray)) w) : wpList P ops Q (o :: rest) a w :=
  wpList_built hgd t [(i1, x1), (i2, x2), (i3, x3)] ho cs (by simpa [h1, h2, h3] using hb) h
end Go.Proofs.YtmenchnjajpkmaaGreatDoor.Pv
end

section
namespace Go.Proofs.YtmenchnjajpkmaaGreatDoor.Ops
open Go Go.RowKit Mem
set_option linter.unusedVariables false

/-- the rest of the region goes well, whether the variable was made (at a block from N on) or not; x: what has been told so far, A: the frame, I: what holds of the world -/
def Both (P : Program) (md : Region.Mode) (ops : Array Oper) (Q : Exit → Act → World → Prop) (S : World → Prop) (i : Nat) (t : TypeId) (zs : List Value) (N : Nat) {X : Type} (A : X → Value → Act) (I : X → Option Nat → World → Prop) (fuel : Nat) (listed : Array Bool) : Prop :=
  (∀ x w, I x none w → N ≤ w.heap.size → wpAnyH P md ops Q S (fuel + 1) listed (A x undef) w) ∧
  (∀ x w g, I x (some g) w → N ≤ g → Blk w g zs t → wpAnyH P md ops Q S fuel (listed.setIfInBounds i true) (A x (.pointer (some ⟨g, 0, none⟩))) w)
section
variable {P : Program} {md : Region.Mode} {ops : Array Oper} {Q : Exit → Act → World → Prop} {S : World → Prop} {i j : Nat} {oi oj : Oper} {t : TypeId} {zs : List Value} {N : Nat} {X X' : Type} {A : X → Value → Act} {A' : X' → Value → Act} {I : X → Option Nat → World → Prop} {I' : X' → Option Nat → World → Prop} {fuel : Nat} {listed : Array Bool}
theorem Both.start (h : Both P md ops Q S i t zs N A I fuel listed) (x : X) {w : World} (hI : I x none w) (hN : N ≤ w.heap.size) : wpAnyH P md ops Q S (fuel + 1) listed (A x undef) w := h.1 x w hI hN
theorem alloc_step (hi : ops[i]? = some oi) (hop : oi.op = .alloc t) (hgd : oi.guard = none) (hz : ∀ w, (zeroValue t).run P w = .ok (.agg zs.toArray) w) {a : Act} {w : World} {K : Act → World → Prop}
    (h : ∀ w', Blk w' w.heap.size zs t → Below w.heap.size w w' → w.heap.size + 1 = w'.heap.size → K (a.put oi.dst (.pointer (some ⟨w.heap.size, 0, none⟩))) w') : wpOp P ops Q i K a w :=
  wpOp_step hi (fun K' hK => by
    rw [if_pos (by simp [Region.wanted, hgd])]
    exact wp_alloc t hop zs (hz w) (fun w' h1 h2 h3 => hK _ _ (h w' h1 h2 h3)))
theorem Both.last (hi : ops[i]? = some oi) (hop : oi.op = .alloc t) (hgd : oi.guard = none) (hz : ∀ w, (zeroValue t).run P w = .ok (.agg zs.toArray) w) (hA : ∀ x gv, (A x undef).put oi.dst gv = A x gv)
    (hmono : ∀ x w w', I x none w → Below w.heap.size w w' → I x (some w.heap.size) w') (hS : ∀ x go w, I x go w → S w) (r0 : Region.ready md ops listed = [i])
    (h : ∀ x w g, I x (some g) w → N ≤ g → Blk w g zs t → wpAnyH P md ops Q S fuel (listed.setIfInBounds i true) (A x (.pointer (some ⟨g, 0, none⟩))) w) : Both P md ops Q S i t zs N A I fuel listed := by
  refine ⟨fun x w hI hN => ⟨fun h0 => (by rw [r0] at h0; cases h0), fun y hy => ?_⟩, h⟩
  rw [r0] at hy
  obtain rfl := List.mem_singleton.1 hy
  refine alloc_step hi hop hgd hz (fun w' h1 h2 h3 => ?_)
  have hI' := hmono x w w' hI h2
  rw [hA]
  exact ⟨hS x _ w' hI', h x w' _ hI' hN h1⟩
theorem Both.step (hi : ops[i]? = some oi) (hop : oi.op = .alloc t) (hgd : oi.guard = none) (hz : ∀ w, (zeroValue t).run P w = .ok (.agg zs.toArray) w) (hA : ∀ x gv, (A x undef).put oi.dst gv = A x gv)
    (hmono : ∀ x w w', I x none w → Below w.heap.size w w' → I x (some w.heap.size) w') (hS : ∀ x go w, I x go w → S w) (hS' : ∀ x go w, I' x go w → S w) (hj : ops[j]? = some oj)
    (r0 : (Region.ready md ops listed == [i, j] || Region.ready md ops listed == [j, i]) = true) (r1 : Region.ready md ops (listed.setIfInBounds i true) = [j]) (hij : i ≠ j) (q : Nat) (hq : q < N)
    (hstep : ∀ x go w gv (K' : Act → World → Prop), I x go w → (∀ g, go = some g → N ≤ g ∧ g < w.heap.size) → Shut (∀ x' w', I' x' go w' → Fr (fun k => k = q) w w' → K' (A' x' gv) w') → if Region.wanted oj (yielded ops (A x gv).tmps) = true then Oper.wp P oj (A x gv) w K' Q else K' ((A x gv).put oj.dst undef) w)
    (h : Both P md ops Q S i t zs N A' I' fuel (listed.setIfInBounds j true)) : Both P md ops Q S i t zs N A I (fuel + 1) listed := by
  have p2 : ∀ x w g, I x (some g) w → N ≤ g → Blk w g zs t → wpAnyH P md ops Q S (fuel + 1) (listed.setIfInBounds i true) (A x (.pointer (some ⟨g, 0, none⟩))) w := by
    intro x w g hI hN hB
    refine ⟨fun h0 => (by rw [r1] at h0; cases h0), fun y hy => ?_⟩
    rw [r1] at hy
    obtain rfl := List.mem_singleton.1 hy
    refine wpOp_step hj (fun K' hK => hstep x (some g) w _ K' hI (fun g' e => by cases e; exact ⟨hN, hB.lt⟩) (fun x' w' hI' hf => hK _ _ ⟨hS' x' _ w' hI', ?_⟩))
    rw [Array.setIfInBounds_comm _ _ hij]
    exact h.2 x' w' g hI' hN (hB.fr hf (fun e => by omega))
  refine ⟨fun x w hI hN => ⟨fun h0 => (by simp [h0] at r0), fun y hy => ?_⟩, p2⟩
  have hne : y = i ∨ y = j := by
    simp only [Bool.or_eq_true, beq_iff_eq] at r0
    rcases r0 with r0 | r0 <;> rw [r0] at hy <;> simp at hy
    · exact hy
    · exact hy.symm
  rcases hne with rfl | rfl
  · refine alloc_step hi hop hgd hz (fun w' h1 h2 h3 => ?_)
    have hI' := hmono x w w' hI h2
    rw [hA]
    exact ⟨hS x _ w' hI', p2 x w' _ hI' hN h1⟩
  · exact wpOp_step hj (fun K' hK => hstep x none w undef K' hI (fun g' e => by cases e) (fun x' w' hI' hf => hK _ _ ⟨hS' x' _ w' hI', h.1 x' w' hI' (Nat.le_trans hN hf.size)⟩))
theorem exec_built {o : Oper} {a : Act} {w : World} {parts : Array (Nat × Operand)} (ho : o.op = .build t parts) {cs : Array Value} (hb : P.built t (parts.map fun (i, x) => (i, a.eval x)).toList = some cs) : (execOp a.eval o).run P w = .ok (.value (.agg cs)) w := by
  unfold execOp
  simp only [ho, Sem.run_bind, run_build w t _ _ hb, Result.andThen_ok, Sem.run_pure]
theorem wp_val {o : Oper} {a : Act} {w : World} {K : Act → World → Prop} {v : Value} (h : (execOp a.eval o).run P w = .ok (.value v) w) (hK : K (a.put o.dst v) w) : Oper.wp P o a w K Q := by
  unfold Oper.wp
  rw [h]
  exact hK
end
end Go.Proofs.YtmenchnjajpkmaaGreatDoor.Ops
end
