/- The program's disk: plain; its memory; the walks of New, step, Free, Steps, Dead. Condition: fewer than 2^62 steps. -/
import Derived.Test.YtjdohjoljobinaaMaps2
import Derived.Test.YtjdohjoljobinaaOps2
import Derived.Test.YtjdohjoljobinaaRep
import Derived.Test.YtjdohjoljobinaaCodecR
import Derived.OrdersHeld
import Derived.Deep.RegionHeld
import Derived.Deep.MidRow
namespace Go.Proofs.Ytjdohjoljobinaa.Dx
open Go Go.RowKit Mem Maps Ops Reps
open Go.Maps (Keyed string_keyed)
set_option linter.unusedVariables false
set_option linter.unusedSimpArgs false

abbrev Nm := List UInt8
abbrev XF := Nm × List UInt8 × Nat
structure Disk where
  room : Int
  steps : Int
  left : Int
  dead : Bool
  fs : List XF
def usedF (fs : List XF) : Nat := (fs.map fun x => x.2.1.length).sum
def nmV (n : Nm) : Value := .string ⟨n.toArray⟩
theorem nmV_inj {a b : Nm} (h : nmV a = nmV b) : a = b := by
  simp only [nmV, Value.string.injEq, ByteArray.mk.injEq] at h
  simpa using h
theorem key_str (n : Nm) (h : n.length ≤ maxLen) : ∃ kl, keyOf Try.prog 9 (nmV n) = some kl := by
  refine ⟨.string n, ?_⟩
  unfold keyOf
  rw [Try.underlying9]
  show mapKey _ _ _ = _
  unfold mapKey
  rw [Try.underlying9]
  simp [nmV, ByteArray.size, h]
theorem keyedS : Keyed Try.prog 9 := string_keyed Try.underlying9
/-- a file as the map has it -/
def fileV (v : Value) (last : Nat) : Value := .agg #[v, .int .i64 (last : Int)]
def fileIs (D : Nat → Prop) (w : World) (p : Value × Value) (x : XF) : Prop := p.1 = nmV x.1 ∧ x.1.length ≤ maxLen ∧ ∃ v, p.2 = fileV v x.2.2 ∧ Byt D w v x.2.1
def Files (D : Nat → Prop) (w : World) (l : List (Value × Value)) (fs : List XF) : Prop := All2 (fileIs D w) l fs
theorem Files.fr {D S : Nat → Prop} {w w' : World} {l : List (Value × Value)} {fs : List XF} (h : Files D w l fs) (hf : Fr S w w') (hn : ∀ k, k < w.heap.size → D k → ¬ S k) : Files D w' l fs :=
  All2.imp h fun _ _ ⟨h1, h2, v, h3, h4⟩ => ⟨h1, h2, v, h3, h4.fr hf hn⟩
def diskC (d : Disk) (b : Nat) : List Value := [.int .i64 d.room, .int .i64 (usedF d.fs : Int), .map (some b), .int .i64 d.steps, .int .i64 d.left, .bool d.dead]
/-- D: the blocks in which files' bytes may lie -/
structure DkIs (D : Nat → Prop) (w : World) (q b : Nat) (d : Disk) : Prop where
  k : Blk w q (diskC d b) 91
  m : ∃ l, MapIs Try.prog 9 w b l ∧ Files D w l d.fs
  ne : q ≠ b
  nd : ¬ D q ∧ ¬ D b
  fresh : ∀ k, w.heap.size ≤ k → D k
section
variable {D : Nat → Prop} {w w' : World} {q b : Nat} {d : Disk} {S : Nat → Prop}
theorem DkIs.fr (h : DkIs D w q b d) (hf : Fr S w w') (h1 : ¬ S q) (h2 : ¬ S b) (h3 : ∀ k, k < w.heap.size → D k → ¬ S k) : DkIs D w' q b d := by
  obtain ⟨l, m1, m2⟩ := h.m
  exact ⟨h.k.fr hf h1, ⟨l, m1.fr hf h2, m2.fr hf h3⟩, h.ne, h.nd, fun k hk => h.fresh k (Nat.le_trans hf.size hk)⟩
theorem Files.lt {l : List (Value × Value)} {fs : List XF} (h : Files D w l fs) : Files (fun k => k < w.heap.size ∧ D k) w l fs :=
  All2.imp h fun _ _ ⟨h1, h2, v, h3, h4⟩ => ⟨h1, h2, v, h3, h4.lt⟩
theorem Files.mono {E : Nat → Prop} {l : List (Value × Value)} {fs : List XF} (h : Files D w l fs) (hd : ∀ k, k < w.heap.size → D k → E k) : Files E w l fs :=
  All2.imp h fun _ _ ⟨h1, h2, v, h3, h4⟩ => ⟨h1, h2, v, h3, h4.mono hd⟩
theorem DkIs.narrow {E : Nat → Prop} (h : DkIs D w q b d) (hd : ∀ k, k < w.heap.size → D k → E k) (hn : ¬ E q ∧ ¬ E b) (hf : ∀ k, w.heap.size ≤ k → E k) : DkIs E w q b d := by
  obtain ⟨l, m1, m2⟩ := h.m
  exact ⟨h.k, ⟨l, m1, m2.mono hd⟩, h.ne, hn, hf⟩
theorem DkIs.lt (h : DkIs D w q b d) : q < w.heap.size ∧ b < w.heap.size := ⟨h.k.lt, h.m.choose_spec.1.lt⟩
theorem DkIs.below (h : DkIs D w q b d) (hb : Below w.heap.size w w') : DkIs D w' q b d := h.fr (Fr.ofBelow hb) (by have := h.lt; omega) (by have := h.lt; omega) (fun k hk _ e => by omega)
theorem DkIs.drew (h : DkIs D w q b d) : DkIs D w.drew q b d := ⟨h.k.drew, by obtain ⟨l, m1, m2⟩ := h.m; exact ⟨l, m1.drew, m2⟩, h.ne, h.nd, h.fresh⟩
end
def newD (room : Int) : Disk := ⟨if room < 0 then 0 else room, 0, -1, false, []⟩
def stepD (d : Disk) : Disk × Bool :=
  if d.left = -1 then ({ d with steps := d.steps + 1 }, false) else if d.left = 0 then ({ d with steps := d.steps + 1, dead := true }, true) else ({ d with steps := d.steps + 1, left := d.left - 1 }, false)
def freeD (d : Disk) : Int := d.room - usedF d.fs

/-- the disk's blocks are new; its files lie in D, elsewhere -/
def NewT (D : Nat → Prop) (w : World) (d : Disk) (e : Ending) (w' : World) : Prop := ∃ q b, e = .returned (.pointer (some ⟨q, 0, none⟩)) ∧ w.heap.size ≤ q ∧ w.heap.size ≤ b ∧ DkIs (fun k => D k ∧ k ≠ q ∧ k ≠ b) w' q b d ∧ Below w.heap.size w w'
theorem wpList_makeMap {P : Program} {k : TypeId} {w : World} {ops : Array Oper} {rest : List Oper} {o : Oper} {a : Act} {Q : Exit → Act → World → Prop} (hgd : o.guard = none) (t : TypeId) (ho : o.op = .makeMap t none)
    (h : ∀ w', MapIs P k w' w.heap.size [] → Below w.heap.size w w' → w.heap.size + 1 = w'.heap.size → wpList P ops Q rest (a.put o.dst (.map (some w.heap.size))) w') : wpList P ops Q (o :: rest) a w :=
  wpList_plain hgd fun _ hK => wp_makeMap t ho (fun w' h1 h2 h3 => hK _ _ (h w' h1 h2 h3))
set_option maxHeartbeats 4000000 in
set_option maxRecDepth 100000 in
theorem new_calls (w : World) (D : Nat → Prop) (hD : ∀ k, w.heap.size ≤ k → D k) (room : Int) : Calls Try.prog 17 #[.int .i64 room] w (NewT D w (newD room)) := by
  have HD := Lib.hid hD
  clear hD
  obtain ⟨r, hr⟩ : ∃ r, (newD room).room = r := ⟨_, rfl⟩
  have HRR := Lib.hid hr
  have hcs : diskC (newD room) w.heap.size = [.int .i64 r, .int .i64 0, .map (some w.heap.size), .int .i64 0, .int .i64 (-1), .bool false] := by rw [← hr]; rfl
  have HCS := Lib.hid hcs
  have key : ∀ (w1 w2 : World), MapIs Try.prog 9 w1 w.heap.size [] → Below w.heap.size w w1 → w.heap.size + 1 = w1.heap.size → Blk w2 w1.heap.size (diskC (newD room) w.heap.size) 91 → Below w1.heap.size w1 w2 →
      DkIs (fun k => D k ∧ k ≠ w1.heap.size ∧ k ≠ w.heap.size) w2 w1.heap.size w.heap.size (newD room) ∧ Below w.heap.size w w2 := fun w1 w2 m1 b1 z1 k2 b2 =>
    ⟨⟨k2, ⟨[], m1.below b2, .nil⟩, by omega, ⟨fun h => h.2.1 rfl, fun h => h.2.2 rfl⟩, fun k hk => ⟨HD.out k (by have := k2.lt; omega), by have := k2.lt; omega, by have := k2.lt; omega⟩⟩, b1.trans (b2.mono (by omega))⟩
  have HKY := Lib.hid key
  clear hcs key
  by_cases h0 : room < 0
  · have hm : r = 0 := by rw [← hr]; simp [newD, h0]
    subst hm
    clear hr HRR
    go_enter Try.func17, Try.ntmps17
    go_wp2_with (first
      | ((with_reducible refine wpList_makeMap (k := 9) rfl _ rfl (fun w1 k1 c1 z1 => ?_)); have K1 := Lib.hid k1; have B1 := Lib.hid c1; clear k1 c1)
      | ((with_reducible refine wpList_box rfl _ _ rfl [.int .i64 0, .int .i64 0, .map (some w.heap.size), .int .i64 0, .int .i64 (-1), .bool false] rfl (fun w2 k2 c2 z2 => ?_)); have K2 := Lib.hid k2; have B2 := Lib.hid c2; clear k2 c2))
    go_ret
    have hz := z1
    have := HKY.out w1 w2 K1.out B1.out hz (by rw [HCS.out]; exact K2.out) B2.out
    exact ⟨w1.heap.size, w.heap.size, rfl, by omega, Nat.le_refl _, this.1, this.2⟩
  · have hm : r = room := by rw [← hr]; simp [newD, h0]
    subst hm
    clear hr HRR
    go_enter Try.func17, Try.ntmps17
    go_wp2_with (first
      | ((with_reducible refine wpList_makeMap (k := 9) rfl _ rfl (fun w1 k1 c1 z1 => ?_)); have K1 := Lib.hid k1; have B1 := Lib.hid c1; clear k1 c1)
      | ((with_reducible refine wpList_box rfl _ _ rfl [.int .i64 r, .int .i64 0, .map (some w.heap.size), .int .i64 0, .int .i64 (-1), .bool false] rfl (fun w2 k2 c2 z2 => ?_)); have K2 := Lib.hid k2; have B2 := Lib.hid c2; clear k2 c2))
    go_ret
    have hz := z1
    have := HKY.out w1 w2 K1.out B1.out hz (by rw [HCS.out]; exact K2.out) B2.out
    exact ⟨w1.heap.size, w.heap.size, rfl, by omega, Nat.le_refl _, this.1, this.2⟩
theorem DkIs.set {D : Nat → Prop} {w w' : World} {q b : Nat} {d d' : Disk} (h : DkIs D w q b d) (hf : Fr (fun k => k = q) w w') (hk : Blk w' q (diskC d' b) 91) (he : d'.fs = d.fs) : DkIs D w' q b d' := by
  obtain ⟨l, m1, m2⟩ := h.m
  exact ⟨hk, ⟨l, m1.fr hf (fun e => h.ne (show b = q from e).symm), by rw [he]; exact m2.fr hf (fun k _ hd e => h.nd.1 ((show k = q from e) ▸ hd))⟩, h.ne, h.nd, fun k hk => h.fresh k (Nat.le_trans hf.size hk)⟩
set_option maxHeartbeats 4000000 in
set_option maxRecDepth 100000 in
theorem step_calls (w : World) (q b : Nat) (d : Disk) {D : Nat → Prop} (H : DkIs D w q b d) (h1 : 0 ≤ d.steps ∧ d.steps < 4611686018427387904) (h2 : -1 ≤ d.left) (h3 : d.left ≤ 9223372036854775807) :
    Calls Try.prog 54 #[.pointer (some ⟨q, 0, none⟩)] w fun e w' => e = .returned (.bool (stepD d).2) ∧ DkIs D w' q b (stepD d).1 ∧ Fr (fun k => k = q) w w' := by
  have HH := Lib.hid H
  obtain ⟨room, steps, left, dead, fs⟩ := d
  dsimp only at h1 h2 h3
  obtain ⟨h0, h1⟩ := h1
  have K0 := Lib.hid (show Blk w q [.int .i64 room, .int .i64 (usedF fs : Int), .map (some b), .int .i64 steps, .int .i64 left, .bool dead] 91 from H.k)
  clear H
  have c3 := K0.out.cell (i := 3) rfl
  have hw : IntKind.i64.wrap (steps + 1) = steps + 1 := by rw [IntKind.wrap_i64]; omega
  go_enter Try.func54, Try.ntmps54
  go_upto_region 2 with (with_reducible refine wpList_setc rfl _ _ _ rfl q 3 rfl _ rfl rfl K0.out (by simp) (by kernel_rfl) (fun w1 k1 f1 z1 => ?_); have K1 := Lib.hid k1; have F1 := Lib.hid f1; clear k1 f1)
  clear c3 hw
  have K1' := Lib.hid (show Blk w1 q [.int .i64 room, .int .i64 (usedF fs : Int), .map (some b), .int .i64 (steps + 1), .int .i64 left, .bool dead] 91 from K1.out)
  have c4 := K1'.out.cell (i := 4) rfl
  clear K0 K1
  by_cases e1 : left = -1
  · have HS := Lib.hid (show stepD ⟨room, steps, left, dead, fs⟩ = (⟨room, steps + 1, left, dead, fs⟩, false) from if_pos e1)
    have e1b : (left == -1) = true := by simp [e1]
    go_wp2
    go_ret
    exact ⟨by rw [HS.out]; rfl, by rw [HS.out]; exact HH.out.set F1.out K1'.out rfl, F1.out⟩
  have e1b : (left == -1) = false := by simp [e1]
  by_cases e2 : left = 0
  · have HS := Lib.hid (show stepD ⟨room, steps, left, dead, fs⟩ = (⟨room, steps + 1, left, true, fs⟩, true) from by unfold stepD; rw [if_neg e1, if_pos e2])
    have e2b : (left == 0) = true := by simp [e2]
    have c5 := K1'.out.cell (i := 5) rfl
    go_wp2_with (with_reducible refine wpList_setc rfl _ _ _ rfl q 5 rfl _ rfl rfl K1'.out (by simp) (by kernel_rfl) (fun w2 k2 f2 z2 => ?_); have K2 := Lib.hid k2; have F2 := Lib.hid f2; clear k2 f2)
    go_ret
    exact ⟨by rw [HS.out]; rfl, by rw [HS.out]; exact HH.out.set (F1.out.trans F2.out) K2.out rfl, F1.out.trans F2.out⟩
  · have HS := Lib.hid (show stepD ⟨room, steps, left, dead, fs⟩ = (⟨room, steps + 1, left - 1, dead, fs⟩, false) from by unfold stepD; rw [if_neg e1, if_neg e2])
    have e2b : (left == 0) = false := by simp [e2]
    have hw : IntKind.i64.wrap (left - 1) = left - 1 := by rw [IntKind.wrap_i64]; omega
    go_wp2_with (with_reducible refine wpList_setc rfl _ _ _ rfl q 4 rfl _ rfl rfl K1'.out (by simp) (by kernel_rfl) (fun w2 k2 f2 z2 => ?_); have K2 := Lib.hid k2; have F2 := Lib.hid f2; clear k2 f2)
    go_ret
    exact ⟨by rw [HS.out]; rfl, by rw [HS.out]; exact HH.out.set (F1.out.trans F2.out) K2.out rfl, F1.out.trans F2.out⟩
set_option maxHeartbeats 4000000 in
set_option maxRecDepth 100000 in
theorem free_calls (w : World) (q b : Nat) (d : Disk) {D : Nat → Prop} (H : DkIs D w q b d) (h1 : -9223372036854775808 ≤ freeD d) (h2 : freeD d ≤ 9223372036854775807) :
    Calls Try.prog 27 #[.pointer (some ⟨q, 0, none⟩)] w fun e w' => e = .returned (.int .i64 (freeD d)) ∧ Below w.heap.size w w' := by
  have c0 := H.k.cell (i := 0) rfl
  have c1 := H.k.cell (i := 1) rfl
  have hw : IntKind.i64.wrap (d.room - (usedF d.fs : Int)) = freeD d := by rw [IntKind.wrap_i64]; unfold freeD at h1 h2 ⊢; omega
  clear H
  go_enter Try.func27, Try.ntmps27
  go_upto_region 1 with fail
  refine wp_region_held_drew (S := (fun w' => Below w.heap.size w w' ∧ w'.cell? ⟨q, 0, none⟩ = some (.int .i64 d.room) ∧ w'.cell? ⟨q, 1, none⟩ = some (.int .i64 (usedF d.fs : Int)))) (by kernel_rfl) ⟨below_drew (Below.refl _ _), c0, c1⟩ (fun hHeld => ?_)
  refine wpAnyH_take (i := 0) (oi := ⟨_, _, _, _, _, _⟩) (v := ?_) rfl (by kernel_rfl) (by kernel_rfl) (by kernel_rfl) (fun _ _ _ h => h) (Or.inl ⟨by rfl, ?_⟩) (by assumption) ?_
  rotate_left
  · intro w hSw; go_simp; try (with_reducible rfl)
  try simp only [Act.put, List.setIfInBounds_toArray, List.set_cons_zero, List.set_cons_succ]
  refine wpAnyH_take (i := 1) (oi := ⟨_, _, _, _, _, _⟩) (v := ?_) rfl (by kernel_rfl) (by kernel_rfl) (by kernel_rfl) (fun _ _ _ h => h) (Or.inl ⟨by rfl, ?_⟩) (by assumption) ?_
  rotate_left
  · intro w hSw; go_simp; try (with_reducible rfl)
  try simp only [Act.put, List.setIfInBounds_toArray, List.set_cons_zero, List.set_cons_succ]
  refine wpAnyH_take (i := 2) (oi := ⟨_, _, _, _, _, _⟩) (v := ?_) rfl (by kernel_rfl) (by kernel_rfl) (by kernel_rfl) (fun _ _ _ h => h) (Or.inl ⟨by rfl, ?_⟩) (by assumption) ?_
  rotate_left
  · intro w hSw; go_simp; try (with_reducible rfl)
  try simp only [Act.put, List.setIfInBounds_toArray, List.set_cons_zero, List.set_cons_succ]
  refine wpAnyH_take (i := 3) (oi := ⟨_, _, _, _, _, _⟩) (v := .int .i64 d.room) rfl (by kernel_rfl) (by kernel_rfl) (by kernel_rfl) (fun _ _ _ h => h) (Or.inl ⟨by rfl, fun w hSw => (by have c := hSw.2.1; go_simp; try (with_reducible rfl))⟩) (by assumption) ?_
  try simp only [Act.put, List.setIfInBounds_toArray, List.set_cons_zero, List.set_cons_succ]
  refine wpAnyH_take (i := 4) (oi := ⟨_, _, _, _, _, _⟩) (v := ?_) rfl (by kernel_rfl) (by kernel_rfl) (by kernel_rfl) (fun _ _ _ h => h) (Or.inl ⟨by rfl, ?_⟩) (by assumption) ?_
  rotate_left
  · intro w hSw; go_simp; try (with_reducible rfl)
  try simp only [Act.put, List.setIfInBounds_toArray, List.set_cons_zero, List.set_cons_succ]
  refine wpAnyH_take (i := 5) (oi := ⟨_, _, _, _, _, _⟩) (v := ?_) rfl (by kernel_rfl) (by kernel_rfl) (by kernel_rfl) (fun _ _ _ h => h) (Or.inl ⟨by rfl, ?_⟩) (by assumption) ?_
  rotate_left
  · intro w hSw; go_simp; try (with_reducible rfl)
  try simp only [Act.put, List.setIfInBounds_toArray, List.set_cons_zero, List.set_cons_succ]
  refine wpAnyH_take (i := 6) (oi := ⟨_, _, _, _, _, _⟩) (v := ?_) rfl (by kernel_rfl) (by kernel_rfl) (by kernel_rfl) (fun _ _ _ h => h) (Or.inl ⟨by rfl, ?_⟩) (by assumption) ?_
  rotate_left
  · intro w hSw; go_simp; try (with_reducible rfl)
  try simp only [Act.put, List.setIfInBounds_toArray, List.set_cons_zero, List.set_cons_succ]
  refine wpAnyH_take (i := 7) (oi := ⟨_, _, _, _, _, _⟩) (v := .int .i64 (usedF d.fs : Int)) rfl (by kernel_rfl) (by kernel_rfl) (by kernel_rfl) (fun _ _ _ h => h) (Or.inl ⟨by rfl, fun w hSw => (by have c := hSw.2.2; go_simp; try (with_reducible rfl))⟩) (by assumption) ?_
  try simp only [Act.put, List.setIfInBounds_toArray, List.set_cons_zero, List.set_cons_succ]
  refine wpAnyH_take (i := 8) (oi := ⟨_, _, _, _, _, _⟩) (v := ?_) rfl (by kernel_rfl) (by kernel_rfl) (by kernel_rfl) (fun _ _ _ h => h) (Or.inl ⟨by rfl, ?_⟩) (by assumption) ?_
  rotate_left
  · intro w hSw; go_simp; try (with_reducible rfl)
  try simp only [Act.put, List.setIfInBounds_toArray, List.set_cons_zero, List.set_cons_succ]
  refine wpAnyH_take (i := 9) (oi := ⟨_, _, _, _, _, _⟩) (v := ?_) rfl (by kernel_rfl) (by kernel_rfl) (by kernel_rfl) (fun _ _ _ h => h) (Or.inl ⟨by rfl, ?_⟩) (by assumption) ?_
  rotate_left
  · intro w hSw; go_simp; try (with_reducible rfl)
  try simp only [Act.put, List.setIfInBounds_toArray, List.set_cons_zero, List.set_cons_succ]
  refine wpAnyH_done (by kernel_rfl) ?_ _
  go_wp2
  go_ret
  exact ⟨rfl, hHeld.1⟩
set_option maxHeartbeats 4000000 in
theorem steps_calls (w : World) (q b : Nat) (d : Disk) {D : Nat → Prop} (H : DkIs D w q b d) :
    Calls Try.prog 22 #[.pointer (some ⟨q, 0, none⟩)] w fun e w' => e = .returned (.int .i64 d.steps) ∧ w = w' := by
  have c3 := H.k.cell (i := 3) rfl
  clear H
  go_enter Try.func22, Try.ntmps22
  go_wp2
  go_ret
  exact ⟨rfl, rfl⟩
set_option maxHeartbeats 4000000 in
theorem dead_calls (w : World) (q b : Nat) (d : Disk) {D : Nat → Prop} (H : DkIs D w q b d) :
    Calls Try.prog 20 #[.pointer (some ⟨q, 0, none⟩)] w fun e w' => e = .returned (.bool d.dead) ∧ w = w' := by
  have c5 := H.k.cell (i := 5) rfl
  clear H
  go_enter Try.func20, Try.ntmps20
  go_wp2
  go_ret
  exact ⟨rfl, rfl⟩
def armD (d : Disk) (at_ : Int) : Disk := if d.dead = true then d else { d with left := if at_ < -1 then -1 else at_ }
set_option maxHeartbeats 4000000 in
set_option maxRecDepth 100000 in
theorem arm_calls (w : World) (q b : Nat) (d : Disk) {D : Nat → Prop} (H : DkIs D w q b d) (at_ : Int) :
    Calls Try.prog 18 #[.pointer (some ⟨q, 0, none⟩), .int .i64 at_] w fun e w' => e = .returned (.tuple #[]) ∧ DkIs D w' q b (armD d at_) ∧ Fr (fun k => k = q) w w' := by
  have c5 := H.k.cell (i := 5) rfl
  have HH := Lib.hid H
  clear H
  go_enter Try.func18, Try.ntmps18
  by_cases hd : d.dead = true
  · have HX := Lib.hid (show armD d at_ = d from if_pos hd)
    rw [hd] at c5
    go_wp2
    go_end0
    exact ⟨rfl, by rw [HX.out]; exact HH.out, Fr.refl _ _⟩
  have hdf : d.dead = false := by simpa using hd
  rw [hdf] at c5
  obtain ⟨r, hr⟩ : ∃ r, (if at_ < -1 then -1 else at_) = r := ⟨_, rfl⟩
  have HX := Lib.hid (show armD d at_ = { d with left := r } from by unfold armD; rw [if_neg hd, hr])
  by_cases h0 : at_ < -1
  · rw [if_pos h0] at hr
    subst hr
    go_wp2_with (with_reducible refine wpList_setc rfl _ _ _ rfl q 4 rfl _ rfl rfl HH.out.k (by simp [diskC]) (by kernel_rfl) (fun w1 k1 f1 z1 => ?_); have K1 := Lib.hid k1; have F1 := Lib.hid f1; clear k1 f1)
    go_end0
    exact ⟨rfl, by rw [HX.out]; exact HH.out.set F1.out K1.out rfl, F1.out⟩
  · rw [if_neg h0] at hr
    subst hr
    have h0I : ¬ at_ ≤ -2 := by omega
    have h0J : (-1 : Int) ≤ at_ := by omega
    go_wp2_with (with_reducible refine wpList_setc rfl _ _ _ rfl q 4 rfl _ rfl rfl HH.out.k (by simp [diskC]) (by kernel_rfl) (fun w1 k1 f1 z1 => ?_); have K1 := Lib.hid k1; have F1 := Lib.hid f1; clear k1 f1)
    go_end0
    exact ⟨rfl, by rw [HX.out]; exact HH.out.set F1.out K1.out rfl, F1.out⟩
end Go.Proofs.Ytjdohjoljobinaa.Dx
