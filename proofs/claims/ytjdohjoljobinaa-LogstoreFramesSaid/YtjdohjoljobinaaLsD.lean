/- The walk of the store's Commit of the law's first change, on a disk of 1000 bytes. No condition. -/
import Derived.Test.YtjdohjoljobinaaLsC
import Derived.Test.YtjdohjoljobinaaFrD
namespace Go.Proofs.Ytjdohjoljobinaa.Ls
open Go Go.RowKit Mem Maps Ops Reps Dk Fra
open Go.Maps (Keyed string_keyed)
set_option linter.unusedVariables false
set_option linter.unusedSimpArgs false

/-- no byte lies in the block -/
def NoB (w : World) (k : Nat) : Prop := ∀ off n, w.cell? ⟨k, off, none⟩ ≠ some (.int .u8 n)
theorem NoB.map {P : Program} {t : TypeId} {w : World} {b : Nat} {l : List (Value × Value)} (h : MapIs P t w b l) : NoB w b := by
  obtain ⟨es, c, h, _⟩ := h
  intro off n e
  simp [World.cell?, h] at e
theorem NoB.blk {w : World} {b : Nat} {l : List Value} {t : TypeId} (h : Blk w b l t) (hl : ∀ v ∈ l, ∀ n, v ≠ .int .u8 n) : NoB w b := by
  intro off n e
  unfold Blk at h
  simp only [World.cell?, h] at e
  simp only [Option.isSome_none, Bool.false_eq_true, if_false] at e
  rw [List.getElem?_toArray] at e
  exact hl _ (List.mem_of_getElem? e) n rfl
theorem NoB.storeC {w : World} {s q mb : Nat} {n : Nm} {z : Nat} {t : TypeId} (h : Blk w s (storeC s q mb n z) t) : NoB w s := NoB.blk h fun v hv m e => by
  subst e
  simp [Ls.storeC, nmV] at hv
theorem byt_away {D S : Nat → Prop} {w w' : World} {v : Value} {l : List UInt8} (h : Byt D w v l) (hf : Fr S w w') (hS : ∀ k, S k → NoB w k) : Byt D w' v l := by
  obtain ⟨a, cap, rfl, hk, h⟩ := h
  refine ⟨a, cap, rfl, hk, ?_⟩
  rcases h with h | ⟨b, off, rfl, hb, hl⟩
  · exact .inl h
  · by_cases hz : l = []
    · exact .inl hz
    · refine .inr ⟨b, off, rfl, hb, hl.fr hf (fun e => ?_)⟩
      exact hS b e (off + 0) _ (hl 0 (by have := List.length_pos_iff.2 hz; omega))
theorem dk_away {S : Nat → Prop} {w w' : World} {q b : Nat} {d : Disk} (h : DkIs w q b d) (hf : Fr S w w') (h1 : ¬ S q) (h2 : ¬ S b) (hS : ∀ k, S k → NoB w k) : DkIs w' q b d := by
  obtain ⟨l, m1, m2⟩ := h.m
  exact ⟨h.k.fr hf h1, ⟨l, m1.fr hf h2, All2.imp m2 fun _ _ ⟨a1, a2, v, a3, a4⟩ => ⟨a1, a2, v, a3, byt_away a4 hf hS⟩⟩, h.ne⟩
def CH : List XCh := [([97], [1], false)]
theorem ch_e : frameE CH = 0 := by rfl
theorem ch_len : (frameT CH).length = 18 := by
  unfold frameT
  rw [if_pos ch_e]
  unfold frameB
  simp only [List.length_append, Codec.num_length]
  rfl
def thirdD (F : List UInt8) : Disk := ⟨1000, 3, -1, false, [(LOG, F, 0)]⟩
def fourthD (F : List UInt8) : Disk := ⟨1000, 4, -1, false, [(LOG, F, F.length)]⟩
theorem app_second (F : List UInt8) (h : F.length = 18) : appendD (openedD 1000) LOG F = (thirdD F, 0) := by
  unfold appendD
  rw [show (openedD 1000).dead = false from rfl, if_neg (by decide), if_neg (by decide), if_neg (by rw [h]; decide)]
  rfl
theorem sync_second (F : List UInt8) : syncD (thirdD F) LOG = (fourthD F, 0) := by rfl
def CommitT (w : World) (s q b mb : Nat) (F : List UInt8) (e : Ending) (w' : World) : Prop := e = .returned (.int .i64 0) ∧ StIs w' s q b mb LOG [([97], [1])] 18 ∧ DkIs w' q b (fourthD F) ∧ Fr (fun k => k = q ∨ k = b ∨ k = s ∨ k = mb) w w'
set_option maxHeartbeats 8000000 in
set_option maxRecDepth 100000 in
theorem commit1_calls (w : World) (s q b mb : Nat) (va : Value) (F : List UInt8) (HFF : frameT CH = F) (H0 : StIs w s q b mb LOG [] 0) (D0 : DkIs w q b (openedD 1000)) (hA : Sl 3 RCh (fun k => k ≠ q ∧ k ≠ b ∧ k ≠ s ∧ k ≠ mb) w va CH) (hne : s ≠ q ∧ s ≠ b ∧ mb ≠ q ∧ mb ≠ b) :
    Calls Try.prog 46 #[.pointer (some ⟨s, 0, none⟩), va] w (CommitT w s q b mb F) := by
  obtain ⟨aa, ac, rfl, _⟩ := hA.form
  have HA := Lib.hid hA
  have H := Lib.hid H0
  have D := Lib.hid D0
  have hlt := H0.lt
  have hdl := D0.lt
  have HFL := Lib.hid (show F.length = 18 from by rw [← HFF]; exact ch_len)
  have hlog : nmV LOG = .string ⟨#[108, 111, 103]⟩ := rfl
  have hsq : ¬ (s = q ∨ s = b) := fun e => by rcases e with e | e; exact hne.1 e; exact hne.2.1 e
  have hmq : ¬ (mb = q ∨ mb = b) := fun e => by rcases e with e | e; exact hne.2.2.1 e; exact hne.2.2.2 e
  have HFE := Lib.hid ch_e
  have HFX := Lib.hid HFF
  clear hA H0 D0 HFF
  go_enter Try.func46, Try.ntmps46
  go_wp2_with fail
  refine (frame_calls w (.slice aa CH.length ac) CH (HA.out.mono rep_Ch (fun _ _ _ => trivial))).mono ?_
  rintro e w1 ⟨fv, rfl, hf, g1⟩
  rw [HFX.out] at hf
  rw [HFE.out]
  obtain ⟨fa, fc, rfl, _⟩ := id hf
  have F1 := Lib.hid (show Byt Any w1 (.slice fa F.length fc) F from hf.any)
  have S1 := Lib.hid (H.out.below g1)
  have D1 := Lib.hid (D.out.below g1)
  have A1 := Lib.hid (HA.out.below rep_Ch g1)
  have G1 := Lib.hid g1
  have hs1 := g1.size
  clear hf g1 H D HA
  go_upto_region 4 with fail
  refine wp_region_held_drew (S := (fun w' => Fr (fun k => k = q ∨ k = b) w1 w')) (by kernel_rfl) (Fr.refl _ _).drew (fun hHeld => ?_)
  refine wpAnyH_take (i := 0) (oi := ⟨_, _, _, _, _, _⟩) (v := ?_) rfl (by kernel_rfl) (by kernel_rfl) (by kernel_rfl) (fun _ _ _ h => h) (Or.inl ⟨by rfl, ?_⟩) (by assumption) ?_
  rotate_left
  · intro w hSw; go_simp; try (with_reducible rfl)
  try simp only [Act.put, List.setIfInBounds_toArray, List.set_cons_zero, List.set_cons_succ]
  refine wpAnyH_take (i := 1) (oi := ⟨_, _, _, _, _, _⟩) (v := ?_) rfl (by kernel_rfl) (by kernel_rfl) (by kernel_rfl) (fun _ _ _ h => h) (Or.inl ⟨by rfl, ?_⟩) (by assumption) ?_
  rotate_left
  · intro w hSw; go_simp; try (with_reducible rfl)
  try simp only [Act.put, List.setIfInBounds_toArray, List.set_cons_zero, List.set_cons_succ]
  refine wpAnyH_take (i := 2) (oi := ⟨_, _, _, _, _, _⟩) (v := ?_) rfl (by kernel_rfl) (by kernel_rfl) (by kernel_rfl) (fun _ _ _ h => h) (Or.inl ⟨by rfl, ?_⟩) (by assumption) ?_
  rotate_left
  · intro w hSw; go_simp; try (with_reducible rfl)
  try simp only [Act.put, List.setIfInBounds_toArray, List.set_cons_zero, List.set_cons_succ]
  refine wpAnyH_take (i := 3) (oi := ⟨_, _, _, _, _, _⟩) (v := .pointer (some ⟨q, 0, none⟩)) rfl (by kernel_rfl) (by kernel_rfl) (by kernel_rfl) (fun _ _ _ h => h) (Or.inl ⟨by rfl, fun w hSw => (by have c := (S1.out.k.fr hSw hsq).cell (i := 0) rfl; go_simp; try (with_reducible rfl))⟩) (by assumption) ?_
  try simp only [Act.put, List.setIfInBounds_toArray, List.set_cons_zero, List.set_cons_succ]
  refine wpAnyH_take (i := 4) (oi := ⟨_, _, _, _, _, _⟩) (v := ?_) rfl (by kernel_rfl) (by kernel_rfl) (by kernel_rfl) (fun _ _ _ h => h) (Or.inl ⟨by rfl, ?_⟩) (by assumption) ?_
  rotate_left
  · intro w hSw; go_simp; try (with_reducible rfl)
  try simp only [Act.put, List.setIfInBounds_toArray, List.set_cons_zero, List.set_cons_succ]
  refine wpAnyH_take (i := 5) (oi := ⟨_, _, _, _, _, _⟩) (v := ?_) rfl (by kernel_rfl) (by kernel_rfl) (by kernel_rfl) (fun _ _ _ h => h) (Or.inl ⟨by rfl, ?_⟩) (by assumption) ?_
  rotate_left
  · intro w hSw; go_simp; try (with_reducible rfl)
  try simp only [Act.put, List.setIfInBounds_toArray, List.set_cons_zero, List.set_cons_succ]
  refine wpAnyH_take (i := 6) (oi := ⟨_, _, _, _, _, _⟩) (v := ?_) rfl (by kernel_rfl) (by kernel_rfl) (by kernel_rfl) (fun _ _ _ h => h) (Or.inl ⟨by rfl, ?_⟩) (by assumption) ?_
  rotate_left
  · intro w hSw; go_simp; try (with_reducible rfl)
  try simp only [Act.put, List.setIfInBounds_toArray, List.set_cons_zero, List.set_cons_succ]
  refine wpAnyH_take (i := 7) (oi := ⟨_, _, _, _, _, _⟩) (v := .string ⟨#[108, 111, 103]⟩) rfl (by kernel_rfl) (by kernel_rfl) (by kernel_rfl) (fun _ _ _ h => h) (Or.inl ⟨by rfl, fun w hSw => (by have c := (S1.out.k.fr hSw hsq).cell (i := 1) rfl; go_simp; try (with_reducible rfl))⟩) (by assumption) ?_
  try simp only [Act.put, List.setIfInBounds_toArray, List.set_cons_zero, List.set_cons_succ]
  refine wpAnyH_take (i := 8) (oi := ⟨_, _, _, _, _, _⟩) (v := ?_) rfl (by kernel_rfl) (by kernel_rfl) (by kernel_rfl) (fun _ _ _ h => h) (Or.inl ⟨by rfl, ?_⟩) (by assumption) ?_
  rotate_left
  · intro w hSw; go_simp; try (with_reducible rfl)
  try simp only [Act.put, List.setIfInBounds_toArray, List.set_cons_zero, List.set_cons_succ]
  refine wpAnyH_ready (rs := [9]) (by kernel_rfl) (by simp) ?_
  refine AllReadyH.cons (o := ⟨_, _, _, _, _, _⟩) rfl (fun K hK => ?_) AllReadyH.nil
  go_simp
  have hap := append_calls _ q b (openedD 1000) LOG (.slice fa F.length fc) F D1.out.drew (by simp [maxLen, LOG]) (F1.out.drew) (by show 0 ≤ _; omega) (by rw [HFL.out]; omega) (by decide) (by decide) (by decide) (by decide) (by decide)
  rw [app_second F HFL.out, hlog] at hap
  refine hap.mono ?_
  clear hap
  rintro e w2 ⟨rfl, d2, f2⟩
  have D2 := Lib.hid d2
  have G2 := Lib.hid (show Fr (fun k => k = q ∨ k = b) w1 w2 from (Fr.refl _ w1).drew.trans f2)
  clear d2 f2
  refine hK.out _ _ (by exact G2.out) (fun hHeld => ?_)
  try simp only [Act.put, List.setIfInBounds_toArray, List.set_cons_zero, List.set_cons_succ]
  clear hK
  refine wpAnyH_take (i := 10) (oi := ⟨_, _, _, _, _, _⟩) (v := ?_) rfl (by kernel_rfl) (by kernel_rfl) (by kernel_rfl) (fun _ _ _ h => h) (Or.inl ⟨by rfl, ?_⟩) (by assumption) ?_
  rotate_left
  · intro w hSw; go_simp; try (with_reducible rfl)
  try simp only [Act.put, List.setIfInBounds_toArray, List.set_cons_zero, List.set_cons_succ]
  refine wpAnyH_done (by kernel_rfl) ?_ _
  have S2 := Lib.hid (S1.out.fr G2.out hsq hmq (fun k _ _ _ h1 h2 e => by rcases e with e | e; exact h1 e; exact h2 e))
  have A2 := Lib.hid (A1.out.fr rep_Ch G2.out (fun k _ h e => by rcases e with e | e; exact h.1 e; exact h.2.1 e))
  have hs2 := G2.out.size
  clear hHeld S1 A1 D1
  go_upto_region 6 with fail
  refine wp_region_held_drew (S := (fun w' => Fr (fun k => k = q ∨ k = b) w2 w')) (by kernel_rfl) (Fr.refl _ _).drew (fun hHeld => ?_)
  refine wpAnyH_take (i := 0) (oi := ⟨_, _, _, _, _, _⟩) (v := ?_) rfl (by kernel_rfl) (by kernel_rfl) (by kernel_rfl) (fun _ _ _ h => h) (Or.inl ⟨by rfl, ?_⟩) (by assumption) ?_
  rotate_left
  · intro w hSw; go_simp; try (with_reducible rfl)
  try simp only [Act.put, List.setIfInBounds_toArray, List.set_cons_zero, List.set_cons_succ]
  refine wpAnyH_take (i := 1) (oi := ⟨_, _, _, _, _, _⟩) (v := ?_) rfl (by kernel_rfl) (by kernel_rfl) (by kernel_rfl) (fun _ _ _ h => h) (Or.inl ⟨by rfl, ?_⟩) (by assumption) ?_
  rotate_left
  · intro w hSw; go_simp; try (with_reducible rfl)
  try simp only [Act.put, List.setIfInBounds_toArray, List.set_cons_zero, List.set_cons_succ]
  refine wpAnyH_take (i := 2) (oi := ⟨_, _, _, _, _, _⟩) (v := ?_) rfl (by kernel_rfl) (by kernel_rfl) (by kernel_rfl) (fun _ _ _ h => h) (Or.inl ⟨by rfl, ?_⟩) (by assumption) ?_
  rotate_left
  · intro w hSw; go_simp; try (with_reducible rfl)
  try simp only [Act.put, List.setIfInBounds_toArray, List.set_cons_zero, List.set_cons_succ]
  refine wpAnyH_take (i := 3) (oi := ⟨_, _, _, _, _, _⟩) (v := .pointer (some ⟨q, 0, none⟩)) rfl (by kernel_rfl) (by kernel_rfl) (by kernel_rfl) (fun _ _ _ h => h) (Or.inl ⟨by rfl, fun w hSw => (by have c := (S2.out.k.fr hSw hsq).cell (i := 0) rfl; go_simp; try (with_reducible rfl))⟩) (by assumption) ?_
  try simp only [Act.put, List.setIfInBounds_toArray, List.set_cons_zero, List.set_cons_succ]
  refine wpAnyH_take (i := 4) (oi := ⟨_, _, _, _, _, _⟩) (v := ?_) rfl (by kernel_rfl) (by kernel_rfl) (by kernel_rfl) (fun _ _ _ h => h) (Or.inl ⟨by rfl, ?_⟩) (by assumption) ?_
  rotate_left
  · intro w hSw; go_simp; try (with_reducible rfl)
  try simp only [Act.put, List.setIfInBounds_toArray, List.set_cons_zero, List.set_cons_succ]
  refine wpAnyH_take (i := 5) (oi := ⟨_, _, _, _, _, _⟩) (v := ?_) rfl (by kernel_rfl) (by kernel_rfl) (by kernel_rfl) (fun _ _ _ h => h) (Or.inl ⟨by rfl, ?_⟩) (by assumption) ?_
  rotate_left
  · intro w hSw; go_simp; try (with_reducible rfl)
  try simp only [Act.put, List.setIfInBounds_toArray, List.set_cons_zero, List.set_cons_succ]
  refine wpAnyH_take (i := 6) (oi := ⟨_, _, _, _, _, _⟩) (v := ?_) rfl (by kernel_rfl) (by kernel_rfl) (by kernel_rfl) (fun _ _ _ h => h) (Or.inl ⟨by rfl, ?_⟩) (by assumption) ?_
  rotate_left
  · intro w hSw; go_simp; try (with_reducible rfl)
  try simp only [Act.put, List.setIfInBounds_toArray, List.set_cons_zero, List.set_cons_succ]
  refine wpAnyH_take (i := 7) (oi := ⟨_, _, _, _, _, _⟩) (v := .string ⟨#[108, 111, 103]⟩) rfl (by kernel_rfl) (by kernel_rfl) (by kernel_rfl) (fun _ _ _ h => h) (Or.inl ⟨by rfl, fun w hSw => (by have c := (S2.out.k.fr hSw hsq).cell (i := 1) rfl; go_simp; try (with_reducible rfl))⟩) (by assumption) ?_
  try simp only [Act.put, List.setIfInBounds_toArray, List.set_cons_zero, List.set_cons_succ]
  refine wpAnyH_ready (rs := [8]) (by kernel_rfl) (by simp) ?_
  refine AllReadyH.cons (o := ⟨_, _, _, _, _, _⟩) rfl (fun K hK => ?_) AllReadyH.nil
  go_simp
  have hsy := sync_calls _ q b (thirdD F) LOG D2.out.drew (by simp [maxLen, LOG]) (by show usedF [(LOG, F, 0)] ≤ _; simp [usedF]; rw [HFL.out]; omega) ⟨by show (0 : Int) ≤ 3; omega, by show (3 : Int) < _; omega⟩ (by show (-1 : Int) ≤ -1; omega) (by show (-1 : Int) ≤ _; omega)
  rw [sync_second F, hlog] at hsy
  refine hsy.mono ?_
  clear hsy
  rintro e w3 ⟨rfl, d3, f3⟩
  have D3 := Lib.hid d3
  have G3 := Lib.hid (show Fr (fun k => k = q ∨ k = b) w2 w3 from (Fr.refl _ w2).drew.trans f3)
  clear d3 f3
  refine hK.out _ _ (by exact G3.out) (fun hHeld => ?_)
  try simp only [Act.put, List.setIfInBounds_toArray, List.set_cons_zero, List.set_cons_succ]
  clear hK
  refine wpAnyH_take (i := 9) (oi := ⟨_, _, _, _, _, _⟩) (v := ?_) rfl (by kernel_rfl) (by kernel_rfl) (by kernel_rfl) (fun _ _ _ h => h) (Or.inl ⟨by rfl, ?_⟩) (by assumption) ?_
  rotate_left
  · intro w hSw; go_simp; try (with_reducible rfl)
  try simp only [Act.put, List.setIfInBounds_toArray, List.set_cons_zero, List.set_cons_succ]
  refine wpAnyH_done (by kernel_rfl) ?_ _
  have S3 := Lib.hid (S2.out.fr G3.out hsq hmq (fun k _ _ _ h1 h2 e => by rcases e with e | e; exact h1 e; exact h2 e))
  have A3 := Lib.hid (A2.out.fr rep_Ch G3.out (fun k _ h e => by rcases e with e | e; exact h.1 e; exact h.2.1 e))
  have hs3 := G3.out.size
  clear hHeld S2 A2 D2
  go_wp2_with fail
  have hq3 : q < w3.heap.size ∧ b < w3.heap.size := by omega
  refine (do1_calls w3 s q b mb 0 (.slice aa CH.length ac) [97] [1] S3.out hq3 (A3.out.mono rep_Ch (fun _ _ h => h.2.2.2)) (by decide) (by decide)).mono ?_
  rintro e w4 ⟨rfl, s4, g4⟩
  have D4 := Lib.hid (dk_away D3.out g4 (fun e => hne.2.2.1 e.symm) (fun e => hne.2.2.2 e.symm) (fun k e => by
    subst e
    obtain ⟨l, m1, _⟩ := S3.out.m
    exact NoB.map m1))
  have K4 := Lib.hid s4.k
  have S4 := Lib.hid s4
  have G4 := Lib.hid g4
  have c3 := show w4.cell? ⟨s, 3, none⟩ = some (.int .i64 0) from s4.k.cell (i := 3) rfl
  have fz3 := show w4.frozen? ⟨s, 3, none⟩ = false from s4.k.free 3
  clear s4 g4 S3 A3 D3
  dsimp only
  go_wp2_with fail
  have hw : wrap64 (F.length : Int) = 18 := by rw [HFL.out]; exact IntWalk.wrap64_in _ ⟨by omega, by omega⟩
  rw [hw]
  obtain ⟨w5, hw5⟩ : ∃ x, w4.setCell ⟨s, 3, none⟩ (.int .i64 18) = x := ⟨_, rfl⟩
  have K5 := Lib.hid (show Blk w5 s (storeC s q mb LOG 18) 124 from by rw [← hw5]; exact K4.out.set 3 _)
  have F5 : Fr (fun k => k = s) w4 w5 := by rw [← hw5]; exact Fr.setCell (S := fun k => k = s) (Fr.refl _ w4) (.inr rfl) _
  rw [hw5]
  have D5 := Lib.hid (dk_away D4.out F5 (fun e => hne.1 e.symm) (fun e => hne.2.1 e.symm) (fun k e => by subst e; exact NoB.storeC K4.out))
  have F6 := Lib.hid (show Fr (fun k => k = q ∨ k = b ∨ k = s ∨ k = mb) w w5 from by
    have a1 : Fr (fun k => k = q ∨ k = b ∨ k = s ∨ k = mb) w w1 := Fr.ofBelowAll G1.out (Nat.le_refl _)
    have a2 := G2.out.mono (T := fun k => k = q ∨ k = b ∨ k = s ∨ k = mb) (fun k _ h => by rcases h with h | h; exact .inl h; exact .inr (.inl h))
    have a3 := G3.out.mono (T := fun k => k = q ∨ k = b ∨ k = s ∨ k = mb) (fun k _ h => by rcases h with h | h; exact .inl h; exact .inr (.inl h))
    have a4 := G4.out.mono (T := fun k => k = q ∨ k = b ∨ k = s ∨ k = mb) (fun k _ h => .inr (.inr (.inr h)))
    have a5 := F5.mono (T := fun k => k = q ∨ k = b ∨ k = s ∨ k = mb) (fun k _ h => .inr (.inr (.inl h)))
    exact a1.trans (a2.trans (a3.trans (a4.trans a5))))
  have S5 := Lib.hid (show StIs w5 s q b mb LOG [([97], [1])] 18 from by
    obtain ⟨l, m1, m2⟩ := S4.out.m
    exact ⟨K5.out, ⟨l, m1.fr F5 (fun e => S4.out.ne e.symm), m2.imp fun _ _ ⟨a, b, c⟩ => ⟨a, b, c.fr F5 (fun k _ hd => hd.1)⟩⟩, S4.out.ne⟩)
  go_ret
  exact ⟨rfl, S5.out, D5.out, F6.out⟩
end Go.Proofs.Ytjdohjoljobinaa.Ls
