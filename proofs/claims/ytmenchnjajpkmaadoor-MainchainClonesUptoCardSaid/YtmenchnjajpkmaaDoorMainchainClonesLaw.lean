/- The walk of the law MainchainClones. Conditions: the arguments' headers, of at most 2^20 in all; the tables are laid. -/
import Derived.Test.YtmenchnjajpkmaaDoorTf
import Derived.Test.YtmenchnjajpkmaaDoorTkc
import Derived.Test.YtmenchnjajpkmaaDoorShaLaid
import Derived.Test.YtmenchnjajpkmaaDoorCards
import Derived.Deep.DeepCutAuto
import Derived.Deep.CutBlock
namespace Go.Proofs.YtmenchnjajpkmaaDoor.mainchainClones
open Go Go.RowKit Mem Codec Mh Maps Ops Wh Ww ShaW Arr Tk Tr Tb Tf
set_option linter.unusedVariables false

/-- what the laws keep behind fed -/
structure LE (w : World) (t b g6 : Nat) (v : Value) (hs : List Hd) (wx : World) : Prop where
  x : TrkIs wx t b hs
  r : RO (fun k => k = t ∨ k = b ∨ k = g6) wx v hs
  k : Blk wx g6 [v] 27
  bw : Below w.heap.size w wx
  n1 : w.heap.size ≤ t
  n2 : w.heap.size ≤ b
  n3 : w.heap.size ≤ g6
  n4 : g6 ≠ t
  n5 : g6 ≠ b
section
variable {w a c : World} {t b g6 : Nat} {v : Value} {hs : List Hd}
theorem LE.below (h : LE w t b g6 v hs a) (hb : Below a.heap.size a c) : LE w t b g6 v hs c := ⟨h.x.below hb, h.r.below hb, h.k.below hb, h.bw.trans (hb.mono h.bw.size), h.n1, h.n2, h.n3, h.n4, h.n5⟩
theorem LE.drew (h : LE w t b g6 v hs a) : LE w t b g6 v hs a.drew := ⟨h.x.drew, h.r.drew, h.k.drew, below_drew h.bw, h.n1, h.n2, h.n3, h.n4, h.n5⟩
end

/-- what the law keeps behind the clone -/
structure LC (w : World) (t b t2 b2 g8 g11 : Nat) (hs ks : List Hd) (wx : World) : Prop where
  x : TrkIs wx t b hs
  y : TrkIs wx t2 b2 ks
  k : ∃ v, Blk wx g8 [v] 27 ∧ RO (fun k => k = t ∨ k = b ∨ k = t2 ∨ k = b2 ∨ k = g8 ∨ k = g11) wx v hs
  m : ∃ v, Blk wx g11 [v] 27 ∧ RO (fun k => k = t ∨ k = b ∨ k = t2 ∨ k = b2 ∨ k = g8 ∨ k = g11) wx v ks
  p : TabB wx 1
  bw : Below w.heap.size w wx
/-- the blocks are apart -/
structure NC (w : World) (t b t2 b2 g8 g11 : Nat) : Prop where
  a : t ≠ b ∧ t ≠ t2 ∧ t ≠ b2 ∧ t ≠ g8 ∧ t ≠ g11 ∧ b ≠ t2 ∧ b ≠ b2 ∧ b ≠ g8 ∧ b ≠ g11 ∧ t2 ≠ b2 ∧ t2 ≠ g8 ∧ t2 ≠ g11 ∧ b2 ≠ g8 ∧ b2 ≠ g11 ∧ g8 ≠ g11
  l : w.heap.size ≤ t ∧ w.heap.size ≤ b ∧ w.heap.size ≤ t2 ∧ w.heap.size ≤ b2 ∧ w.heap.size ≤ g8 ∧ w.heap.size ≤ g11
  p : 1 < w.heap.size ∧ 0 < w.heap.size
section
variable {w a c : World} {t b t2 b2 g8 g11 : Nat} {hs ks : List Hd}
theorem LC.below (h : LC w t b t2 b2 g8 g11 hs ks a) (hb : Below a.heap.size a c) : LC w t b t2 b2 g8 g11 hs ks c := by
  obtain ⟨v, k1, k2⟩ := h.k
  obtain ⟨v', m1, m2⟩ := h.m
  exact ⟨h.x.below hb, h.y.below hb, ⟨v, k1.below hb, k2.below hb⟩, ⟨v', m1.below hb, m2.below hb⟩, h.p.below hb, h.bw.trans (hb.mono h.bw.size)⟩
theorem LC.addx {g : Hd} {e : Ending} (h : LC w t b t2 b2 g8 g11 hs ks a) (n : NC w t b t2 b2 g8 g11) (k : AddT a t b hs g e c) : TrkIs c t b (addL hs g) ∧ TrkIs c t2 b2 ks ∧ (∃ v, Blk c g8 [v] 27) ∧ (∃ v, Blk c g11 [v] 27 ∧ RO (fun k => k = t ∨ k = b ∨ k = t2 ∨ k = b2 ∨ k = g8 ∨ k = g11) c v ks) ∧ TabB c 1 ∧ Below w.heap.size w c := by
  obtain ⟨_, k2, k3⟩ := k
  obtain ⟨v, k1, _⟩ := h.k
  obtain ⟨v', m1, m2⟩ := h.m
  obtain ⟨n1, n2, n3⟩ := n
  exact ⟨k2, h.y.fr k3 (fun e => by rcases e with e | e <;> omega) (fun e => by rcases e with e | e <;> omega), ⟨v, k1.fr k3 (fun e => by rcases e with e | e <;> omega)⟩,
    ⟨v', m1.fr k3 (fun e => by rcases e with e | e <;> omega), m2.fr k3 (fun k e => by rcases e with e | e; exact .inl e; exact .inr (.inl e)) (fun e => by rcases e with e | e <;> omega)⟩, h.p.fr k3 (fun e => by rcases e with e | e <;> omega), h.bw.trans (k3.below h.bw.size (fun i e => by rcases e with e | e <;> omega))⟩
/-- the same, for the clone -/
theorem LC.turn (h : LC w t b t2 b2 g8 g11 hs ks a) : LC w t2 b2 t b g11 g8 ks hs a := by
  obtain ⟨v, k1, k2⟩ := h.k
  obtain ⟨v', m1, m2⟩ := h.m
  exact ⟨h.y, h.x, ⟨v', m1, m2.mono (fun k _ e => by rcases e with e | e | e | e | e | e <;> simp [e])⟩, ⟨v, k1, k2.mono (fun k _ e => by rcases e with e | e | e | e | e | e <;> simp [e])⟩, h.p, h.bw⟩
theorem NC.turn (n : NC w t b t2 b2 g8 g11) : NC w t2 b2 t b g11 g8 := ⟨by have := n.a; omega, by have := n.l; omega, n.p⟩
end

set_option maxHeartbeats 16000000 in
set_option maxRecDepth 100000 in
theorem walk0 (w : World) (vi : Value) (inp : List Hd) (hin : Arr 66 Any w vi (rows inp)) (hok : ∀ h ∈ inp, h.Ok) (v1 : Value) (one : List Hd) (hin1 : Arr 66 Any w v1 (rows one)) (hok1 : ∀ h ∈ one, h.Ok) (v2 : Value) (two : List Hd) (hin2 : Arr 66 Any w v2 (rows two)) (hok2 : ∀ h ∈ two, h.Ok) (hb : inp.length + one.length + two.length ≤ 1048576) (hP : TabB w 1) (hR : TabB w 0) :
    Calls Tryd.prog 5 #[vi, v1, v2] w fun e w' => e = .returned (.bool true) ∧ Below w.heap.size w w' := by
  obtain ⟨ai, ci, rfl, hci, hcm, _⟩ := hin.form
  rw [rows_len] at hin hci ⊢
  unfold maxLen at hcm
  have hp := (Array.getElem?_eq_some_iff.1 hP.choose_spec.choose_spec).1
  have hr := (Array.getElem?_eq_some_iff.1 hR.choose_spec.choose_spec).1
  have HPL := Lib.hid hp
  have HRL := Lib.hid hr
  have HP := Lib.hid hP
  have HR := Lib.hid hR
  obtain ⟨ai1, ci1, rfl, hci1, hcm1, _⟩ := hin1.form
  obtain ⟨ai2, ci2, rfl, hci2, hcm2, _⟩ := hin2.form
  rw [rows_len] at hin1 hci1 hin2 hci2 ⊢
  rw [rows_len]
  unfold maxLen at hcm1 hcm2
  have HIN1 := Lib.hid hin1
  have HIN2 := Lib.hid hin2
  have HOK1 := Lib.hid hok1
  have HOK2 := Lib.hid hok2
  clear hin1 hin2 hok1 hok2
  rcases inp with _ | ⟨fst, rst⟩
  · clear hp hr hP hR
    go_enter Tryd.func5, Tryd.ntmps5
    go_wp2
    go_ret
    exact ⟨rfl, Below.refl _ _⟩
  obtain ⟨sa, sc, hq1, hq2, hsl0, ha1⟩ := run_slice_arr elemH hin 1 (rows (fst :: rst)).length (by simp [rows]) (Nat.le_refl _)
  have hsl := hsl0 rfl .i64
  have HA1 := Lib.hid (show Arr 66 Any w (.slice sa rst.length sc) (rows rst) from by
    have e : ((rows (fst :: rst)).take (rows (fst :: rst)).length).drop 1 = rows rst := by rw [List.take_length]; rfl
    rw [e] at ha1
    simpa [rows] using ha1)
  have hsl2 : ∀ w', (Instr.sliceAt 22 (.slice ai (fst :: rst).length ci) (some (.int .i64 1)) none none).run Tryd.prog w' = .ok (.slice sa rst.length sc) w' := fun w' => by
    have := hsl w'
    rw [rows_len] at this
    simpa [rows] using this
  have OKF := Lib.hid (hok fst (by simp))
  have HOKR := Lib.hid (show ∀ h ∈ rst, h.Ok from fun h hh => hok h (by simp [hh]))
  obtain ⟨bi, oi, ci', e0, _, r0⟩ := hin.at 0 (by simp [rows])
  rw [rows_len] at e0
  cases e0
  have HR0 := Lib.hid (show ∀ w', Below w.heap.size w w' → w'.rangeAt bi oi fst.cells from fun w' hb => by
    have h1 : w.rangeAt bi oi fst.cells := by have := r0; simpa [rows] using this
    exact Arr.rangeAt_fr h1 (Fr.ofBelow hb) (by have := Arr.rangeAt_lt h1 (by intro e; have := OKF.out.len; rw [e] at this; simp at this); show ¬ w.heap.size ≤ bi; omega))
  have hl1 : rst.length + 1 = (fst :: rst).length := rfl
  have hn2 : (rst.length + 2) * 80 ≤ 140737488355328 := by simp only [List.length_cons] at hb; omega
  have h0l : (0 : Int) < (((fst :: rst).length : Nat) : Int) := by simp
  have hz0 : ((((fst :: rst).length : Nat) : Int) == 0) = false := by simp; omega
  have h0n : 0 < (fst :: rst).length := by simp
  clear hp hr hP hR hin hok ha1 hsl r0 hq1 hq2 hsl0
  generalize (fst :: rst).length = nl at *
  go_enter Tryd.func5, Tryd.ntmps5
  go_upto_region 3 with fail
  obtain ⟨hs, hhs⟩ : ∃ x, fedL [fst] rst = x := ⟨_, rfl⟩
  have hb1 : rst.length + 1 + one.length + two.length ≤ 1048576 := by omega
  go_cut [7, 8, 9] (fun x y z wx => ∃ t b g6 v, x = .pointer (some ⟨t, 0, none⟩) ∧ y = .pointer (some ⟨g6, 0, none⟩) ∧ z = .bool true ∧ LE w t b g6 v hs wx)
  case first =>
    subst hhs
    refine wp_region_held_drew (S := (fun w' => Below w.heap.size w w')) (by kernel_rfl) (below_drew (Below.refl _ _)) (fun hHeld => ?_)
    refine wpAnyH_take (i := 0) (oi := ⟨_, _, _, _, _, _⟩) (v := ?_) rfl (by kernel_rfl) (by kernel_rfl) (by kernel_rfl) (fun _ _ _ h => h) (Or.inl ⟨by rfl, ?_⟩) (by assumption) ?_
    rotate_left
    · intro w hSw; go_simp; try (with_reducible rfl)
    try simp only [Act.put, List.setIfInBounds_toArray, List.set_cons_zero, List.set_cons_succ]
    refine wpAnyH_take (i := 1) (oi := ⟨_, _, _, _, _, _⟩) (v := ?_) rfl (by kernel_rfl) (by kernel_rfl) (by kernel_rfl) (fun _ _ _ h => h) (Or.inl ⟨by rfl, ?_⟩) (by assumption) ?_
    rotate_left
    · intro w hSw; go_simp; try (with_reducible rfl)
    try simp only [Act.put, List.setIfInBounds_toArray, List.set_cons_zero, List.set_cons_succ]
    refine wpAnyH_take (i := 2) (oi := ⟨_, _, _, _, _, _⟩) rfl (by kernel_rfl) (by kernel_rfl) (by kernel_rfl) (fun _ _ _ h => h) (yieldsIf_load_mid (by rfl) _ _ rfl bi oi rfl fst.cells _ (fun _ h => HR0.out _ h) Tryd.underlying32 rfl (szH OKF.out)) (by assumption) ?_
    try simp only [Act.put, List.setIfInBounds_toArray, List.set_cons_zero, List.set_cons_succ]
    refine wpAnyH_take (i := 3) (oi := ⟨_, _, _, _, _, _⟩) (v := ?_) rfl (by kernel_rfl) (by kernel_rfl) (by kernel_rfl) (fun _ _ _ h => h) (Or.inl ⟨by rfl, ?_⟩) (by assumption) ?_
    rotate_left
    · intro w hSw; go_simp; try (with_reducible rfl)
    try simp only [Act.put, List.setIfInBounds_toArray, List.set_cons_zero, List.set_cons_succ]
    refine wpAnyH_take (i := 4) (oi := ⟨_, _, _, _, _, _⟩) (v := ?_) rfl (by kernel_rfl) (by kernel_rfl) (by kernel_rfl) (fun _ _ _ h => h) (Or.inl ⟨by rfl, ?_⟩) (by assumption) ?_
    rotate_left
    · intro w hSw; go_simp; try (with_reducible rfl)
    try simp only [Act.put, List.setIfInBounds_toArray, List.set_cons_zero, List.set_cons_succ]
    refine wpAnyH_ready (rs := [5, 10]) (by kernel_rfl) (by simp) ?_
    refine AllReadyH.cons (o := ⟨_, _, _, _, _, _⟩) rfl (fun K hK => ?_) (AllReadyH.cons (o := ⟨_, _, _, _, _, _⟩) rfl (fun K hK => ?_) AllReadyH.nil)
    · have hsz := hHeld.size
      go_simp
      refine (fed_calls _ fst OKF.out (.slice sa rst.length sc) rst (HA1.out.below (by omega) hHeld) HOKR.out (by omega) (HP.out.below hHeld) (HR.out.below hHeld)).mono ?_
      rintro e wz ⟨t, b, v, rfl, n1, n2, x1, r1, gz⟩
      refine hK.out _ _ (by exact hHeld.trans (gz.mono hHeld.size)) (fun hHeld => ?_)
      clear hK
      try simp only [Act.put, List.setIfInBounds_toArray, List.set_cons_zero, List.set_cons_succ]
      have hx1 := x1.lt.1
      have hx2 := x1.lt.2
      refine wpAnyH_take (i := 6) (oi := ⟨_, _, _, _, _, _⟩) (v := ?_) rfl (by kernel_rfl) (by kernel_rfl) (by kernel_rfl) (fun _ _ _ h => h) (Or.inl ⟨by rfl, ?_⟩) (by assumption) ?_
      rotate_left
      · intro w hSw; go_simp; try (with_reducible rfl)
      try simp only [Act.put, List.setIfInBounds_toArray, List.set_cons_zero, List.set_cons_succ]
      refine wpAnyH_take (i := 7) (oi := ⟨_, _, _, _, _, _⟩) (v := ?_) rfl (by kernel_rfl) (by kernel_rfl) (by kernel_rfl) (fun _ _ _ h => h) (Or.inl ⟨by rfl, ?_⟩) (by assumption) ?_
      rotate_left
      · intro w hSw; go_simp; try (with_reducible rfl)
      try simp only [Act.put, List.setIfInBounds_toArray, List.set_cons_zero, List.set_cons_succ]
      refine wpAnyH_take (i := 8) (oi := ⟨_, _, _, _, _, _⟩) (v := ?_) rfl (by kernel_rfl) (by kernel_rfl) (by kernel_rfl) (fun _ _ _ h => h) (Or.inl ⟨by rfl, ?_⟩) (by assumption) ?_
      rotate_left
      · intro w hSw; go_simp; try (with_reducible rfl)
      try simp only [Act.put, List.setIfInBounds_toArray, List.set_cons_zero, List.set_cons_succ]
      refine wpAnyH_take (i := 9) (oi := ⟨_, _, _, _, _, _⟩) (v := ?_) rfl (by kernel_rfl) (by kernel_rfl) (by kernel_rfl) (fun _ _ _ h => h) (Or.inl ⟨by rfl, ?_⟩) (by assumption) ?_
      rotate_left
      · intro w hSw; go_simp; try (with_reducible rfl)
      try simp only [Act.put, List.setIfInBounds_toArray, List.set_cons_zero, List.set_cons_succ]
      refine wpAnyH_ready (rs := [10]) (by kernel_rfl) (by simp) ?_
      refine AllReadyH.cons (o := ⟨_, _, _, _, _, _⟩) rfl (fun K hK => ?_) AllReadyH.nil
      rw [if_pos (by rfl)]
      refine wp_alloc _ rfl _ (zeroT _) (fun wa ka ba za => ?_)
      refine hK.out _ _ (by exact hHeld.trans (ba.mono hHeld.size)) (fun hHeld => ?_)
      clear hK
      refine wpAnyH_take (i := 11) (oi := ⟨_, _, _, _, _, _⟩) (v := ?_) rfl (by kernel_rfl) (by kernel_rfl) (by kernel_rfl) (fun _ _ _ h => h) (Or.inl ⟨by rfl, ?_⟩) (by assumption) ?_
      rotate_left
      · intro w hSw; go_simp; try (with_reducible rfl)
      try simp only [Act.put, List.setIfInBounds_toArray, List.set_cons_zero, List.set_cons_succ]
      refine wpAnyH_ready (rs := [12]) (by kernel_rfl) (by simp) ?_
      refine AllReadyH.cons (o := ⟨_, _, _, _, _, _⟩) rfl (fun K hK => ?_) AllReadyH.nil
      rw [if_pos (by rfl)]
      refine wp_put _ _ _ rfl _ [v] _ rfl rfl ka (szRT _) rfl (by obtain ⟨_, _, rfl, _⟩ := r1.form; exact one_slice _ _ _) (fun wb kb fb zb => ?_)
      refine hK.out _ _ (by exact hHeld.trans (fb.below hHeld.size (fun k (hk : k = _) => by omega))) (fun hHeld => ?_)
      clear hK
      refine wpAnyH_take (i := 13) (oi := ⟨_, _, _, _, _, _⟩) (v := ?_) rfl (by kernel_rfl) (by kernel_rfl) (by kernel_rfl) (fun _ _ _ h => h) (Or.inl ⟨by rfl, ?_⟩) (by assumption) ?_
      rotate_left
      · intro w hSw; go_simp; try (with_reducible rfl)
      try simp only [Act.put, List.setIfInBounds_toArray, List.set_cons_zero, List.set_cons_succ]
      refine wpAnyH_done (by kernel_rfl) ?_ _
      go_wp2
      go_meet
      case rel => exact ⟨t, b, _, v, rfl, rfl, rfl, x1.below (new_put rfl ba fb), (r1.mono (worse := fun k => k = t ∨ k = b ∨ k = wz.heap.size) (fun k hk e => by rcases e with e | e | e; exact .inl e; exact .inr (.inl e); omega)).below (new_put rfl ba fb), kb, hHeld, by omega, by omega, by omega, by omega, by omega⟩
    · have hsz := hHeld.size
      rw [if_pos (by rfl)]
      refine wp_alloc _ rfl _ (zeroT _) (fun wa ka ba za => ?_)
      refine hK.out _ _ (by exact hHeld.trans (ba.mono hHeld.size)) (fun hHeld => ?_)
      clear hK
      try simp only [Act.put, List.setIfInBounds_toArray, List.set_cons_zero, List.set_cons_succ]
      try simp only [show ∀ x : World, x.drew.heap.size = x.heap.size from fun _ => rfl] at za hsz
      refine wpAnyH_ready (rs := [5]) (by kernel_rfl) (by simp) ?_
      refine AllReadyH.cons (o := ⟨_, _, _, _, _, _⟩) rfl (fun K hK => ?_) AllReadyH.nil
      go_simp
      refine (fed_calls _ fst OKF.out (.slice sa rst.length sc) rst (HA1.out.below (by omega) hHeld) HOKR.out (by omega) (HP.out.below hHeld) (HR.out.below hHeld)).mono ?_
      rintro e wz ⟨t, b, v, rfl, n1, n2, x1, r1, gz⟩
      refine hK.out _ _ (by exact hHeld.trans (gz.mono hHeld.size)) (fun hHeld => ?_)
      clear hK
      refine wpAnyH_take (i := 6) (oi := ⟨_, _, _, _, _, _⟩) (v := ?_) rfl (by kernel_rfl) (by kernel_rfl) (by kernel_rfl) (fun _ _ _ h => h) (Or.inl ⟨by rfl, ?_⟩) (by assumption) ?_
      rotate_left
      · intro w hSw; go_simp; try (with_reducible rfl)
      try simp only [Act.put, List.setIfInBounds_toArray, List.set_cons_zero, List.set_cons_succ]
      refine wpAnyH_take (i := 7) (oi := ⟨_, _, _, _, _, _⟩) (v := ?_) rfl (by kernel_rfl) (by kernel_rfl) (by kernel_rfl) (fun _ _ _ h => h) (Or.inl ⟨by rfl, ?_⟩) (by assumption) ?_
      rotate_left
      · intro w hSw; go_simp; try (with_reducible rfl)
      try simp only [Act.put, List.setIfInBounds_toArray, List.set_cons_zero, List.set_cons_succ]
      refine wpAnyH_take (i := 8) (oi := ⟨_, _, _, _, _, _⟩) (v := ?_) rfl (by kernel_rfl) (by kernel_rfl) (by kernel_rfl) (fun _ _ _ h => h) (Or.inl ⟨by rfl, ?_⟩) (by assumption) ?_
      rotate_left
      · intro w hSw; go_simp; try (with_reducible rfl)
      try simp only [Act.put, List.setIfInBounds_toArray, List.set_cons_zero, List.set_cons_succ]
      refine wpAnyH_take (i := 9) (oi := ⟨_, _, _, _, _, _⟩) (v := ?_) rfl (by kernel_rfl) (by kernel_rfl) (by kernel_rfl) (fun _ _ _ h => h) (Or.inl ⟨by rfl, ?_⟩) (by assumption) ?_
      rotate_left
      · intro w hSw; go_simp; try (with_reducible rfl)
      try simp only [Act.put, List.setIfInBounds_toArray, List.set_cons_zero, List.set_cons_succ]
      refine wpAnyH_take (i := 11) (oi := ⟨_, _, _, _, _, _⟩) (v := ?_) rfl (by kernel_rfl) (by kernel_rfl) (by kernel_rfl) (fun _ _ _ h => h) (Or.inl ⟨by rfl, ?_⟩) (by assumption) ?_
      rotate_left
      · intro w hSw; go_simp; try (with_reducible rfl)
      try simp only [Act.put, List.setIfInBounds_toArray, List.set_cons_zero, List.set_cons_succ]
      refine wpAnyH_ready (rs := [12]) (by kernel_rfl) (by simp) ?_
      refine AllReadyH.cons (o := ⟨_, _, _, _, _, _⟩) rfl (fun K hK => ?_) AllReadyH.nil
      rw [if_pos (by rfl)]
      have hx1 := x1.lt.1
      have hx2 := x1.lt.2
      refine wp_put _ _ _ rfl _ [v] _ rfl rfl (ka.below gz) (szRT _) rfl (by obtain ⟨_, _, rfl, _⟩ := r1.form; exact one_slice _ _ _) (fun wb kb fb zb => ?_)
      refine hK.out _ _ (by exact hHeld.trans (fb.below hHeld.size (fun k (hk : k = _) => by omega))) (fun hHeld => ?_)
      clear hK
      refine wpAnyH_take (i := 13) (oi := ⟨_, _, _, _, _, _⟩) (v := ?_) rfl (by kernel_rfl) (by kernel_rfl) (by kernel_rfl) (fun _ _ _ h => h) (Or.inl ⟨by rfl, ?_⟩) (by assumption) ?_
      rotate_left
      · intro w hSw; go_simp; try (with_reducible rfl)
      try simp only [Act.put, List.setIfInBounds_toArray, List.set_cons_zero, List.set_cons_succ]
      refine wpAnyH_done (by kernel_rfl) ?_ _
      go_wp2
      go_meet
      case rel => exact ⟨t, b, _, v, rfl, rfl, rfl, x1.fr fb (by omega) (by omega), (r1.fr fb (fun k (hk : k = _) => .inr (.inr (by omega))) (by have := HRL.out; show ¬ 0 = _; omega)).mono (fun k _ e => by rcases e with e | e | e; exact .inl e; exact .inr (.inl e); exact .inr (.inr (by omega))), kb, hHeld, by omega, by omega, by omega, by omega, by omega⟩
  case rest =>
    obtain ⟨t, b, g6, v, rfl, rfl, rfl, hL⟩ := hcut
    obtain ⟨av, cv, rfl, hq1, hq2, _⟩ := hL.r.form
    unfold maxLen at hq2
    have HT := Lib.hid (show Trk hs by rw [← hhs]; exact trk_fed (Trk.one OKF.out) _ HOKR.out)
    have hlen : hs.length ≤ rst.length + 1 := by rw [← hhs]; have := fedL_len [fst] rst; simp at this; omega
    have LW := Lib.hid hL
    clear hhs hL
    have hl1 := LW.out.x.lt.1
    have hl2 := LW.out.x.lt.2
    have hl3 := LW.out.k.lt
    have hl4 := LW.out.x.choose_spec.choose_spec.2.2.2.2
    have hww := LW.out.bw.size
    have PR := Lib.hid (HP.out.below LW.out.bw)
    have RX := Lib.hid (show RO (fun k => k = t ∨ k = b ∨ k = g6 ∨ wc.heap.size ≤ k) wc (.slice av hs.length cv) hs from LW.out.r.mono (fun k hk e => by rcases e with e | e | e | e; exact .inl e; exact .inr (.inl e); exact .inr (.inr e); omega))
    have hm1 := LW.out.n1
    have hm2 := LW.out.n2
    have hm3 := LW.out.n3
    have hm4 := LW.out.n4
    have hm5 := LW.out.n5
    go_wp2_with fail
    refine (clone_calls wc t b hs LW.out.x).mono ?_
    rintro e wk ⟨t2, b2, rfl, p1, p2, yc, cc⟩
    have hy1 := yc.lt.1
    have hy2 := yc.lt.2
    have hy3 := yc.choose_spec.choose_spec.2.2.2.2
    have YC := Lib.hid yc
    have XC := Lib.hid (LW.out.x.below cc)
    have KC := Lib.hid (LW.out.k.below cc)
    have RC := Lib.hid (RX.out.below cc)
    have PC := Lib.hid (PR.out.below cc)
    have BC := Lib.hid (LW.out.bw.trans (cc.mono hww))
    have hcs := cc.size
    clear yc cc LW RX PR
    go_upto_region 10 with (first
      | (with_reducible refine wpList_load_blk rfl _ _ rfl g6 [.slice av hs.length cv] rfl KC.out _ Tryd.underlying27 rfl (szRT _) ?_)
      | ((with_reducible refine wpList_alloc rfl _ rfl _ (zeroT _) (fun wd kd cd zd => ?_)); have KD := Lib.hid kd; have CD := Lib.hid cd; clear kd cd)
      | ((with_reducible refine wpList_put rfl _ _ _ rfl wk.heap.size [.slice av hs.length cv] _ rfl rfl KD.out (szRT _) rfl (one_slice _ _ _) (fun we ke fe ze => ?_)); have KE := Lib.hid ke; have CE := Lib.hid (new_put rfl CD.out fe); clear ke fe))
    have HNC := Lib.hid (show NC w t b t2 b2 g6 wk.heap.size from ⟨by omega, by omega, HPL.out, HRL.out⟩)
    have HST := Lib.hid (show LC w t b t2 b2 g6 wk.heap.size hs hs we from by
      have RE := (RC.out.mono (worse := fun k => k = t ∨ k = b ∨ k = t2 ∨ k = b2 ∨ k = g6 ∨ k = wk.heap.size) (fun k hk e => by rcases e with e | e | e | e | e | e; exact .inl e; exact .inr (.inl e); exact .inr (.inr (.inr (by omega))); exact .inr (.inr (.inr (by omega))); exact .inr (.inr (.inl e)); omega)).below CE.out
      exact ⟨XC.out.below CE.out, YC.out.below CE.out, ⟨_, KC.out.below CE.out, RE⟩, ⟨_, KE.out, RE⟩, PC.out.below CE.out, BC.out.trans (CE.out.mono BC.out.size)⟩)
    clear XC YC KC RC PC BC KE KD CD CE
    generalize wk.heap.size = g11 at *
    have HNT := Lib.hid HNC.out.turn
    have HT0 := Lib.hid HT
    have hlen0 := hlen
    clear HT hlen
    go_wp2
    go_loopw [42] (fun i' wx => ∃ i : Nat, i ≤ one.length ∧ i' = .int .i64 (i : Int) ∧ LC w t b t2 b2 g6 g11 (fedL hs (one.take i)) hs wx) (fun i' _ => one.length - (intOf i').toNat)
    case atStart => exact ⟨0, Nat.zero_le _, rfl, HST.out⟩
    case round =>
      obtain ⟨i, hi, rfl, hS⟩ := hrel
      have SX := Lib.hid hS
      obtain ⟨cs, hhs⟩ : ∃ x, fedL hs (one.take i) = x := ⟨_, rfl⟩
      have hlen : cs.length ≤ hs.length + i := by rw [← hhs]; have := fedL_len hs (one.take i); simp at this; omega
      have HTK := Lib.hid (show Trk cs by rw [← hhs]; exact trk_fed HT0.out _ (fun x hx => HOK1.out x (List.mem_of_mem_take hx)))
      rw [hhs] at SX
      have HHS := Lib.hid hhs
      clear hS hhs
      by_cases hlt : i < one.length
      · obtain ⟨bi, oi, ci', e0, _, r0⟩ := HIN1.out.at i (by rw [rows_len]; exact hlt)
        rw [rows_len] at e0
        cases e0
        obtain ⟨g, hg⟩ : ∃ g, one[i]'hlt = g := ⟨_, rfl⟩
        have HRG := Lib.hid (show wr.rangeAt bi (oi + i * 66) g.cells from by
          have h1 := Arr.rangeAt_fr r0 (Fr.ofBelow SX.out.bw) (by have := Arr.rangeAt_lt r0 (by rw [rows_get hlt]; intro e; have := (HOK1.out _ (List.getElem_mem hlt)).len; rw [e] at this; simp at this); show ¬ w.heap.size ≤ bi; omega)
          rw [rows_get hlt, hg] at h1
          exact h1)
        have OKG := Lib.hid (show g.Ok from by rw [← hg]; exact HOK1.out _ (List.getElem_mem hlt))
        have HNX := Lib.hid (show fedL hs (one.take (i + 1)) = addL cs g by rw [List.take_add_one, List.getElem?_eq_getElem hlt, hg]; show fedL _ (_ ++ [g]) = _; rw [fedL_snoc, HHS.out])
        have hltI : (i : Int) < (one.length : Int) := by omega
        have h0I : (0 : Int) ≤ (i : Int) := by omega
        have hww := SX.out.bw.size
        clear hg r0
        have HZL := Lib.hid (show zeroH.cells.length = g.cells.length by rw [zeroH_len, OKG.out.len])
        go_upto_region 13 with (first
          | (with_reducible refine wpList_load_mid rfl _ _ rfl bi (oi + i * 66) rfl g.cells _ HRG.out Tryd.underlying32 rfl (szH OKG.out) ?_)
          | ((with_reducible refine wpList_alloc rfl _ rfl _ (zeroV _) (fun wa ka ca za => ?_)); have KA := Lib.hid ka; have CA := Lib.hid ca; clear ka ca)
          | ((with_reducible refine wpList_put rfl _ _ _ rfl wr.heap.size g.cells _ rfl rfl KA.out (szH OKG.out) HZL.out g.one (fun wb kb fb zb => ?_)); have KB := Lib.hid kb; have CB := Lib.hid (new_put rfl CA.out fb); have SB := Lib.hid (SX.out.below CB.out); clear kb fb))
        clear KA CA HRG CB
        obtain ⟨v9, kv, rv9⟩ := SB.out.k
        obtain ⟨av, cv, rfl, _⟩ := rv9.form
        have HV := Lib.hid kv
        have RV := Lib.hid rv9
        have hgb : wr.heap.size < wb.heap.size := KB.out.lt
        have hn1 := SX.out.x.lt.1
        have hn2 := SX.out.x.lt.2
        have hn3 := SX.out.y.lt.1
        have hn4 := SX.out.y.lt.2
        have hn5 := SX.out.k.choose_spec.1.lt
        have hn6 := SX.out.m.choose_spec.1.lt
        clear kv rv9
        generalize wr.heap.size = gb at *
        go_wp2_with (first | (with_reducible refine wpList_load_blk rfl _ _ rfl g6 [.slice av cs.length cv] rfl HV.out _ Tryd.underlying27 rfl (szRT _) ?_) | (with_reducible refine wpList_load_blk rfl _ _ rfl gb g.cells rfl KB.out _ Tryd.underlying32 rfl (szH OKG.out) ?_))
        refine (radd_calls _ wb _ cs HTK.out.ok g OKG.out (by omega) (fun k hk => hk.1) RV.out).mono ?_
        rintro e wc ⟨v', rfl, r', cc⟩
        obtain ⟨av2, cv2, rfl, _⟩ := r'.form
        have RC := Lib.hid (RO.of r' (fun k e => by rcases e with e | e | e | e | e | e <;> omega))
        have SC := Lib.hid (SB.out.below cc)
        have KBC := Lib.hid (KB.out.below cc)
        have hsc := cc.size
        clear r' cc RV HV KB SB
        go_upto_region 14 with (first
          | ((with_reducible refine wpList_alloc rfl _ rfl _ (zeroT _) (fun wd kd cd zd => ?_)); have KD := Lib.hid kd; have CD := Lib.hid cd; clear kd cd)
          | ((with_reducible refine wpList_put rfl _ _ _ rfl wc.heap.size [.slice av2 (addL cs g).length cv2] _ rfl rfl KD.out (szRT _) rfl (one_slice _ _ _) (fun we ke fe ze => ?_)); have KE := Lib.hid ke; have CE := Lib.hid (new_put rfl CD.out fe); clear ke fe))
        have SE := Lib.hid (SC.out.below CE.out)
        have RE := Lib.hid (RC.out.below CE.out)
        have KBE := Lib.hid (KBC.out.below CE.out)
        have hgd : wc.heap.size < we.heap.size := KE.out.lt
        clear SC RC KBC KD CD CE
        generalize wc.heap.size = gd at *
        go_wp2_with (first | (with_reducible refine wpList_load_blk rfl _ _ rfl gb g.cells rfl KBE.out _ Tryd.underlying32 rfl (szH OKG.out) ?_))
        refine (add_calls we t b cs HTK.out g OKG.out SE.out.x SE.out.p).mono ?_
        rintro e wf hA
        obtain ⟨xf, yf, ⟨old, kf⟩, mf, pf, bf⟩ := SE.out.addx HNC.out hA
        have hnc := HNC.out
        have hf0 := hA.2.2
        obtain rfl := hA.1
        have RF := Lib.hid (RE.out.fr hf0 (fun k hk => by rcases hk with hk | hk; exact .inl hk; exact .inr (.inl hk)) (fun e => by have := hnc.l; have := hnc.p; rcases e with e | e <;> omega))
        have KF := Lib.hid (KE.out.fr hf0 (fun e => by rcases e with e | e <;> omega))
        have XF := Lib.hid xf
        have YF := Lib.hid yf
        have K9 := Lib.hid kf
        have MF := Lib.hid mf
        have PF := Lib.hid pf
        have BF := Lib.hid bf
        have hbf := bf.size
        obtain ⟨n, hn⟩ : ∃ n, addE cs g = n := ⟨_, rfl⟩
        rw [hn]
        have hnn : (n != n) = false := by simp
        clear hA SE RE KBE KE hn xf yf kf mf pf bf hf0 hnc
        go_wp2_with (first
          | (with_reducible refine wpList_load_blk rfl _ _ rfl gd [.slice av2 (addL cs g).length cv2] rfl KF.out _ Tryd.underlying27 rfl (szRT _) ?_)
          | ((with_reducible refine wpList_put rfl _ _ _ rfl g6 [.slice av2 (addL cs g).length cv2] _ rfl rfl K9.out (szRT _) rfl (one_slice _ _ _) (fun wg kg fg zg => ?_)); have KG := Lib.hid kg; have FG := Lib.hid fg; clear kg fg))
        have HSG := Lib.hid (show LC w t b t2 b2 g6 g11 (addL cs g) hs wg from by
          have h1 := HNC.out.a
          have h2 := HNC.out.l
          have h3 := HNC.out.p
          obtain ⟨vm, m1, m2⟩ := MF.out
          exact ⟨XF.out.fr FG.out (by omega) (by omega), YF.out.fr FG.out (by omega) (by omega), ⟨_, KG.out, RF.out.fr FG.out (fun k hk => .inr (.inr (.inr (.inr (.inl hk))))) (by omega)⟩, ⟨vm, m1.fr FG.out (by omega), m2.fr FG.out (fun k hk => .inr (.inr (.inr (.inr (.inl hk))))) (by omega)⟩, PF.out.fr FG.out (by omega), BF.out.trans (FG.out.below hbf (fun k (hk : k = g6) => by omega))⟩)
        go_roundw
        case rel => exact ⟨i + 1, by omega, by go_num, by rw [HNX.out]; exact HSG.out⟩
        case measure => simp [intOf]; omega
      · obtain rfl : i = one.length := by omega
        have S1 := Lib.hid SX.out
        have HTK1 := Lib.hid HTK.out
        have hlen1 := hlen
        clear SX HTK hlen HHS
        go_wp2
        go_loopw [61] (fun i' wx => ∃ i : Nat, i ≤ two.length ∧ i' = .int .i64 (i : Int) ∧ LC w t2 b2 t b g11 g6 (fedL hs (two.take i)) cs wx) (fun i' _ => two.length - (intOf i').toNat)
        case atStart => exact ⟨0, Nat.zero_le _, rfl, S1.out.turn⟩
        case round =>
          obtain ⟨i, hi, rfl, hS⟩ := hrel
          have SX := Lib.hid hS
          obtain ⟨ds, hhs⟩ : ∃ x, fedL hs (two.take i) = x := ⟨_, rfl⟩
          have hlen : ds.length ≤ hs.length + i := by rw [← hhs]; have := fedL_len hs (two.take i); simp at this; omega
          have HTK := Lib.hid (show Trk ds by rw [← hhs]; exact trk_fed HT0.out _ (fun x hx => HOK2.out x (List.mem_of_mem_take hx)))
          rw [hhs] at SX
          have HHS := Lib.hid hhs
          clear hS hhs
          by_cases hlt : i < two.length
          · obtain ⟨bi, oi, ci', e0, _, r0⟩ := HIN2.out.at i (by rw [rows_len]; exact hlt)
            rw [rows_len] at e0
            cases e0
            obtain ⟨g, hg⟩ : ∃ g, two[i]'hlt = g := ⟨_, rfl⟩
            have HRG := Lib.hid (show wr.rangeAt bi (oi + i * 66) g.cells from by
              have h1 := Arr.rangeAt_fr r0 (Fr.ofBelow SX.out.bw) (by have := Arr.rangeAt_lt r0 (by rw [rows_get hlt]; intro e; have := (HOK2.out _ (List.getElem_mem hlt)).len; rw [e] at this; simp at this); show ¬ w.heap.size ≤ bi; omega)
              rw [rows_get hlt, hg] at h1
              exact h1)
            have OKG := Lib.hid (show g.Ok from by rw [← hg]; exact HOK2.out _ (List.getElem_mem hlt))
            have HNX := Lib.hid (show fedL hs (two.take (i + 1)) = addL ds g by rw [List.take_add_one, List.getElem?_eq_getElem hlt, hg]; show fedL _ (_ ++ [g]) = _; rw [fedL_snoc, HHS.out])
            have hltI : (i : Int) < (two.length : Int) := by omega
            have h0I : (0 : Int) ≤ (i : Int) := by omega
            have hww := SX.out.bw.size
            clear hg r0
            have HZL := Lib.hid (show zeroH.cells.length = g.cells.length by rw [zeroH_len, OKG.out.len])
            go_upto_region 21 with (first
              | (with_reducible refine wpList_load_mid rfl _ _ rfl bi (oi + i * 66) rfl g.cells _ HRG.out Tryd.underlying32 rfl (szH OKG.out) ?_)
              | ((with_reducible refine wpList_alloc rfl _ rfl _ (zeroV _) (fun wa ka ca za => ?_)); have KA := Lib.hid ka; have CA := Lib.hid ca; clear ka ca)
              | ((with_reducible refine wpList_put rfl _ _ _ rfl wr.heap.size g.cells _ rfl rfl KA.out (szH OKG.out) HZL.out g.one (fun wb kb fb zb => ?_)); have KB := Lib.hid kb; have CB := Lib.hid (new_put rfl CA.out fb); have SB := Lib.hid (SX.out.below CB.out); clear kb fb))
            clear KA CA HRG CB
            obtain ⟨v9, kv, rv9⟩ := SB.out.k
            obtain ⟨av, cv, rfl, _⟩ := rv9.form
            have HV := Lib.hid kv
            have RV := Lib.hid rv9
            have hgb : wr.heap.size < wb.heap.size := KB.out.lt
            have hn1 := SX.out.x.lt.1
            have hn2 := SX.out.x.lt.2
            have hn3 := SX.out.y.lt.1
            have hn4 := SX.out.y.lt.2
            have hn5 := SX.out.k.choose_spec.1.lt
            have hn6 := SX.out.m.choose_spec.1.lt
            clear kv rv9
            generalize wr.heap.size = gb at *
            go_wp2_with (first | (with_reducible refine wpList_load_blk rfl _ _ rfl g11 [.slice av ds.length cv] rfl HV.out _ Tryd.underlying27 rfl (szRT _) ?_) | (with_reducible refine wpList_load_blk rfl _ _ rfl gb g.cells rfl KB.out _ Tryd.underlying32 rfl (szH OKG.out) ?_))
            refine (radd_calls _ wb _ ds HTK.out.ok g OKG.out (by omega) (fun k hk => hk.1) RV.out).mono ?_
            rintro e wc ⟨v', rfl, r', cc⟩
            obtain ⟨av2, cv2, rfl, _⟩ := r'.form
            have RC := Lib.hid (RO.of r' (fun k e => by rcases e with e | e | e | e | e | e <;> omega))
            have SC := Lib.hid (SB.out.below cc)
            have KBC := Lib.hid (KB.out.below cc)
            have hsc := cc.size
            clear r' cc RV HV KB SB
            go_upto_region 22 with (first
              | ((with_reducible refine wpList_alloc rfl _ rfl _ (zeroT _) (fun wd kd cd zd => ?_)); have KD := Lib.hid kd; have CD := Lib.hid cd; clear kd cd)
              | ((with_reducible refine wpList_put rfl _ _ _ rfl wc.heap.size [.slice av2 (addL ds g).length cv2] _ rfl rfl KD.out (szRT _) rfl (one_slice _ _ _) (fun we ke fe ze => ?_)); have KE := Lib.hid ke; have CE := Lib.hid (new_put rfl CD.out fe); clear ke fe))
            have SE := Lib.hid (SC.out.below CE.out)
            have RE := Lib.hid (RC.out.below CE.out)
            have KBE := Lib.hid (KBC.out.below CE.out)
            have hgd : wc.heap.size < we.heap.size := KE.out.lt
            clear SC RC KBC KD CD CE
            generalize wc.heap.size = gd at *
            go_wp2_with (first | (with_reducible refine wpList_load_blk rfl _ _ rfl gb g.cells rfl KBE.out _ Tryd.underlying32 rfl (szH OKG.out) ?_))
            refine (add_calls we t2 b2 ds HTK.out g OKG.out SE.out.x SE.out.p).mono ?_
            rintro e wf hA
            obtain ⟨xf, yf, ⟨old, kf⟩, mf, pf, bf⟩ := SE.out.addx HNT.out hA
            have hnc := HNT.out
            have hf0 := hA.2.2
            obtain rfl := hA.1
            have RF := Lib.hid (RE.out.fr hf0 (fun k hk => by rcases hk with hk | hk; exact .inl hk; exact .inr (.inl hk)) (fun e => by have := hnc.l; have := hnc.p; rcases e with e | e <;> omega))
            have KF := Lib.hid (KE.out.fr hf0 (fun e => by rcases e with e | e <;> omega))
            have XF := Lib.hid xf
            have YF := Lib.hid yf
            have K9 := Lib.hid kf
            have MF := Lib.hid mf
            have PF := Lib.hid pf
            have BF := Lib.hid bf
            have hbf := bf.size
            obtain ⟨n, hn⟩ : ∃ n, addE ds g = n := ⟨_, rfl⟩
            rw [hn]
            have hnn : (n != n) = false := by simp
            clear hA SE RE KBE KE hn xf yf kf mf pf bf hf0 hnc
            go_wp2_with (first
              | (with_reducible refine wpList_load_blk rfl _ _ rfl gd [.slice av2 (addL ds g).length cv2] rfl KF.out _ Tryd.underlying27 rfl (szRT _) ?_)
              | ((with_reducible refine wpList_put rfl _ _ _ rfl g11 [.slice av2 (addL ds g).length cv2] _ rfl rfl K9.out (szRT _) rfl (one_slice _ _ _) (fun wg kg fg zg => ?_)); have KG := Lib.hid kg; have FG := Lib.hid fg; clear kg fg))
            have HSG := Lib.hid (show LC w t2 b2 t b g11 g6 (addL ds g) cs wg from by
              have h1 := HNT.out.a
              have h2 := HNT.out.l
              have h3 := HNT.out.p
              obtain ⟨vm, m1, m2⟩ := MF.out
              exact ⟨XF.out.fr FG.out (by omega) (by omega), YF.out.fr FG.out (by omega) (by omega), ⟨_, KG.out, RF.out.fr FG.out (fun k hk => .inr (.inr (.inr (.inr (.inl hk))))) (by omega)⟩, ⟨vm, m1.fr FG.out (by omega), m2.fr FG.out (fun k hk => .inr (.inr (.inr (.inr (.inl hk))))) (by omega)⟩, PF.out.fr FG.out (by omega), BF.out.trans (FG.out.below hbf (fun k (hk : k = g11) => by omega))⟩)
            go_roundw
            case rel => exact ⟨i + 1, by omega, by go_num, by rw [HNX.out]; exact HSG.out⟩
            case measure => simp [intOf]; omega
          · obtain rfl : i = two.length := by omega
            obtain ⟨v1', kv1, rv1⟩ := SX.out.m
            obtain ⟨v2', kv2, rv2⟩ := SX.out.k
            obtain ⟨a1, c1, rfl, _⟩ := rv1.form
            obtain ⟨a2, c2, rfl, _⟩ := rv2.form
            have hne1 := HTK1.out.ne
            have hne2 := HTK.out.ne
            obtain ⟨ia, hia⟩ : ∃ x, bestId cs = x := ⟨_, rfl⟩
            have HB1 := Lib.hid hia
            have HB1L := Lib.hid (show ia.length = 32 by rw [← hia]; exact bestId_length cs)
            have hqa : ∀ w, (Op.equalIn 10000 24 (.agg (ia.map byt).toArray) (.agg (ia.map byt).toArray)).run Tryd.prog w = .ok true w := fun w => by rw [run_equal_u8 Tryd.underlying24 (i := _) rfl (by kernel_rfl) Tryd.underlying5 w ia ia HB1L.out HB1L.out]; simp
            clear hia
            obtain ⟨ib, hib⟩ : ∃ x, bestId ds = x := ⟨_, rfl⟩
            have HB2 := Lib.hid hib
            have HB2L := Lib.hid (show ib.length = 32 by rw [← hib]; exact bestId_length ds)
            have hqb : ∀ w, (Op.equalIn 10000 24 (.agg (ib.map byt).toArray) (.agg (ib.map byt).toArray)).run Tryd.prog w = .ok true w := fun w => by rw [run_equal_u8 Tryd.underlying24 (i := _) rfl (by kernel_rfl) Tryd.underlying5 w ib ib HB2L.out HB2L.out]; simp
            clear hib
            go_wp2
            refine wp_region_held_drew (S := (fun w' => TrkIs w' t b cs ∧ TrkIs w' t2 b2 ds ∧ Blk w' g6 [.slice a1 cs.length c1] 27 ∧ Blk w' g11 [.slice a2 ds.length c2] 27 ∧ RO (fun k => k = t2 ∨ k = b2 ∨ k = t ∨ k = b ∨ k = g11 ∨ k = g6) w' (.slice a1 cs.length c1) cs ∧ RO (fun k => k = t2 ∨ k = b2 ∨ k = t ∨ k = b ∨ k = g11 ∨ k = g6) w' (.slice a2 ds.length c2) ds ∧ Below w.heap.size w w')) (by kernel_rfl) ⟨SX.out.y.drew, SX.out.x.drew, kv1.drew, kv2.drew, rv1.drew, rv2.drew, below_drew SX.out.bw⟩ (fun hHeld => ?_)
            refine wpAnyH_take (i := 0) (oi := ⟨_, _, _, _, _, _⟩) (v := ?_) rfl (by kernel_rfl) (by kernel_rfl) (by kernel_rfl) (fun _ _ _ h => h) (Or.inl ⟨by rfl, ?_⟩) (by assumption) ?_
            rotate_left
            · intro w hSw; go_simp; try (with_reducible rfl)
            try simp only [Act.put, List.setIfInBounds_toArray, List.set_cons_zero, List.set_cons_succ]
            refine wpAnyH_take (i := 2) (oi := ⟨_, _, _, _, _, _⟩) rfl (by kernel_rfl) (by kernel_rfl) (by kernel_rfl) (fun _ _ _ h => h) (yieldsIf_load_mid (by rfl) _ _ rfl g6 0 rfl [.slice a1 cs.length c1] _ (fun _ h => blk_range h.2.2.1) Tryd.underlying27 rfl (szRT _)) (by assumption) ?_
            try simp only [Act.put, List.setIfInBounds_toArray, List.set_cons_zero, List.set_cons_succ]
            refine wpAnyH_ready (rs := [1]) (by kernel_rfl) (by simp) ?_
            refine AllReadyH.cons (o := ⟨_, _, _, _, _, _⟩) rfl (fun K hK => ?_) AllReadyH.nil
            go_simp
            refine (best_calls _ t b cs hHeld.1).mono ?_
            rintro e wz ⟨rfl, gz⟩
            rw [HB1.out]
            refine hK.out _ _ (by exact ⟨hHeld.1.below gz, hHeld.2.1.below gz, hHeld.2.2.1.below gz, hHeld.2.2.2.1.below gz, hHeld.2.2.2.2.1.below gz, hHeld.2.2.2.2.2.1.below gz, hHeld.2.2.2.2.2.2.trans (gz.mono hHeld.2.2.2.2.2.2.size)⟩) (fun hHeld => ?_)
            clear hK
            try simp only [Act.put, List.setIfInBounds_toArray, List.set_cons_zero, List.set_cons_succ]
            clear gz
            refine wpAnyH_ready (rs := [3]) (by kernel_rfl) (by simp) ?_
            refine AllReadyH.cons (o := ⟨_, _, _, _, _, _⟩) rfl (fun K hK => ?_) AllReadyH.nil
            go_simp
            refine (rbest_calls _ _ _ cs hne1 HTK1.out.ok hHeld.2.2.2.2.1).mono ?_
            rintro e wz ⟨rfl, gz⟩
            rw [HB1.out]
            refine hK.out _ _ (by exact ⟨hHeld.1.below gz, hHeld.2.1.below gz, hHeld.2.2.1.below gz, hHeld.2.2.2.1.below gz, hHeld.2.2.2.2.1.below gz, hHeld.2.2.2.2.2.1.below gz, hHeld.2.2.2.2.2.2.trans (gz.mono hHeld.2.2.2.2.2.2.size)⟩) (fun hHeld => ?_)
            clear hK
            try simp only [Act.put, List.setIfInBounds_toArray, List.set_cons_zero, List.set_cons_succ]
            clear gz
            refine wpAnyH_take (i := 4) (oi := ⟨_, _, _, _, _, _⟩) (v := ?_) rfl (by kernel_rfl) (by kernel_rfl) (by kernel_rfl) (fun _ _ _ h => h) (Or.inl ⟨by rfl, ?_⟩) (by assumption) ?_
            rotate_left
            · intro w hSw; go_simp; try (with_reducible rfl)
            try simp only [Act.put, List.setIfInBounds_toArray, List.set_cons_zero, List.set_cons_succ]
            refine wpAnyH_take (i := 5) (oi := ⟨_, _, _, _, _, _⟩) (v := ?_) rfl (by kernel_rfl) (by kernel_rfl) (by kernel_rfl) (fun _ _ _ h => h) (Or.inl ⟨by rfl, ?_⟩) (by assumption) ?_
            rotate_left
            · intro w hSw; go_simp; try (with_reducible rfl)
            try simp only [Act.put, List.setIfInBounds_toArray, List.set_cons_zero, List.set_cons_succ]
            refine wpAnyH_take (i := 6) (oi := ⟨_, _, _, _, _, _⟩) (v := ?_) rfl (by kernel_rfl) (by kernel_rfl) (by kernel_rfl) (fun _ _ _ h => h) (Or.inl ⟨by rfl, ?_⟩) (by assumption) ?_
            rotate_left
            · intro w hSw; go_simp; try (with_reducible rfl)
            try simp only [Act.put, List.setIfInBounds_toArray, List.set_cons_zero, List.set_cons_succ]
            refine wpAnyH_take (i := 8) (oi := ⟨_, _, _, _, _, _⟩) rfl (by kernel_rfl) (by kernel_rfl) (by kernel_rfl) (fun _ _ _ h => h) (yieldsIf_load_mid (by rfl) _ _ rfl g11 0 rfl [.slice a2 ds.length c2] _ (fun _ h => blk_range h.2.2.2.1) Tryd.underlying27 rfl (szRT _)) (by assumption) ?_
            try simp only [Act.put, List.setIfInBounds_toArray, List.set_cons_zero, List.set_cons_succ]
            refine wpAnyH_ready (rs := [7]) (by kernel_rfl) (by simp) ?_
            refine AllReadyH.cons (o := ⟨_, _, _, _, _, _⟩) rfl (fun K hK => ?_) AllReadyH.nil
            go_simp
            refine (best_calls _ t2 b2 ds hHeld.2.1).mono ?_
            rintro e wz ⟨rfl, gz⟩
            rw [HB2.out]
            refine hK.out _ _ (by exact ⟨hHeld.1.below gz, hHeld.2.1.below gz, hHeld.2.2.1.below gz, hHeld.2.2.2.1.below gz, hHeld.2.2.2.2.1.below gz, hHeld.2.2.2.2.2.1.below gz, hHeld.2.2.2.2.2.2.trans (gz.mono hHeld.2.2.2.2.2.2.size)⟩) (fun hHeld => ?_)
            clear hK
            try simp only [Act.put, List.setIfInBounds_toArray, List.set_cons_zero, List.set_cons_succ]
            clear gz
            refine wpAnyH_ready (rs := [9]) (by kernel_rfl) (by simp) ?_
            refine AllReadyH.cons (o := ⟨_, _, _, _, _, _⟩) rfl (fun K hK => ?_) AllReadyH.nil
            go_simp
            refine (rbest_calls _ _ _ ds hne2 HTK.out.ok hHeld.2.2.2.2.2.1).mono ?_
            rintro e wz ⟨rfl, gz⟩
            rw [HB2.out]
            refine hK.out _ _ (by exact ⟨hHeld.1.below gz, hHeld.2.1.below gz, hHeld.2.2.1.below gz, hHeld.2.2.2.1.below gz, hHeld.2.2.2.2.1.below gz, hHeld.2.2.2.2.2.1.below gz, hHeld.2.2.2.2.2.2.trans (gz.mono hHeld.2.2.2.2.2.2.size)⟩) (fun hHeld => ?_)
            clear hK
            try simp only [Act.put, List.setIfInBounds_toArray, List.set_cons_zero, List.set_cons_succ]
            clear gz
            refine wpAnyH_take (i := 10) (oi := ⟨_, _, _, _, _, _⟩) (v := ?_) rfl (by kernel_rfl) (by kernel_rfl) (by kernel_rfl) (fun _ _ _ h => h) (Or.inl ⟨by rfl, ?_⟩) (by assumption) ?_
            rotate_left
            · intro w hSw; go_simp; try (with_reducible rfl)
            try simp only [Act.put, List.setIfInBounds_toArray, List.set_cons_zero, List.set_cons_succ]
            refine wpAnyH_take (i := 11) (oi := ⟨_, _, _, _, _, _⟩) (v := ?_) rfl (by kernel_rfl) (by kernel_rfl) (by kernel_rfl) (fun _ _ _ h => h) (Or.inl ⟨by rfl, ?_⟩) (by assumption) ?_
            rotate_left
            · intro w hSw; go_simp; try (with_reducible rfl)
            try simp only [Act.put, List.setIfInBounds_toArray, List.set_cons_zero, List.set_cons_succ]
            refine wpAnyH_take (i := 12) (oi := ⟨_, _, _, _, _, _⟩) (v := ?_) rfl (by kernel_rfl) (by kernel_rfl) (by kernel_rfl) (fun _ _ _ h => h) (Or.inl ⟨by rfl, ?_⟩) (by assumption) ?_
            rotate_left
            · intro w hSw; go_simp; try (with_reducible rfl)
            try simp only [Act.put, List.setIfInBounds_toArray, List.set_cons_zero, List.set_cons_succ]
            refine wpAnyH_take (i := 13) (oi := ⟨_, _, _, _, _, _⟩) (v := ?_) rfl (by kernel_rfl) (by kernel_rfl) (by kernel_rfl) (fun _ _ _ h => h) (Or.inl ⟨by rfl, ?_⟩) (by assumption) ?_
            rotate_left
            · intro w hSw; go_simp; try (with_reducible rfl)
            try simp only [Act.put, List.setIfInBounds_toArray, List.set_cons_zero, List.set_cons_succ]
            refine wpAnyH_take (i := 15) (oi := ⟨_, _, _, _, _, _⟩) (v := ?_) rfl (by kernel_rfl) (by kernel_rfl) (by kernel_rfl) (fun _ _ _ h => h) (Or.inl ⟨by rfl, ?_⟩) (by assumption) ?_
            rotate_left
            · intro w hSw; go_simp; try (with_reducible rfl)
            try simp only [Act.put, List.setIfInBounds_toArray, List.set_cons_zero, List.set_cons_succ]
            refine wpAnyH_take (i := 16) (oi := ⟨_, _, _, _, _, _⟩) (v := .slice a1 cs.length c1) rfl (by kernel_rfl) (by kernel_rfl) (by kernel_rfl) (fun _ _ _ h => h) (Or.inl ⟨by rfl, fun w hSw => (by have c := hSw.2.2.1.cell (i := 0) rfl; go_simp; try (with_reducible rfl))⟩) (by assumption) ?_
            try simp only [Act.put, List.setIfInBounds_toArray, List.set_cons_zero, List.set_cons_succ]
            refine wpAnyH_take (i := 17) (oi := ⟨_, _, _, _, _, _⟩) (v := ?_) rfl (by kernel_rfl) (by kernel_rfl) (by kernel_rfl) (fun _ _ _ h => h) (Or.inl ⟨by rfl, ?_⟩) (by assumption) ?_
            rotate_left
            · intro w hSw; go_simp; try (with_reducible rfl)
            try simp only [Act.put, List.setIfInBounds_toArray, List.set_cons_zero, List.set_cons_succ]
            refine wpAnyH_ready (rs := [14]) (by kernel_rfl) (by simp) ?_
            refine AllReadyH.cons (o := ⟨_, _, _, _, _, _⟩) rfl (fun K hK => ?_) AllReadyH.nil
            go_simp
            refine (len_calls _ t b cs hHeld.1).mono ?_
            rintro e wz ⟨rfl, rfl⟩
            refine hK.out _ _ (by exact hHeld) (fun hHeld => ?_)
            clear hK
            try simp only [Act.put, List.setIfInBounds_toArray, List.set_cons_zero, List.set_cons_succ]
            refine wpAnyH_take (i := 18) (oi := ⟨_, _, _, _, _, _⟩) (v := ?_) rfl (by kernel_rfl) (by kernel_rfl) (by kernel_rfl) (fun _ _ _ h => h) (Or.inl ⟨by rfl, ?_⟩) (by assumption) ?_
            rotate_left
            · intro w hSw; go_simp; try (with_reducible rfl)
            try simp only [Act.put, List.setIfInBounds_toArray, List.set_cons_zero, List.set_cons_succ]
            refine wpAnyH_take (i := 19) (oi := ⟨_, _, _, _, _, _⟩) (v := ?_) rfl (by kernel_rfl) (by kernel_rfl) (by kernel_rfl) (fun _ _ _ h => h) (Or.inl ⟨by rfl, ?_⟩) (by assumption) ?_
            rotate_left
            · intro w hSw; go_simp; try (with_reducible rfl)
            try simp only [Act.put, List.setIfInBounds_toArray, List.set_cons_zero, List.set_cons_succ]
            refine wpAnyH_take (i := 20) (oi := ⟨_, _, _, _, _, _⟩) (v := ?_) rfl (by kernel_rfl) (by kernel_rfl) (by kernel_rfl) (fun _ _ _ h => h) (Or.inl ⟨by rfl, ?_⟩) (by assumption) ?_
            rotate_left
            · intro w hSw; go_simp; try (with_reducible rfl)
            try simp only [Act.put, List.setIfInBounds_toArray, List.set_cons_zero, List.set_cons_succ]
            refine wpAnyH_take (i := 21) (oi := ⟨_, _, _, _, _, _⟩) (v := ?_) rfl (by kernel_rfl) (by kernel_rfl) (by kernel_rfl) (fun _ _ _ h => h) (Or.inl ⟨by rfl, ?_⟩) (by assumption) ?_
            rotate_left
            · intro w hSw; go_simp; try (with_reducible rfl)
            try simp only [Act.put, List.setIfInBounds_toArray, List.set_cons_zero, List.set_cons_succ]
            refine wpAnyH_take (i := 23) (oi := ⟨_, _, _, _, _, _⟩) (v := ?_) rfl (by kernel_rfl) (by kernel_rfl) (by kernel_rfl) (fun _ _ _ h => h) (Or.inl ⟨by rfl, ?_⟩) (by assumption) ?_
            rotate_left
            · intro w hSw; go_simp; try (with_reducible rfl)
            try simp only [Act.put, List.setIfInBounds_toArray, List.set_cons_zero, List.set_cons_succ]
            refine wpAnyH_take (i := 24) (oi := ⟨_, _, _, _, _, _⟩) (v := .slice a2 ds.length c2) rfl (by kernel_rfl) (by kernel_rfl) (by kernel_rfl) (fun _ _ _ h => h) (Or.inl ⟨by rfl, fun w hSw => (by have c := hSw.2.2.2.1.cell (i := 0) rfl; go_simp; try (with_reducible rfl))⟩) (by assumption) ?_
            try simp only [Act.put, List.setIfInBounds_toArray, List.set_cons_zero, List.set_cons_succ]
            refine wpAnyH_take (i := 25) (oi := ⟨_, _, _, _, _, _⟩) (v := ?_) rfl (by kernel_rfl) (by kernel_rfl) (by kernel_rfl) (fun _ _ _ h => h) (Or.inl ⟨by rfl, ?_⟩) (by assumption) ?_
            rotate_left
            · intro w hSw; go_simp; try (with_reducible rfl)
            try simp only [Act.put, List.setIfInBounds_toArray, List.set_cons_zero, List.set_cons_succ]
            refine wpAnyH_ready (rs := [22]) (by kernel_rfl) (by simp) ?_
            refine AllReadyH.cons (o := ⟨_, _, _, _, _, _⟩) rfl (fun K hK => ?_) AllReadyH.nil
            go_simp
            refine (len_calls _ t2 b2 ds hHeld.2.1).mono ?_
            rintro e wz ⟨rfl, rfl⟩
            refine hK.out _ _ (by exact hHeld) (fun hHeld => ?_)
            clear hK
            try simp only [Act.put, List.setIfInBounds_toArray, List.set_cons_zero, List.set_cons_succ]
            refine wpAnyH_take (i := 26) (oi := ⟨_, _, _, _, _, _⟩) (v := ?_) rfl (by kernel_rfl) (by kernel_rfl) (by kernel_rfl) (fun _ _ _ h => h) (Or.inl ⟨by rfl, ?_⟩) (by assumption) ?_
            rotate_left
            · intro w hSw; go_simp; try (with_reducible rfl)
            try simp only [Act.put, List.setIfInBounds_toArray, List.set_cons_zero, List.set_cons_succ]
            refine wpAnyH_take (i := 27) (oi := ⟨_, _, _, _, _, _⟩) (v := ?_) rfl (by kernel_rfl) (by kernel_rfl) (by kernel_rfl) (fun _ _ _ h => h) (Or.inl ⟨by rfl, ?_⟩) (by assumption) ?_
            rotate_left
            · intro w hSw; go_simp; try (with_reducible rfl)
            try simp only [Act.put, List.setIfInBounds_toArray, List.set_cons_zero, List.set_cons_succ]
            refine wpAnyH_take (i := 28) (oi := ⟨_, _, _, _, _, _⟩) (v := ?_) rfl (by kernel_rfl) (by kernel_rfl) (by kernel_rfl) (fun _ _ _ h => h) (Or.inl ⟨by rfl, ?_⟩) (by assumption) ?_
            rotate_left
            · intro w hSw; go_simp; try (with_reducible rfl)
            try simp only [Act.put, List.setIfInBounds_toArray, List.set_cons_zero, List.set_cons_succ]
            refine wpAnyH_done (by kernel_rfl) ?_ _
            go_wp2
            go_ret
            exact ⟨by simp, hHeld.2.2.2.2.2.2⟩
theorem walk (w : World) (vi : Value) (inp : List Hd) (hin : Arr 66 Any w vi (rows inp)) (hok : ∀ h ∈ inp, h.Ok) (v1 : Value) (one : List Hd) (hin1 : Arr 66 Any w v1 (rows one)) (hok1 : ∀ h ∈ one, h.Ok) (v2 : Value) (two : List Hd) (hin2 : Arr 66 Any w v2 (rows two)) (hok2 : ∀ h ∈ two, h.Ok) (hb : inp.length + one.length + two.length ≤ 1048576) (hL : laidMetH Tryd.prog Rows.mainchainClonesUptoRow.laid w) :
    Calls Tryd.prog 5 #[vi, v1, v2] w fun e w' => e = .returned (.bool true) ∧ Below w.heap.size w w' :=
  walk0 w vi inp hin hok v1 one hin1 hok1 v2 two hin2 hok2 hb (tab_sha hL (by kernel_rfl) (List.Mem.tail _ (List.Mem.head _))) (tab_ref hL (by kernel_rfl) (List.Mem.head _))
end Go.Proofs.YtmenchnjajpkmaaDoor.mainchainClones
