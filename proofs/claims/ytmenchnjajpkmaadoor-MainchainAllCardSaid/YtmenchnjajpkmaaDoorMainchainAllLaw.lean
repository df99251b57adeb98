/- The walk of the law MainchainAll. Conditions: an argument's headers and two ids; the tables are laid. -/
import Derived.Test.YtmenchnjajpkmaaDoorTf
import Derived.Test.YtmenchnjajpkmaaDoorHdEq
import Derived.Test.YtmenchnjajpkmaaDoorShaLaid
import Derived.Test.YtmenchnjajpkmaaDoorCards
import Derived.Deep.DeepCutAuto
import Derived.Deep.CutBlock
namespace Go.Proofs.YtmenchnjajpkmaaDoor.mainchainAll
open Go Go.RowKit Mem Codec Mh Maps Ops Wh Ww ShaW Arr Tk Tr Tb Tf
set_option linter.unusedVariables false

/-- what the laws keep behind fed -/
structure LD (w : World) (t b g6 : Nat) (v : Value) (hs : List Hd) (l : List (Nat × List Value × TypeId)) (wx : World) : Prop where
  x : TrkIs wx t b hs
  r : RO (fun k => k = t ∨ k = b) wx v hs
  k : Blk wx g6 [v] 27
  i : ∀ q ∈ l, Blk wx q.1 q.2.1 q.2.2
  bw : Below w.heap.size w wx
  n1 : w.heap.size ≤ t
  n2 : w.heap.size ≤ b
  n3 : w.heap.size ≤ g6
  n4 : g6 ≠ t
  n5 : g6 ≠ b
section
variable {w a c : World} {t b g6 : Nat} {v : Value} {hs : List Hd} {l : List (Nat × List Value × TypeId)}
theorem LD.below (h : LD w t b g6 v hs l a) (hb : Below a.heap.size a c) : LD w t b g6 v hs l c := ⟨h.x.below hb, h.r.below hb, h.k.below hb, fun q hq => (h.i q hq).below hb, h.bw.trans (hb.mono h.bw.size), h.n1, h.n2, h.n3, h.n4, h.n5⟩
theorem LD.drew (h : LD w t b g6 v hs l a) : LD w t b g6 v hs l a.drew := ⟨h.x.drew, h.r.drew, h.k.drew, fun q hq => (h.i q hq).drew, below_drew h.bw, h.n1, h.n2, h.n3, h.n4, h.n5⟩
end

theorem isAgg_dg (w : World) : (isAgg 24).run Tryd.prog w = .ok true w := by kernel_rfl
theorem size_dg (w : World) : (sizeOf 24).run Tryd.prog w = .ok 32 w := by kernel_rfl
def pick (x0 x1 : Dg) (i : Nat) : Dg := if i = 0 then x0 else x1
theorem run_index (x0 x1 : Dg) (h0 : x0.length = 32) (h1 : x1.length = 32) (i : Nat) (hi : i < 2) (w : World) : (Instr.index 37 (.agg (x0.map byt ++ x1.map byt).toArray) (.int .i64 (i : Int))).run Tryd.prog w = .ok (dv (pick x0 x1 i)) w := by
  have e : (x0.map byt ++ x1.map byt).toArray.extract (i * 32) (i * 32 + 32) = ((pick x0 x1 i).map byt).toArray := by
    apply Array.ext'
    rw [Array.toList_extract]
    rcases (by omega : i = 0 ∨ i = 1) with rfl | rfl
    · simp [pick, h0, List.extract_eq_take_drop]
    · simp [pick, h0, List.extract_eq_take_drop]
      exact List.take_of_length_le (by simp [h1])
  have e' := congrArg Array.toList e
  rw [Array.toList_extract, List.extract_eq_take_drop, show i * 32 + 32 - i * 32 = 32 by omega] at e'
  simp [Instr.index, asIntOf, run_underlying Tryd.underlying37, part, Result.andThen, hi, e']

set_option maxHeartbeats 16000000 in
set_option maxRecDepth 100000 in
theorem walk0 (w : World) (vi : Value) (inp : List Hd) (hin : Arr 66 Any w vi (rows inp)) (hok : ∀ h ∈ inp, h.Ok) (hn : inp.length * 80 ≤ 140737488351232) (x0 x1 : Dg) (hx0 : x0.length = 32) (hx1 : x1.length = 32) (hP : TabB w 1) (hR : TabB w 0) :
    Calls Tryd.prog 4 #[vi, .agg (x0.map byt ++ x1.map byt).toArray] w fun e w' => e = .returned (.bool true) ∧ Below w.heap.size w w' := by
  obtain ⟨ai, ci, rfl, hci, hcm, _⟩ := hin.form
  rw [rows_len] at hin hci ⊢
  unfold maxLen at hcm
  have hp := (Array.getElem?_eq_some_iff.1 hP.choose_spec.choose_spec).1
  have hr := (Array.getElem?_eq_some_iff.1 hR.choose_spec.choose_spec).1
  have HPL := Lib.hid hp
  have HRL := Lib.hid hr
  have HP := Lib.hid hP
  have HR := Lib.hid hR
  have HX0 := Lib.hid hx0
  have HX1 := Lib.hid hx1
  rcases inp with _ | ⟨fst, rst⟩
  · clear hp hr hP hR hx0 hx1
    go_enter Tryd.func4, Tryd.ntmps4
    have hz0 : ∀ w, (zeroValue 32).run Tryd.prog w = .ok (.agg zeroH.cells.toArray) w := zeroV
    obtain ⟨W, hW⟩ : ∃ W, w.alloc (.cells (x0.map byt ++ x1.map byt).toArray 37) = W := ⟨_, rfl⟩
    have BW := Lib.hid (show Below w.heap.size w W from hW ▸ below_alloc _ _)
    go_wp2_with fail
    refine (begun_calls W zeroH (by simp [zeroH, Hd.Ok]) (HP.out.below BW.out) (HR.out.below BW.out)).mono ?_
    rintro e w2 ⟨t, b, rfl, n1, n2, x2, c2⟩
    have BF := Lib.hid (BW.out.trans (c2.mono BW.out.size))
    clear c2 x2 hW
    go_wp2
    go_ret
    exact ⟨rfl, BF.out⟩
  obtain ⟨sa, sc, hq1, hq2, hsl0, ha1⟩ := run_slice_arr elemH hin 1 (rows (fst :: rst)).length (by simp [rows]) (Nat.le_refl _)
  have hsl := hsl0 rfl .i64
  have HA1 := Lib.hid (show Arr 66 Any w (.slice sa rst.length sc) (rows rst) from by
    have e : ((rows (fst :: rst)).take (rows (fst :: rst)).length).drop 1 = rows rst := by rw [List.take_length]; rfl
    rw [e] at ha1
    simpa [rows] using ha1)
  have hsl2 : ∀ w', (Instr.sliceAt 22 (.slice ai (fst :: rst).length ci) (some (.int .i64 1)) none none).run Tryd.prog w' = .ok (.slice sa rst.length sc) w' := fun w' => by
    have := hsl w'
    rw [rows_len] at this
    simpa [rows] using this
  have OKF := Lib.hid (hok fst (by simp))
  have HOKR := Lib.hid (show ∀ h ∈ rst, h.Ok from fun h hh => hok h (by simp [hh]))
  obtain ⟨bi, oi, ci', e0, _, r0⟩ := hin.at 0 (by simp [rows])
  rw [rows_len] at e0
  cases e0
  have HR0 := Lib.hid (show ∀ w', Below w.heap.size w w' → w'.rangeAt bi oi fst.cells from fun w' hb => by
    have h1 : w.rangeAt bi oi fst.cells := by have := r0; simpa [rows] using this
    exact Arr.rangeAt_fr h1 (Fr.ofBelow hb) (by have := Arr.rangeAt_lt h1 (by intro e; have := OKF.out.len; rw [e] at this; simp at this); show ¬ w.heap.size ≤ bi; omega))
  have hl1 : rst.length + 1 = (fst :: rst).length := rfl
  have hn2 : (rst.length + 2) * 80 ≤ 140737488355328 := by simp only [List.length_cons] at hn; omega
  have h0l : (0 : Int) < (((fst :: rst).length : Nat) : Int) := by simp
  have hz0 : ((((fst :: rst).length : Nat) : Int) == 0) = false := by simp; omega
  have h0n : 0 < (fst :: rst).length := by simp
  clear hp hr hP hR hx0 hx1 hin hok ha1 hsl r0 hq1 hq2 hsl0
  generalize (fst :: rst).length = nl at *
  go_enter Tryd.func4, Tryd.ntmps4
  go_upto_region 4 with (first
    | ((with_reducible refine wpList_box rfl _ _ rfl (x0.map byt ++ x1.map byt) rfl (fun w1 k1 c1 z1 => ?_)); have K1 := Lib.hid k1; have B1 := Lib.hid c1; clear k1 c1))
  obtain ⟨hs, hhs⟩ : ∃ x, fedL [fst] rst = x := ⟨_, rfl⟩
  go_cut [7, 8, 9] (fun x y z wx => ∃ t b g6 v, x = .pointer (some ⟨t, 0, none⟩) ∧ y = .pointer (some ⟨g6, 0, none⟩) ∧ z = .bool true ∧ LD w t b g6 v hs [(w.heap.size, x0.map byt ++ x1.map byt, 37)] wx)
  case first =>
    subst hhs
    refine wp_region_held_drew (S := (fun w' => Below w.heap.size w w' ∧ Blk w' w.heap.size (x0.map byt ++ x1.map byt) 37)) (by kernel_rfl) ⟨below_drew B1.out, K1.out.drew⟩ (fun hHeld => ?_)
    refine wpAnyH_take (i := 0) (oi := ⟨_, _, _, _, _, _⟩) (v := ?_) rfl (by kernel_rfl) (by kernel_rfl) (by kernel_rfl) (fun _ _ _ h => h) (Or.inl ⟨by rfl, ?_⟩) (by assumption) ?_
    rotate_left
    · intro w hSw; go_simp; try (with_reducible rfl)
    try simp only [Act.put, List.setIfInBounds_toArray, List.set_cons_zero, List.set_cons_succ]
    refine wpAnyH_take (i := 1) (oi := ⟨_, _, _, _, _, _⟩) (v := ?_) rfl (by kernel_rfl) (by kernel_rfl) (by kernel_rfl) (fun _ _ _ h => h) (Or.inl ⟨by rfl, ?_⟩) (by assumption) ?_
    rotate_left
    · intro w hSw; go_simp; try (with_reducible rfl)
    try simp only [Act.put, List.setIfInBounds_toArray, List.set_cons_zero, List.set_cons_succ]
    refine wpAnyH_take (i := 2) (oi := ⟨_, _, _, _, _, _⟩) rfl (by kernel_rfl) (by kernel_rfl) (by kernel_rfl) (fun _ _ _ h => h) (yieldsIf_load_mid (by rfl) _ _ rfl bi oi rfl fst.cells _ (fun _ h => HR0.out _ h.1) Tryd.underlying32 rfl (szH OKF.out)) (by assumption) ?_
    try simp only [Act.put, List.setIfInBounds_toArray, List.set_cons_zero, List.set_cons_succ]
    refine wpAnyH_take (i := 3) (oi := ⟨_, _, _, _, _, _⟩) (v := ?_) rfl (by kernel_rfl) (by kernel_rfl) (by kernel_rfl) (fun _ _ _ h => h) (Or.inl ⟨by rfl, ?_⟩) (by assumption) ?_
    rotate_left
    · intro w hSw; go_simp; try (with_reducible rfl)
    try simp only [Act.put, List.setIfInBounds_toArray, List.set_cons_zero, List.set_cons_succ]
    refine wpAnyH_take (i := 4) (oi := ⟨_, _, _, _, _, _⟩) (v := ?_) rfl (by kernel_rfl) (by kernel_rfl) (by kernel_rfl) (fun _ _ _ h => h) (Or.inl ⟨by rfl, ?_⟩) (by assumption) ?_
    rotate_left
    · intro w hSw; go_simp; try (with_reducible rfl)
    try simp only [Act.put, List.setIfInBounds_toArray, List.set_cons_zero, List.set_cons_succ]
    refine wpAnyH_ready (rs := [5, 10]) (by kernel_rfl) (by simp) ?_
    refine AllReadyH.cons (o := ⟨_, _, _, _, _, _⟩) rfl (fun K hK => ?_) (AllReadyH.cons (o := ⟨_, _, _, _, _, _⟩) rfl (fun K hK => ?_) AllReadyH.nil)
    · have hsz := hHeld.1.size
      go_simp
      refine (fed_calls _ fst OKF.out (.slice sa rst.length sc) rst (HA1.out.below (by omega) hHeld.1) HOKR.out (by omega) (HP.out.below hHeld.1) (HR.out.below hHeld.1)).mono ?_
      rintro e wz ⟨t, b, v, rfl, n1, n2, x1, r1, gz⟩
      refine hK.out _ _ (by exact ⟨hHeld.1.trans (gz.mono hHeld.1.size), hHeld.2.below gz⟩) (fun hHeld => ?_)
      clear hK
      try simp only [Act.put, List.setIfInBounds_toArray, List.set_cons_zero, List.set_cons_succ]
      have hx1 := x1.lt.1
      have hx2 := x1.lt.2
      refine wpAnyH_take (i := 6) (oi := ⟨_, _, _, _, _, _⟩) (v := ?_) rfl (by kernel_rfl) (by kernel_rfl) (by kernel_rfl) (fun _ _ _ h => h) (Or.inl ⟨by rfl, ?_⟩) (by assumption) ?_
      rotate_left
      · intro w hSw; go_simp; try (with_reducible rfl)
      try simp only [Act.put, List.setIfInBounds_toArray, List.set_cons_zero, List.set_cons_succ]
      refine wpAnyH_take (i := 7) (oi := ⟨_, _, _, _, _, _⟩) (v := ?_) rfl (by kernel_rfl) (by kernel_rfl) (by kernel_rfl) (fun _ _ _ h => h) (Or.inl ⟨by rfl, ?_⟩) (by assumption) ?_
      rotate_left
      · intro w hSw; go_simp; try (with_reducible rfl)
      try simp only [Act.put, List.setIfInBounds_toArray, List.set_cons_zero, List.set_cons_succ]
      refine wpAnyH_take (i := 8) (oi := ⟨_, _, _, _, _, _⟩) (v := ?_) rfl (by kernel_rfl) (by kernel_rfl) (by kernel_rfl) (fun _ _ _ h => h) (Or.inl ⟨by rfl, ?_⟩) (by assumption) ?_
      rotate_left
      · intro w hSw; go_simp; try (with_reducible rfl)
      try simp only [Act.put, List.setIfInBounds_toArray, List.set_cons_zero, List.set_cons_succ]
      refine wpAnyH_take (i := 9) (oi := ⟨_, _, _, _, _, _⟩) (v := ?_) rfl (by kernel_rfl) (by kernel_rfl) (by kernel_rfl) (fun _ _ _ h => h) (Or.inl ⟨by rfl, ?_⟩) (by assumption) ?_
      rotate_left
      · intro w hSw; go_simp; try (with_reducible rfl)
      try simp only [Act.put, List.setIfInBounds_toArray, List.set_cons_zero, List.set_cons_succ]
      refine wpAnyH_ready (rs := [10]) (by kernel_rfl) (by simp) ?_
      refine AllReadyH.cons (o := ⟨_, _, _, _, _, _⟩) rfl (fun K hK => ?_) AllReadyH.nil
      rw [if_pos (by rfl)]
      refine wp_alloc _ rfl _ (zeroT _) (fun wa ka ba za => ?_)
      refine hK.out _ _ (by exact ⟨hHeld.1.trans (ba.mono hHeld.1.size), hHeld.2.below ba⟩) (fun hHeld => ?_)
      clear hK
      refine wpAnyH_take (i := 11) (oi := ⟨_, _, _, _, _, _⟩) (v := ?_) rfl (by kernel_rfl) (by kernel_rfl) (by kernel_rfl) (fun _ _ _ h => h) (Or.inl ⟨by rfl, ?_⟩) (by assumption) ?_
      rotate_left
      · intro w hSw; go_simp; try (with_reducible rfl)
      try simp only [Act.put, List.setIfInBounds_toArray, List.set_cons_zero, List.set_cons_succ]
      refine wpAnyH_ready (rs := [12]) (by kernel_rfl) (by simp) ?_
      refine AllReadyH.cons (o := ⟨_, _, _, _, _, _⟩) rfl (fun K hK => ?_) AllReadyH.nil
      rw [if_pos (by rfl)]
      refine wp_put _ _ _ rfl _ [v] _ rfl rfl ka (szRT _) rfl (by obtain ⟨_, _, rfl, _⟩ := r1.form; exact one_slice _ _ _) (fun wb kb fb zb => ?_)
      refine hK.out _ _ (by exact ⟨hHeld.1.trans (fb.below hHeld.1.size (fun k (hk : k = _) => by omega)), hHeld.2.fr fb (by have := hHeld.2.lt; omega)⟩) (fun hHeld => ?_)
      clear hK
      refine wpAnyH_take (i := 13) (oi := ⟨_, _, _, _, _, _⟩) (v := ?_) rfl (by kernel_rfl) (by kernel_rfl) (by kernel_rfl) (fun _ _ _ h => h) (Or.inl ⟨by rfl, ?_⟩) (by assumption) ?_
      rotate_left
      · intro w hSw; go_simp; try (with_reducible rfl)
      try simp only [Act.put, List.setIfInBounds_toArray, List.set_cons_zero, List.set_cons_succ]
      refine wpAnyH_done (by kernel_rfl) ?_ _
      go_wp2
      go_meet
      case rel => exact ⟨t, b, _, v, rfl, rfl, rfl, x1.below (new_put rfl ba fb), (r1.below (new_put rfl ba fb)).mono (fun k _ e => by rcases e with e | e; exact .inl e; exact .inr (.inl e)), kb, fun q hq => by rw [List.mem_singleton.1 hq]; exact hHeld.2, hHeld.1, by omega, by omega, by omega, by omega, by omega⟩
    · have hsz := hHeld.1.size
      rw [if_pos (by rfl)]
      refine wp_alloc _ rfl _ (zeroT _) (fun wa ka ba za => ?_)
      refine hK.out _ _ (by exact ⟨hHeld.1.trans (ba.mono hHeld.1.size), hHeld.2.below ba⟩) (fun hHeld => ?_)
      clear hK
      try simp only [Act.put, List.setIfInBounds_toArray, List.set_cons_zero, List.set_cons_succ]
      try simp only [show ∀ x : World, x.drew.heap.size = x.heap.size from fun _ => rfl] at za hsz
      refine wpAnyH_ready (rs := [5]) (by kernel_rfl) (by simp) ?_
      refine AllReadyH.cons (o := ⟨_, _, _, _, _, _⟩) rfl (fun K hK => ?_) AllReadyH.nil
      go_simp
      refine (fed_calls _ fst OKF.out (.slice sa rst.length sc) rst (HA1.out.below (by omega) hHeld.1) HOKR.out (by omega) (HP.out.below hHeld.1) (HR.out.below hHeld.1)).mono ?_
      rintro e wz ⟨t, b, v, rfl, n1, n2, x1, r1, gz⟩
      refine hK.out _ _ (by exact ⟨hHeld.1.trans (gz.mono hHeld.1.size), hHeld.2.below gz⟩) (fun hHeld => ?_)
      clear hK
      refine wpAnyH_take (i := 6) (oi := ⟨_, _, _, _, _, _⟩) (v := ?_) rfl (by kernel_rfl) (by kernel_rfl) (by kernel_rfl) (fun _ _ _ h => h) (Or.inl ⟨by rfl, ?_⟩) (by assumption) ?_
      rotate_left
      · intro w hSw; go_simp; try (with_reducible rfl)
      try simp only [Act.put, List.setIfInBounds_toArray, List.set_cons_zero, List.set_cons_succ]
      refine wpAnyH_take (i := 7) (oi := ⟨_, _, _, _, _, _⟩) (v := ?_) rfl (by kernel_rfl) (by kernel_rfl) (by kernel_rfl) (fun _ _ _ h => h) (Or.inl ⟨by rfl, ?_⟩) (by assumption) ?_
      rotate_left
      · intro w hSw; go_simp; try (with_reducible rfl)
      try simp only [Act.put, List.setIfInBounds_toArray, List.set_cons_zero, List.set_cons_succ]
      refine wpAnyH_take (i := 8) (oi := ⟨_, _, _, _, _, _⟩) (v := ?_) rfl (by kernel_rfl) (by kernel_rfl) (by kernel_rfl) (fun _ _ _ h => h) (Or.inl ⟨by rfl, ?_⟩) (by assumption) ?_
      rotate_left
      · intro w hSw; go_simp; try (with_reducible rfl)
      try simp only [Act.put, List.setIfInBounds_toArray, List.set_cons_zero, List.set_cons_succ]
      refine wpAnyH_take (i := 9) (oi := ⟨_, _, _, _, _, _⟩) (v := ?_) rfl (by kernel_rfl) (by kernel_rfl) (by kernel_rfl) (fun _ _ _ h => h) (Or.inl ⟨by rfl, ?_⟩) (by assumption) ?_
      rotate_left
      · intro w hSw; go_simp; try (with_reducible rfl)
      try simp only [Act.put, List.setIfInBounds_toArray, List.set_cons_zero, List.set_cons_succ]
      refine wpAnyH_take (i := 11) (oi := ⟨_, _, _, _, _, _⟩) (v := ?_) rfl (by kernel_rfl) (by kernel_rfl) (by kernel_rfl) (fun _ _ _ h => h) (Or.inl ⟨by rfl, ?_⟩) (by assumption) ?_
      rotate_left
      · intro w hSw; go_simp; try (with_reducible rfl)
      try simp only [Act.put, List.setIfInBounds_toArray, List.set_cons_zero, List.set_cons_succ]
      refine wpAnyH_ready (rs := [12]) (by kernel_rfl) (by simp) ?_
      refine AllReadyH.cons (o := ⟨_, _, _, _, _, _⟩) rfl (fun K hK => ?_) AllReadyH.nil
      rw [if_pos (by rfl)]
      have hx1 := x1.lt.1
      have hx2 := x1.lt.2
      refine wp_put _ _ _ rfl _ [v] _ rfl rfl (ka.below gz) (szRT _) rfl (by obtain ⟨_, _, rfl, _⟩ := r1.form; exact one_slice _ _ _) (fun wb kb fb zb => ?_)
      refine hK.out _ _ (by exact ⟨hHeld.1.trans (fb.below hHeld.1.size (fun k (hk : k = _) => by omega)), hHeld.2.fr fb (by have := hHeld.2.lt; omega)⟩) (fun hHeld => ?_)
      clear hK
      refine wpAnyH_take (i := 13) (oi := ⟨_, _, _, _, _, _⟩) (v := ?_) rfl (by kernel_rfl) (by kernel_rfl) (by kernel_rfl) (fun _ _ _ h => h) (Or.inl ⟨by rfl, ?_⟩) (by assumption) ?_
      rotate_left
      · intro w hSw; go_simp; try (with_reducible rfl)
      try simp only [Act.put, List.setIfInBounds_toArray, List.set_cons_zero, List.set_cons_succ]
      refine wpAnyH_done (by kernel_rfl) ?_ _
      go_wp2
      go_meet
      case rel => exact ⟨t, b, _, v, rfl, rfl, rfl, x1.fr fb (by omega) (by omega), (r1.fr fb (fun k (hk : k = _) => .inr (.inr (by omega))) (by have := HRL.out; show ¬ 0 = _; omega)).mono (fun k _ e => by rcases e with e | e; exact .inl e; exact .inr (.inl e)), kb, fun q hq => by rw [List.mem_singleton.1 hq]; exact hHeld.2, hHeld.1, by omega, by omega, by omega, by omega, by omega⟩
  case rest =>
    obtain ⟨t, b, g6, v, rfl, rfl, rfl, hL⟩ := hcut
    obtain ⟨av, cv, rfl, hq1, hq2, _⟩ := hL.r.form
    unfold maxLen at hq2
    have HT := Lib.hid (show Trk hs by rw [← hhs]; exact trk_fed (Trk.one OKF.out) _ HOKR.out)
    have hlen : hs.length ≤ rst.length + 1 := by rw [← hhs]; have := fedL_len [fst] rst; simp at this; omega
    have LW := Lib.hid hL
    have hww := hL.bw.size
    clear hhs hL
    have HI0 := Lib.hid (LW.out.i _ (List.mem_singleton.2 rfl))
    go_wp2_with (first | (with_reducible refine wpList_load_blk rfl _ _ rfl w.heap.size (x0.map byt ++ x1.map byt) rfl HI0.out _ Tryd.underlying37 rfl (by rw [show (x0.map byt ++ x1.map byt).length = 64 by simp [HX0.out, HX1.out]]; kernel_rfl) ?_))
    go_loopw [42] (fun i' wx => ∃ i : Nat, i ≤ 2 ∧ i' = .int .i64 (i : Int) ∧ LD w t b g6 (.slice av hs.length cv) hs [(w.heap.size, x0.map byt ++ x1.map byt, 37)] wx) (fun i' _ => 2 - (intOf i').toNat)
    case atStart => exact ⟨0, Nat.zero_le _, rfl, LW.out⟩
    case round =>
      obtain ⟨i, hi, rfl, hS⟩ := hrel
      have SX := Lib.hid hS
      clear hS
      by_cases hlt : i < 2
      · have hix : ∀ w, (Instr.index 37 (.agg (x0.map byt ++ x1.map byt).toArray) (.int .i64 (i : Int))).run Tryd.prog w = .ok (dv (pick x0 x1 i)) w := run_index x0 x1 HX0.out HX1.out i hlt
        obtain ⟨d, hd⟩ : ∃ d, pick x0 x1 i = d := ⟨_, rfl⟩
        have HDL := Lib.hid (show d.length = 32 by rw [← hd]; unfold pick; split; exact HX0.out; exact HX1.out)
        rw [hd] at hix
        have hltI : (i : Int) < 2 := by omega
        clear hd
        go_upto_region 10 with (first
          | ((with_reducible refine wpList_alloc rfl _ rfl _ (zeroD _) (fun wa ka ca za => ?_)); have KA := Lib.hid ka; have CA := Lib.hid ca; clear ka ca)
          | ((with_reducible refine wpList_put rfl _ _ _ rfl wr.heap.size (d.map byt) _ rfl rfl KA.out (szD HDL.out) (by simp [HDL.out]) (one_dig d) (fun wb kb fb zb => ?_)); have KB := Lib.hid kb; have CB := Lib.hid (new_put rfl CA.out fb); have SB := Lib.hid (SX.out.below CB.out); clear kb fb))
        clear KA CA CB hix
        have hgb : wr.heap.size < wb.heap.size := KB.out.lt
        generalize wr.heap.size = gb at *
        obtain ⟨g, hg⟩ : ∃ g, (Tk.look hs d).getD zeroH = g := ⟨_, rfl⟩
        obtain ⟨is, his⟩ : ∃ is, (Tk.look hs d).isSome = is := ⟨_, rfl⟩
        have OKG := Lib.hid (show g.Ok from hg ▸ look_ok HT.out d)
        have HG := Lib.hid hg
        have HIS := Lib.hid his
        have hqe : ∀ w, (Op.equalIn 10000 32 (.agg g.cells.toArray) (.agg g.cells.toArray)).run Tryd.prog w = .ok true w := equalH g OKG.out
        have HZL := Lib.hid (show zeroH.cells.length = g.cells.length by rw [zeroH_len, OKG.out.len])
        clear hg his
        go_wp2_with (first | (with_reducible refine wpList_load_blk rfl _ _ rfl gb (d.map byt) rfl KB.out _ Tryd.underlying24 rfl (szD HDL.out) ?_))
        refine (get_calls wb t b hs HT.out d HDL.out SB.out.x).mono ?_
        rintro e wc' ⟨rfl, cc⟩
        have SC := Lib.hid (SB.out.below cc)
        have KC := Lib.hid (KB.out.below cc)
        have hcs := cc.size
        rw [HG.out, HIS.out]
        clear cc SB KB
        go_upto_region 11 with (first
          | ((with_reducible refine wpList_alloc rfl _ rfl _ (zeroV _) (fun wd kd cd zd => ?_)); have KD := Lib.hid kd; have CD := Lib.hid cd; clear kd cd)
          | ((with_reducible refine wpList_put rfl _ _ _ rfl wc'.heap.size g.cells _ rfl rfl KD.out (szH OKG.out) HZL.out g.one (fun we ke fe ze => ?_)); have KE := Lib.hid ke; have CE := Lib.hid (new_put rfl CD.out fe); have SE := Lib.hid (SC.out.below CE.out); have KCE := Lib.hid (KC.out.below CE.out); clear ke fe))
        clear KD CD SC KC CE
        have hgd : wc'.heap.size < we.heap.size := KE.out.lt
        generalize wc'.heap.size = gd at *
        go_wp2_with (first | (with_reducible refine wpList_load_blk rfl _ _ rfl g6 [.slice av hs.length cv] rfl SE.out.k _ Tryd.underlying27 rfl (szRT _) ?_) | (with_reducible refine wpList_load_blk rfl _ _ rfl gb (d.map byt) rfl KCE.out _ Tryd.underlying24 rfl (szD HDL.out) ?_))
        refine (rget_calls _ we _ hs HT.out.ok d HDL.out SE.out.r).mono ?_
        rintro e wf ⟨rfl, cf⟩
        have SF := Lib.hid (SE.out.below cf)
        have KF := Lib.hid (KE.out.below cf)
        have hfs := cf.size
        rw [HG.out, HIS.out]
        clear cf SE KE KCE
        go_upto_region 12 with (first
          | ((with_reducible refine wpList_alloc rfl _ rfl _ (zeroV _) (fun wg kg cg zg => ?_)); have KG := Lib.hid kg; have CG := Lib.hid cg; clear kg cg)
          | ((with_reducible refine wpList_put rfl _ _ _ rfl wf.heap.size g.cells _ rfl rfl KG.out (szH OKG.out) HZL.out g.one (fun wh kh fh zh => ?_)); have KH := Lib.hid kh; have CH := Lib.hid (new_put rfl CG.out fh); have SH := Lib.hid (SF.out.below CH.out); have KFH := Lib.hid (KF.out.below CH.out); clear kh fh))
        clear KG CG SF KF CH
        generalize wf.heap.size = gf at *
        have hii : (is != is) = false := by simp
        go_wp2_with (first | (with_reducible refine wpList_load_blk rfl _ _ rfl gd g.cells rfl KFH.out _ Tryd.underlying32 rfl (szH OKG.out) ?_) | (with_reducible refine wpList_load_blk rfl _ _ rfl gf g.cells rfl KH.out _ Tryd.underlying32 rfl (szH OKG.out) ?_))
        go_roundw
        case rel => exact ⟨i + 1, by omega, by go_num, SH.out⟩
        case measure => simp [intOf]; omega
      · have HIX := Lib.hid (SX.out.i _ (List.mem_singleton.2 rfl))
        have hr0 := Lib.hid (show wr.rangeAt w.heap.size 0 (x0.map byt) from blk_part HIX.out [] _ (x1.map byt) rfl 0 rfl)
        have hr1 := Lib.hid (show wr.rangeAt w.heap.size 32 (x1.map byt) from blk_part HIX.out (x0.map byt) _ [] (by simp) 32 (by simp [HX0.out]))
        obtain ⟨n, hn9⟩ : ∃ n, depth hs x0 x1 = n := ⟨_, rfl⟩
        have HN := Lib.hid hn9
        clear hn9
        go_wp2_with (first
          | (with_reducible refine wpList_load_mid rfl _ _ rfl w.heap.size 0 rfl (x0.map byt) _ hr0.out Tryd.underlying24 rfl (szD HX0.out) ?_)
          | (with_reducible refine wpList_load_mid rfl _ _ rfl w.heap.size 32 rfl (x1.map byt) _ hr1.out Tryd.underlying24 rfl (szD HX1.out) ?_))
        refine (depth_calls wr t b hs HT.out (by omega) x0 x1 HX0.out HX1.out SX.out.x).mono ?_
        rintro e wc' ⟨rfl, cc⟩
        have SC := Lib.hid (SX.out.below cc)
        have hr2 := Lib.hid (Arr.rangeAt_fr hr0.out (Fr.ofBelow cc) (by show ¬ wr.heap.size ≤ w.heap.size; have := HIX.out.lt; omega))
        have hr3 := Lib.hid (Arr.rangeAt_fr hr1.out (Fr.ofBelow cc) (by show ¬ wr.heap.size ≤ w.heap.size; have := HIX.out.lt; omega))
        rw [HN.out]
        clear cc hr0 hr1
        go_wp2_with (first
          | (with_reducible refine wpList_load_blk rfl _ _ rfl g6 [.slice av hs.length cv] rfl SC.out.k _ Tryd.underlying27 rfl (szRT _) ?_)
          | (with_reducible refine wpList_load_mid rfl _ _ rfl w.heap.size 0 rfl (x0.map byt) _ hr2.out Tryd.underlying24 rfl (szD HX0.out) ?_)
          | (with_reducible refine wpList_load_mid rfl _ _ rfl w.heap.size 32 rfl (x1.map byt) _ hr3.out Tryd.underlying24 rfl (szD HX1.out) ?_))
        refine (rdepth_calls (fun k => k < wc'.heap.size ∧ ¬ (k = t ∨ k = b)) wc' _ hs HT.out x0 x1 HX0.out HX1.out (fun k hk => hk.1) SC.out.r).mono ?_
        rintro e wd ⟨rfl, cd⟩
        have BF := Lib.hid (SC.out.bw.trans (cd.mono SC.out.bw.size))
        rw [HN.out]
        clear cd SC
        obtain ⟨a1, ha1⟩ : ∃ a : Int, ((n.getD 0 : Nat) : Int) = a := ⟨_, rfl⟩
        obtain ⟨a2, ha2⟩ : ∃ a, n.isSome = a := ⟨_, rfl⟩
        rw [ha1, ha2]
        clear ha1 ha2
        go_wp2
        go_ret
        exact ⟨by simp, BF.out⟩
theorem walk (w : World) (vi : Value) (inp : List Hd) (hin : Arr 66 Any w vi (rows inp)) (hok : ∀ h ∈ inp, h.Ok) (hn : inp.length * 80 ≤ 140737488351232) (x0 x1 : Dg) (hx0 : x0.length = 32) (hx1 : x1.length = 32) (hL : laidMetH Tryd.prog Rows.mainchainAllRow.laid w) :
    Calls Tryd.prog 4 #[vi, .agg (x0.map byt ++ x1.map byt).toArray] w fun e w' => e = .returned (.bool true) ∧ Below w.heap.size w w' :=
  walk0 w vi inp hin hok hn x0 x1 hx0 hx1 (tab_sha hL (by kernel_rfl) (List.Mem.tail _ (List.Mem.head _))) (tab_ref hL (by kernel_rfl) (List.Mem.head _))
end Go.Proofs.YtmenchnjajpkmaaDoor.mainchainAll
