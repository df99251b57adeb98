/- The walk of the law MainchainDeeper. Conditions: an argument's headers and id; the tables are laid. -/
import Derived.Test.YtmenchnjajpkmaaDoorTf
import Derived.Test.YtmenchnjajpkmaaDoorShaLaid
import Derived.Test.YtmenchnjajpkmaaDoorCards
import Derived.Deep.DeepCutAuto
import Derived.Deep.CutBlock
namespace Go.Proofs.YtmenchnjajpkmaaDoor.mainchainDeeper
open Go Go.RowKit Mem Codec Mh Maps Ops Wh Ww ShaW Arr Tk Tr Tb Tf
set_option linter.unusedVariables false

/-- what the laws keep behind fed -/
structure LD (w : World) (t b g6 : Nat) (v : Value) (hs : List Hd) (l : List (Nat × List Value × TypeId)) (wx : World) : Prop where
  x : TrkIs wx t b hs
  r : RO (fun k => k = t ∨ k = b) wx v hs
  k : Blk wx g6 [v] 27
  i : ∀ q ∈ l, Blk wx q.1 q.2.1 q.2.2
  bw : Below w.heap.size w wx
  n1 : w.heap.size ≤ t
  n2 : w.heap.size ≤ b
  n3 : w.heap.size ≤ g6
  n4 : g6 ≠ t
  n5 : g6 ≠ b
section
variable {w a c : World} {t b g6 : Nat} {v : Value} {hs : List Hd} {l : List (Nat × List Value × TypeId)}
theorem LD.below (h : LD w t b g6 v hs l a) (hb : Below a.heap.size a c) : LD w t b g6 v hs l c := ⟨h.x.below hb, h.r.below hb, h.k.below hb, fun q hq => (h.i q hq).below hb, h.bw.trans (hb.mono h.bw.size), h.n1, h.n2, h.n3, h.n4, h.n5⟩
theorem LD.drew (h : LD w t b g6 v hs l a) : LD w t b g6 v hs l a.drew := ⟨h.x.drew, h.r.drew, h.k.drew, fun q hq => (h.i q hq).drew, below_drew h.bw, h.n1, h.n2, h.n3, h.n4, h.n5⟩
end

set_option maxHeartbeats 16000000 in
set_option maxRecDepth 100000 in
theorem walk0 (w : World) (vi : Value) (inp : List Hd) (hin : Arr 66 Any w vi (rows inp)) (hok : ∀ h ∈ inp, h.Ok) (hn : inp.length * 80 ≤ 140737488351232) (id : Dg) (hid : id.length = 32) (hP : TabB w 1) (hR : TabB w 0) :
    Calls Tryd.prog 3 #[vi, dv id] w fun e w' => e = .returned (.bool true) ∧ Below w.heap.size w w' := by
  obtain ⟨ai, ci, rfl, hci, hcm, _⟩ := hin.form
  rw [rows_len] at hin hci ⊢
  unfold maxLen at hcm
  have hp := (Array.getElem?_eq_some_iff.1 hP.choose_spec.choose_spec).1
  have hr := (Array.getElem?_eq_some_iff.1 hR.choose_spec.choose_spec).1
  have HPL := Lib.hid hp
  have HRL := Lib.hid hr
  have HP := Lib.hid hP
  have HR := Lib.hid hR
  have HIL := Lib.hid hid
  rcases inp with _ | ⟨fst, rst⟩
  · clear hp hr hP hR hid
    go_enter Tryd.func3, Tryd.ntmps3
    go_wp2
    go_ret
    exact ⟨rfl, below_alloc _ _⟩
  obtain ⟨sa, sc, hq1, hq2, hsl0, ha1⟩ := run_slice_arr elemH hin 1 (rows (fst :: rst)).length (by simp [rows]) (Nat.le_refl _)
  have hsl := hsl0 rfl .i64
  have HA1 := Lib.hid (show Arr 66 Any w (.slice sa rst.length sc) (rows rst) from by
    have e : ((rows (fst :: rst)).take (rows (fst :: rst)).length).drop 1 = rows rst := by rw [List.take_length]; rfl
    rw [e] at ha1
    simpa [rows] using ha1)
  have hsl2 : ∀ w', (Instr.sliceAt 22 (.slice ai (fst :: rst).length ci) (some (.int .i64 1)) none none).run Tryd.prog w' = .ok (.slice sa rst.length sc) w' := fun w' => by
    have := hsl w'
    rw [rows_len] at this
    simpa [rows] using this
  have OKF := Lib.hid (hok fst (by simp))
  have HOKR := Lib.hid (show ∀ h ∈ rst, h.Ok from fun h hh => hok h (by simp [hh]))
  obtain ⟨bi, oi, ci', e0, _, r0⟩ := hin.at 0 (by simp [rows])
  rw [rows_len] at e0
  cases e0
  have HR0 := Lib.hid (show ∀ w', Below w.heap.size w w' → w'.rangeAt bi oi fst.cells from fun w' hb => by
    have h1 : w.rangeAt bi oi fst.cells := by have := r0; simpa [rows] using this
    exact Arr.rangeAt_fr h1 (Fr.ofBelow hb) (by have := Arr.rangeAt_lt h1 (by intro e; have := OKF.out.len; rw [e] at this; simp at this); show ¬ w.heap.size ≤ bi; omega))
  have hl1 : rst.length + 1 = (fst :: rst).length := rfl
  have hn2 : (rst.length + 2) * 80 ≤ 140737488355328 := by simp only [List.length_cons] at hn; omega
  have h0l : (0 : Int) < (((fst :: rst).length : Nat) : Int) := by simp
  have hz0 : ((((fst :: rst).length : Nat) : Int) == 0) = false := by simp; omega
  have h0n : 0 < (fst :: rst).length := by simp
  clear hp hr hP hR hid hin hok ha1 hsl r0 hq1 hq2 hsl0
  generalize (fst :: rst).length = nl at *
  go_enter Tryd.func3, Tryd.ntmps3
  go_upto_region 3 with (first
    | ((with_reducible refine wpList_box rfl _ _ rfl (id.map byt) rfl (fun w1 k1 c1 z1 => ?_)); have K1 := Lib.hid k1; have B1 := Lib.hid c1; clear k1 c1))
  obtain ⟨hs, hhs⟩ : ∃ x, fedL [fst] rst = x := ⟨_, rfl⟩
  go_cut [5, 6, 7] (fun x y z wx => ∃ t b g6 v, x = .pointer (some ⟨t, 0, none⟩) ∧ y = .pointer (some ⟨g6, 0, none⟩) ∧ z = .bool true ∧ LD w t b g6 v hs [(w.heap.size, id.map byt, 24)] wx)
  case first =>
    subst hhs
    refine wp_region_held_drew (S := (fun w' => Below w.heap.size w w' ∧ Blk w' w.heap.size (id.map byt) 24)) (by kernel_rfl) ⟨below_drew B1.out, K1.out.drew⟩ (fun hHeld => ?_)
    refine wpAnyH_take (i := 0) (oi := ⟨_, _, _, _, _, _⟩) (v := ?_) rfl (by kernel_rfl) (by kernel_rfl) (by kernel_rfl) (fun _ _ _ h => h) (Or.inl ⟨by rfl, ?_⟩) (by assumption) ?_
    rotate_left
    · intro w hSw; go_simp; try (with_reducible rfl)
    try simp only [Act.put, List.setIfInBounds_toArray, List.set_cons_zero, List.set_cons_succ]
    refine wpAnyH_take (i := 1) (oi := ⟨_, _, _, _, _, _⟩) (v := ?_) rfl (by kernel_rfl) (by kernel_rfl) (by kernel_rfl) (fun _ _ _ h => h) (Or.inl ⟨by rfl, ?_⟩) (by assumption) ?_
    rotate_left
    · intro w hSw; go_simp; try (with_reducible rfl)
    try simp only [Act.put, List.setIfInBounds_toArray, List.set_cons_zero, List.set_cons_succ]
    refine wpAnyH_take (i := 2) (oi := ⟨_, _, _, _, _, _⟩) rfl (by kernel_rfl) (by kernel_rfl) (by kernel_rfl) (fun _ _ _ h => h) (yieldsIf_load_mid (by rfl) _ _ rfl bi oi rfl fst.cells _ (fun _ h => HR0.out _ h.1) Tryd.underlying32 rfl (szH OKF.out)) (by assumption) ?_
    try simp only [Act.put, List.setIfInBounds_toArray, List.set_cons_zero, List.set_cons_succ]
    refine wpAnyH_take (i := 3) (oi := ⟨_, _, _, _, _, _⟩) (v := ?_) rfl (by kernel_rfl) (by kernel_rfl) (by kernel_rfl) (fun _ _ _ h => h) (Or.inl ⟨by rfl, ?_⟩) (by assumption) ?_
    rotate_left
    · intro w hSw; go_simp; try (with_reducible rfl)
    try simp only [Act.put, List.setIfInBounds_toArray, List.set_cons_zero, List.set_cons_succ]
    refine wpAnyH_take (i := 4) (oi := ⟨_, _, _, _, _, _⟩) (v := ?_) rfl (by kernel_rfl) (by kernel_rfl) (by kernel_rfl) (fun _ _ _ h => h) (Or.inl ⟨by rfl, ?_⟩) (by assumption) ?_
    rotate_left
    · intro w hSw; go_simp; try (with_reducible rfl)
    try simp only [Act.put, List.setIfInBounds_toArray, List.set_cons_zero, List.set_cons_succ]
    refine wpAnyH_ready (rs := [5, 10]) (by kernel_rfl) (by simp) ?_
    refine AllReadyH.cons (o := ⟨_, _, _, _, _, _⟩) rfl (fun K hK => ?_) (AllReadyH.cons (o := ⟨_, _, _, _, _, _⟩) rfl (fun K hK => ?_) AllReadyH.nil)
    · have hsz := hHeld.1.size
      go_simp
      refine (fed_calls _ fst OKF.out (.slice sa rst.length sc) rst (HA1.out.below (by omega) hHeld.1) HOKR.out (by omega) (HP.out.below hHeld.1) (HR.out.below hHeld.1)).mono ?_
      rintro e wz ⟨t, b, v, rfl, n1, n2, x1, r1, gz⟩
      refine hK.out _ _ (by exact ⟨hHeld.1.trans (gz.mono hHeld.1.size), hHeld.2.below gz⟩) (fun hHeld => ?_)
      clear hK
      try simp only [Act.put, List.setIfInBounds_toArray, List.set_cons_zero, List.set_cons_succ]
      have hx1 := x1.lt.1
      have hx2 := x1.lt.2
      refine wpAnyH_take (i := 6) (oi := ⟨_, _, _, _, _, _⟩) (v := ?_) rfl (by kernel_rfl) (by kernel_rfl) (by kernel_rfl) (fun _ _ _ h => h) (Or.inl ⟨by rfl, ?_⟩) (by assumption) ?_
      rotate_left
      · intro w hSw; go_simp; try (with_reducible rfl)
      try simp only [Act.put, List.setIfInBounds_toArray, List.set_cons_zero, List.set_cons_succ]
      refine wpAnyH_take (i := 7) (oi := ⟨_, _, _, _, _, _⟩) (v := ?_) rfl (by kernel_rfl) (by kernel_rfl) (by kernel_rfl) (fun _ _ _ h => h) (Or.inl ⟨by rfl, ?_⟩) (by assumption) ?_
      rotate_left
      · intro w hSw; go_simp; try (with_reducible rfl)
      try simp only [Act.put, List.setIfInBounds_toArray, List.set_cons_zero, List.set_cons_succ]
      refine wpAnyH_take (i := 8) (oi := ⟨_, _, _, _, _, _⟩) (v := ?_) rfl (by kernel_rfl) (by kernel_rfl) (by kernel_rfl) (fun _ _ _ h => h) (Or.inl ⟨by rfl, ?_⟩) (by assumption) ?_
      rotate_left
      · intro w hSw; go_simp; try (with_reducible rfl)
      try simp only [Act.put, List.setIfInBounds_toArray, List.set_cons_zero, List.set_cons_succ]
      refine wpAnyH_take (i := 9) (oi := ⟨_, _, _, _, _, _⟩) (v := ?_) rfl (by kernel_rfl) (by kernel_rfl) (by kernel_rfl) (fun _ _ _ h => h) (Or.inl ⟨by rfl, ?_⟩) (by assumption) ?_
      rotate_left
      · intro w hSw; go_simp; try (with_reducible rfl)
      try simp only [Act.put, List.setIfInBounds_toArray, List.set_cons_zero, List.set_cons_succ]
      refine wpAnyH_ready (rs := [10]) (by kernel_rfl) (by simp) ?_
      refine AllReadyH.cons (o := ⟨_, _, _, _, _, _⟩) rfl (fun K hK => ?_) AllReadyH.nil
      rw [if_pos (by rfl)]
      refine wp_alloc _ rfl _ (zeroT _) (fun wa ka ba za => ?_)
      refine hK.out _ _ (by exact ⟨hHeld.1.trans (ba.mono hHeld.1.size), hHeld.2.below ba⟩) (fun hHeld => ?_)
      clear hK
      refine wpAnyH_take (i := 11) (oi := ⟨_, _, _, _, _, _⟩) (v := ?_) rfl (by kernel_rfl) (by kernel_rfl) (by kernel_rfl) (fun _ _ _ h => h) (Or.inl ⟨by rfl, ?_⟩) (by assumption) ?_
      rotate_left
      · intro w hSw; go_simp; try (with_reducible rfl)
      try simp only [Act.put, List.setIfInBounds_toArray, List.set_cons_zero, List.set_cons_succ]
      refine wpAnyH_ready (rs := [12]) (by kernel_rfl) (by simp) ?_
      refine AllReadyH.cons (o := ⟨_, _, _, _, _, _⟩) rfl (fun K hK => ?_) AllReadyH.nil
      rw [if_pos (by rfl)]
      refine wp_put _ _ _ rfl _ [v] _ rfl rfl ka (szRT _) rfl (by obtain ⟨_, _, rfl, _⟩ := r1.form; exact one_slice _ _ _) (fun wb kb fb zb => ?_)
      refine hK.out _ _ (by exact ⟨hHeld.1.trans (fb.below hHeld.1.size (fun k (hk : k = _) => by omega)), hHeld.2.fr fb (by have := hHeld.2.lt; omega)⟩) (fun hHeld => ?_)
      clear hK
      refine wpAnyH_take (i := 13) (oi := ⟨_, _, _, _, _, _⟩) (v := ?_) rfl (by kernel_rfl) (by kernel_rfl) (by kernel_rfl) (fun _ _ _ h => h) (Or.inl ⟨by rfl, ?_⟩) (by assumption) ?_
      rotate_left
      · intro w hSw; go_simp; try (with_reducible rfl)
      try simp only [Act.put, List.setIfInBounds_toArray, List.set_cons_zero, List.set_cons_succ]
      refine wpAnyH_done (by kernel_rfl) ?_ _
      go_wp2
      go_meet
      case rel => exact ⟨t, b, _, v, rfl, rfl, rfl, x1.below (new_put rfl ba fb), (r1.below (new_put rfl ba fb)).mono (fun k _ e => by rcases e with e | e; exact .inl e; exact .inr (.inl e)), kb, fun q hq => by rw [List.mem_singleton.1 hq]; exact hHeld.2, hHeld.1, by omega, by omega, by omega, by omega, by omega⟩
    · have hsz := hHeld.1.size
      rw [if_pos (by rfl)]
      refine wp_alloc _ rfl _ (zeroT _) (fun wa ka ba za => ?_)
      refine hK.out _ _ (by exact ⟨hHeld.1.trans (ba.mono hHeld.1.size), hHeld.2.below ba⟩) (fun hHeld => ?_)
      clear hK
      try simp only [Act.put, List.setIfInBounds_toArray, List.set_cons_zero, List.set_cons_succ]
      try simp only [show ∀ x : World, x.drew.heap.size = x.heap.size from fun _ => rfl] at za hsz
      refine wpAnyH_ready (rs := [5]) (by kernel_rfl) (by simp) ?_
      refine AllReadyH.cons (o := ⟨_, _, _, _, _, _⟩) rfl (fun K hK => ?_) AllReadyH.nil
      go_simp
      refine (fed_calls _ fst OKF.out (.slice sa rst.length sc) rst (HA1.out.below (by omega) hHeld.1) HOKR.out (by omega) (HP.out.below hHeld.1) (HR.out.below hHeld.1)).mono ?_
      rintro e wz ⟨t, b, v, rfl, n1, n2, x1, r1, gz⟩
      refine hK.out _ _ (by exact ⟨hHeld.1.trans (gz.mono hHeld.1.size), hHeld.2.below gz⟩) (fun hHeld => ?_)
      clear hK
      refine wpAnyH_take (i := 6) (oi := ⟨_, _, _, _, _, _⟩) (v := ?_) rfl (by kernel_rfl) (by kernel_rfl) (by kernel_rfl) (fun _ _ _ h => h) (Or.inl ⟨by rfl, ?_⟩) (by assumption) ?_
      rotate_left
      · intro w hSw; go_simp; try (with_reducible rfl)
      try simp only [Act.put, List.setIfInBounds_toArray, List.set_cons_zero, List.set_cons_succ]
      refine wpAnyH_take (i := 7) (oi := ⟨_, _, _, _, _, _⟩) (v := ?_) rfl (by kernel_rfl) (by kernel_rfl) (by kernel_rfl) (fun _ _ _ h => h) (Or.inl ⟨by rfl, ?_⟩) (by assumption) ?_
      rotate_left
      · intro w hSw; go_simp; try (with_reducible rfl)
      try simp only [Act.put, List.setIfInBounds_toArray, List.set_cons_zero, List.set_cons_succ]
      refine wpAnyH_take (i := 8) (oi := ⟨_, _, _, _, _, _⟩) (v := ?_) rfl (by kernel_rfl) (by kernel_rfl) (by kernel_rfl) (fun _ _ _ h => h) (Or.inl ⟨by rfl, ?_⟩) (by assumption) ?_
      rotate_left
      · intro w hSw; go_simp; try (with_reducible rfl)
      try simp only [Act.put, List.setIfInBounds_toArray, List.set_cons_zero, List.set_cons_succ]
      refine wpAnyH_take (i := 9) (oi := ⟨_, _, _, _, _, _⟩) (v := ?_) rfl (by kernel_rfl) (by kernel_rfl) (by kernel_rfl) (fun _ _ _ h => h) (Or.inl ⟨by rfl, ?_⟩) (by assumption) ?_
      rotate_left
      · intro w hSw; go_simp; try (with_reducible rfl)
      try simp only [Act.put, List.setIfInBounds_toArray, List.set_cons_zero, List.set_cons_succ]
      refine wpAnyH_take (i := 11) (oi := ⟨_, _, _, _, _, _⟩) (v := ?_) rfl (by kernel_rfl) (by kernel_rfl) (by kernel_rfl) (fun _ _ _ h => h) (Or.inl ⟨by rfl, ?_⟩) (by assumption) ?_
      rotate_left
      · intro w hSw; go_simp; try (with_reducible rfl)
      try simp only [Act.put, List.setIfInBounds_toArray, List.set_cons_zero, List.set_cons_succ]
      refine wpAnyH_ready (rs := [12]) (by kernel_rfl) (by simp) ?_
      refine AllReadyH.cons (o := ⟨_, _, _, _, _, _⟩) rfl (fun K hK => ?_) AllReadyH.nil
      rw [if_pos (by rfl)]
      have hx1 := x1.lt.1
      have hx2 := x1.lt.2
      refine wp_put _ _ _ rfl _ [v] _ rfl rfl (ka.below gz) (szRT _) rfl (by obtain ⟨_, _, rfl, _⟩ := r1.form; exact one_slice _ _ _) (fun wb kb fb zb => ?_)
      refine hK.out _ _ (by exact ⟨hHeld.1.trans (fb.below hHeld.1.size (fun k (hk : k = _) => by omega)), hHeld.2.fr fb (by have := hHeld.2.lt; omega)⟩) (fun hHeld => ?_)
      clear hK
      refine wpAnyH_take (i := 13) (oi := ⟨_, _, _, _, _, _⟩) (v := ?_) rfl (by kernel_rfl) (by kernel_rfl) (by kernel_rfl) (fun _ _ _ h => h) (Or.inl ⟨by rfl, ?_⟩) (by assumption) ?_
      rotate_left
      · intro w hSw; go_simp; try (with_reducible rfl)
      try simp only [Act.put, List.setIfInBounds_toArray, List.set_cons_zero, List.set_cons_succ]
      refine wpAnyH_done (by kernel_rfl) ?_ _
      go_wp2
      go_meet
      case rel => exact ⟨t, b, _, v, rfl, rfl, rfl, x1.fr fb (by omega) (by omega), (r1.fr fb (fun k (hk : k = _) => .inr (.inr (by omega))) (by have := HRL.out; show ¬ 0 = _; omega)).mono (fun k _ e => by rcases e with e | e; exact .inl e; exact .inr (.inl e)), kb, fun q hq => by rw [List.mem_singleton.1 hq]; exact hHeld.2, hHeld.1, by omega, by omega, by omega, by omega, by omega⟩
  case rest =>
    obtain ⟨t, b, g6, v, rfl, rfl, rfl, hL⟩ := hcut
    obtain ⟨av, cv, rfl, hq1, hq2, _⟩ := hL.r.form
    unfold maxLen at hq2
    have HT := Lib.hid (show Trk hs by rw [← hhs]; exact trk_fed (Trk.one OKF.out) _ HOKR.out)
    have hlen : hs.length ≤ rst.length + 1 := by rw [← hhs]; have := fedL_len [fst] rst; simp at this; omega
    have LW := Lib.hid hL
    have c0 := hL.k.cell (i := 0) rfl
    clear hhs hL
    go_wp2
    go_loopw [33] (fun i' wx => ∃ i : Nat, i ≤ hs.length ∧ i' = .int .i64 (i : Int) ∧ LD w t b g6 (.slice av hs.length cv) hs [(w.heap.size, id.map byt, 24)] wx) (fun i' _ => hs.length - (intOf i').toNat)
    case atStart => exact ⟨0, Nat.zero_le _, rfl, LW.out⟩
    case round =>
      obtain ⟨i, hi, rfl, hS⟩ := hrel
      have SX := Lib.hid hS
      clear hS c0
      by_cases hlt : i < hs.length
      · obtain ⟨bh, oh, ch, e0, r0⟩ := SX.out.r.at i hlt
        cases e0
        obtain ⟨h, hh⟩ : ∃ h, hs[i]'hlt = h := ⟨_, rfl⟩
        have HK := Lib.hid (show hs[i]? = some h by rw [List.getElem?_eq_getElem hlt, hh])
        have OKH := Lib.hid (HT.out.ok h (List.mem_of_getElem? HK.out))
        have HRG := Lib.hid (show wr.rangeAt bh (oh + i * 66) h.cells from hh ▸ r0)
        have HDQ := Lib.hid (HT.out.depth_eq id HK.out)
        have hltI : (i : Int) < (hs.length : Int) := by omega
        have h0I : (0 : Int) ≤ (i : Int) := by omega
        have hww := SX.out.bw.size
        have HZL := Lib.hid (show zeroH.cells.length = h.cells.length by rw [zeroH_len, OKH.out.len])
        clear hh r0
        go_upto_region 9 with (first
          | (with_reducible refine wpList_load_mid rfl _ _ rfl bh (oh + i * 66) rfl h.cells _ HRG.out Tryd.underlying32 rfl (szH OKH.out) ?_)
          | ((with_reducible refine wpList_alloc rfl _ rfl _ (zeroV _) (fun wa ka ca za => ?_)); have KA := Lib.hid ka; have CA := Lib.hid ca; clear ka ca)
          | ((with_reducible refine wpList_put rfl _ _ _ rfl wr.heap.size h.cells _ rfl rfl KA.out (szH OKH.out) HZL.out h.one (fun wb kb fb zb => ?_)); have KB := Lib.hid kb; have CB := Lib.hid (new_put rfl CA.out fb); have SB := Lib.hid (SX.out.below CB.out); clear kb fb))
        clear KA CA HRG CB
        have hgb : wr.heap.size < wb.heap.size := KB.out.lt
        generalize wr.heap.size = gb at *
        go_wp2_with (first | (with_reducible refine wpList_load_blk rfl _ _ rfl gb h.cells rfl KB.out _ Tryd.underlying32 rfl (szH OKH.out) ?_))
        refine (ref_mainId_calls wb h OKH.out SB.out.r.t).mono ?_
        rintro e wc' ⟨rfl, cc⟩
        obtain ⟨m, hm⟩ : ∃ m, mainId h = m := ⟨_, rfl⟩
        have HM := Lib.hid hm
        have HML := Lib.hid (show m.length = 32 by rw [← hm]; exact mainId_length h)
        rw [hm] at HDQ ⊢
        have SC := Lib.hid (SB.out.below cc)
        have KC := Lib.hid (KB.out.below cc)
        have hcs := cc.size
        clear cc hm SB KB
        go_upto_region 10 with (first
          | ((with_reducible refine wpList_alloc rfl _ rfl _ (zeroD _) (fun wd kd cd zd => ?_)); have KD := Lib.hid kd; have CD := Lib.hid cd; clear kd cd)
          | ((with_reducible refine wpList_put rfl _ _ _ rfl wc'.heap.size (m.map byt) _ rfl rfl KD.out (szD HML.out) (by simp [HML.out]) (one_dig m) (fun we ke fe ze => ?_)); have KE := Lib.hid ke; have CE := Lib.hid (new_put rfl CD.out fe); have SE := Lib.hid (SC.out.below CE.out); have KCE := Lib.hid (KC.out.below CE.out); clear ke fe))
        clear KD CD SC KC CE
        generalize wc'.heap.size = gd at *
        have HID := Lib.hid (SE.out.i _ (List.mem_singleton.2 rfl))
        go_wp2_with (first | (with_reducible refine wpList_load_blk rfl _ _ rfl w.heap.size (id.map byt) rfl HID.out _ Tryd.underlying24 rfl (szD HIL.out) ?_) | (with_reducible refine wpList_load_blk rfl _ _ rfl gd (m.map byt) rfl KE.out _ Tryd.underlying24 rfl (szD HML.out) ?_))
        refine (depth_calls we t b hs HT.out (by omega) id m HIL.out HML.out SE.out.x).mono ?_
        rintro e wf ⟨rfl, cf⟩
        have SF := Lib.hid (SE.out.below cf)
        have KF := Lib.hid (KE.out.below cf)
        have KH := Lib.hid (KCE.out.below cf)
        have HIF := Lib.hid (HID.out.below cf)
        clear cf SE KE KCE HID
        by_cases heq : m = id
        · have hq : ∀ w, (Op.equalIn 10000 24 (.agg (m.map byt).toArray) (.agg (id.map byt).toArray)).run Tryd.prog w = .ok true w := fun w => by rw [run_equal_u8 Tryd.underlying24 (i := _) rfl (by kernel_rfl) Tryd.underlying5 w m id HML.out HIL.out]; simp [heq]
          have HDV := Lib.hid (show depth hs id m = some 0 by rw [HDQ.out, if_pos heq])
          clear heq
          rw [HDV.out]
          simp only [Option.getD_some, Option.isSome_some]
          go_wp2_with (first | (with_reducible refine wpList_load_blk rfl _ _ rfl gd (m.map byt) rfl KF.out _ Tryd.underlying24 rfl (szD HML.out) ?_) | (with_reducible refine wpList_load_blk rfl _ _ rfl w.heap.size (id.map byt) rfl HIF.out _ Tryd.underlying24 rfl (szD HIL.out) ?_))
          go_roundw
          case rel => exact ⟨i + 1, by omega, by go_num, SF.out⟩
          case measure => simp [intOf]; omega
        · have hq : ∀ w, (Op.equalIn 10000 24 (.agg (m.map byt).toArray) (.agg (id.map byt).toArray)).run Tryd.prog w = .ok false w := fun w => by rw [run_equal_u8 Tryd.underlying24 (i := _) rfl (by kernel_rfl) Tryd.underlying5 w m id HML.out HIL.out]; simp [heq]
          have HNE := Lib.hid heq
          clear heq
          by_cases hi0 : i = 0
          · have HDV := Lib.hid (show depth hs id m = none by rw [HDQ.out, if_neg HNE.out, if_pos hi0])
            have hiz : ((i : Int) == 0) = true := by simp [hi0]
            rw [HDV.out]
            simp only [Option.getD_none, Option.isSome_none]
            go_wp2_with (first | (with_reducible refine wpList_load_blk rfl _ _ rfl gd (m.map byt) rfl KF.out _ Tryd.underlying24 rfl (szD HML.out) ?_) | (with_reducible refine wpList_load_blk rfl _ _ rfl w.heap.size (id.map byt) rfl HIF.out _ Tryd.underlying24 rfl (szD HIL.out) ?_))
            go_roundw
            case rel => exact ⟨i + 1, by omega, by go_num, SF.out⟩
            case measure => simp [intOf]; omega
          · have hiz : ((i : Int) == 0) = false := by simp; omega
            obtain ⟨pv, hpv⟩ : ∃ pv, h.prev = pv := ⟨_, rfl⟩
            have HPL := Lib.hid (show pv.length = 32 by rw [← hpv]; exact OKH.out.1)
            have HRP := Lib.hid (show wf.rangeAt gb 0 (pv.map byt) from hpv ▸ range_prev KH.out)
            have HDV := Lib.hid (show depth hs id m = (depth hs id pv).map (· + 1) by rw [HDQ.out, if_neg HNE.out, if_neg hi0, hpv])
            have HDL := Lib.hid (show ∀ n, depth hs id pv = some n → n ≤ hs.length from fun n hx => by
              unfold depth at hx
              cases hf : Mh.find hs pv with
              | none => rw [hf] at hx; cases hx
              | some k =>
                rw [hf] at hx
                have h1 := dep_le hs id (k + 1) k n hx
                obtain ⟨g', h2, _⟩ := find_some hf
                have h3 := (List.getElem?_eq_some_iff.1 h2).1
                omega)
            rw [HDV.out]
            clear hpv hi0
            go_wp2_with (first | (with_reducible refine wpList_load_blk rfl _ _ rfl gd (m.map byt) rfl KF.out _ Tryd.underlying24 rfl (szD HML.out) ?_) | (with_reducible refine wpList_load_blk rfl _ _ rfl w.heap.size (id.map byt) rfl HIF.out _ Tryd.underlying24 rfl (szD HIL.out) ?_) | (with_reducible refine wpList_load_mid rfl _ _ rfl gb 0 rfl (pv.map byt) _ HRP.out Tryd.underlying24 rfl (szD HPL.out) ?_))
            refine (depth_calls wf t b hs HT.out (by omega) id pv HIL.out HPL.out SF.out.x).mono ?_
            rintro e wg ⟨rfl, cg⟩
            have SG := Lib.hid (SF.out.below cg)
            clear cg SF KF KH HIF
            cases hdp : depth hs id pv with
            | none =>
              clear hdp HDL HDV
              simp only [Option.map_none, Option.getD_none, Option.isSome_none]
              go_wp2
              go_roundw
              case rel => exact ⟨i + 1, by omega, by go_num, SG.out⟩
              case measure => simp [intOf]; omega
            | some n =>
              have hnl := HDL.out n hdp
              have hnn : (((n + 1 : Nat) : Int) != (n : Int) + 1) = false := by simp
              clear hdp HDL HDV
              simp only [Option.map_some, Option.getD_some, Option.isSome_some]
              go_wp2
              go_roundw
              case rel => exact ⟨i + 1, by omega, by go_num, SG.out⟩
              case measure => simp [intOf]; omega
      · go_wp2
        go_ret
        exact ⟨rfl, SX.out.bw⟩
theorem walk (w : World) (vi : Value) (inp : List Hd) (hin : Arr 66 Any w vi (rows inp)) (hok : ∀ h ∈ inp, h.Ok) (hn : inp.length * 80 ≤ 140737488351232) (id : Dg) (hid : id.length = 32) (hL : laidMetH Tryd.prog Rows.mainchainDeeperRow.laid w) :
    Calls Tryd.prog 3 #[vi, dv id] w fun e w' => e = .returned (.bool true) ∧ Below w.heap.size w w' :=
  walk0 w vi inp hin hok hn id hid (tab_sha hL (by kernel_rfl) (List.Mem.tail _ (List.Mem.head _))) (tab_ref hL (by kernel_rfl) (List.Mem.head _))
end Go.Proofs.YtmenchnjajpkmaaDoor.mainchainDeeper
