/- Walks of the law's same, of the sides and of the way up. Conditions: at most 2^42 digests; the tables are laid. -/
import Derived.Test.YtiaoifaglfhagaaDoorMkG
namespace Go.Proofs.YtiaoifaglfhagaaDoor.MkW
open Go Go.RowKit Mem Sha ShaW Mk Arr Row
set_option linter.unusedVariables false

theorem below_drew {B : Nat} {w w' : World} (h : Below B w w') : Below B w w'.drew := ⟨h.os, h.tape, h.output, h.size, h.block⟩
set_option maxHeartbeats 8000000 in
set_option maxRecDepth 100000 in
theorem same_calls (w : World) (va vb : Value) (us vs : List Dg) (hA : Arr 32 Any w va (dcs us)) (hB : Arr 32 Any w vb (dcs vs)) (ha : ∀ d ∈ us, d.length = 32) (hb : ∀ d ∈ vs, d.length = 32) (hn : us.length ≤ 4398046511104) (hm : vs.length ≤ 4398046511104) :
    Calls Tryd.prog 18 #[va, vb] w fun e w' => e = .returned (.bool (decide (us = vs))) ∧ Below w.heap.size w w' := by
  obtain ⟨a1, n1, rfl, _⟩ := hA.form
  obtain ⟨a2, n2, rfl, _⟩ := hB.form
  simp only [List.length_map] at hA hB ⊢
  have HA := Lib.hid hA
  have HB := Lib.hid hB
  have HDA := Lib.hid ha
  have HDB := Lib.hid hb
  clear hA hB ha hb
  by_cases hl : us.length = vs.length
  · have hlB : ((us.length : Int) != (vs.length : Int)) = false := by simp [hl]
    have HL := Lib.hid hl
    have hl1 : us.length ≤ vs.length := by omega
    have hl2 : vs.length ≤ us.length := by omega
    clear hl
    go_enter Tryd.func18, Tryd.ntmps18
    go_wp2
    go_loopw [13] (fun i wx => ∃ k : Nat, k ≤ us.length ∧ i = .int .i64 (k : Int) ∧ (∀ i, i < k → us[i]? = vs[i]?) ∧ Arr 32 Any wx (.slice a1 us.length n1) (dcs us) ∧ Arr 32 Any wx (.slice a2 vs.length n2) (dcs vs) ∧ Below w.heap.size w wx) (fun i _ => us.length - (intOf i).toNat)
    case atStart => exact ⟨0, Nat.zero_le _, rfl, fun i h => absurd h (Nat.not_lt_zero _), HA.out, HB.out, Below.refl _ _⟩
    case round =>
      obtain ⟨k, hk, rfl, hE, hA, hB, hW⟩ := hrel
      have HK := Lib.hid hE
      have HW := Lib.hid hW
      by_cases hlt : k < us.length
      · have hka : k < us.length := hlt
        have hkb : k < vs.length := by omega
        obtain ⟨b1, o1, q1, e1, _, r1⟩ := hA.at k (by simp; omega)
        obtain ⟨b2, o2, q2, e2, _, r2⟩ := hB.at k (by simp; omega)
        simp only [List.length_map, Value.slice.injEq] at e1 e2
        obtain ⟨rfl, _, rfl⟩ := e1
        obtain ⟨rfl, _, rfl⟩ := e2
        obtain ⟨xa, hxa⟩ : ∃ x, us[k] = x := ⟨_, rfl⟩
        obtain ⟨xb, hxb⟩ : ∃ x, vs[k] = x := ⟨_, rfl⟩
        simp only [List.getElem_map, hxa, hxb] at r1 r2
        have hla : xa.length = 32 := by rw [← hxa]; exact HDA.out _ (List.getElem_mem _)
        have hlb : xb.length = 32 := by rw [← hxb]; exact HDB.out _ (List.getElem_mem _)
        have hqs : ∀ w, (Op.equalIn 10000 25 (.agg (xa.map byt).toArray) (.agg (xb.map byt).toArray)).run Tryd.prog w = .ok (xa == xb) w := fun w => run_equal_u8 Tryd.underlying25 (i := _) rfl (by kernel_rfl) Tryd.underlying5 w xa xb hla hlb
        have HA := Lib.hid hA
        have HB := Lib.hid hB
        have HZ1 := Lib.hid (szD' hla)
        have HZ2 := Lib.hid (szD' hlb)
        obtain ⟨c1, hc1⟩ : ∃ c, xa.map byt = c := ⟨_, rfl⟩
        obtain ⟨c2, hc2⟩ : ∃ c, xb.map byt = c := ⟨_, rfl⟩
        rw [hc1] at r1 HZ1 hqs
        rw [hc2] at r2 HZ2 hqs
        have HR1 := Lib.hid r1
        have HR2 := Lib.hid r2
        have HXA := Lib.hid hxa
        have HXB := Lib.hid hxb
        have hltI : (k : Int) < (us.length : Int) := by omega
        have hltJ : (k : Int) < (vs.length : Int) := by omega
        have h0I : (0 : Int) ≤ (k : Int) := by omega
        clear hE hW hA hB hxa hxb hla hlb hc1 hc2 r1 r2 hlt
        go_wp2
        by_cases heq : xa = xb
        · have hv : (xa == xb) = true := by simpa using heq
          rw [hv] at hqs
          refine wp_region_held_drew (S := (fun w' => w'.rangeAt b1 (o1 + k * 32) c1 ∧ w'.rangeAt b2 (o2 + k * 32) c2)) (by kernel_rfl) ⟨(World.rangeAt_drew _ _ _ _).2 HR1.out, (World.rangeAt_drew _ _ _ _).2 HR2.out⟩ (fun hHeld => ?_)
          refine wpAnyH_take (i := 0) (oi := ⟨_, _, _, _, _, _⟩) (v := ?_) rfl (by kernel_rfl) (by kernel_rfl) (by kernel_rfl) (fun _ _ _ h => h) (Or.inl ⟨by rfl, ?_⟩) (by assumption) ?_
          rotate_left
          · intro w hSw; go_simp; try (with_reducible rfl)
          try simp only [Act.put, List.setIfInBounds_toArray, List.set_cons_zero, List.set_cons_succ]
          refine wpAnyH_take (i := 1) (oi := ⟨_, _, _, _, _, _⟩) (v := ?_) rfl (by kernel_rfl) (by kernel_rfl) (by kernel_rfl) (fun _ _ _ h => h) (Or.inl ⟨by rfl, ?_⟩) (by assumption) ?_
          rotate_left
          · intro w hSw; go_simp; try (with_reducible rfl)
          try simp only [Act.put, List.setIfInBounds_toArray, List.set_cons_zero, List.set_cons_succ]
          refine wpAnyH_take (i := 2) (oi := ⟨_, _, _, _, _, _⟩) (v := ?_) rfl (by kernel_rfl) (by kernel_rfl) (by kernel_rfl) (fun _ _ _ h => h) (Or.inl ⟨by rfl, ?_⟩) (by assumption) ?_
          rotate_left
          · intro w hSw; go_simp; try (with_reducible rfl)
          try simp only [Act.put, List.setIfInBounds_toArray, List.set_cons_zero, List.set_cons_succ]
          refine wpAnyH_take (i := 3) (oi := ⟨_, _, _, _, _, _⟩) rfl (by kernel_rfl) (by kernel_rfl) (by kernel_rfl) (fun _ _ _ h => h) (yieldsIf_load_mid (by rfl) _ _ rfl b1 (o1 + k * 32) rfl c1 _ (fun _ h => h.1) Tryd.underlying25 rfl HZ1.out) (by assumption) ?_
          try simp only [Act.put, List.setIfInBounds_toArray, List.set_cons_zero, List.set_cons_succ]
          refine wpAnyH_take (i := 4) (oi := ⟨_, _, _, _, _, _⟩) (v := ?_) rfl (by kernel_rfl) (by kernel_rfl) (by kernel_rfl) (fun _ _ _ h => h) (Or.inl ⟨by rfl, ?_⟩) (by assumption) ?_
          rotate_left
          · intro w hSw; go_simp; try (with_reducible rfl)
          try simp only [Act.put, List.setIfInBounds_toArray, List.set_cons_zero, List.set_cons_succ]
          refine wpAnyH_take (i := 5) (oi := ⟨_, _, _, _, _, _⟩) (v := ?_) rfl (by kernel_rfl) (by kernel_rfl) (by kernel_rfl) (fun _ _ _ h => h) (Or.inl ⟨by rfl, ?_⟩) (by assumption) ?_
          rotate_left
          · intro w hSw; go_simp; try (with_reducible rfl)
          try simp only [Act.put, List.setIfInBounds_toArray, List.set_cons_zero, List.set_cons_succ]
          refine wpAnyH_take (i := 6) (oi := ⟨_, _, _, _, _, _⟩) (v := ?_) rfl (by kernel_rfl) (by kernel_rfl) (by kernel_rfl) (fun _ _ _ h => h) (Or.inl ⟨by rfl, ?_⟩) (by assumption) ?_
          rotate_left
          · intro w hSw; go_simp; try (with_reducible rfl)
          try simp only [Act.put, List.setIfInBounds_toArray, List.set_cons_zero, List.set_cons_succ]
          refine wpAnyH_take (i := 7) (oi := ⟨_, _, _, _, _, _⟩) rfl (by kernel_rfl) (by kernel_rfl) (by kernel_rfl) (fun _ _ _ h => h) (yieldsIf_load_mid (by rfl) _ _ rfl b2 (o2 + k * 32) rfl c2 _ (fun _ h => h.2) Tryd.underlying25 rfl HZ2.out) (by assumption) ?_
          try simp only [Act.put, List.setIfInBounds_toArray, List.set_cons_zero, List.set_cons_succ]
          refine wpAnyH_take (i := 8) (oi := ⟨_, _, _, _, _, _⟩) (v := ?_) rfl (by kernel_rfl) (by kernel_rfl) (by kernel_rfl) (fun _ _ _ h => h) (Or.inl ⟨by rfl, ?_⟩) (by assumption) ?_
          rotate_left
          · intro w hSw; go_simp; try (with_reducible rfl)
          try simp only [Act.put, List.setIfInBounds_toArray, List.set_cons_zero, List.set_cons_succ]
          refine wpAnyH_done (by kernel_rfl) ?_ _
          go_wp2
          go_roundw
          case rel => exact ⟨k + 1, by omega, by go_num, fun i hi => by
            rcases Nat.lt_or_eq_of_le (Nat.le_of_lt_succ hi) with h | h
            · exact HK.out i h
            · subst h; rw [List.getElem?_eq_getElem hka, List.getElem?_eq_getElem hkb]; exact congrArg some (HXA.out.trans (heq.trans HXB.out.symm)), HA.out.drew, HB.out.drew, below_drew HW.out⟩
          case measure => simp [intOf]; omega
        · have hv : (xa == xb) = false := by simpa using heq
          rw [hv] at hqs
          refine wp_region_held_drew (S := (fun w' => w'.rangeAt b1 (o1 + k * 32) c1 ∧ w'.rangeAt b2 (o2 + k * 32) c2)) (by kernel_rfl) ⟨(World.rangeAt_drew _ _ _ _).2 HR1.out, (World.rangeAt_drew _ _ _ _).2 HR2.out⟩ (fun hHeld => ?_)
          refine wpAnyH_take (i := 0) (oi := ⟨_, _, _, _, _, _⟩) (v := ?_) rfl (by kernel_rfl) (by kernel_rfl) (by kernel_rfl) (fun _ _ _ h => h) (Or.inl ⟨by rfl, ?_⟩) (by assumption) ?_
          rotate_left
          · intro w hSw; go_simp; try (with_reducible rfl)
          try simp only [Act.put, List.setIfInBounds_toArray, List.set_cons_zero, List.set_cons_succ]
          refine wpAnyH_take (i := 1) (oi := ⟨_, _, _, _, _, _⟩) (v := ?_) rfl (by kernel_rfl) (by kernel_rfl) (by kernel_rfl) (fun _ _ _ h => h) (Or.inl ⟨by rfl, ?_⟩) (by assumption) ?_
          rotate_left
          · intro w hSw; go_simp; try (with_reducible rfl)
          try simp only [Act.put, List.setIfInBounds_toArray, List.set_cons_zero, List.set_cons_succ]
          refine wpAnyH_take (i := 2) (oi := ⟨_, _, _, _, _, _⟩) (v := ?_) rfl (by kernel_rfl) (by kernel_rfl) (by kernel_rfl) (fun _ _ _ h => h) (Or.inl ⟨by rfl, ?_⟩) (by assumption) ?_
          rotate_left
          · intro w hSw; go_simp; try (with_reducible rfl)
          try simp only [Act.put, List.setIfInBounds_toArray, List.set_cons_zero, List.set_cons_succ]
          refine wpAnyH_take (i := 3) (oi := ⟨_, _, _, _, _, _⟩) rfl (by kernel_rfl) (by kernel_rfl) (by kernel_rfl) (fun _ _ _ h => h) (yieldsIf_load_mid (by rfl) _ _ rfl b1 (o1 + k * 32) rfl c1 _ (fun _ h => h.1) Tryd.underlying25 rfl HZ1.out) (by assumption) ?_
          try simp only [Act.put, List.setIfInBounds_toArray, List.set_cons_zero, List.set_cons_succ]
          refine wpAnyH_take (i := 4) (oi := ⟨_, _, _, _, _, _⟩) (v := ?_) rfl (by kernel_rfl) (by kernel_rfl) (by kernel_rfl) (fun _ _ _ h => h) (Or.inl ⟨by rfl, ?_⟩) (by assumption) ?_
          rotate_left
          · intro w hSw; go_simp; try (with_reducible rfl)
          try simp only [Act.put, List.setIfInBounds_toArray, List.set_cons_zero, List.set_cons_succ]
          refine wpAnyH_take (i := 5) (oi := ⟨_, _, _, _, _, _⟩) (v := ?_) rfl (by kernel_rfl) (by kernel_rfl) (by kernel_rfl) (fun _ _ _ h => h) (Or.inl ⟨by rfl, ?_⟩) (by assumption) ?_
          rotate_left
          · intro w hSw; go_simp; try (with_reducible rfl)
          try simp only [Act.put, List.setIfInBounds_toArray, List.set_cons_zero, List.set_cons_succ]
          refine wpAnyH_take (i := 6) (oi := ⟨_, _, _, _, _, _⟩) (v := ?_) rfl (by kernel_rfl) (by kernel_rfl) (by kernel_rfl) (fun _ _ _ h => h) (Or.inl ⟨by rfl, ?_⟩) (by assumption) ?_
          rotate_left
          · intro w hSw; go_simp; try (with_reducible rfl)
          try simp only [Act.put, List.setIfInBounds_toArray, List.set_cons_zero, List.set_cons_succ]
          refine wpAnyH_take (i := 7) (oi := ⟨_, _, _, _, _, _⟩) rfl (by kernel_rfl) (by kernel_rfl) (by kernel_rfl) (fun _ _ _ h => h) (yieldsIf_load_mid (by rfl) _ _ rfl b2 (o2 + k * 32) rfl c2 _ (fun _ h => h.2) Tryd.underlying25 rfl HZ2.out) (by assumption) ?_
          try simp only [Act.put, List.setIfInBounds_toArray, List.set_cons_zero, List.set_cons_succ]
          refine wpAnyH_take (i := 8) (oi := ⟨_, _, _, _, _, _⟩) (v := ?_) rfl (by kernel_rfl) (by kernel_rfl) (by kernel_rfl) (fun _ _ _ h => h) (Or.inl ⟨by rfl, ?_⟩) (by assumption) ?_
          rotate_left
          · intro w hSw; go_simp; try (with_reducible rfl)
          try simp only [Act.put, List.setIfInBounds_toArray, List.set_cons_zero, List.set_cons_succ]
          refine wpAnyH_done (by kernel_rfl) ?_ _
          go_wp2
          go_ret
          refine ⟨ret_bool ?_, below_drew HW.out⟩
          rw [eq_comm, decide_eq_false_iff_not]
          rintro rfl
          exact heq (HXA.out.symm.trans HXB.out)
      · obtain rfl : k = us.length := by omega
        go_wp2
        go_ret
        refine ⟨ret_bool ?_, hW⟩
        rw [eq_comm, decide_eq_true_iff]
        apply List.ext_getElem?
        intro i
        by_cases hi : i < us.length
        · exact hE i hi
        · rw [List.getElem?_eq_none (by omega), List.getElem?_eq_none (by omega)]
  · have hlB : ((us.length : Int) != (vs.length : Int)) = true := by simp; omega
    have HE := Lib.hid (show decide (us = vs) = false by rw [decide_eq_false_iff_not]; rintro rfl; exact hl rfl)
    clear hl
    go_enter Tryd.func18, Tryd.ntmps18
    go_wp2
    go_ret
    exact ⟨by rw [HE.out]; rfl, Below.refl _ _⟩
end Go.Proofs.YtiaoifaglfhagaaDoor.MkW
