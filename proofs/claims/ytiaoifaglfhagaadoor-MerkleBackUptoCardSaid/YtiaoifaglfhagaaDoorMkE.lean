/- The walk of slices.Reverse over digests. No condition. -/
import Derived.Test.YtiaoifaglfhagaaDoorMkD
import Derived.Test.YtiaoifaglfhagaaDoorArr2
namespace Go.Proofs.YtiaoifaglfhagaaDoor.MkW
open Go Go.RowKit Mem Sha ShaW Mk Arr
set_option linter.unusedVariables false

set_option maxHeartbeats 8000000 in
set_option maxRecDepth 100000 in
theorem reverse_calls (base : Nat) (e : TypeId) (w : World) (v : Value) (xs : List (List Value)) (hA : OwnA 32 base e w v xs) (h1 : ∀ x ∈ xs, ∀ c ∈ x, c.oneCell' = true) (hn : xs.length ≤ 4398046511104) :
    Calls Tryd.prog 29 #[v] w fun e w' => e = .returned (.tuple #[]) ∧ Arr 32 (fun b => v.ownBlock = some b ∧ base ≤ b) w' v xs.reverse ∧ Fr (fun b => v.ownBlock = some b) w w' := by
  obtain ⟨a, cap, rfl, hk1, hk2, hk3⟩ := hA.form
  by_cases hx : xs = []
  · subst hx
    have HA := Lib.hid hA.arr
    clear hA h1
    simp only [List.length_nil]
    go_enter Tryd.func29, Tryd.ntmps29
    go_wp2
    go_loop [2, 3] (fun i j => i = .int .i64 0 ∧ j = .int .i64 (-1)) (fun _ _ => 0)
    case atStart => exact ⟨rfl, rfl⟩
    case round =>
      obtain ⟨rfl, rfl⟩ := hrel
      go_wp2
      go_end0
      exact ⟨rfl, HA.out, Fr.refl _ _⟩
  · obtain ⟨g, cap', he, hc, hm, hg, hlt, hW⟩ := OwnV.wr hA hx
    cases he
    have HX := Lib.hid hx
    have H1 := Lib.hid h1
    have hpos := List.length_pos_iff.2 hx
    have HW := Lib.hid hW
    obtain ⟨n, hnn⟩ : ∃ n, xs.length = n := ⟨_, rfl⟩
    have HN := Lib.hid hnn
    rw [hnn] at hn hpos hk1 hc ⊢
    clear hA hx h1 hW hnn
    go_enter Tryd.func29, Tryd.ntmps29
    go_wp2
    go_loopw [2, 3] (fun si sj wx => ∃ (i : Nat) (ys : List (List Value)), si = .int .i64 (i : Int) ∧ sj = .int .i64 ((n : Int) - 1 - (i : Int)) ∧ i ≤ n ∧ Half xs ys i ∧ Wr 32 wx g 0 ys ∧ (∀ y ∈ ys, ∀ c ∈ y, c.oneCell' = true) ∧ Fr (fun b => b = g) w wx) (fun si _ _ => n - (intOf si).toNat)
    case atStart => exact ⟨0, xs, rfl, by go_num, Nat.zero_le _, Half.zero xs, HW.out, H1.out, Fr.refl _ _⟩
    case round =>
      obtain ⟨i, ys, rfl, rfl, hin, hH, hR, h1, hF⟩ := hrel
      have hlen : ys.length = n := by rw [hH.1]; exact HN.out
      by_cases hlt : (i : Int) < (n : Int) - 1 - (i : Int)
      · have hi : i < ys.length := by omega
        have hj' : n - 1 - i < ys.length := by omega
        obtain ⟨j, hj⟩ : ∃ j : Nat, n - 1 - i = j := ⟨_, rfl⟩
        rw [hj] at hj'
        have hij : i < j := by omega
        have hjI : (n : Int) - 1 - (i : Int) = (j : Int) := by omega
        rw [hjI]
        have HJI := Lib.hid hjI
        have HRI := Lib.hid ((World.rangeAt_drew _ _ _ _).2 (hR.2 i hi).1)
        have HRJ := Lib.hid ((World.rangeAt_drew _ _ _ _).2 (hR.2 j hj').1)
        rw [Nat.zero_add] at HRI HRJ
        have HLI := Lib.hid (hR.1 _ (List.getElem_mem hi))
        have HLJ := Lib.hid (hR.1 _ (List.getElem_mem hj'))
        have HOI := Lib.hid (all_oneCell_toArray (h1 _ (List.getElem_mem hi)))
        have HOJ := Lib.hid (all_oneCell_toArray (h1 _ (List.getElem_mem hj')))
        obtain ⟨cI, hcI⟩ : ∃ c, ys[i]'hi = c := ⟨_, rfl⟩
        obtain ⟨cJ, hcJ⟩ : ∃ c, ys[j]'hj' = c := ⟨_, rfl⟩
        rw [hcI] at HRI HLI HOI
        rw [hcJ] at HRJ HLJ HOJ
        have HZI := Lib.hid (show (Tryd.prog.info? 25).map (·.size) = some cI.length from szD.trans (by rw [HLI.out]))
        have HZJ := Lib.hid (show (Tryd.prog.info? 25).map (·.size) = some cJ.length from szD.trans (by rw [HLJ.out]))
        have HREL := Lib.hid (show swp ys i (n - 1 - i) = (ys.set i cJ).set j cI by unfold swp; rw [hj, ← hcI, ← hcJ]; simp [List.getD_eq_getElem?_getD, hi, hj'])
        have hRd := hR.drew
        have hR1 := hRd.set i hi cJ HLJ.out
        have hj2 : j < (ys.set i cJ).length := by rw [List.length_set]; exact hj'
        have hR2 := hR1.set j hj2 cI HLI.out
        rw [Nat.zero_add] at hR1
        rw [Nat.zero_add, Nat.zero_add] at hR2
        have HTI := Lib.hid (show wr.drew.there g (i * 32) cJ.toArray.size by have := (hRd.2 i hi).2; rw [Nat.zero_add] at this; rw [List.size_toArray, HLJ.out]; exact this)
        have HTJ := Lib.hid (show (wr.drew.setCells g (i * 32) cJ.toArray.toList).there g (j * 32) cI.toArray.size by have := (hR1.2 j hj2).2; rw [Nat.zero_add] at this; rw [List.size_toArray, HLI.out]; exact this)
        have HSI := Lib.hid (show (Tryd.prog.info? 25).map (·.size) = some cI.toArray.size from HZI.out)
        have HSJ := Lib.hid (show (Tryd.prog.info? 25).map (·.size) = some cJ.toArray.size from HZJ.out)
        have HHN := Lib.hid (by have := hH.step (by rw [HN.out]; omega); rw [HN.out, HREL.out] at this; exact this)
        have HWN := Lib.hid hR2
        have H1N := Lib.hid (show ∀ y ∈ (ys.set i cJ).set j cI, ∀ c ∈ y, c.oneCell' = true by
          intro y hy
          rcases List.mem_or_eq_of_mem_set hy with hy | rfl
          · rcases List.mem_or_eq_of_mem_set hy with hy | rfl
            · exact h1 y hy
            · rw [← hcJ]; exact h1 _ (List.getElem_mem hj')
          · rw [← hcI]; exact h1 _ (List.getElem_mem hi))
        have HFN := Lib.hid (Fr.setCells (Fr.setCells hF.drew (.inr rfl) (i * 32) cJ.toArray.toList) (.inr rfl) (j * 32) cI.toArray.toList)
        have h0i : (0 : Int) ≤ (i : Int) := by omega
        have h0j : (0 : Int) ≤ (j : Int) := by omega
        have hiI : (i : Int) < (n : Int) := by omega
        have hjn : (j : Int) < (n : Int) := by omega
        have hijI : (i : Int) < (j : Int) := by omega
        clear hH hR hF h1 hj hjI hcI hcJ hlt hRd hR1 hR2 hj2
        go_wp2
        refine wp_region_held_drew (S := (fun _ => True)) (by kernel_rfl) trivial (fun hHeld => ?_)
        refine wpAnyH_take (i := 0) (oi := ⟨_, _, _, _, _, _⟩) (v := ?_) rfl (by kernel_rfl) (by kernel_rfl) (by kernel_rfl) (fun _ _ _ h => h) (Or.inl ⟨by rfl, ?_⟩) (by assumption) ?_
        rotate_left
        · intro w hSw; go_simp; try (with_reducible rfl)
        try simp only [Act.put, List.setIfInBounds_toArray, List.set_cons_zero, List.set_cons_succ]
        refine wpAnyH_take (i := 1) (oi := ⟨_, _, _, _, _, _⟩) (v := ?_) rfl (by kernel_rfl) (by kernel_rfl) (by kernel_rfl) (fun _ _ _ h => h) (Or.inl ⟨by rfl, ?_⟩) (by assumption) ?_
        rotate_left
        · intro w hSw; go_simp; try (with_reducible rfl)
        try simp only [Act.put, List.setIfInBounds_toArray, List.set_cons_zero, List.set_cons_succ]
        refine wpAnyH_take (i := 2) (oi := ⟨_, _, _, _, _, _⟩) (v := ?_) rfl (by kernel_rfl) (by kernel_rfl) (by kernel_rfl) (fun _ _ _ h => h) (Or.inl ⟨by rfl, ?_⟩) (by assumption) ?_
        rotate_left
        · intro w hSw; go_simp; try (with_reducible rfl)
        try simp only [Act.put, List.setIfInBounds_toArray, List.set_cons_zero, List.set_cons_succ]
        refine wpAnyH_take (i := 3) (oi := ⟨_, _, _, _, _, _⟩) (v := ?_) rfl (by kernel_rfl) (by kernel_rfl) (by kernel_rfl) (fun _ _ _ h => h) (Or.inl ⟨by rfl, ?_⟩) (by assumption) ?_
        rotate_left
        · intro w hSw; go_simp; try (with_reducible rfl)
        try simp only [Act.put, List.setIfInBounds_toArray, List.set_cons_zero, List.set_cons_succ]
        refine wpAnyH_take (i := 4) (oi := ⟨_, _, _, _, _, _⟩) (v := ?_) rfl (by kernel_rfl) (by kernel_rfl) (by kernel_rfl) (fun _ _ _ h => h) (Or.inl ⟨by rfl, ?_⟩) (by assumption) ?_
        rotate_left
        · intro w hSw; go_simp; try (with_reducible rfl)
        try simp only [Act.put, List.setIfInBounds_toArray, List.set_cons_zero, List.set_cons_succ]
        refine wpAnyH_take (i := 5) (oi := ⟨_, _, _, _, _, _⟩) (v := ?_) rfl (by kernel_rfl) (by kernel_rfl) (by kernel_rfl) (fun _ _ _ h => h) (Or.inl ⟨by rfl, ?_⟩) (by assumption) ?_
        rotate_left
        · intro w hSw; go_simp; try (with_reducible rfl)
        try simp only [Act.put, List.setIfInBounds_toArray, List.set_cons_zero, List.set_cons_succ]
        refine wpAnyH_take (i := 6) (oi := ⟨_, _, _, _, _, _⟩) (v := ?_) rfl (by kernel_rfl) (by kernel_rfl) (by kernel_rfl) (fun _ _ _ h => h) (Or.inl ⟨by rfl, ?_⟩) (by assumption) ?_
        rotate_left
        · intro w hSw; go_simp; try (with_reducible rfl)
        try simp only [Act.put, List.setIfInBounds_toArray, List.set_cons_zero, List.set_cons_succ]
        refine wpAnyH_take (i := 8) (oi := ⟨_, _, _, _, _, _⟩) (v := ?_) rfl (by kernel_rfl) (by kernel_rfl) (by kernel_rfl) (fun _ _ _ h => h) (Or.inl ⟨by rfl, ?_⟩) (by assumption) ?_
        rotate_left
        · intro w hSw; go_simp; try (with_reducible rfl)
        try simp only [Act.put, List.setIfInBounds_toArray, List.set_cons_zero, List.set_cons_succ]
        refine wpAnyH_take (i := 9) (oi := ⟨_, _, _, _, _, _⟩) (v := ?_) rfl (by kernel_rfl) (by kernel_rfl) (by kernel_rfl) (fun _ _ _ h => h) (Or.inl ⟨by rfl, ?_⟩) (by assumption) ?_
        rotate_left
        · intro w hSw; go_simp; try (with_reducible rfl)
        try simp only [Act.put, List.setIfInBounds_toArray, List.set_cons_zero, List.set_cons_succ]
        refine wpAnyH_take (i := 10) (oi := ⟨_, _, _, _, _, _⟩) (v := ?_) rfl (by kernel_rfl) (by kernel_rfl) (by kernel_rfl) (fun _ _ _ h => h) (Or.inl ⟨by rfl, ?_⟩) (by assumption) ?_
        rotate_left
        · intro w hSw; go_simp; try (with_reducible rfl)
        try simp only [Act.put, List.setIfInBounds_toArray, List.set_cons_zero, List.set_cons_succ]
        refine wpAnyH_ready (rs := [7, 11]) (by kernel_rfl) (by simp) ?_
        refine AllReadyH.cons (o := ⟨_, _, _, _, _, _⟩) rfl (fun K hK => ?_) (AllReadyH.cons (o := ⟨_, _, _, _, _, _⟩) rfl (fun K hK => ?_) AllReadyH.nil)
        · rw [if_pos (by rfl)]
          refine wp_load_mid _ _ rfl g (j * 32) rfl cJ _ HRJ.out Tryd.underlying25 rfl HZJ.out ?_
          refine hK.out _ _ trivial (fun hHeld => ?_)
          clear hK
          try simp only [Act.put, List.setIfInBounds_toArray, List.set_cons_zero, List.set_cons_succ]
          refine wpAnyH_ready (rs := [11]) (by kernel_rfl) (by simp) ?_
          refine AllReadyH.cons (o := ⟨_, _, _, _, _, _⟩) rfl (fun K hK => ?_) AllReadyH.nil
          rw [if_pos (by rfl)]
          refine wp_load_mid _ _ rfl g (i * 32) rfl cI _ HRI.out Tryd.underlying25 rfl HZI.out ?_
          refine hK.out _ _ trivial (fun hHeld => ?_)
          clear hK
          try simp only [Act.put, List.setIfInBounds_toArray, List.set_cons_zero, List.set_cons_succ]
          refine wpAnyH_take (i := 12) (oi := ⟨_, _, _, _, _, _⟩) (v := ?_) rfl (by kernel_rfl) (by kernel_rfl) (by kernel_rfl) (fun _ _ _ h => h) (Or.inl ⟨by rfl, ?_⟩) (by assumption) ?_
          rotate_left
          · intro w hSw; go_simp; try (with_reducible rfl)
          try simp only [Act.put, List.setIfInBounds_toArray, List.set_cons_zero, List.set_cons_succ]
          refine wpAnyH_ready (rs := [13]) (by kernel_rfl) (by simp) ?_
          refine AllReadyH.cons (o := ⟨_, _, _, _, _, _⟩) rfl (fun K hK => ?_) AllReadyH.nil
          rw [if_pos (by rfl)]
          refine wp_store_mid _ _ _ rfl g (i * 32) _ rfl rfl HTI.out HSJ.out HOJ.out ?_
          refine hK.out _ _ trivial (fun hHeld => ?_)
          clear hK
          refine wpAnyH_take (i := 14) (oi := ⟨_, _, _, _, _, _⟩) (v := ?_) rfl (by kernel_rfl) (by kernel_rfl) (by kernel_rfl) (fun _ _ _ h => h) (Or.inl ⟨by rfl, ?_⟩) (by assumption) ?_
          rotate_left
          · intro w hSw; go_simp; try (with_reducible rfl)
          try simp only [Act.put, List.setIfInBounds_toArray, List.set_cons_zero, List.set_cons_succ]
          refine wpAnyH_ready (rs := [15]) (by kernel_rfl) (by simp) ?_
          refine AllReadyH.cons (o := ⟨_, _, _, _, _, _⟩) rfl (fun K hK => ?_) AllReadyH.nil
          rw [if_pos (by rfl)]
          refine wp_store_mid _ _ _ rfl g (j * 32) _ rfl rfl HTJ.out HSI.out HOI.out ?_
          refine hK.out _ _ trivial (fun hHeld => ?_)
          clear hK
          refine wpAnyH_done (by kernel_rfl) ?_ _
          go_wp2
          go_roundw
          case rel => exact ⟨i + 1, _, by go_num, by rw [show ((j : Int) - 1) = (n : Int) - 1 - ((i + 1 : Nat) : Int) from by have := HJI.out; omega], by omega, HHN.out, HWN.out, H1N.out, HFN.out⟩
          case measure => simp [intOf]; omega
        · rw [if_pos (by rfl)]
          refine wp_load_mid _ _ rfl g (i * 32) rfl cI _ HRI.out Tryd.underlying25 rfl HZI.out ?_
          refine hK.out _ _ trivial (fun hHeld => ?_)
          clear hK
          try simp only [Act.put, List.setIfInBounds_toArray, List.set_cons_zero, List.set_cons_succ]
          refine wpAnyH_ready (rs := [7]) (by kernel_rfl) (by simp) ?_
          refine AllReadyH.cons (o := ⟨_, _, _, _, _, _⟩) rfl (fun K hK => ?_) AllReadyH.nil
          rw [if_pos (by rfl)]
          refine wp_load_mid _ _ rfl g (j * 32) rfl cJ _ HRJ.out Tryd.underlying25 rfl HZJ.out ?_
          refine hK.out _ _ trivial (fun hHeld => ?_)
          clear hK
          try simp only [Act.put, List.setIfInBounds_toArray, List.set_cons_zero, List.set_cons_succ]
          refine wpAnyH_take (i := 12) (oi := ⟨_, _, _, _, _, _⟩) (v := ?_) rfl (by kernel_rfl) (by kernel_rfl) (by kernel_rfl) (fun _ _ _ h => h) (Or.inl ⟨by rfl, ?_⟩) (by assumption) ?_
          rotate_left
          · intro w hSw; go_simp; try (with_reducible rfl)
          try simp only [Act.put, List.setIfInBounds_toArray, List.set_cons_zero, List.set_cons_succ]
          refine wpAnyH_ready (rs := [13]) (by kernel_rfl) (by simp) ?_
          refine AllReadyH.cons (o := ⟨_, _, _, _, _, _⟩) rfl (fun K hK => ?_) AllReadyH.nil
          rw [if_pos (by rfl)]
          refine wp_store_mid _ _ _ rfl g (i * 32) _ rfl rfl HTI.out HSJ.out HOJ.out ?_
          refine hK.out _ _ trivial (fun hHeld => ?_)
          clear hK
          refine wpAnyH_take (i := 14) (oi := ⟨_, _, _, _, _, _⟩) (v := ?_) rfl (by kernel_rfl) (by kernel_rfl) (by kernel_rfl) (fun _ _ _ h => h) (Or.inl ⟨by rfl, ?_⟩) (by assumption) ?_
          rotate_left
          · intro w hSw; go_simp; try (with_reducible rfl)
          try simp only [Act.put, List.setIfInBounds_toArray, List.set_cons_zero, List.set_cons_succ]
          refine wpAnyH_ready (rs := [15]) (by kernel_rfl) (by simp) ?_
          refine AllReadyH.cons (o := ⟨_, _, _, _, _, _⟩) rfl (fun K hK => ?_) AllReadyH.nil
          rw [if_pos (by rfl)]
          refine wp_store_mid _ _ _ rfl g (j * 32) _ rfl rfl HTJ.out HSI.out HOI.out ?_
          refine hK.out _ _ trivial (fun hHeld => ?_)
          clear hK
          refine wpAnyH_done (by kernel_rfl) ?_ _
          go_wp2
          go_roundw
          case rel => exact ⟨i + 1, _, by go_num, by rw [show ((j : Int) - 1) = (n : Int) - 1 - ((i + 1 : Nat) : Int) from by have := HJI.out; omega], by omega, HHN.out, HWN.out, H1N.out, HFN.out⟩
          case measure => simp [intOf]; omega
      · go_wp2
        go_end0
        have := hH.done (by rw [HN.out]; omega) (by rw [HN.out]; omega)
        subst this
        refine ⟨rfl, ?_, hF.mono (fun k _ h => by rw [h]; rfl)⟩
        have := hR.arr (D := fun b => (Value.slice (some ⟨g, 0, none⟩) n cap).ownBlock = some b ∧ base ≤ b) ⟨rfl, hg⟩ (cap := cap) (by omega) (by omega)
        rw [hlen] at this
        exact this
end Go.Proofs.YtiaoifaglfhagaaDoor.MkW
