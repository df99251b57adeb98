/- The walk of the reference's Path. Conditions: at most 2^42 digests; the tables are laid. -/
import Derived.Test.YtiaoifaglfhagaaDoorMkF
namespace Go.Proofs.YtiaoifaglfhagaaDoor.MkW
open Go Go.RowKit Mem Sha ShaW Mk Arr Row
set_option linter.unusedVariables false

theorem path_le : ∀ (ds : List Dg) (p : Nat), (path ds p).length ≤ ds.length := by
  have key : ∀ (n : Nat) (ds : List Dg) (p : Nat), ds.length = n → (path ds p).length ≤ n - 1 := by
    intro n
    induction n using Nat.strongRecOn with
    | ind n ih =>
      intro ds p hn
      by_cases h : ds.length ≤ 1
      · rw [path_one h]; simp
      · have hc := cutAt_lt (n := n) (by omega)
        by_cases hp : p < cutAt ds.length
        · rw [path_left (by omega) hp, List.length_append, List.length_singleton, hn]
          have := ih (cutAt n) hc.2 (ds.take (cutAt n)) p (by simp; omega)
          omega
        · rw [path_right (by omega) hp, List.length_append, List.length_singleton, hn]
          have := ih (n - cutAt n) (by omega) (ds.drop (cutAt n)) (p - cutAt n) (by simp; omega)
          omega
  intro ds p
  have := key _ ds p rfl
  omega

set_option maxHeartbeats 8000000 in
set_option maxRecDepth 100000 in
theorem ref_path_calls (n : Nat) : ∀ (w : World) (v : Value) (ds : List Dg), ds.length = n → Arr 32 Any w v (dcs ds) → (∀ d ∈ ds, d.length = 32) → TabB w 0 → ds.length ≤ 4398046511104 → ∀ p : Nat, p < ds.length →
    Calls Tryd.prog 17 #[v, .int .i64 (p : Int)] w fun e w' => ∃ v', e = .returned (.tuple #[v', .bool true]) ∧ Arr 32 (fun b => w.heap.size ≤ b) w' v' (dcs (path ds p)) ∧ Below w.heap.size w w' := by
  induction n using Nat.strongRecOn with
  | ind n ih0 =>
  intro w v ds hn hA hD hT hbd p hp
  subst hn
  obtain ⟨a, c, rfl, hk1, hk2, hk3⟩ := hA.form
  simp only [List.length_map] at hA hk1 ⊢
  have HT := Lib.hid hT
  have h0 : ((p : Int) < 0) = False := by simp
  have hpI : (p : Int) < (ds.length : Int) := by omega
  by_cases h1 : ds.length = 1
  · have HE := Lib.hid (show path ds p = [] from path_one (by omega))
    have hl1 : (ds.length : Int) = 1 := by omega
    clear hA hD hT ih0 h1
    go_enter Tryd.func17, Tryd.ntmps17
    go_wp2
    go_ret2
    exact ⟨_, rfl, by rw [HE.out]; exact Arr.nil _ _ _, Below.refl _ _⟩
  · have h2 : 2 ≤ ds.length := by omega
    have hcb := cutN_bounds h2 (by omega)
    have hce := cutAt_eq h2 (by omega)
    have HD1 := Lib.hid (fun d hd => hD d (List.mem_of_mem_take hd) : ∀ d ∈ ds.take (cutN ds.length), d.length = 32)
    have HD2 := Lib.hid (fun d hd => hD d (List.mem_of_mem_drop hd) : ∀ d ∈ ds.drop (cutN ds.length), d.length = 32)
    obtain ⟨sa, sc, _, hs1, _, ha1⟩ := run_slice_arr elemD hA 0 (cutN ds.length) (Nat.zero_le _) (by simp; omega)
    have hs1 := hs1 rfl
    rw [List.drop_zero, ← dcs_take] at ha1
    simp only [Nat.sub_zero] at hs1 ha1
    obtain ⟨sb, sd, _, _, hs2, ha2⟩ := run_slice_arr elemD hA (cutN ds.length) (dcs ds).length (by simp; omega) (Nat.le_refl _)
    have hs2 := hs2 rfl
    rw [List.take_length, ← dcs_drop] at ha2
    simp only [List.length_map] at hs2 ha2
    have HA1 := Lib.hid ha1
    have HA2 := Lib.hid ha2
    have hcI : (0 : Int) ≤ (cutN ds.length : Int) := by omega
    have hcL : (cutN ds.length : Int) ≤ (ds.length : Int) := by omega
    have hl1 : ((ds.length : Int) == 1) = false := by simp; omega
    have HI := Lib.hid ih0
    clear ha1 ha2 hA hD hT ih0
    go_enter Tryd.func17, Tryd.ntmps17
    go_wp2_with fail
    refine (ref_cut_calls _ _ h2 (by omega)).mono ?_
    rintro e wz ⟨rfl, rfl⟩
    have ih := HI.out
    clear HI
    by_cases hq : p < cutN ds.length
    · have hqI : (p : Int) < (cutN ds.length : Int) := by omega
      have HPE := Lib.hid (show path ds p = path (ds.take (cutN ds.length)) p ++ [root (ds.drop (cutN ds.length))] by rw [path_left h2 (by rw [hce]; exact hq), hce])
      have HPL := Lib.hid (show (path (ds.take (cutN ds.length)) p).length ≤ 4398046511103 by
        have h3 := path_le (ds.take (cutN ds.length)) p
        have h4 : (ds.take (cutN ds.length)).length ≤ ds.length - 1 := by simp <;> omega
        omega)
      clear hce
      go_wp2_with fail
      refine (ih _ (by simp; omega) w _ (ds.take (cutN ds.length)) rfl HA1.out.any HD1.out HT.out (by simp; omega) p (by simp; omega)).mono ?_
      rintro e w1 ⟨v1, rfl, g1, g2⟩
      obtain ⟨a1, n1, rfl, _⟩ := g1.form
      have hs1 := g2.size
      have HV1 := Lib.hid g1
      have HB1 := Lib.hid g2
      have HAB := Lib.hid (HA2.out.any.below (by omega) g2)
      have HT1 := Lib.hid (HT.out.below g2)
      have HPD := Lib.hid (dcs_one (ds := path (ds.take (cutN ds.length)) p))
      obtain ⟨pp, hpp⟩ : ∃ pp, path (ds.take (cutN ds.length)) p = pp := ⟨_, rfl⟩
      rw [hpp] at HV1 HPD HPL HPE ⊢
      simp only [List.length_map] at HV1 ⊢
      clear hpp g1 g2
      go_wp2_with (at_builtin; refine wpList_append_arr _ rfl (.tmp 37) (.tmp 38) 22 rfl w1.heap.size 25 elemD _ [] rfl (OwnA.nil _ _ _ _) _ (dcs pp) rfl HV1.out HPD.out (by have := HPL.out; simp; unfold maxLen; omega) (by have := HPL.out; simp; omega) (Nat.le_refl _) pp.length (by simp) ?_)
      intro a2 c2 w2 q1 q2 q3
      have hb12 : Below w1.heap.size w1 w2 := (Below.refl _ _).grown q2 (Nat.le_refl _) (fun k hk => by cases hk)
      have hs2 := hb12.size
      have HO2 := Lib.hid q1
      have HAB2 := Lib.hid (HAB.out.below (by omega) hb12)
      have HB2 := Lib.hid (HB1.out.trans (hb12.mono hs1))
      have HT2 := Lib.hid (HT1.out.below hb12)
      clear q1 q2 q3 hb12
      go_wp2_with fail
      refine (ref_root_calls _ w2 _ (ds.drop (cutN ds.length)) rfl HAB2.out HD2.out HT2.out (by simp; omega)).mono ?_
      rintro e w3 ⟨rfl, g⟩
      have hs3 := g.size
      obtain ⟨m, hm⟩ : ∃ m, root (ds.drop (cutN ds.length)) = m := ⟨_, rfl⟩
      have HML := Lib.hid (show m.length = 32 by rw [← hm]; exact root_length _ _ rfl HD2.out)
      have HSM := Lib.hid (show ((m.map byt).toArray).size = 32 by rw [List.size_toArray, List.length_map]; exact HML.out)
      rw [hm] at HPE ⊢
      have HO3 := Lib.hid ((HO2.out.below g).alloc (.cells (m.map byt).toArray 25))
      have HB3 := Lib.hid ((HB2.out.trans (g.mono (by omega))).alloc (by omega) (.cells (m.map byt).toArray 25))
      have HAM := Lib.hid (arr_one (k := 32) (D := Any) w3 (m.map byt).toArray 25 (0, 0) (m.map byt) (by rw [List.length_map]; exact HML.out) rfl trivial)
      have HMO := Lib.hid (dcs_one (ds := [m]))
      have hpl := HPL.out
      clear hm g
      go_wp2_with (first | (with_reducible refine wpList_buildSlice1 _ rfl elemD _ rfl _ rfl HSM.out (by decide) ?_) | (at_builtin; refine wpList_append_arr _ rfl (.tmp 40) (.tmp 45) 22 rfl w1.heap.size 25 elemD _ (dcs pp) rfl HO3.out _ [m.map byt] rfl HAM.out HMO.out (by simp; unfold maxLen; omega) (by simp; omega) (by simp; omega) (pp.length + 1) (by simp) ?_))
      intro a4 c4 w4 q1 q2 q3
      have hlo := HO3.out.lt
      have HB4 := Lib.hid (HB3.out.grown q2 (by simp; omega) (fun k hk => by have := (hlo k hk).1; omega))
      have HR := Lib.hid (show Arr 32 (fun b => w.heap.size ≤ b) w4 (.slice a4 (pp.length + 1) c4) (dcs (path ds p)) by
        rw [HPE.out, show dcs (pp ++ [m]) = dcs pp ++ [m.map byt] by simp [dcs]]
        exact q1.arr.mono (by omega) (fun b _ h => by omega))
      clear q1 q2 q3 hlo hpl
      go_wp2
      go_ret2
      exact ⟨_, rfl, HR.out, HB4.out⟩
    · have hqI : ¬ (p : Int) < (cutN ds.length : Int) := by omega
      have HPE := Lib.hid (show path ds p = path (ds.drop (cutN ds.length)) (p - cutN ds.length) ++ [root (ds.take (cutN ds.length))] by rw [path_right h2 (by rw [hce]; exact hq), hce])
      have HPL := Lib.hid (show (path (ds.drop (cutN ds.length)) (p - cutN ds.length)).length ≤ 4398046511103 by
        have h3 := path_le (ds.drop (cutN ds.length)) (p - cutN ds.length)
        have h4 : (ds.drop (cutN ds.length)).length ≤ ds.length - 1 := by simp <;> omega
        omega)
      clear hce
      go_wp2_with fail
      rw [show ((p : Int) - (cutN ds.length : Int)) = ((p - cutN ds.length : Nat) : Int) from by omega]
      refine (ih _ (by simp; omega) w _ (ds.drop (cutN ds.length)) rfl HA2.out.any HD2.out HT.out (by simp; omega) (p - cutN ds.length) (by simp; omega)).mono ?_
      rintro e w1 ⟨v1, rfl, g1, g2⟩
      obtain ⟨a1, n1, rfl, _⟩ := g1.form
      have hs1 := g2.size
      have HV1 := Lib.hid g1
      have HB1 := Lib.hid g2
      have HAB := Lib.hid (HA1.out.any.below (by omega) g2)
      have HT1 := Lib.hid (HT.out.below g2)
      have HPD := Lib.hid (dcs_one (ds := path (ds.drop (cutN ds.length)) (p - cutN ds.length)))
      obtain ⟨pp, hpp⟩ : ∃ pp, path (ds.drop (cutN ds.length)) (p - cutN ds.length) = pp := ⟨_, rfl⟩
      rw [hpp] at HV1 HPD HPL HPE ⊢
      simp only [List.length_map] at HV1 ⊢
      clear hpp g1 g2
      go_wp2_with (at_builtin; refine wpList_append_arr _ rfl (.tmp 57) (.tmp 58) 22 rfl w1.heap.size 25 elemD _ [] rfl (OwnA.nil _ _ _ _) _ (dcs pp) rfl HV1.out HPD.out (by have := HPL.out; simp; unfold maxLen; omega) (by have := HPL.out; simp; omega) (Nat.le_refl _) pp.length (by simp) ?_)
      intro a2 c2 w2 q1 q2 q3
      have hb12 : Below w1.heap.size w1 w2 := (Below.refl _ _).grown q2 (Nat.le_refl _) (fun k hk => by cases hk)
      have hs2 := hb12.size
      have HO2 := Lib.hid q1
      have HAB2 := Lib.hid (HAB.out.below (by omega) hb12)
      have HB2 := Lib.hid (HB1.out.trans (hb12.mono hs1))
      have HT2 := Lib.hid (HT1.out.below hb12)
      clear q1 q2 q3 hb12
      go_wp2_with fail
      refine (ref_root_calls _ w2 _ (ds.take (cutN ds.length)) rfl HAB2.out HD1.out HT2.out (by simp; omega)).mono ?_
      rintro e w3 ⟨rfl, g⟩
      have hs3 := g.size
      obtain ⟨m, hm⟩ : ∃ m, root (ds.take (cutN ds.length)) = m := ⟨_, rfl⟩
      have HML := Lib.hid (show m.length = 32 by rw [← hm]; exact root_length _ _ rfl HD1.out)
      have HSM := Lib.hid (show ((m.map byt).toArray).size = 32 by rw [List.size_toArray, List.length_map]; exact HML.out)
      rw [hm] at HPE ⊢
      have HO3 := Lib.hid ((HO2.out.below g).alloc (.cells (m.map byt).toArray 25))
      have HB3 := Lib.hid ((HB2.out.trans (g.mono (by omega))).alloc (by omega) (.cells (m.map byt).toArray 25))
      have HAM := Lib.hid (arr_one (k := 32) (D := Any) w3 (m.map byt).toArray 25 (0, 0) (m.map byt) (by rw [List.length_map]; exact HML.out) rfl trivial)
      have HMO := Lib.hid (dcs_one (ds := [m]))
      have hpl := HPL.out
      clear hm g
      go_wp2_with (first | (with_reducible refine wpList_buildSlice1 _ rfl elemD _ rfl _ rfl HSM.out (by decide) ?_) | (at_builtin; refine wpList_append_arr _ rfl (.tmp 60) (.tmp 65) 22 rfl w1.heap.size 25 elemD _ (dcs pp) rfl HO3.out _ [m.map byt] rfl HAM.out HMO.out (by simp; unfold maxLen; omega) (by simp; omega) (by simp; omega) (pp.length + 1) (by simp) ?_))
      intro a4 c4 w4 q1 q2 q3
      have hlo := HO3.out.lt
      have HB4 := Lib.hid (HB3.out.grown q2 (by simp; omega) (fun k hk => by have := (hlo k hk).1; omega))
      have HR := Lib.hid (show Arr 32 (fun b => w.heap.size ≤ b) w4 (.slice a4 (pp.length + 1) c4) (dcs (path ds p)) by
        rw [HPE.out, show dcs (pp ++ [m]) = dcs pp ++ [m.map byt] by simp [dcs]]
        exact q1.arr.mono (by omega) (fun b _ h => by omega))
      clear q1 q2 q3 hlo hpl
      go_wp2
      go_ret2
      exact ⟨_, rfl, HR.out, HB4.out⟩
end Go.Proofs.YtiaoifaglfhagaaDoor.MkW
