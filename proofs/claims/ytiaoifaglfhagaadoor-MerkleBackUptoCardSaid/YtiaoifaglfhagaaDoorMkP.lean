/- What the paths of a place come to, whatever the place. Condition: at most 2^42 digests; the tables are laid. -/
import Derived.Test.YtiaoifaglfhagaaDoorMkN
namespace Go.Proofs.YtiaoifaglfhagaaDoor.MkW
open Go Go.RowKit Mem Sha ShaW Mk Arr Row
set_option linter.unusedVariables false

theorem path_mem : ∀ (n : Nat) (ds : List Dg) (p : Nat), ds.length = n → (∀ d ∈ ds, d.length = 32) → ∀ x ∈ path ds p, x.length = 32 := by
  intro n
  induction n using Nat.strongRecOn with
  | ind n ih =>
    intro ds p hn h x hx
    subst hn
    by_cases h1 : ds.length ≤ 1
    · rw [path_one h1] at hx; cases hx
    · have hc := cutAt_lt (n := ds.length) (by omega)
      have hT : ∀ d ∈ ds.take (cutAt ds.length), d.length = 32 := fun d hd => h d (List.mem_of_mem_take hd)
      have hR : ∀ d ∈ ds.drop (cutAt ds.length), d.length = 32 := fun d hd => h d (List.mem_of_mem_drop hd)
      by_cases hp : p < cutAt ds.length
      · rw [path_left (by omega) hp] at hx
        rcases List.mem_append.1 hx with hx | hx
        · exact ih _ (by simp; omega) _ _ rfl hT x hx
        · rw [List.mem_singleton.1 hx]; exact root_length _ _ rfl hR
      · rw [path_right (by omega) hp] at hx
        rcases List.mem_append.1 hx with hx | hx
        · exact ih _ (by simp; omega) _ _ rfl hR x hx
        · rw [List.mem_singleton.1 hx]; exact root_length _ _ rfl hT
/-- what the two paths of a place come to -/
theorem two (w : World) (v : Value) (ds : List Dg) (hA : Arr 32 Any w v (dcs ds)) (hD : ∀ d ∈ ds, d.length = 32) (hn : ds.length ≤ 4398046511104) (hT : TabB w 1) (hR : TabB w 0) (p : Int) :
    ∃ (pp : List Dg) (is : Bool), (∀ d ∈ pp, d.length = 32) ∧ pp.length ≤ 4398046511104 ∧
      (Calls Tryd.prog 16 #[v, .int .i64 p] w fun e w' => ∃ v', e = .returned (.tuple #[v', .bool is]) ∧ Arr 32 Any w' v' (dcs pp) ∧ Below w.heap.size w w') ∧
      (∀ w1, Below w.heap.size w w1 → Calls Tryd.prog 17 #[v, .int .i64 p] w1 fun e w' => ∃ v', e = .returned (.tuple #[v', .bool is]) ∧ Arr 32 Any w' v' (dcs pp) ∧ Below w1.heap.size w1 w') := by
  by_cases hp : p < 0 ∨ (ds.length : Int) ≤ p
  · refine ⟨[], false, by simp, by simp, (path_none w v ds hA hn p hp).mono ?_, fun w1 hb => (ref_path_none w1 v ds (hA.below (by omega) hb) hn p hp).mono ?_⟩
    · rintro e w' ⟨rfl, rfl⟩
      exact ⟨_, rfl, Arr.nil _ _ _, Below.refl _ _⟩
    · rintro e w' ⟨rfl, rfl⟩
      exact ⟨_, rfl, Arr.nil _ _ _, Below.refl _ _⟩
  · obtain ⟨q, rfl⟩ : ∃ q : Nat, p = (q : Int) := ⟨p.toNat, by omega⟩
    have hq : q < ds.length := by omega
    refine ⟨path ds q, true, path_mem _ ds q rfl hD, Nat.le_trans (path_le ds q) hn, (path_calls w v ds hA hD hT hn q hq).mono ?_, fun w1 hb => (ref_path_calls _ w1 v ds rfl (hA.below (by omega) hb) hD (hR.below hb) hn q hq).mono ?_⟩
    · rintro e w' ⟨v', rfl, h1, h2⟩
      exact ⟨_, rfl, h1.any, h2⟩
    · rintro e w' ⟨v', rfl, h1, h2⟩
      exact ⟨_, rfl, h1.any, h2⟩

end Go.Proofs.YtiaoifaglfhagaaDoor.MkW
