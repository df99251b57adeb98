/- Each path leads from its leaf to the root. In plain Lean. -/
import Derived.Test.YtiaoifaglfhagaaDoorMkV
namespace Go.Proofs.YtiaoifaglfhagaaDoor.MkW
open Go Go.RowKit Mem Sha ShaW Mk Arr Row
set_option linter.unusedVariables false

theorem sides_left {p n : Nat} (h : 2 ≤ n) (hp : p < cutAt n) : sides p n = false :: sides p (cutAt n) := by rw [sides, if_neg (by omega), if_pos hp]
theorem sides_right {p n : Nat} (h : 2 ≤ n) (hp : ¬ p < cutAt n) : sides p n = true :: sides (p - cutAt n) (n - cutAt n) := by rw [sides, if_neg (by omega), if_neg hp]
theorem top_path : ∀ (n : Nat) (ds : List Dg) (p : Nat) (hn : ds.length = n) (hp : p < ds.length), topOf (ds[p]'hp) (sides p n).reverse (path ds p) = root ds := by
  intro n
  induction n using Nat.strongRecOn with
  | ind n ih =>
    intro ds p hn hp
    subst hn
    by_cases h1 : ds.length ≤ 1
    · match ds, hp, h1 with
      | [d], hp, _ =>
        obtain rfl : p = 0 := by simpa using hp
        rw [path_one (by simp), sides, if_pos (by simp), Mk.root_one]
        rfl
    · have h2 : 2 ≤ ds.length := by omega
      have hc := cutAt_lt (n := ds.length) (by omega)
      by_cases hq : p < cutAt ds.length
      · have hl : (ds.take (cutAt ds.length)).length = cutAt ds.length := by simp; omega
        have := ih (cutAt ds.length) hc.2 (ds.take (cutAt ds.length)) p hl (by omega)
        rw [path_left h2 hq, sides_left h2 hq, List.reverse_cons, topOf_snoc _ _ _ _ _ (by rw [List.length_reverse, path_length (cutAt ds.length) _ _ hl])]
        rw [List.getElem_take] at this
        rw [this, root_many h2]
        rfl
      · have hl : (ds.drop (cutAt ds.length)).length = ds.length - cutAt ds.length := by simp
        have := ih (ds.length - cutAt ds.length) (by omega) (ds.drop (cutAt ds.length)) (p - cutAt ds.length) hl (by omega)
        rw [path_right h2 hq, sides_right h2 hq, List.reverse_cons, topOf_snoc _ _ _ _ _ (by rw [List.length_reverse, path_length (ds.length - cutAt ds.length) _ _ hl])]
        rw [List.getElem_drop] at this
        simp only [show cutAt ds.length + (p - cutAt ds.length) = p by omega] at this
        rw [this, root_many h2]
        rfl
theorem rise_path (ds : List Dg) (p : Nat) (hp : p < ds.length) : rise (ds[p]'hp) p ds.length (path ds p) = some (root ds) := by
  unfold rise
  rw [if_pos ⟨hp, (path_length ds.length ds p rfl).symm⟩, top_path ds.length ds p rfl hp]
theorem chk_path (ds : List Dg) (p : Nat) (hp : p < ds.length) : chk (root ds) (ds[p]'hp) p ds.length (path ds p) = true := by
  unfold chk
  rw [rise_path ds p hp]
  simp
theorem chk_beyond (rt leaf : Dg) (n : Nat) (ds : List Dg) : chk rt leaf n n ds = false := by
  unfold chk rise
  rw [if_neg (by omega)]
end Go.Proofs.YtiaoifaglfhagaaDoor.MkW
