/- Two lists, the first of a power of two: the root of both is made of theirs. In plain Lean. -/
import Derived.Test.YtiaoifaglfhagaaDoorMkP
import Derived.Test.YtiaoifaglfhagaaDoorBulk
namespace Go.Proofs.YtiaoifaglfhagaaDoor.MkW
open Go Go.RowKit Mem Sha ShaW Mk Arr Row
set_option linter.unusedVariables false

theorem pow_of_and : ∀ n : Nat, 0 < n → n &&& (n - 1) = 0 → ∃ k, n = 2 ^ k := by
  intro n
  induction n using Nat.strongRecOn with
  | ind n ih =>
    intro h0 h
    by_cases h1 : n = 1
    · exact ⟨0, h1⟩
    have hd : n / 2 &&& (n - 1) / 2 = 0 := by rw [← Nat.and_div_two, h]
    rcases Nat.mod_two_eq_zero_or_one n with he | ho
    · rw [show (n - 1) / 2 = n / 2 - 1 by omega] at hd
      obtain ⟨k, hk⟩ := ih (n / 2) (by omega) (by omega) hd
      exact ⟨k + 1, by rw [Nat.pow_succ, ← hk]; omega⟩
    · rw [show (n - 1) / 2 = n / 2 by omega, Nat.and_self] at hd
      omega
theorem root_join (a b : List Dg) (k : Nat) (ha : a.length = 2 ^ k) (hb : 1 ≤ b.length) (hb2 : b.length ≤ a.length) (hs : a.length + b.length ≤ 9223372036854775808) : root (a ++ b) = nodeD (root a) (root b) := by
  have hp : 1 ≤ 2 ^ k := Nat.one_le_two_pow
  have h2 : 2 ≤ (a ++ b).length := by simp; omega
  have hc := cutN_bounds (n := (a ++ b).length) h2 (by simp; omega)
  have hce := cutAt_eq (n := (a ++ b).length) h2 (by simp; omega)
  have e : cutN (a ++ b).length = a.length := by
    have e1 : cutN (a ++ b).length = 2 ^ (Lib.bitLen ((a ++ b).length - 1) - 1) := rfl
    rw [e1] at hc ⊢
    have := pow_unique (a := Lib.bitLen ((a ++ b).length - 1) - 1) (b := k) (n := (a ++ b).length) hc.2.1 hc.2.2 (by simp; omega) (by simp; omega)
    rw [this, ha]
  rw [root_many h2, hce, e]
  simp
theorem and_pred (n : Nat) (h0 : 0 < n) (h1 : n < 9223372036854775808) : bits .and .i64 (n : Int) ((n : Int) - 1) = ((n &&& (n - 1) : Nat) : Int) := by
  rw [show (n : Int) - 1 = ((n - 1 : Nat) : Int) by omega]
  have hx : n &&& (n - 1) < 2 ^ 63 := Nat.and_lt_two_pow _ (by omega)
  have e1 : (BitVec.ofInt 64 (n : Int)).toNat = n := by
    rw [BitVec.ofInt_natCast, BitVec.toNat_ofNat]; exact Nat.mod_eq_of_lt (by omega)
  have e2 : (BitVec.ofInt 64 ((n - 1 : Nat) : Int)).toNat = n - 1 := by
    rw [BitVec.ofInt_natCast, BitVec.toNat_ofNat]; exact Nat.mod_eq_of_lt (by omega)
  show IntKind.i64.wrap ((BitVec.ofInt 64 (n : Int) &&& BitVec.ofInt 64 ((n - 1 : Nat) : Int)).toNat : Int) = _
  rw [BitVec.toNat_and, e1, e2]
  exact IntWalk.i64_in _ (by omega)
end Go.Proofs.YtiaoifaglfhagaaDoor.MkW
namespace Go.Proofs.YtiaoifaglfhagaaDoor.Bulk
theorem elems {H : Type} {α : Type} {d : DataW H} {l : List α} (h : (d = .nil ∧ l = []) ∨ ∃ el sp, d = .slice el sp ∧ el.length = l.length) : l.length ≤ Rows.uptoBulk d := by
  rcases h with ⟨rfl, rfl⟩ | ⟨el, sp, rfl, hl⟩
  · simp
  · have := all el
    simp only [Rows.uptoBulk]
    omega
end Go.Proofs.YtiaoifaglfhagaaDoor.Bulk
