/- Trees of digests, in plain Lean: the cut, the root, the path, what a path comes to. No program here. -/
import Derived.Lib.BitFns
import Derived.Test.YtiaoifaglfhagaaDoorShaTagged
namespace Go.Proofs.YtiaoifaglfhagaaDoor.Mk
open Go ShaW

abbrev Dg := List UInt8
def leafD (b : List UInt8) : Dg := tagged ⟨#[116, 111, 108, 108, 104, 111, 117, 115, 101, 47, 108, 101, 97, 102]⟩ [b]
def nodeD (l r : Dg) : Dg := tagged ⟨#[116, 111, 108, 108, 104, 111, 117, 115, 101, 47, 110, 111, 100, 101]⟩ [l, r]
def noneD : Dg := tagged ⟨#[116, 111, 108, 108, 104, 111, 117, 115, 101, 47, 110, 111, 110, 101]⟩ []
theorem leafD_length (b : List UInt8) : (leafD b).length = 32 := tagged_length _ _
theorem nodeD_length (l r : Dg) : (nodeD l r).length = 32 := tagged_length _ _
theorem noneD_length : noneD.length = 32 := tagged_length _ _

theorem bitLenAux_bounds : ∀ (f x : Nat), 0 < x → x < 2 ^ f → 0 < Lib.bitLenAux f x ∧ 2 ^ (Lib.bitLenAux f x - 1) ≤ x ∧ x < 2 ^ Lib.bitLenAux f x
  | 0, x, h0, h1 => by simp at h1; omega
  | f + 1, x, h0, h1 => by
    unfold Lib.bitLenAux
    rw [if_neg (by omega)]
    by_cases h2 : x / 2 = 0
    · have : x = 1 := by omega
      subst this
      have e0 : Lib.bitLenAux f (1 / 2) = 0 := by rw [show (1 / 2 : Nat) = 0 from rfl]; cases f <;> simp [Lib.bitLenAux]
      rw [e0]; simp
    · have ih := bitLenAux_bounds f (x / 2) (by omega) (by rw [Nat.pow_succ] at h1; omega)
      obtain ⟨i0, i1, i2⟩ := ih
      generalize Lib.bitLenAux f (x / 2) = b at *
      obtain ⟨c, rfl⟩ : ∃ c, b = c + 1 := ⟨b - 1, by omega⟩
      have e1 : 1 + (c + 1) - 1 = c + 1 := by omega
      have e2 : c + 1 - 1 = c := by omega
      rw [e1]
      rw [e2] at i1
      have p1 : 2 ^ (c + 1) = 2 * 2 ^ c := by rw [Nat.pow_succ]; omega
      have p2 : 2 ^ (1 + (c + 1)) = 2 * 2 ^ (c + 1) := by rw [Nat.pow_add]
      refine ⟨by omega, ?_, ?_⟩ <;> omega
/-- the greatest power of two below a number -/
def cutN (n : Nat) : Nat := 2 ^ (Lib.bitLen (n - 1) - 1)
theorem cutN_bounds {n : Nat} (h : 2 ≤ n) (h2 : n ≤ 9223372036854775808) : 1 ≤ cutN n ∧ cutN n < n ∧ n ≤ 2 * cutN n := by
  obtain ⟨h0, h1, h2⟩ := bitLenAux_bounds 64 (n - 1) (by omega) (by omega)
  unfold cutN Lib.bitLen
  generalize Lib.bitLenAux 64 (n - 1) = b at *
  obtain ⟨c, rfl⟩ : ∃ c, b = c + 1 := ⟨b - 1, by omega⟩
  rw [show c + 1 - 1 = c from rfl] at *
  have p1 : 2 ^ (c + 1) = 2 * 2 ^ c := by rw [Nat.pow_succ]; omega
  have p0 : 1 ≤ 2 ^ c := Nat.one_le_two_pow
  omega
/-- where the cut is below n, as the recursion wants it (whatever n) -/
def cutAt (n : Nat) : Nat := min (max (cutN n) 1) (n - 1)
theorem cutAt_eq {n : Nat} (h : 2 ≤ n) (h2 : n ≤ 9223372036854775808) : cutAt n = cutN n := by
  have := cutN_bounds h h2
  unfold cutAt; omega
theorem cutAt_lt {n : Nat} (h : 2 ≤ n) : 1 ≤ cutAt n ∧ cutAt n < n := by unfold cutAt; omega

def root (ds : List Dg) : Dg := if ds.length ≤ 1 then ds.headD noneD else nodeD (root (ds.take (cutAt ds.length))) (root (ds.drop (cutAt ds.length)))
termination_by ds.length
decreasing_by
  · have := cutAt_lt (n := ds.length) (by omega); simp; omega
  · have := cutAt_lt (n := ds.length) (by omega); simp; omega
theorem root_nil : root [] = noneD := by rw [root]; rfl
theorem root_one (d : Dg) : root [d] = d := by rw [root]; rfl
theorem root_many {ds : List Dg} (h : 2 ≤ ds.length) : root ds = nodeD (root (ds.take (cutAt ds.length))) (root (ds.drop (cutAt ds.length))) := by rw [root, if_neg (by omega)]
theorem root_length : ∀ (n : Nat) (ds : List Dg), ds.length = n → (∀ d ∈ ds, d.length = 32) → (root ds).length = 32
  | n, ds, hn, h => by
    by_cases h1 : ds.length ≤ 1
    · rw [root, if_pos h1]
      cases ds with
      | nil => exact noneD_length
      | cons d r => exact h d (by simp)
    · rw [root, if_neg h1]; exact nodeD_length _ _
/-- the trees beside the way, the lowest first -/
def path (ds : List Dg) (p : Nat) : List Dg :=
  if ds.length ≤ 1 then [] else
  if p < cutAt ds.length then path (ds.take (cutAt ds.length)) p ++ [root (ds.drop (cutAt ds.length))]
  else path (ds.drop (cutAt ds.length)) (p - cutAt ds.length) ++ [root (ds.take (cutAt ds.length))]
termination_by ds.length
decreasing_by
  · have := cutAt_lt (n := ds.length) (by omega); simp; omega
  · have := cutAt_lt (n := ds.length) (by omega); simp; omega
theorem path_one {ds : List Dg} {p : Nat} (h : ds.length ≤ 1) : path ds p = [] := by rw [path, if_pos h]
theorem path_left {ds : List Dg} {p : Nat} (h : 2 ≤ ds.length) (hp : p < cutAt ds.length) : path ds p = path (ds.take (cutAt ds.length)) p ++ [root (ds.drop (cutAt ds.length))] := by
  rw [path, if_neg (by omega), if_pos hp]
theorem path_right {ds : List Dg} {p : Nat} (h : 2 ≤ ds.length) (hp : ¬ p < cutAt ds.length) : path ds p = path (ds.drop (cutAt ds.length)) (p - cutAt ds.length) ++ [root (ds.take (cutAt ds.length))] := by
  rw [path, if_neg (by omega), if_neg hp]
/-- on which side the way goes, from the root down: true: on the right -/
def sides (p n : Nat) : List Bool :=
  if n ≤ 1 then [] else if p < cutAt n then false :: sides p (cutAt n) else true :: sides (p - cutAt n) (n - cutAt n)
termination_by n
decreasing_by
  · have := cutAt_lt (n := n) (by omega); omega
  · have := cutAt_lt (n := n) (by omega); omega
/-- the path's length hangs on the place and on how many there are alone -/
theorem path_length : ∀ (n : Nat) (ds : List Dg) (p : Nat), ds.length = n → (path ds p).length = (sides p n).length := by
  intro n
  induction n using Nat.strongRecOn with
  | ind n ih =>
    intro ds p hn
    by_cases h : n ≤ 1
    · rw [path_one (by omega), sides, if_pos h]; rfl
    · have hc := cutAt_lt (n := n) (by omega)
      rw [sides, if_neg h]
      by_cases hp : p < cutAt n
      · rw [path_left (by omega) (by rw [hn]; exact hp), if_pos hp, List.length_append, hn, ih (cutAt n) hc.2 _ _ (by simp; omega)]; simp
      · rw [path_right (by omega) (by rw [hn]; exact hp), if_neg hp, List.length_append, hn, ih (n - cutAt n) (by omega) _ _ (by simp; omega)]; simp
/-- one step up: the pair, and what it comes to -/
def pairOf (leaf d : Dg) (right : Bool) : Dg × Dg := if right then (d, leaf) else (leaf, d)
def nodeP (x : Dg × Dg) : Dg := nodeD x.1 x.2
/-- the pairs from a leaf up: the sides from the lowest on -/
def ups (leaf : Dg) : List Bool → List Dg → List (Dg × Dg)
  | s :: ss, d :: ds => pairOf leaf d s :: ups (nodeP (pairOf leaf d s)) ss ds
  | _, _ => []
def topOf (leaf : Dg) : List Bool → List Dg → Dg
  | s :: ss, d :: ds => topOf (nodeP (pairOf leaf d s)) ss ds
  | _, _ => leaf
/-- where a leaf and a path come to; none: the path has not the right length, or the place is none -/
def rise (leaf : Dg) (p n : Nat) (ds : List Dg) : Option Dg := if p < n ∧ (sides p n).length = ds.length then some (topOf leaf (sides p n).reverse ds) else none

theorem topOf_snoc : ∀ (leaf : Dg) (ss : List Bool) (ds : List Dg) (s : Bool) (d : Dg), ss.length = ds.length → topOf leaf (ss ++ [s]) (ds ++ [d]) = nodeP (pairOf (topOf leaf ss ds) d s)
  | leaf, [], [], s, d, _ => rfl
  | leaf, a :: ss, b :: ds, s, d, h => by
    simp only [List.cons_append, topOf]
    exact topOf_snoc _ ss ds s d (by simpa using h)
  | _, [], _ :: _, _, _, h => by simp at h
  | _, _ :: _, [], _, _, h => by simp at h
end Go.Proofs.YtiaoifaglfhagaaDoor.Mk
