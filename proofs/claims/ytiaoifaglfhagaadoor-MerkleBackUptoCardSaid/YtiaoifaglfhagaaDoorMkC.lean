/- Walks of the cut and of the root, the program's and the reference's. Conditions: as many digests as memory holds; the tables are laid. -/
import Derived.Test.YtiaoifaglfhagaaDoorMkB
import Derived.Test.YtiaoifaglfhagaaDoorBits
namespace Go.Proofs.YtiaoifaglfhagaaDoor.MkW
open Go Go.RowKit Mem Sha ShaW Mk Arr
set_option linter.unusedVariables false

set_option maxHeartbeats 4000000 in
theorem cut_calls (n : Nat) (w : World) (h : 2 ≤ n) (h2 : n < 9223372036854775808) :
    Calls Tryd.prog 27 #[.int .i64 (n : Int)] w fun e w' => e = .returned (.int .i64 (cutN n : Int)) ∧ w = w' := by
  have hcv : IntKind.u64.wrap ((n : Int) - 1) = (n : Int) - 1 := by rw [IntKind.wrap_u64]; omega
  obtain ⟨b1, b2, b3⟩ := bitLenAux_bounds 64 (n - 1) (by omega) (by omega)
  have e0 : ((n : Int) - 1).toNat = n - 1 := by omega
  have hcut : cutN n = 2 ^ (Lib.bitLen (n - 1) - 1) := rfl
  have HC := Lib.hid hcut
  clear hcut
  go_enter Tryd.func27, Tryd.ntmps27
  go_wp2_with fail
  refine (Shelf.bits_Len _ w (by omega) (by omega)).mono ?_
  rintro e w' ⟨rfl, rfl⟩
  rw [e0]
  have hb : Lib.bitLenAux 64 (n - 1) = Lib.bitLen (n - 1) := rfl
  rw [hb] at b1 b2 b3
  obtain ⟨c, hc⟩ : ∃ c, Lib.bitLen (n - 1) = c + 1 := ⟨Lib.bitLen (n - 1) - 1, by omega⟩
  rw [hc] at b2 b3 HC ⊢
  have hc63 : c < 63 := by
    rcases Nat.lt_or_ge c 63 with h | h
    · exact h
    · have := Nat.pow_le_pow_right (n := 2) (by omega) h
      rw [show c + 1 - 1 = c from rfl] at b2; omega
  clear hc e0 hb hcv b1
  go_wp2
  go_ret
  rw [show c + 1 - 1 = c from rfl] at b2
  refine ⟨ret_int ?_, rfl⟩
  rw [HC.out, show c + 1 - 1 = c from rfl, Int.natCast_pow]
  refine IntWalk.wrap64_in _ ⟨?_, ?_⟩
  · exact Int.le_trans (by decide) (Int.le_of_lt (Int.pow_pos (by decide)))
  · have hp : (2 : Nat) ^ c ≤ 9223372036854775807 := by omega
    have hp2 : (((2 : Nat) ^ c : Nat) : Int) ≤ 9223372036854775807 := by omega
    rw [Int.natCast_pow] at hp2
    exact hp2
theorem pow_unique {a b n : Nat} (h1 : 2 ^ a < n) (h2 : n ≤ 2 * 2 ^ a) (h3 : 2 ^ b < n) (h4 : n ≤ 2 * 2 ^ b) : a = b := by
  rcases Nat.lt_trichotomy a b with h | h | h
  · have := Nat.pow_le_pow_right (n := 2) (by omega) h
    rw [Nat.pow_succ] at this; omega
  · exact h
  · have := Nat.pow_le_pow_right (n := 2) (by omega) h
    rw [Nat.pow_succ] at this; omega
set_option maxHeartbeats 4000000 in
theorem ref_cut_calls (n : Nat) (w : World) (h : 2 ≤ n) (h2 : n < 4611686018427387904) :
    Calls Tryd.prog 28 #[.int .i64 (n : Int)] w fun e w' => e = .returned (.int .i64 (cutN n : Int)) ∧ w = w' := by
  obtain ⟨c1, c2, c3⟩ := cutN_bounds h (by omega)
  have hcut : cutN n = 2 ^ (Lib.bitLen (n - 1) - 1) := rfl
  have HC := Lib.hid hcut
  clear hcut
  go_enter Tryd.func28, Tryd.ntmps28
  go_wp2
  go_loop [3] (fun v => ∃ k j : Nat, v = .int .i64 (k : Int) ∧ k = 2 ^ j ∧ k < n) (fun v => n - (intOf v).toNat)
  case atStart => exact ⟨1, 0, rfl, rfl, by omega⟩
  case round =>
    obtain ⟨k, j, rfl, hk, hkn⟩ := hrel
    have hk1 : 1 ≤ k := by rw [hk]; exact Nat.one_le_two_pow
    have HK := Lib.hid hk
    clear hk
    by_cases hlt : 2 * k < n
    · have hI : 2 * (k : Int) < (n : Int) := by omega
      go_wp2
      go_round
      case rel => exact ⟨2 * k, j + 1, by go_num, by rw [HK.out, Nat.pow_succ]; omega, hlt⟩
      case measure => simp [intOf]; omega
    · have hI : ¬ 2 * (k : Int) < (n : Int) := by omega
      go_wp2
      go_ret
      have hj := HK.out
      have hC := HC.out
      have : j = Lib.bitLen (n - 1) - 1 := pow_unique (n := n) (by omega) (by omega) (by omega) (by omega)
      exact ⟨ret_int (by rw [hC, ← this, ← hj]), rfl⟩
end Go.Proofs.YtiaoifaglfhagaaDoor.MkW
