/- The walk of the sides of a way. Condition: the numbers are below 2^62. -/
import Derived.Test.YtiaoifaglfhagaaDoorMkH
import Derived.Test.YtiaoifaglfhagaaDoorArr3
namespace Go.Proofs.YtiaoifaglfhagaaDoor.MkW
open Go Go.RowKit Mem Sha ShaW Mk Arr Row
set_option linter.unusedVariables false

theorem elemB : ElemT Tryd.prog 69 4 (.bool false) 1 1 := ⟨Tryd.underlying69, ⟨_, rfl, rfl, rfl, rfl⟩, rfl, by omega⟩
abbrev bcs (l : List Bool) : List (List Value) := l.map (fun b => [.bool b])
theorem sides_le : ∀ (n p : Nat), (sides p n).length ≤ n - 1 := by
  intro n
  induction n using Nat.strongRecOn with
  | ind n ih =>
    intro p
    unfold sides
    split
    · simp
    · have hc := cutAt_lt (n := n) (by omega)
      split
      · have := ih (cutAt n) hc.2 p; simp; omega
      · have := ih (n - cutAt n) (by omega) (p - cutAt n); simp; omega
theorem bcs_one {l : List Bool} : ∀ x ∈ bcs l, ∀ c ∈ x, c.oneCell' = true := by
  intro x hx c hc
  obtain ⟨b, _, rfl⟩ := List.mem_map.1 hx
  rw [List.mem_singleton.1 hc]; rfl

set_option maxHeartbeats 8000000 in
set_option maxRecDepth 100000 in
theorem sides_calls (w : World) (p n : Nat) (hn : n < 4294967296) (hp : p < n) :
    Calls Tryd.prog 39 #[.int .i64 (p : Int), .int .i64 (n : Int)] w fun e w' => ∃ v, e = .returned v ∧ Arr 1 (fun b => w.heap.size ≤ b) w' v (bcs (sides p n)) ∧ Below w.heap.size w w' := by
  go_enter Tryd.func39, Tryd.ntmps39
  go_wp2
  go_loopw [0, 1, 5] (fun s0 s1 s5 wx => ∃ (q m : Nat) (acc : List Bool), s0 = .int .i64 (q : Int) ∧ s1 = .int .i64 (m : Int) ∧ q < m ∧ m ≤ n ∧ acc.length + m ≤ n ∧ sides p n = acc ++ sides q m ∧ OwnA 1 w.heap.size 4 wx s5 (bcs acc) ∧ Below w.heap.size w wx) (fun _ s1 _ _ => (intOf s1).toNat)
  case atStart => exact ⟨p, n, [], rfl, rfl, hp, Nat.le_refl _, by simp, rfl, OwnA.nil _ _ _ _, Below.refl _ _⟩
  case round =>
    obtain ⟨q, m, acc, rfl, rfl, hqm, hmn, hal, hE, hO, hB⟩ := hrel
    obtain ⟨oa, oc, rfl, _⟩ := hO.form
    simp only [List.length_map] at hO ⊢
    have hsw := hB.size
    have HE := Lib.hid hE
    have HO := Lib.hid hO
    have HB := Lib.hid hB
    clear hE hO hB
    by_cases hlt : 1 < m
    · have hltI : (1 : Int) < (m : Int) := by omega
      have hcb := cutN_bounds (n := m) (by omega) (by omega)
      have hce := cutAt_eq (n := m) (by omega) (by omega)
      have HL := Lib.hid (show q < cutN m → sides p n = (acc ++ [false]) ++ sides q (cutN m) from fun h => by rw [HE.out, sides, if_neg (by omega), if_pos (by omega), hce]; simp)
      have HR := Lib.hid (show ¬ q < cutN m → sides p n = (acc ++ [true]) ++ sides (q - cutN m) (m - cutN m) from fun h => by rw [HE.out, sides, if_neg (by omega), if_neg (by omega), hce]; simp)
      clear hce
      go_wp2_with fail
      refine (cut_calls _ _ (by omega) (by omega)).mono ?_
      rintro e wz ⟨rfl, rfl⟩
      have key : ∀ b : Bool, ∃ W, wr.alloc (.cells #[.bool b] 4) = W ∧ Hid (OwnA 1 w.heap.size 4 W (.slice oa acc.length oc) (bcs acc)) ∧ Hid (Arr 1 Any W (.slice (some ⟨wr.heap.size, 0, none⟩) 1 1) [[.bool b]]) ∧ Hid (Below w.heap.size w W) ∧ w.heap.size ≤ W.heap.size := fun b =>
        ⟨_, rfl, Lib.hid (HO.out.alloc _), Lib.hid (arr_one (k := 1) wr _ _ _ [.bool b] rfl rfl trivial), Lib.hid (HB.out.alloc hsw _), by simp; omega⟩
      have HN := Lib.hid (bcs_one (l := [true]))
      have HN2 := Lib.hid (bcs_one (l := [false]))
      by_cases hq : q < cutN m
      · have hqI : ¬ ((cutN m : Int) ≤ (q : Int)) := by omega
        have hE2 := HL.out hq
        have HE2 := Lib.hid hE2
        obtain ⟨W, hW, h1, h2, h3, h4⟩ := key false
        have hB : decide (cutN m ≤ q) = false := by simp; omega
        clear key hE2 HL HR
        go_wp2_with (at_builtin; refine wpList_append_arr _ rfl (.tmp 15) (.tmp 17) 69 rfl w.heap.size 4 elemB _ (bcs acc) rfl h1.out _ [[.bool false]] rfl h2.out HN2.out (by simp; unfold maxLen; omega) (by simp; omega) h4 (acc.length + 1) (by simp) ?_)
        intro a2 c2 w2 q1 q2 q3
        have hlo := h1.out.lt
        have HO2 := Lib.hid (show OwnA 1 w.heap.size 4 w2 (.slice a2 (acc.length + 1) c2) (bcs (acc ++ [false])) by rw [show bcs (acc ++ [false]) = bcs acc ++ [[.bool false]] by simp [bcs]]; exact q1)
        have HB2 := Lib.hid (h3.out.grown q2 h4 (fun k hk => (hlo k hk).1))
        clear q1 q2 q3 hlo hW
        go_wp2
        go_roundw
        case rel => exact ⟨q, cutN m, acc ++ [false], rfl, rfl, hq, by omega, by simp; omega, HE2.out, HO2.out, HB2.out⟩
        case measure => simp [intOf]; omega
      · have hqI : ((cutN m : Int) ≤ (q : Int)) := by omega
        have hE2 := HR.out hq
        have HE2 := Lib.hid hE2
        obtain ⟨W, hW, h1, h2, h3, h4⟩ := key true
        have hB : decide (cutN m ≤ q) = true := by simp; omega
        clear key hE2 HL HR
        go_wp2_with (at_builtin; refine wpList_append_arr _ rfl (.tmp 15) (.tmp 17) 69 rfl w.heap.size 4 elemB _ (bcs acc) rfl h1.out _ [[.bool true]] rfl h2.out HN.out (by simp; unfold maxLen; omega) (by simp; omega) h4 (acc.length + 1) (by simp) ?_)
        intro a2 c2 w2 q1 q2 q3
        have hlo := h1.out.lt
        have HO2 := Lib.hid (show OwnA 1 w.heap.size 4 w2 (.slice a2 (acc.length + 1) c2) (bcs (acc ++ [true])) by rw [show bcs (acc ++ [true]) = bcs acc ++ [[.bool true]] by simp [bcs]]; exact q1)
        have HB2 := Lib.hid (h3.out.grown q2 h4 (fun k hk => (hlo k hk).1))
        clear q1 q2 q3 hlo hW
        go_wp2
        go_roundw
        case rel => exact ⟨q - cutN m, m - cutN m, acc ++ [true], by rw [show ((q : Int) - (cutN m : Int)) = ((q - cutN m : Nat) : Int) from by omega], by rw [show ((m : Int) - (cutN m : Int)) = ((m - cutN m : Nat) : Int) from by omega], by omega, by omega, by simp; omega, HE2.out, HO2.out, HB2.out⟩
        case measure => simp [intOf]; omega
    · have hltI : ¬ (1 : Int) < (m : Int) := by omega
      have HE2 := Lib.hid (show sides p n = acc by rw [HE.out, sides, if_pos (by omega)]; simp)
      go_wp2
      go_ret
      exact ⟨_, rfl, by rw [HE2.out]; exact HO.out.arr.mono (by omega) (fun b _ h => h.2), HB.out⟩
end Go.Proofs.YtiaoifaglfhagaaDoor.MkW
