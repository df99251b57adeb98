/- The walk of Check, the reference's. Conditions: at most 2^42 digests on the way; the table is laid. -/
import Derived.Test.YtiaoifaglfhagaaDoorMkL
namespace Go.Proofs.YtiaoifaglfhagaaDoor.MkW
open Go Go.RowKit Mem Sha ShaW Mk Arr Row
set_option linter.unusedVariables false

theorem sides_pow : ∀ (k n p : Nat), n ≤ 2 ^ k → n ≤ 9223372036854775808 → (sides p n).length ≤ k
  | 0, n, p, h, _ => by rw [sides, if_pos (by simpa using h)]; simp
  | k + 1, n, p, h, hb => by
    by_cases h1 : n ≤ 1
    · rw [sides, if_pos h1]; simp
    · have hc := cutN_bounds (n := n) (by omega) hb
      have hce := cutAt_eq (n := n) (by omega) hb
      have hcut : cutN n ≤ 2 ^ k := by
        have e : cutN n = 2 ^ (Lib.bitLen (n - 1) - 1) := rfl
        rcases Nat.lt_or_ge k (Lib.bitLen (n - 1) - 1) with hk | hk
        · have := Nat.pow_le_pow_right (n := 2) (by omega) hk
          rw [← e] at this; omega
        · rw [e]; exact Nat.pow_le_pow_right (by omega) hk
      rw [sides, if_neg h1, hce]
      split
      · have := sides_pow k (cutN n) p hcut (by omega); simp; omega
      · have := sides_pow k (n - cutN n) (p - cutN n) (by omega) (by omega); simp; omega
theorem rise_long {leaf : Dg} {p n : Nat} {ds : List Dg} (hn : n < 4294967296) (h : 64 < ds.length) : rise leaf p n ds = none := by
  unfold rise
  rw [if_neg]
  rintro ⟨_, h2⟩
  have := sides_pow 32 n p (by omega) (by omega)
  omega
set_option maxHeartbeats 8000000 in
set_option maxRecDepth 100000 in
theorem ref_check_calls (w : World) (rt leaf : Dg) (p n : Nat) (vp : Value) (ds : List Dg) (hA : Arr 32 Any w vp (dcs ds)) (hD : ∀ d ∈ ds, d.length = 32) (hr : rt.length = 32) (hl : leaf.length = 32) (hT : TabB w 0) (hn : n < 4294967296) (hp : p < 4294967296) (hd : ds.length ≤ 4398046511104) :
    Calls Tryd.prog 20 #[dv rt, dv leaf, .int .u32 (p : Int), .int .u32 (n : Int), vp] w fun e w' => e = .returned (.bool (chk rt leaf p n ds)) ∧ Below w.heap.size w w' := by
  obtain ⟨va, n1, rfl, hk1, hk2, hk3⟩ := hA.form
  simp only [List.length_map] at hA hk1 ⊢
  obtain ⟨W, hW, k0, k1, kb, ks⟩ : ∃ W, (w.alloc (.cells (rt.map byt).toArray 25)).alloc (.cells (leaf.map byt).toArray 25) = W ∧ Hid (Blk W w.heap.size (rt.map byt) 25) ∧ Hid (Blk W (w.heap.size + 1) (leaf.map byt) 25) ∧ Hid (Below w.heap.size w W) ∧ w.heap.size + 2 ≤ W.heap.size := by
    refine ⟨_, rfl, Lib.hid ((Blk.new w _ _ _ rfl).alloc _), Lib.hid ?_, Lib.hid (((Below.refl _ _).alloc (Nat.le_refl _) _).alloc (by simp) _), by simp⟩
    have := Blk.new (w.alloc (.cells (rt.map byt).toArray 25)) (leaf.map byt).toArray 25 _ rfl
    rwa [World.size_alloc] at this
  have HA := Lib.hid (hA.below (by omega) kb.out)
  have HT := Lib.hid (hT.below kb.out)
  have HRT := Lib.hid hr
  have HLF := Lib.hid hl
  have HD := Lib.hid hD
  clear hA hT hr hl hD
  by_cases h64 : 64 < ds.length
  · have hI : (64 : Int) < (ds.length : Int) := by omega
    have HC := Lib.hid (show chk rt leaf p n ds = false by unfold chk; rw [rise_long hn h64])
    go_enter Tryd.func20, Tryd.ntmps20
    go_wp2
    go_ret
    exact ⟨by rw [HC.out]; rfl, kb.out⟩
  · have hI : ¬ (64 : Int) < (ds.length : Int) := by omega
    have hw1 : IntKind.i64.wrap (p : Int) = (p : Int) := IntWalk.i64_in _ (by omega)
    have hw2 : IntKind.i64.wrap (n : Int) = (n : Int) := IntWalk.i64_in _ (by omega)
    go_enter Tryd.func20, Tryd.ntmps20
    go_wp2_with (first
      | (with_reducible refine wpList_load_cs (by with_unfolding_all rfl) _ _ rfl (w.heap.size + 1) _ rfl k1.out _ Tryd.underlying25 rfl (szD' HLF.out) _ rfl ?_)
      | fail)
    clear hW hw1 hw2
    refine (fold_calls leaf HLF.out ds.length W ds rfl p n _ HA.out HD.out HT.out hn hp hd).mono ?_
    rintro e w3 ⟨m, rfl, hml, hmr, g2⟩
    have HML := Lib.hid hml
    have HMO := Lib.hid (one_cells m)
    have HCT := Lib.hid (show ∀ x, rise leaf p n ds = some x → chk rt leaf p n ds = (m == rt) from fun x hx => by unfold chk; rw [hx, hmr x hx])
    obtain ⟨w4, hw4, N4, NB4, ns4⟩ := start32 w3
    have K0 := Lib.hid ((k0.out.below g2).below NB4.out)
    have N5 := Lib.hid (N4.out.row (m.map byt))
    have hf5 : Fr (fun b => b = w3.heap.size) w4 (w4.setRow w3.heap.size (m.map byt).toArray) := (Fr.refl (fun b => b = w3.heap.size) w4).setRow (.inr rfl) _
    have K5 := Lib.hid (K0.out.fr hf5 (by have := g2.size; omega))
    have KB5 := Lib.hid (((kb.out.trans (g2.mono (by omega))).trans (NB4.out.mono (by have := g2.size; omega))).trans (hf5.below (B := w.heap.size) (by have := g2.size; omega) (fun b h => by have := g2.size; omega)))
    have hqs : ∀ w, (Op.equalIn 10000 25 (.agg (m.map byt).toArray) (.agg (rt.map byt).toArray)).run Tryd.prog w = .ok (m == rt) w := fun w => run_equal_u8 Tryd.underlying25 (i := _) rfl (by kernel_rfl) Tryd.underlying5 w m rt hml HRT.out
    clear hml hmr g2 hf5
    rcases hrs : rise leaf p n ds with _ | x
    · have HC := Lib.hid (show chk rt leaf p n ds = false by unfold chk; rw [hrs])
      clear hrs
      simp only [Option.isSome_none]
      go_upto_region 4 with (first
        | (with_reducible refine wpList_store_blk rfl _ _ _ rfl w3.heap.size (m.map byt) _ rfl _ rfl rfl N4.out (szD' HML.out) (by simp [HML.out]) HMO.out ?_))
      clear hw4
      go_wp2
      go_ret
      exact ⟨by rw [HC.out]; rfl, KB5.out⟩
    · have HC := Lib.hid (HCT.out x hrs)
      clear hrs
      simp only [Option.isSome_some]
      go_upto_region 4 with (first
        | (with_reducible refine wpList_store_blk rfl _ _ _ rfl w3.heap.size (m.map byt) _ rfl _ rfl rfl N4.out (szD' HML.out) (by simp [HML.out]) HMO.out ?_))
      clear hw4
      go_wp2_with (first
        | (with_reducible refine wpList_load_cs (by with_unfolding_all rfl) _ _ rfl w3.heap.size _ rfl N5.out _ Tryd.underlying25 rfl (szD' HML.out) _ rfl ?_)
        | (with_reducible refine wpList_load_cs (by with_unfolding_all rfl) _ _ rfl w.heap.size _ rfl K5.out _ Tryd.underlying25 rfl (szD' HRT.out) _ rfl ?_))
      go_ret
      exact ⟨by rw [HC.out]; rfl, KB5.out⟩
end Go.Proofs.YtiaoifaglfhagaaDoor.MkW
