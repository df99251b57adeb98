/- Walks of Check, the program's. Conditions: at most 2^42 digests on the way; the table is laid. -/
import Derived.Test.YtiaoifaglfhagaaDoorMkJ
namespace Go.Proofs.YtiaoifaglfhagaaDoor.MkW
open Go Go.RowKit Mem Sha ShaW Mk Arr Row
set_option linter.unusedVariables false

abbrev zero32 : Dg := List.replicate 32 0
theorem zero32_cells : zero32.map byt = List.replicate 32 (.int .u8 0) := by simp [zero32]
set_option maxHeartbeats 8000000 in
set_option maxRecDepth 100000 in
theorem rise_none (w : World) (leaf : Dg) (p n : Nat) (vp : Value) (ds : List Dg) (hA : Arr 32 Any w vp (dcs ds)) (hl : leaf.length = 32) (hn : n < 4294967296) (hp2 : p < 4294967296) (hd : ds.length ≤ 4398046511104) (hbad : n ≤ p ∨ (sides p n).length ≠ ds.length) :
    Calls Tryd.prog 30 #[dv leaf, .int .u32 (p : Int), .int .u32 (n : Int), vp] w fun e w' => e = .returned (.tuple #[.slice none 0 0, dv zero32, .bool false]) ∧ Below w.heap.size w w' := by
  obtain ⟨va, n1, rfl, hk1, hk2, hk3⟩ := hA.form
  simp only [List.length_map] at hA hk1 ⊢
  obtain ⟨W, hW, k9, kb, ks⟩ : ∃ W, (w.alloc (.cells (leaf.map byt).toArray 25)).alloc (.cells #[.int .u8 0, .int .u8 0, .int .u8 0, .int .u8 0, .int .u8 0, .int .u8 0, .int .u8 0, .int .u8 0, .int .u8 0, .int .u8 0, .int .u8 0, .int .u8 0, .int .u8 0, .int .u8 0, .int .u8 0, .int .u8 0, .int .u8 0, .int .u8 0, .int .u8 0, .int .u8 0, .int .u8 0, .int .u8 0, .int .u8 0, .int .u8 0, .int .u8 0, .int .u8 0, .int .u8 0, .int .u8 0, .int .u8 0, .int .u8 0, .int .u8 0, .int .u8 0] 25) = W ∧ Hid (Blk W (w.heap.size + 1) (List.replicate 32 (.int .u8 0)) 25) ∧ Hid (Below w.heap.size w W) ∧ w.heap.size + 2 ≤ W.heap.size := by
    refine ⟨_, rfl, Lib.hid ?_, Lib.hid (((Below.refl _ _).alloc (Nat.le_refl _) _).alloc (by simp) _), by simp⟩
    have := new32 (w.alloc (.cells (leaf.map byt).toArray 25))
    rwa [World.size_alloc] at this
  have HZS := Lib.hid (show (Tryd.prog.info? 25).map (·.size) = some ([.int .u8 0, .int .u8 0, .int .u8 0, .int .u8 0, .int .u8 0, .int .u8 0, .int .u8 0, .int .u8 0, .int .u8 0, .int .u8 0, .int .u8 0, .int .u8 0, .int .u8 0, .int .u8 0, .int .u8 0, .int .u8 0, .int .u8 0, .int .u8 0, .int .u8 0, .int .u8 0, .int .u8 0, .int .u8 0, .int .u8 0, .int .u8 0, .int .u8 0, .int .u8 0, .int .u8 0, .int .u8 0, .int .u8 0, .int .u8 0, .int .u8 0, .int .u8 0] : List Value).length from szD)
  have HZN := Lib.hid (show (List.replicate 32 (Value.int .u8 0)).length = ([.int .u8 0, .int .u8 0, .int .u8 0, .int .u8 0, .int .u8 0, .int .u8 0, .int .u8 0, .int .u8 0, .int .u8 0, .int .u8 0, .int .u8 0, .int .u8 0, .int .u8 0, .int .u8 0, .int .u8 0, .int .u8 0, .int .u8 0, .int .u8 0, .int .u8 0, .int .u8 0, .int .u8 0, .int .u8 0, .int .u8 0, .int .u8 0, .int .u8 0, .int .u8 0, .int .u8 0, .int .u8 0, .int .u8 0, .int .u8 0, .int .u8 0, .int .u8 0] : List Value).length from rfl)
  have HZO := Lib.hid (show ∀ v ∈ ([.int .u8 0, .int .u8 0, .int .u8 0, .int .u8 0, .int .u8 0, .int .u8 0, .int .u8 0, .int .u8 0, .int .u8 0, .int .u8 0, .int .u8 0, .int .u8 0, .int .u8 0, .int .u8 0, .int .u8 0, .int .u8 0, .int .u8 0, .int .u8 0, .int .u8 0, .int .u8 0, .int .u8 0, .int .u8 0, .int .u8 0, .int .u8 0, .int .u8 0, .int .u8 0, .int .u8 0, .int .u8 0, .int .u8 0, .int .u8 0, .int .u8 0, .int .u8 0] : List Value), v.oneCell' = true from one_cells zero32)
  clear hA
  by_cases hp : n ≤ p
  · have hpI : ¬ (p : Int) < (n : Int) := by omega
    have hpB : decide (n ≤ p) = true := by simp; omega
    have hb32 : ((p : Int) < (n : Int)) = False := by simp; omega
    clear hbad
    go_enter Tryd.func30, Tryd.ntmps30
    go_wp2_with (with_reducible refine wpList_store_blk rfl _ _ _ rfl (w.heap.size + 1) [.int .u8 0, .int .u8 0, .int .u8 0, .int .u8 0, .int .u8 0, .int .u8 0, .int .u8 0, .int .u8 0, .int .u8 0, .int .u8 0, .int .u8 0, .int .u8 0, .int .u8 0, .int .u8 0, .int .u8 0, .int .u8 0, .int .u8 0, .int .u8 0, .int .u8 0, .int .u8 0, .int .u8 0, .int .u8 0, .int .u8 0, .int .u8 0, .int .u8 0, .int .u8 0, .int .u8 0, .int .u8 0, .int .u8 0, .int .u8 0, .int .u8 0, .int .u8 0] _ rfl _ rfl rfl k9.out HZS.out HZN.out HZO.out ?_)
    refine bodyPost_ret (results_tct Tryd.results30 _ _ (w.heap.size + 1) 25 [.int .u8 0, .int .u8 0, .int .u8 0, .int .u8 0, .int .u8 0, .int .u8 0, .int .u8 0, .int .u8 0, .int .u8 0, .int .u8 0, .int .u8 0, .int .u8 0, .int .u8 0, .int .u8 0, .int .u8 0, .int .u8 0, .int .u8 0, .int .u8 0, .int .u8 0, .int .u8 0, .int .u8 0, .int .u8 0, .int .u8 0, .int .u8 0, .int .u8 0, .int .u8 0, .int .u8 0, .int .u8 0, .int .u8 0, .int .u8 0, .int .u8 0, .int .u8 0] _ rfl (k9.out.row _) Tryd.underlying25 rfl HZS.out) rfl ⟨rfl, below_setRow kb.out (by omega) _⟩
  · have hss : (sides p n).length ≠ ds.length := by rcases hbad with h | h; exact absurd h hp; exact h
    have hpI : (p : Int) < (n : Int) := by omega
    have hpB : decide (n ≤ p) = false := by simp; omega
    have hw1 : IntKind.i64.wrap (p : Int) = (p : Int) := IntWalk.i64_in _ (by omega)
    have hw2 : IntKind.i64.wrap (n : Int) = (n : Int) := IntWalk.i64_in _ (by omega)
    clear hbad
    go_enter Tryd.func30, Tryd.ntmps30
    go_wp2_with fail
    clear hW
    refine (sides_calls W p n hn (by omega)).mono ?_
    rintro e w3 ⟨vs0, rfl, g1, g2⟩
    obtain ⟨vs, n2, rfl, _⟩ := g1.form
    obtain ⟨ssr, hs⟩ : ∃ l, sides p n = l := ⟨_, rfl⟩
    rw [hs] at g1 hss ⊢
    simp only [List.length_map] at g1 ⊢
    have K9 := Lib.hid (k9.out.below g2)
    have KB := Lib.hid (kb.out.trans (g2.mono (by omega)))
    have hlB : ((ssr.length : Int) != (ds.length : Int)) = true := by simp; omega
    clear hs g1 g2 hw1 hw2 hss
    go_wp2_with (with_reducible refine wpList_store_blk rfl _ _ _ rfl (w.heap.size + 1) [.int .u8 0, .int .u8 0, .int .u8 0, .int .u8 0, .int .u8 0, .int .u8 0, .int .u8 0, .int .u8 0, .int .u8 0, .int .u8 0, .int .u8 0, .int .u8 0, .int .u8 0, .int .u8 0, .int .u8 0, .int .u8 0, .int .u8 0, .int .u8 0, .int .u8 0, .int .u8 0, .int .u8 0, .int .u8 0, .int .u8 0, .int .u8 0, .int .u8 0, .int .u8 0, .int .u8 0, .int .u8 0, .int .u8 0, .int .u8 0, .int .u8 0, .int .u8 0] _ rfl _ rfl rfl K9.out HZS.out HZN.out HZO.out ?_)
    refine bodyPost_ret (results_tct Tryd.results30 _ _ (w.heap.size + 1) 25 [.int .u8 0, .int .u8 0, .int .u8 0, .int .u8 0, .int .u8 0, .int .u8 0, .int .u8 0, .int .u8 0, .int .u8 0, .int .u8 0, .int .u8 0, .int .u8 0, .int .u8 0, .int .u8 0, .int .u8 0, .int .u8 0, .int .u8 0, .int .u8 0, .int .u8 0, .int .u8 0, .int .u8 0, .int .u8 0, .int .u8 0, .int .u8 0, .int .u8 0, .int .u8 0, .int .u8 0, .int .u8 0, .int .u8 0, .int .u8 0, .int .u8 0, .int .u8 0] _ rfl (K9.out.row _) Tryd.underlying25 rfl HZS.out) rfl ⟨rfl, below_setRow KB.out (by omega) _⟩
def chk (rt leaf : Dg) (p n : Nat) (ds : List Dg) : Bool := match rise leaf p n ds with | some d => d == rt | none => false
theorem topOf_length : ∀ (leaf : Dg) (ss : List Bool) (ds : List Dg), leaf.length = 32 → (topOf leaf ss ds).length = 32
  | _, [], _, h => by simpa [topOf] using h
  | _, _ :: _, [], h => by simpa [topOf] using h
  | leaf, s :: ss, d :: ds, h => by simp only [topOf]; exact topOf_length _ ss ds (nodeD_length _ _)
set_option maxHeartbeats 8000000 in
set_option maxRecDepth 100000 in
theorem check_calls (w : World) (rt leaf : Dg) (p n : Nat) (vp : Value) (ds : List Dg) (hA : Arr 32 Any w vp (dcs ds)) (hD : ∀ d ∈ ds, d.length = 32) (hr : rt.length = 32) (hl : leaf.length = 32) (hT : TabB w 1) (hn : n < 4294967296) (hp : p < 4294967296) (hd : ds.length ≤ 4398046511104) :
    Calls Tryd.prog 19 #[dv rt, dv leaf, .int .u32 (p : Int), .int .u32 (n : Int), vp] w fun e w' => e = .returned (.bool (chk rt leaf p n ds)) ∧ Below w.heap.size w w' := by
  obtain ⟨va, n1, rfl, hk1, hk2, hk3⟩ := hA.form
  simp only [List.length_map] at hA hk1 ⊢
  obtain ⟨W, hW, k0, k1, kb, ks⟩ : ∃ W, (w.alloc (.cells (rt.map byt).toArray 25)).alloc (.cells (leaf.map byt).toArray 25) = W ∧ Hid (Blk W w.heap.size (rt.map byt) 25) ∧ Hid (Blk W (w.heap.size + 1) (leaf.map byt) 25) ∧ Hid (Below w.heap.size w W) ∧ w.heap.size + 2 ≤ W.heap.size := by
    refine ⟨_, rfl, Lib.hid ((Blk.new w _ _ _ rfl).alloc _), Lib.hid ?_, Lib.hid (((Below.refl _ _).alloc (Nat.le_refl _) _).alloc (by simp) _), by simp⟩
    have := Blk.new (w.alloc (.cells (rt.map byt).toArray 25)) (leaf.map byt).toArray 25 _ rfl
    rwa [World.size_alloc] at this
  have HA := Lib.hid (hA.below (by omega) kb.out)
  have HT := Lib.hid (hT.below kb.out)
  have HRT := Lib.hid hr
  have HLF := Lib.hid hl
  have HD := Lib.hid hD
  clear hA hT hr hl hD
  go_enter Tryd.func19, Tryd.ntmps19
  go_wp2_with (first
    | (with_reducible refine wpList_load_cs (by with_unfolding_all rfl) _ _ rfl (w.heap.size + 1) _ rfl k1.out _ Tryd.underlying25 rfl (szD' HLF.out) _ rfl ?_)
    | fail)
  clear hW
  by_cases hok : p < n ∧ (sides p n).length = ds.length
  · refine (rise_calls W leaf p n _ ds HA.out HD.out HLF.out HT.out hn hok.1 hok.2).mono ?_
    rintro e w3 ⟨v3, rfl, g1, g2⟩
    have HCH := Lib.hid (show chk rt leaf p n ds = (topOf leaf (sides p n).reverse ds == rt) by unfold chk rise; rw [if_pos hok])
    have HML := Lib.hid (topOf_length leaf (sides p n).reverse ds HLF.out)
    obtain ⟨m, hm⟩ : ∃ m, topOf leaf (sides p n).reverse ds = m := ⟨_, rfl⟩
    rw [hm] at HCH HML ⊢
    have HMO := Lib.hid (one_cells m)
    obtain ⟨w4, hw4, N4, NB4, ns4⟩ := start32 w3
    have K0 := Lib.hid ((k0.out.below g2).below NB4.out)
    have N5 := Lib.hid (N4.out.row (m.map byt))
    have hf5 : Fr (fun b => b = w3.heap.size) w4 (w4.setRow w3.heap.size (m.map byt).toArray) := (Fr.refl (fun b => b = w3.heap.size) w4).setRow (.inr rfl) _
    have K5 := Lib.hid (K0.out.fr hf5 (by have := g2.size; omega))
    have KB5 := Lib.hid (((kb.out.trans (g2.mono (by omega))).trans (NB4.out.mono (by have := g2.size; omega))).trans (hf5.below (B := w.heap.size) (by have := g2.size; omega) (fun b h => by have := g2.size; omega)))
    have hqs : ∀ w, (Op.equalIn 10000 25 (.agg (m.map byt).toArray) (.agg (rt.map byt).toArray)).run Tryd.prog w = .ok (m == rt) w := fun w => run_equal_u8 Tryd.underlying25 (i := _) rfl (by kernel_rfl) Tryd.underlying5 w m rt HML.out HRT.out
    clear hm g1 g2 hf5 hok
    go_upto_region 2 with (first
      | (with_reducible refine wpList_store_blk rfl _ _ _ rfl w3.heap.size (m.map byt) _ rfl _ rfl rfl N4.out (szD' HML.out) (by simp [HML.out]) HMO.out ?_))
    clear hw4
    go_wp2_with (first
      | (with_reducible refine wpList_load_cs (by with_unfolding_all rfl) _ _ rfl w3.heap.size _ rfl N5.out _ Tryd.underlying25 rfl (szD' HML.out) _ rfl ?_)
      | (with_reducible refine wpList_load_cs (by with_unfolding_all rfl) _ _ rfl w.heap.size _ rfl K5.out _ Tryd.underlying25 rfl (szD' HRT.out) _ rfl ?_))
    go_ret
    exact ⟨by rw [HCH.out]; rfl, KB5.out⟩
  · refine (rise_none W leaf p n _ ds HA.out HLF.out hn hp hd (by by_cases h : p < n; exact .inr (fun e => hok ⟨h, e⟩); exact .inl (by omega))).mono ?_
    rintro e w3 ⟨rfl, g2⟩
    have HCH := Lib.hid (show chk rt leaf p n ds = false by unfold chk rise; rw [if_neg hok])
    have HMO := Lib.hid (one_cells zero32)
    obtain ⟨w4, hw4, N4, NB4, ns4⟩ := start32 w3
    have K0 := Lib.hid ((k0.out.below g2).below NB4.out)
    have N5 := Lib.hid (N4.out.row (zero32.map byt))
    have hf5 : Fr (fun b => b = w3.heap.size) w4 (w4.setRow w3.heap.size (zero32.map byt).toArray) := (Fr.refl (fun b => b = w3.heap.size) w4).setRow (.inr rfl) _
    have K5 := Lib.hid (K0.out.fr hf5 (by have := g2.size; omega))
    have KB5 := Lib.hid (((kb.out.trans (g2.mono (by omega))).trans (NB4.out.mono (by have := g2.size; omega))).trans (hf5.below (B := w.heap.size) (by have := g2.size; omega) (fun b h => by have := g2.size; omega)))
    have hqs : ∀ w, (Op.equalIn 10000 25 (.agg (zero32.map byt).toArray) (.agg (rt.map byt).toArray)).run Tryd.prog w = .ok (zero32 == rt) w := fun w => run_equal_u8 Tryd.underlying25 (i := _) rfl (by kernel_rfl) Tryd.underlying5 w zero32 rt rfl HRT.out
    clear g2 hf5 hok hqs
    go_upto_region 2 with (first
      | (with_reducible refine wpList_store_blk rfl _ _ _ rfl w3.heap.size (zero32.map byt) _ rfl _ rfl rfl N4.out (szD' rfl) (by simp) HMO.out ?_))
    clear hw4
    go_wp2
    go_ret
    exact ⟨by rw [HCH.out]; rfl, KB5.out⟩
end Go.Proofs.YtiaoifaglfhagaaDoor.MkW
