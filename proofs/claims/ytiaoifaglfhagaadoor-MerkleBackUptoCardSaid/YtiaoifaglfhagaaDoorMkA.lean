/- Walks of Leaf and Node, the program's and the reference's. Conditions: the thing is of at most 2^47 - 4096 bytes; the tables are laid. -/
import Derived.Test.YtiaoifaglfhagaaDoorMkPure
import Derived.Test.YtiaoifaglfhagaaDoorArr
namespace Go.Proofs.YtiaoifaglfhagaaDoor.MkW
open Go Go.RowKit Mem Sha ShaW Mk Arr
set_option linter.unusedVariables false

/-- a digest as a value -/
abbrev dv (d : Dg) : Value := .agg (d.map byt).toArray
theorem szD : (Tryd.prog.info? 25).map (·.size) = some 32 := by kernel_rfl
theorem szD' {m : Dg} (h : m.length = 32) : (Tryd.prog.info? 25).map (·.size) = some (m.map byt).length := szD.trans (by rw [List.length_map, h])
theorem szD'' {m : Dg} (h : m.length = 32) : (Tryd.prog.info? 25).map (·.size) = some (m.map byt).toArray.size := szD.trans (by rw [List.size_toArray, List.length_map, h])
/-- a digest's block, as it is made -/
theorem start32 (w : World) : ∃ W, w.alloc (.cells #[.int .u8 0, .int .u8 0, .int .u8 0, .int .u8 0, .int .u8 0, .int .u8 0, .int .u8 0, .int .u8 0, .int .u8 0, .int .u8 0, .int .u8 0, .int .u8 0, .int .u8 0, .int .u8 0, .int .u8 0, .int .u8 0, .int .u8 0, .int .u8 0, .int .u8 0, .int .u8 0, .int .u8 0, .int .u8 0, .int .u8 0, .int .u8 0, .int .u8 0, .int .u8 0, .int .u8 0, .int .u8 0, .int .u8 0, .int .u8 0, .int .u8 0, .int .u8 0] 25) = W ∧ Hid (Blk W w.heap.size (List.replicate 32 (.int .u8 0)) 25) ∧ Hid (Below w.heap.size w W) ∧ w.heap.size + 1 = W.heap.size :=
  ⟨_, rfl, Lib.hid (new32 w), Lib.hid ((Below.refl _ _).alloc (Nat.le_refl _) _), by simp⟩
theorem byts_one (w : World) (v : Value) (l : List UInt8) (e : TypeId) (hv : Byt Any w v l) : Byts (w.alloc (.cells #[v] e)) (.slice (some ⟨w.heap.size, 0, none⟩) 1 1) [l] := by
  refine ⟨_, 1, rfl, ⟨by simp, by unfold maxLen; omega, fun h => by cases h⟩, .inr ⟨w.heap.size, 0, rfl, fun i hi => ?_⟩⟩
  obtain rfl : i = 0 := by simpa using hi
  exact ⟨v, (Blk.new w #[v] e [v] rfl).cell (i := 0) rfl, hv.below ((Below.refl _ _).alloc (Nat.le_refl _) _)⟩
theorem byts_two (w : World) (v u : Value) (l m : List UInt8) (e : TypeId) (hv : Byt Any w v l) (hu : Byt Any w u m) : Byts (w.alloc (.cells #[v, u] e)) (.slice (some ⟨w.heap.size, 0, none⟩) 2 2) [l, m] := by
  refine ⟨_, 2, rfl, ⟨by simp, by unfold maxLen; omega, fun h => by cases h⟩, .inr ⟨w.heap.size, 0, rfl, fun i hi => ?_⟩⟩
  have hb : Below w.heap.size w (w.alloc (.cells #[v, u] e)) := (Below.refl _ _).alloc (Nat.le_refl _) _
  match i, hi with
  | 0, _ => exact ⟨v, (Blk.new w #[v, u] e [v, u] rfl).cell (i := 0) rfl, hv.below hb⟩
  | 1, _ => exact ⟨u, (Blk.new w #[v, u] e [v, u] rfl).cell (i := 1) rfl, hu.below hb⟩
  | i + 2, h => simp at h; omega

set_option maxHeartbeats 4000000 in
set_option maxRecDepth 100000 in
theorem leaf_calls (w : World) (v : Value) (b : List UInt8) (hB : Byt Any w v b) (hl : b.length ≤ 140737488351232) (hT : TabB w 1) :
    Calls Tryd.prog 14 #[v] w fun e w' => e = .returned (dv (leafD b)) ∧ Below w.heap.size w w' := by
  obtain ⟨a, c, rfl, hk, _⟩ := id hB
  obtain ⟨W, hW, H0, HB, hs⟩ := start32 w
  have HBW := Lib.hid (hB.below HB.out)
  have HT := Lib.hid (hT.below HB.out)
  clear hB hT
  go_enter Tryd.func14, Tryd.ntmps14
  go_upto_region 1 with fail
  clear hW
  have hal : Below W.heap.size W (W.alloc (.cells #[.slice a b.length c] 23)) := (Below.refl _ _).alloc (Nat.le_refl _) _
  have HY := Lib.hid (byts_one W (.slice a b.length c) b 23 HBW.out)
  have HAL := Lib.hid hal
  have H1 := Lib.hid (H0.out.below hal)
  clear hal
  go_wp2_with fail
  refine (tagged_calls _ _ _ [b] HY.out (by decide) (by simp; omega) (by simp) (HT.out.below HAL.out)).mono ?_
  rintro e w2 ⟨rfl, g⟩
  have H2 := Lib.hid (H1.out.below g)
  have HB2 := Lib.hid (HB.out.trans ((HAL.out.trans (g.mono HAL.out.size)).mono (by omega)))
  have HE := Lib.hid (show leafD b = tagged _ [b] from rfl)
  have HML := Lib.hid (leafD_length b)
  have HONE := Lib.hid (one_cells (leafD b))
  rw [← HE.out]
  obtain ⟨m, hm⟩ : ∃ m, leafD b = m := ⟨_, rfl⟩
  rw [hm] at HML HONE ⊢
  have HM := Lib.hid hm
  clear g H1 HB hm HE
  go_wp2_with (with_reducible refine wpList_store_blk rfl _ _ _ rfl w.heap.size (m.map byt) _ rfl _ rfl rfl H2.out (szD' HML.out) (by simp [HML.out]) HONE.out ?_)
  exact bodyPost_ret (v := dv m) (results_cell_row Tryd.results14 _ _ w.heap.size 25 _ (0, 0) _ rfl (H2.out.row _) Tryd.underlying25 rfl (szD'' HML.out)) rfl ⟨by rw [HM.out], below_setRow HB2.out (Nat.le_refl _) _⟩

set_option maxHeartbeats 4000000 in
set_option maxRecDepth 100000 in
theorem ref_leaf_calls (w : World) (v : Value) (b : List UInt8) (hB : Byt Any w v b) (hl : b.length ≤ 140737488351232) (hT : TabB w 0) :
    Calls Tryd.prog 15 #[v] w fun e w' => e = .returned (dv (leafD b)) ∧ Below w.heap.size w w' := by
  obtain ⟨a, c, rfl, hk, _⟩ := id hB
  obtain ⟨W, hW, H0, HB, hs⟩ := start32 w
  have HBW := Lib.hid (hB.below HB.out)
  have HT := Lib.hid (hT.below HB.out)
  clear hB hT
  go_enter Tryd.func15, Tryd.ntmps15
  go_upto_region 1 with fail
  clear hW
  have hal : Below W.heap.size W (W.alloc (.cells #[.slice a b.length c] 23)) := (Below.refl _ _).alloc (Nat.le_refl _) _
  have HY := Lib.hid (byts_one W (.slice a b.length c) b 23 HBW.out)
  have HAL := Lib.hid hal
  have H1 := Lib.hid (H0.out.below hal)
  clear hal
  go_wp2_with fail
  refine (ref_tagged_calls _ _ _ [b] HY.out (by decide) (by simp; omega) (by simp) (HT.out.below HAL.out)).mono ?_
  rintro e w2 ⟨rfl, g⟩
  have H2 := Lib.hid (H1.out.below g)
  have HB2 := Lib.hid (HB.out.trans ((HAL.out.trans (g.mono HAL.out.size)).mono (by omega)))
  have HE := Lib.hid (show leafD b = tagged _ [b] from rfl)
  have HML := Lib.hid (leafD_length b)
  have HONE := Lib.hid (one_cells (leafD b))
  rw [← HE.out]
  obtain ⟨m, hm⟩ : ∃ m, leafD b = m := ⟨_, rfl⟩
  rw [hm] at HML HONE ⊢
  have HM := Lib.hid hm
  clear g H1 HB hm HE
  go_wp2_with (with_reducible refine wpList_store_blk rfl _ _ _ rfl w.heap.size (m.map byt) _ rfl _ rfl rfl H2.out (szD' HML.out) (by simp [HML.out]) HONE.out ?_)
  exact bodyPost_ret (v := dv m) (results_cell_row Tryd.results15 _ _ w.heap.size 25 _ (0, 0) _ rfl (H2.out.row _) Tryd.underlying25 rfl (szD'' HML.out)) rfl ⟨by rw [HM.out], below_setRow HB2.out (Nat.le_refl _) _⟩
end Go.Proofs.YtiaoifaglfhagaaDoor.MkW
