/- The walk of the law MerkleChecks. Condition: at most 2^42 digests; the tables are laid. -/
import Derived.Test.YtiaoifaglfhagaaDoorMkP
import Derived.Test.YtiaoifaglfhagaaDoorMkRead
import Derived.Test.YtiaoifaglfhagaaDoorShaLaid
import Derived.Test.YtiaoifaglfhagaaDoorCards
namespace Go.Proofs.YtiaoifaglfhagaaDoor.merkleChecks
open Go Go.RowKit Mem Sha ShaW Mk Arr Row MkW
set_option linter.unusedVariables false

/-- what the law keeps -/
structure CLS (w : World) (rt leaf : Dg) (p n : Nat) (vp : Value) (ds : List Dg) (t1 t2 : Nat) (wx : World) : Prop where
  k0 : Blk wx w.heap.size (rt.map byt) 25
  k1 : Blk wx (w.heap.size + 1) (leaf.map byt) 25
  k2 : Blk wx (w.heap.size + 1 + 1) [.int .u32 (p : Int), .int .u32 (n : Int), vp] 37
  a : Arr 32 Any wx vp (dcs ds)
  b : Below w.heap.size w wx
  t : TabB wx t1
  r : TabB wx t2
theorem CLS.below {w : World} {rt leaf : Dg} {p n : Nat} {vp : Value} {ds : List Dg} {t1 t2 : Nat} {a b : World} (h : CLS w rt leaf p n vp ds t1 t2 a) (hb : Below a.heap.size a b) : CLS w rt leaf p n vp ds t1 t2 b :=
  ⟨h.k0.below hb, h.k1.below hb, h.k2.below hb, h.a.below (by omega) hb, h.b.trans (hb.mono h.b.size), h.t.below hb, h.r.below hb⟩
theorem CLS.drew {w : World} {rt leaf : Dg} {p n : Nat} {vp : Value} {ds : List Dg} {t1 t2 : Nat} {a : World} (h : CLS w rt leaf p n vp ds t1 t2 a) : CLS w rt leaf p n vp ds t1 t2 a.drew := ⟨h.k0, h.k1, h.k2, h.a, below_drew h.b, h.t, h.r⟩

set_option maxHeartbeats 8000000 in
set_option maxRecDepth 100000 in
theorem walk0 (w : World) (rt : Dg) (hr : rt.length = 32) (leaf : Dg) (hl : leaf.length = 32) (p n : Nat) (vp : Value) (ds : List Dg) (hA : Arr 32 Any w vp (dcs ds)) (hD : ∀ d ∈ ds, d.length = 32) (hn : ds.length ≤ 4398046511104) (hp : p < 4294967296) (hm : n < 4294967296)
    (hT : TabB w 1) (hR : TabB w 0) :
    Calls Tryd.prog 5 #[dv rt, dv leaf, .agg #[.int .u32 (p : Int), .int .u32 (n : Int), vp]] w fun e w' => e = .returned (.bool true) ∧ Below w.heap.size w w' := by
  obtain ⟨W1, hW1, HC⟩ : ∃ W, ((w.alloc (.cells (rt.map byt).toArray 25)).alloc (.cells (leaf.map byt).toArray 25)).alloc (.cells #[.int .u32 (p : Int), .int .u32 (n : Int), vp] 37) = W ∧ Hid (CLS w rt leaf p n vp ds 1 0 W) := by
    refine ⟨_, rfl, Lib.hid ?_⟩
    have h0 : Below w.heap.size w (w.alloc (.cells (rt.map byt).toArray 25)) := (Below.refl _ _).alloc (Nat.le_refl _) _
    have k0 := Blk.new w (rt.map byt).toArray 25 _ rfl
    have k1 := Blk.new (w.alloc (.cells (rt.map byt).toArray 25)) (leaf.map byt).toArray 25 _ rfl
    have k2 := Blk.new ((w.alloc (.cells (rt.map byt).toArray 25)).alloc (.cells (leaf.map byt).toArray 25)) #[.int .u32 (p : Int), .int .u32 (n : Int), vp] 37 _ rfl
    simp only [World.size_alloc] at k1 k2
    have hb : Below w.heap.size w (((w.alloc (.cells (rt.map byt).toArray 25)).alloc (.cells (leaf.map byt).toArray 25)).alloc (.cells #[.int .u32 (p : Int), .int .u32 (n : Int), vp] 37)) := (h0.alloc (by simp) _).alloc (by simp only [World.size_alloc]; omega) _
    exact ⟨(k0.alloc _).alloc _, k1.alloc _, k2, hA.below (by omega) hb, hb, hT.below hb, hR.below hb⟩
  have HD := Lib.hid hD
  have HRT := Lib.hid hr
  have HLF := Lib.hid hl
  clear hA hD hT hR hr hl
  go_enter Tryd.func5, Tryd.ntmps5
  go_upto_region 1 with fail
  refine wp_region_held_drew (S := (CLS w rt leaf p n vp ds 1 0)) (by kernel_rfl) HC.out.drew (fun hHeld => ?_)
  refine wpAnyH_ready (rs := [0]) (by kernel_rfl) (by simp) ?_
  refine AllReadyH.cons (o := ⟨_, _, _, _, _, _⟩) rfl (fun K hK => ?_) AllReadyH.nil
  go_simp
  refine (alive_calls _ hHeld.t hHeld.r).mono ?_
  rintro e w2 ⟨rfl, g⟩
  refine hK.out _ _ (by exact hHeld.below g) (fun hHeld => ?_)
  clear hK
  try simp only [Act.put, List.setIfInBounds_toArray, List.set_cons_zero, List.set_cons_succ]
  clear g
  refine wpAnyH_take (i := 1) (oi := ⟨_, _, _, _, _, _⟩) (v := ?_) rfl (by kernel_rfl) (by kernel_rfl) (by kernel_rfl) (fun _ _ _ h => h) (Or.inl ⟨by rfl, ?_⟩) (by assumption) ?_
  rotate_left
  · intro w hSw; go_simp; try (with_reducible rfl)
  try simp only [Act.put, List.setIfInBounds_toArray, List.set_cons_zero, List.set_cons_succ]
  refine wpAnyH_take (i := 2) (oi := ⟨_, _, _, _, _, _⟩) rfl (by kernel_rfl) (by kernel_rfl) (by kernel_rfl) (fun _ _ _ h => h) (yieldsIf_load_mid (by rfl) _ _ rfl w.heap.size 0 rfl (rt.map byt) _ (fun _ h => blk_range h.k0) Tryd.underlying25 rfl (szD' HRT.out)) (by assumption) ?_
  try simp only [Act.put, List.setIfInBounds_toArray, List.set_cons_zero, List.set_cons_succ]
  refine wpAnyH_take (i := 3) (oi := ⟨_, _, _, _, _, _⟩) rfl (by kernel_rfl) (by kernel_rfl) (by kernel_rfl) (fun _ _ _ h => h) (yieldsIf_load_mid (by rfl) _ _ rfl (w.heap.size + 1) 0 rfl (leaf.map byt) _ (fun _ h => blk_range h.k1) Tryd.underlying25 rfl (szD' HLF.out)) (by assumption) ?_
  try simp only [Act.put, List.setIfInBounds_toArray, List.set_cons_zero, List.set_cons_succ]
  refine wpAnyH_take (i := 4) (oi := ⟨_, _, _, _, _, _⟩) (v := ?_) rfl (by kernel_rfl) (by kernel_rfl) (by kernel_rfl) (fun _ _ _ h => h) (Or.inl ⟨by rfl, ?_⟩) (by assumption) ?_
  rotate_left
  · intro w hSw; go_simp; try (with_reducible rfl)
  try simp only [Act.put, List.setIfInBounds_toArray, List.set_cons_zero, List.set_cons_succ]
  refine wpAnyH_take (i := 5) (oi := ⟨_, _, _, _, _, _⟩) (v := .int .u32 (p : Int)) rfl (by kernel_rfl) (by kernel_rfl) (by kernel_rfl) (fun _ _ _ h => h) (Or.inl ⟨by rfl, fun w hSw => (by have hc := hSw.k2.cell (i := 0) rfl; go_simp; try (with_reducible rfl))⟩) (by assumption) ?_
  try simp only [Act.put, List.setIfInBounds_toArray, List.set_cons_zero, List.set_cons_succ]
  refine wpAnyH_take (i := 6) (oi := ⟨_, _, _, _, _, _⟩) (v := ?_) rfl (by kernel_rfl) (by kernel_rfl) (by kernel_rfl) (fun _ _ _ h => h) (Or.inl ⟨by rfl, ?_⟩) (by assumption) ?_
  rotate_left
  · intro w hSw; go_simp; try (with_reducible rfl)
  try simp only [Act.put, List.setIfInBounds_toArray, List.set_cons_zero, List.set_cons_succ]
  refine wpAnyH_take (i := 7) (oi := ⟨_, _, _, _, _, _⟩) (v := .int .u32 (n : Int)) rfl (by kernel_rfl) (by kernel_rfl) (by kernel_rfl) (fun _ _ _ h => h) (Or.inl ⟨by rfl, fun w hSw => (by have hc := hSw.k2.cell (i := 1) rfl; go_simp; try (with_reducible rfl))⟩) (by assumption) ?_
  try simp only [Act.put, List.setIfInBounds_toArray, List.set_cons_zero, List.set_cons_succ]
  refine wpAnyH_take (i := 8) (oi := ⟨_, _, _, _, _, _⟩) (v := ?_) rfl (by kernel_rfl) (by kernel_rfl) (by kernel_rfl) (fun _ _ _ h => h) (Or.inl ⟨by rfl, ?_⟩) (by assumption) ?_
  rotate_left
  · intro w hSw; go_simp; try (with_reducible rfl)
  try simp only [Act.put, List.setIfInBounds_toArray, List.set_cons_zero, List.set_cons_succ]
  refine wpAnyH_take (i := 9) (oi := ⟨_, _, _, _, _, _⟩) (v := vp) rfl (by kernel_rfl) (by kernel_rfl) (by kernel_rfl) (fun _ _ _ h => h) (Or.inl ⟨by rfl, fun w hSw => (by have hc := hSw.k2.cell (i := 2) rfl; go_simp; try (with_reducible rfl))⟩) (by assumption) ?_
  try simp only [Act.put, List.setIfInBounds_toArray, List.set_cons_zero, List.set_cons_succ]
  refine wpAnyH_take (i := 11) (oi := ⟨_, _, _, _, _, _⟩) rfl (by kernel_rfl) (by kernel_rfl) (by kernel_rfl) (fun _ _ _ h => h) (yieldsIf_load_mid (by rfl) _ _ rfl w.heap.size 0 rfl (rt.map byt) _ (fun _ h => blk_range h.k0) Tryd.underlying25 rfl (szD' HRT.out)) (by assumption) ?_
  try simp only [Act.put, List.setIfInBounds_toArray, List.set_cons_zero, List.set_cons_succ]
  refine wpAnyH_take (i := 12) (oi := ⟨_, _, _, _, _, _⟩) rfl (by kernel_rfl) (by kernel_rfl) (by kernel_rfl) (fun _ _ _ h => h) (yieldsIf_load_mid (by rfl) _ _ rfl (w.heap.size + 1) 0 rfl (leaf.map byt) _ (fun _ h => blk_range h.k1) Tryd.underlying25 rfl (szD' HLF.out)) (by assumption) ?_
  try simp only [Act.put, List.setIfInBounds_toArray, List.set_cons_zero, List.set_cons_succ]
  refine wpAnyH_take (i := 13) (oi := ⟨_, _, _, _, _, _⟩) (v := ?_) rfl (by kernel_rfl) (by kernel_rfl) (by kernel_rfl) (fun _ _ _ h => h) (Or.inl ⟨by rfl, ?_⟩) (by assumption) ?_
  rotate_left
  · intro w hSw; go_simp; try (with_reducible rfl)
  try simp only [Act.put, List.setIfInBounds_toArray, List.set_cons_zero, List.set_cons_succ]
  refine wpAnyH_take (i := 14) (oi := ⟨_, _, _, _, _, _⟩) (v := .int .u32 (p : Int)) rfl (by kernel_rfl) (by kernel_rfl) (by kernel_rfl) (fun _ _ _ h => h) (Or.inl ⟨by rfl, fun w hSw => (by have hc := hSw.k2.cell (i := 0) rfl; go_simp; try (with_reducible rfl))⟩) (by assumption) ?_
  try simp only [Act.put, List.setIfInBounds_toArray, List.set_cons_zero, List.set_cons_succ]
  refine wpAnyH_take (i := 15) (oi := ⟨_, _, _, _, _, _⟩) (v := ?_) rfl (by kernel_rfl) (by kernel_rfl) (by kernel_rfl) (fun _ _ _ h => h) (Or.inl ⟨by rfl, ?_⟩) (by assumption) ?_
  rotate_left
  · intro w hSw; go_simp; try (with_reducible rfl)
  try simp only [Act.put, List.setIfInBounds_toArray, List.set_cons_zero, List.set_cons_succ]
  refine wpAnyH_take (i := 16) (oi := ⟨_, _, _, _, _, _⟩) (v := .int .u32 (n : Int)) rfl (by kernel_rfl) (by kernel_rfl) (by kernel_rfl) (fun _ _ _ h => h) (Or.inl ⟨by rfl, fun w hSw => (by have hc := hSw.k2.cell (i := 1) rfl; go_simp; try (with_reducible rfl))⟩) (by assumption) ?_
  try simp only [Act.put, List.setIfInBounds_toArray, List.set_cons_zero, List.set_cons_succ]
  refine wpAnyH_take (i := 17) (oi := ⟨_, _, _, _, _, _⟩) (v := ?_) rfl (by kernel_rfl) (by kernel_rfl) (by kernel_rfl) (fun _ _ _ h => h) (Or.inl ⟨by rfl, ?_⟩) (by assumption) ?_
  rotate_left
  · intro w hSw; go_simp; try (with_reducible rfl)
  try simp only [Act.put, List.setIfInBounds_toArray, List.set_cons_zero, List.set_cons_succ]
  refine wpAnyH_take (i := 18) (oi := ⟨_, _, _, _, _, _⟩) (v := vp) rfl (by kernel_rfl) (by kernel_rfl) (by kernel_rfl) (fun _ _ _ h => h) (Or.inl ⟨by rfl, fun w hSw => (by have hc := hSw.k2.cell (i := 2) rfl; go_simp; try (with_reducible rfl))⟩) (by assumption) ?_
  try simp only [Act.put, List.setIfInBounds_toArray, List.set_cons_zero, List.set_cons_succ]
  refine wpAnyH_ready (rs := [10]) (by kernel_rfl) (by simp) ?_
  refine AllReadyH.cons (o := ⟨_, _, _, _, _, _⟩) rfl (fun K hK => ?_) AllReadyH.nil
  go_simp
  refine (check_calls _ rt leaf p n vp ds hHeld.a HD.out HRT.out HLF.out hHeld.t hm hp hn).mono ?_
  rintro e w3 ⟨rfl, g⟩
  refine hK.out _ _ (by exact hHeld.below g) (fun hHeld => ?_)
  clear hK
  try simp only [Act.put, List.setIfInBounds_toArray, List.set_cons_zero, List.set_cons_succ]
  clear g
  refine wpAnyH_ready (rs := [19]) (by kernel_rfl) (by simp) ?_
  refine AllReadyH.cons (o := ⟨_, _, _, _, _, _⟩) rfl (fun K hK => ?_) AllReadyH.nil
  go_simp
  refine (ref_check_calls _ rt leaf p n vp ds hHeld.a HD.out HRT.out HLF.out hHeld.r hm hp hn).mono ?_
  rintro e w4 ⟨rfl, g⟩
  refine hK.out _ _ (by exact hHeld.below g) (fun hHeld => ?_)
  clear hK
  try simp only [Act.put, List.setIfInBounds_toArray, List.set_cons_zero, List.set_cons_succ]
  clear g
  have hbb : (chk rt leaf p n ds == chk rt leaf p n ds) = true := by simp
  refine wpAnyH_take (i := 20) (oi := ⟨_, _, _, _, _, _⟩) (v := ?_) rfl (by kernel_rfl) (by kernel_rfl) (by kernel_rfl) (fun _ _ _ h => h) (Or.inl ⟨by rfl, ?_⟩) (by assumption) ?_
  rotate_left
  · intro w hSw; go_simp; try (with_reducible rfl)
  try simp only [Act.put, List.setIfInBounds_toArray, List.set_cons_zero, List.set_cons_succ]
  refine wpAnyH_take (i := 21) (oi := ⟨_, _, _, _, _, _⟩) (v := ?_) rfl (by kernel_rfl) (by kernel_rfl) (by kernel_rfl) (fun _ _ _ h => h) (Or.inl ⟨by rfl, ?_⟩) (by assumption) ?_
  rotate_left
  · intro w hSw; go_simp; try (with_reducible rfl)
  try simp only [Act.put, List.setIfInBounds_toArray, List.set_cons_zero, List.set_cons_succ]
  refine wpAnyH_ready (rs := [22]) (by kernel_rfl) (by simp) ?_
  refine AllReadyH.cons (o := ⟨_, _, _, _, _, _⟩) rfl (fun K hK => ?_) AllReadyH.nil
  go_simp
  refine hK.out _ _ (by exact hHeld) (fun hHeld => ?_)
  clear hK
  try simp only [Act.put, List.setIfInBounds_toArray, List.set_cons_zero, List.set_cons_succ]
  refine wpAnyH_done (by kernel_rfl) ?_ _
  have hfin := hHeld.b
  clear hHeld
  go_wp2
  go_ret
  exact ⟨rfl, hfin⟩
theorem walk (w : World) (rt : Dg) (hr : rt.length = 32) (leaf : Dg) (hl : leaf.length = 32) (p n : Nat) (vp : Value) (ds : List Dg) (hW : Read.WayIs w [.int .u32 (p : Int), .int .u32 (n : Int), vp] p n vp ds) (hn : ds.length ≤ 4398046511104) (hL : laidMetH Tryd.prog Rows.merkleChecksRow.laid w) :
    Calls Tryd.prog 5 #[dv rt, dv leaf, .agg #[.int .u32 (p : Int), .int .u32 (n : Int), vp]] w fun e w' => e = .returned (.bool true) ∧ Below w.heap.size w w' :=
  walk0 w rt hr leaf hl p n vp ds hW.a hW.l hn hW.p' hW.n' (tab_sha hL (by kernel_rfl) (List.Mem.tail _ (List.Mem.head _))) (tab_ref hL (by kernel_rfl) (List.Mem.head _))
end Go.Proofs.YtiaoifaglfhagaaDoor.merkleChecks
