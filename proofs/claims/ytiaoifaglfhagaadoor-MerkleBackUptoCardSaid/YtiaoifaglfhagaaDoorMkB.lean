/- Walks of Node, the program's and the reference's. Condition: the tables are laid. -/
import Derived.Test.YtiaoifaglfhagaaDoorMkA
namespace Go.Proofs.YtiaoifaglfhagaaDoor.MkW
open Go Go.RowKit Mem Sha ShaW Mk Arr
set_option linter.unusedVariables false

/-- a whole row is stored, inside a region that draws -/
theorem wp_store_blk {P : Program} {o : Oper} {a : Act} {w : World} {K : Act → World → Prop} {Q : Exit → Act → World → Prop} (ty : TypeId) (x y : Operand) (ho : o.op = .store ty x y)
    (g : Nat) (l old : List Value) (hx : a.eval x = .pointer (some ⟨g, 0, none⟩)) (hy : a.eval y = .agg l.toArray) {t : TypeId} (hB : Blk w g old t)
    (hi : (P.info? ty).map (·.size) = some l.length) (hl : old.length = l.length) (h1 : ∀ v ∈ l, v.oneCell' = true)
    (h : K (a.put o.dst undef) (w.setRow g l.toArray)) : o.wp P a w K Q :=
  wp_store_row ty x y ho g l.toArray hx hy t old.toArray hB (by simpa using hi) (by simpa using hl) (by rw [Array.all_eq_true']; intro v hv; exact h1 v (by simpa using hv)) h
/-- what Node keeps: its two digests, its result's block, a table -/
structure NS (w : World) (l r : Dg) (tab : Nat) (w' : World) : Prop where
  l' : Blk w' w.heap.size (l.map byt) 25
  r' : Blk w' (w.heap.size + 1) (r.map byt) 25
  z' : ∃ z : List Value, z.length = 32 ∧ Blk w' (w.heap.size + 1 + 1) z 25
  b' : Below w.heap.size w w'
  t' : TabB w' tab
theorem NS.below {w : World} {l r : Dg} {tab : Nat} {a b : World} (h : NS w l r tab a) (hb : Below a.heap.size a b) : NS w l r tab b :=
  ⟨h.l'.below hb, h.r'.below hb, (by obtain ⟨z, h1, h2⟩ := h.z'; exact ⟨z, h1, h2.below hb⟩), h.b'.trans (hb.mono h.b'.size), h.t'.below hb⟩
theorem NS.drew {w : World} {l r : Dg} {tab : Nat} {a : World} (h : NS w l r tab a) : NS w l r tab a.drew :=
  ⟨h.l', h.r', h.z', ⟨h.b'.os, h.b'.tape, h.b'.output, h.b'.size, h.b'.block⟩, h.t'⟩
theorem NS.store {w : World} {l r m : Dg} {tab : Nat} {a : World} (h : NS w l r tab a) (hm : m.length = 32) (ht : tab < w.heap.size) : NS w l r tab (a.setRow (w.heap.size + 1 + 1) (m.map byt).toArray) ∧ Blk (a.setRow (w.heap.size + 1 + 1) (m.map byt).toArray) (w.heap.size + 1 + 1) (m.map byt) 25 := by
  obtain ⟨z, h1, h2⟩ := h.z'
  have hf : Fr (fun k => k = w.heap.size + 1 + 1) a (a.setRow (w.heap.size + 1 + 1) (m.map byt).toArray) := (Fr.refl (fun k => k = w.heap.size + 1 + 1) a).setRow (.inr rfl) _
  exact ⟨⟨h.l'.fr hf (by omega), h.r'.fr hf (by omega), ⟨_, by simp [hm], h2.row _⟩, below_setRow h.b' (by omega) _, h.t'.fr hf (by omega)⟩, h2.row _⟩
theorem NS.alloc {w : World} {l r : Dg} {tab : Nat} {a : World} (h : NS w l r tab a) (o : Obj) : NS w l r tab (a.alloc o) := h.below ((Below.refl _ _).alloc (Nat.le_refl _) _)
theorem NS.start (w : World) (l r : Dg) (tab : Nat) (hT : TabB w tab) : ∃ W, ((w.alloc (.cells (l.map byt).toArray 25)).alloc (.cells (r.map byt).toArray 25)).alloc (.cells #[.int .u8 0, .int .u8 0, .int .u8 0, .int .u8 0, .int .u8 0, .int .u8 0, .int .u8 0, .int .u8 0, .int .u8 0, .int .u8 0, .int .u8 0, .int .u8 0, .int .u8 0, .int .u8 0, .int .u8 0, .int .u8 0, .int .u8 0, .int .u8 0, .int .u8 0, .int .u8 0, .int .u8 0, .int .u8 0, .int .u8 0, .int .u8 0, .int .u8 0, .int .u8 0, .int .u8 0, .int .u8 0, .int .u8 0, .int .u8 0, .int .u8 0, .int .u8 0] 25) = W ∧ Hid (NS w l r tab W) := by
  refine ⟨_, rfl, Lib.hid ⟨((Blk.new w _ _ _ rfl).alloc _).alloc _, ?_, ?_, ?_, ?_⟩⟩
  · have := (Blk.new (w.alloc (.cells (l.map byt).toArray 25)) (r.map byt).toArray 25 _ rfl)
    rw [World.size_alloc] at this
    exact this.alloc _
  · have := new32 ((w.alloc (.cells (l.map byt).toArray 25)).alloc (.cells (r.map byt).toArray 25))
    rw [World.size_alloc, World.size_alloc] at this
    exact ⟨_, rfl, this⟩
  · exact (((Below.refl _ _).alloc (Nat.le_refl _) _).alloc (by simp) _).alloc (by simp; omega) _
  · exact hT.below ((((Below.refl _ _).alloc (Nat.le_refl _) _).alloc (by simp) _).alloc (by simp; omega) _)

theorem blk_range {w : World} {b : Nat} {l : List Value} {e : TypeId} (h : Blk w b l e) : w.rangeAt b 0 l := fun j v hv => by rw [Nat.zero_add]; exact h.cell hv
set_option maxHeartbeats 4000000 in
set_option maxRecDepth 100000 in
theorem node_calls (w : World) (l r : Dg) (hl : l.length = 32) (hr : r.length = 32) (hT : TabB w 1) :
    Calls Tryd.prog 9 #[dv l, dv r] w fun e w' => e = .returned (dv (nodeD l r)) ∧ Below w.heap.size w w' := by
  obtain ⟨W, hW, HN⟩ := NS.start w l r 1 hT
  have HTL := Lib.hid (show 1 < w.heap.size from (Array.getElem?_eq_some_iff.1 hT.choose_spec.choose_spec).1)
  have HL := Lib.hid hl
  have HR := Lib.hid hr
  clear hT
  obtain ⟨m, hm⟩ : ∃ m, nodeD l r = m := ⟨_, rfl⟩
  have HML := Lib.hid (show m.length = 32 by rw [← hm]; exact nodeD_length l r)
  have HM := Lib.hid hm
  have HONE := Lib.hid (one_cells m)
  clear hm hl hr
  go_enter Tryd.func9, Tryd.ntmps9
  go_upto_region 1 with fail
  clear hW
  refine wp_region_held_drew (S := (fun w' => NS w l r 1 w')) (by kernel_rfl) HN.out.drew (fun hHeld => ?_)
  refine wpAnyH_take (i := 0) (oi := ⟨_, _, _, _, _, _⟩) (v := ?_) rfl (by kernel_rfl) (by kernel_rfl) (by kernel_rfl) (fun _ _ _ h => h) (Or.inl ⟨by rfl, ?_⟩) (by assumption) ?_
  rotate_left
  · intro w hSw; go_simp; try (with_reducible rfl)
  try simp only [Act.put, List.setIfInBounds_toArray, List.set_cons_zero, List.set_cons_succ]
  refine wpAnyH_take (i := 1) (oi := ⟨_, _, _, _, _, _⟩) (v := ?_) rfl (by kernel_rfl) (by kernel_rfl) (by kernel_rfl) (fun _ _ _ h => h) (Or.inl ⟨by rfl, ?_⟩) (by assumption) ?_
  rotate_left
  · intro w hSw; go_simp; try (with_reducible rfl)
  try simp only [Act.put, List.setIfInBounds_toArray, List.set_cons_zero, List.set_cons_succ]
  have hA : Byt Any _ (.slice (some ⟨w.heap.size, 0, none⟩) 32 32) l := hHeld.l'.byt HL.out (by unfold maxLen; omega) trivial
  have hB : Byt Any _ (.slice (some ⟨w.heap.size + 1, 0, none⟩) 32 32) r := hHeld.r'.byt HR.out (by unfold maxLen; omega) trivial
  have HBB := Lib.hid (byts_two _ _ _ l r 23 hA hB)
  clear hA hB
  refine wpAnyH_ready (rs := [2]) (by kernel_rfl) (by simp) ?_
  refine AllReadyH.cons (o := ⟨_, _, _, _, _, _⟩) rfl (fun K hK => ?_) AllReadyH.nil
  go_simp
  refine hK.out _ _ (by exact (NS.alloc hHeld _)) (fun hHeld => ?_)
  clear hK
  try simp only [Act.put, List.setIfInBounds_toArray, List.set_cons_zero, List.set_cons_succ]
  refine wpAnyH_ready (rs := [3]) (by kernel_rfl) (by simp) ?_
  refine AllReadyH.cons (o := ⟨_, _, _, _, _, _⟩) rfl (fun K hK => ?_) AllReadyH.nil
  go_simp
  refine (tagged_calls _ _ _ [l, r] HBB.out (by decide) (by simp [HL.out, HR.out]) (by simp) hHeld.t').mono ?_
  rintro e w2 ⟨rfl, g⟩
  rw [show tagged _ [l, r] = nodeD l r from rfl, HM.out]
  refine hK.out _ _ (by exact hHeld.below g) (fun hHeld => ?_)
  clear hK
  try simp only [Act.put, List.setIfInBounds_toArray, List.set_cons_zero, List.set_cons_succ]
  refine wpAnyH_ready (rs := [4]) (by kernel_rfl) (by simp) ?_
  refine AllReadyH.cons (o := ⟨_, _, _, _, _, _⟩) rfl (fun K hK => ?_) AllReadyH.nil
  obtain ⟨z, hz1, hz2⟩ := hHeld.z'
  rw [if_pos (by rfl)]
  refine wp_store_blk _ _ _ rfl (w.heap.size + 1 + 1) (m.map byt) z rfl rfl hz2 (szD' HML.out) (by rw [List.length_map, HML.out]; exact hz1) HONE.out ?_
  have hfin := (hHeld.store HML.out HTL.out).2
  refine hK.out _ _ (hHeld.store HML.out HTL.out).1 (fun hHeld => ?_)
  clear hK
  refine wpAnyH_done (by kernel_rfl) ?_ _
  go_wp2
  exact bodyPost_ret (v := dv m) (results_cell_row Tryd.results9 _ _ (w.heap.size + 1 + 1) 25 _ (0, 0) _ rfl hfin Tryd.underlying25 rfl (szD'' HML.out)) rfl ⟨by rw [HM.out], hHeld.b'⟩
set_option maxHeartbeats 4000000 in
set_option maxRecDepth 100000 in
theorem ref_node_calls (w : World) (l r : Dg) (hl : l.length = 32) (hr : r.length = 32) (hT : TabB w 0) :
    Calls Tryd.prog 10 #[dv l, dv r] w fun e w' => e = .returned (dv (nodeD l r)) ∧ Below w.heap.size w w' := by
  obtain ⟨W, hW, HN⟩ := NS.start w l r 0 hT
  have HTL := Lib.hid (show 0 < w.heap.size from (Array.getElem?_eq_some_iff.1 hT.choose_spec.choose_spec).1)
  have HL := Lib.hid hl
  have HR := Lib.hid hr
  clear hT
  obtain ⟨m, hm⟩ : ∃ m, nodeD l r = m := ⟨_, rfl⟩
  have HML := Lib.hid (show m.length = 32 by rw [← hm]; exact nodeD_length l r)
  have HM := Lib.hid hm
  have HONE := Lib.hid (one_cells m)
  clear hm hl hr
  go_enter Tryd.func10, Tryd.ntmps10
  go_upto_region 1 with fail
  clear hW
  refine wp_region_held_drew (S := (fun w' => NS w l r 0 w')) (by kernel_rfl) HN.out.drew (fun hHeld => ?_)
  refine wpAnyH_take (i := 0) (oi := ⟨_, _, _, _, _, _⟩) rfl (by kernel_rfl) (by kernel_rfl) (by kernel_rfl) (fun _ _ _ h => h) (yieldsIf_load_mid (by rfl) _ _ rfl (w.heap.size) 0 rfl (l.map byt) _ (fun _ h => blk_range h.l') Tryd.underlying25 rfl (szD' HL.out)) (by assumption) ?_
  try simp only [Act.put, List.setIfInBounds_toArray, List.set_cons_zero, List.set_cons_succ]
  refine wpAnyH_take (i := 2) (oi := ⟨_, _, _, _, _, _⟩) rfl (by kernel_rfl) (by kernel_rfl) (by kernel_rfl) (fun _ _ _ h => h) (yieldsIf_load_mid (by rfl) _ _ rfl (w.heap.size + 1) 0 rfl (r.map byt) _ (fun _ h => blk_range h.r') Tryd.underlying25 rfl (szD' HR.out)) (by assumption) ?_
  try simp only [Act.put, List.setIfInBounds_toArray, List.set_cons_zero, List.set_cons_succ]
  refine wpAnyH_ready (rs := [1]) (by kernel_rfl) (by simp) ?_
  refine AllReadyH.cons (o := ⟨_, _, _, _, _, _⟩) rfl (fun K hK => ?_) AllReadyH.nil
  go_simp
  refine (text_calls _ l HL.out).mono ?_
  rintro e w2 ⟨xa, xc, rfl, hO, g⟩
  refine hK.out _ _ (by exact hHeld.below g) (fun hHeld => ?_)
  clear hK
  try simp only [Act.put, List.setIfInBounds_toArray, List.set_cons_zero, List.set_cons_succ]
  have hA := hO.byt.any
  clear hO g
  refine wpAnyH_ready (rs := [3]) (by kernel_rfl) (by simp) ?_
  refine AllReadyH.cons (o := ⟨_, _, _, _, _, _⟩) rfl (fun K hK => ?_) AllReadyH.nil
  go_simp
  refine (text_calls _ r HR.out).mono ?_
  rintro e w3 ⟨ya, yc, rfl, hO, g⟩
  refine hK.out _ _ (by exact hHeld.below g) (fun hHeld => ?_)
  clear hK
  try simp only [Act.put, List.setIfInBounds_toArray, List.set_cons_zero, List.set_cons_succ]
  have HBB := Lib.hid (byts_two _ _ _ l r 23 (hA.below g) hO.byt.any)
  clear hA hO g
  refine wpAnyH_ready (rs := [4]) (by kernel_rfl) (by simp) ?_
  refine AllReadyH.cons (o := ⟨_, _, _, _, _, _⟩) rfl (fun K hK => ?_) AllReadyH.nil
  go_simp
  refine hK.out _ _ (by exact (NS.alloc hHeld _)) (fun hHeld => ?_)
  clear hK
  try simp only [Act.put, List.setIfInBounds_toArray, List.set_cons_zero, List.set_cons_succ]
  refine wpAnyH_ready (rs := [5]) (by kernel_rfl) (by simp) ?_
  refine AllReadyH.cons (o := ⟨_, _, _, _, _, _⟩) rfl (fun K hK => ?_) AllReadyH.nil
  go_simp
  refine (ref_tagged_calls _ _ _ [l, r] HBB.out (by decide) (by simp [HL.out, HR.out]) (by simp) hHeld.t').mono ?_
  rintro e w2 ⟨rfl, g⟩
  rw [show tagged _ [l, r] = nodeD l r from rfl, HM.out]
  refine hK.out _ _ (by exact hHeld.below g) (fun hHeld => ?_)
  clear hK
  try simp only [Act.put, List.setIfInBounds_toArray, List.set_cons_zero, List.set_cons_succ]
  refine wpAnyH_ready (rs := [6]) (by kernel_rfl) (by simp) ?_
  refine AllReadyH.cons (o := ⟨_, _, _, _, _, _⟩) rfl (fun K hK => ?_) AllReadyH.nil
  obtain ⟨z, hz1, hz2⟩ := hHeld.z'
  rw [if_pos (by rfl)]
  refine wp_store_blk _ _ _ rfl (w.heap.size + 1 + 1) (m.map byt) z rfl rfl hz2 (szD' HML.out) (by rw [List.length_map, HML.out]; exact hz1) HONE.out ?_
  have hfin := (hHeld.store HML.out HTL.out).2
  refine hK.out _ _ (hHeld.store HML.out HTL.out).1 (fun hHeld => ?_)
  clear hK
  refine wpAnyH_done (by kernel_rfl) ?_ _
  go_wp2
  exact bodyPost_ret (v := dv m) (results_cell_row Tryd.results10 _ _ (w.heap.size + 1 + 1) 25 _ (0, 0) _ rfl hfin Tryd.underlying25 rfl (szD'' HML.out)) rfl ⟨by rw [HM.out], hHeld.b'⟩
end Go.Proofs.YtiaoifaglfhagaaDoor.MkW
