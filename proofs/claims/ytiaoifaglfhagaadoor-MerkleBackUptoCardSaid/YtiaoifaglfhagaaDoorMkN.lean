/- The walk of the law's alive. Conditions: the tables are laid. -/
import Derived.Test.YtiaoifaglfhagaaDoorMkM
namespace Go.Proofs.YtiaoifaglfhagaaDoor.MkW
open Go Go.RowKit Mem Sha ShaW Mk Arr Row
set_option linter.unusedVariables false

/-- a slice of two new elements -/
theorem arr_two {k : Nat} {D : Nat → Prop} (w : World) (cs ds : Array Value) (e : TypeId) (x y : List Value) (hx : x.length = k) (hy : y.length = k) (hcs : cs = x.toArray) (hds : ds = y.toArray) (hd : D w.heap.size) :
    Arr k D (w.alloc (.cells (cs ++ ds) e)) (.slice (some ⟨w.heap.size, 0, none⟩) 2 2) [x, y] := by
  subst hcs hds
  refine ⟨_, 2, rfl, ⟨by simp, by unfold maxLen; omega, fun h => by cases h⟩, ?_, .inr ⟨_, 0, rfl, hd, fun i hi j u hu => ?_⟩⟩
  · intro z hz
    rcases List.mem_cons.1 hz with rfl | hz
    · exact hx
    · rw [List.mem_singleton.1 hz]; exact hy
  have e1 : (w.alloc (.cells (x.toArray ++ y.toArray) e)).heap[w.heap.size]? = some (.cells (x.toArray ++ y.toArray) e) := heap_alloc_new w _
  simp only [World.cell?, e1]
  have hj : j < k := by
    have := (List.getElem?_eq_some_iff.1 hu).1
    match i, hi with
    | 0, _ => simpa [hx] using this
    | 1, _ => simpa [hy] using this
  match i, hi with
  | 0, _ => simpa [List.getElem?_append_left (show j < x.length by omega)] using hu
  | 1, _ => simpa [List.getElem?_append_right (show x.length ≤ k + j by omega), hx] using hu

theorem wp_buildSlice {P : Program} (w : World) {o : Oper} {a : Act} {K : Act → World → Prop} {Q : Exit → Act → World → Prop} {t e : TypeId} {z : Value} {k bytes : Nat} (T : ElemT P t e z k bytes) (n : Nat) (parts : List (Nat × Operand))
    (ho : o.op = .buildSlice t n parts.toArray) (vs : List Value) (hp : parts.map (fun p => (p.1, a.eval p.2)) = (vs.zipIdx 0).map fun x => (x.2, x.1)) (hl : n = vs.length) (hv : ∀ v ∈ vs, v.cells.size = k) (hn : vs.length * k ≤ 16777216) (h0 : 0 < vs.length)
    (cs : Array Value) (hcs : cs = (vs.flatMap fun v => v.cells.toList).toArray)
    (h : K (a.put o.dst (.slice (some ⟨w.heap.size, 0, none⟩) n n)) (w.alloc (.cells cs e))) : o.wp P a w K Q := by
  subst hl hcs
  have hr := run_buildSlice T vs hv hn h0 w
  unfold Oper.wp
  simp [execOp, ho, List.map_toArray, hp, hr, Result.andThen]
  exact h
theorem wp_buildSlice1 {P : Program} (w : World) {o : Oper} {a : Act} {K : Act → World → Prop} {Q : Exit → Act → World → Prop} {t e : TypeId} {z : Value} {k bytes : Nat} (T : ElemT P t e z k bytes) (x : Operand)
    (ho : o.op = .buildSlice t 1 #[(0, x)]) (cs : Array Value) (hx : a.eval x = .agg cs) (hs : cs.size = k) (hk : k ≤ 16777216)
    (h : K (a.put o.dst (.slice (some ⟨w.heap.size, 0, none⟩) 1 1)) (w.alloc (.cells cs e))) : o.wp P a w K Q :=
  wp_buildSlice w T 1 [(0, x)] ho [.agg cs] (by simp [hx]) rfl (by simpa [Value.cells] using hs) (by simpa using hk) (by simp) cs (by simp [Value.cells]) h
theorem wp_buildSlice2 {P : Program} (w : World) {o : Oper} {a : Act} {K : Act → World → Prop} {Q : Exit → Act → World → Prop} {t e : TypeId} {z : Value} {k bytes : Nat} (T : ElemT P t e z k bytes) (x y : Operand)
    (ho : o.op = .buildSlice t 2 #[(0, x), (1, y)]) (cs ds : Array Value) (hx : a.eval x = .agg cs) (hy : a.eval y = .agg ds) (hs : cs.size = k) (hd : ds.size = k) (hk : 2 * k ≤ 16777216)
    (h : K (a.put o.dst (.slice (some ⟨w.heap.size, 0, none⟩) 2 2)) (w.alloc (.cells (cs ++ ds) e))) : o.wp P a w K Q :=
  wp_buildSlice w T 2 [(0, x), (1, y)] ho [.agg cs, .agg ds] (by simp [hx, hy]) rfl (by intro v hv; rcases List.mem_cons.1 hv with rfl | hv; exact hs; rw [List.mem_singleton.1 hv]; exact hd) (by simpa using hk) (by simp) (cs ++ ds) (by simp [Value.cells]) h
theorem root_one (a : Dg) : root [a] = a := by rw [root]; simp
theorem root_two (a b : Dg) : root [a, b] = nodeD a b := by
  have hc : cutAt 2 = 1 := by decide
  rw [root]; simp [hc, root_one]
theorem path_two (a b : Dg) : path [a, b] 1 = [a] := by
  have hc : cutAt 2 = 1 := by decide
  rw [path]; simp [hc, root_one]; rw [path]; simp
theorem chk_two (a b : Dg) : chk (nodeD a b) b 1 2 [a] = true := by
  have hc : cutAt 2 = 1 := by decide
  have hs : sides 1 2 = [true] := by rw [sides]; simp [hc]; rw [sides]; simp
  simp [chk, rise, hs, topOf, pairOf, nodeP]
/-- what alive keeps -/
structure AS (w : World) (g2 : Nat) (da db : Dg) (v : Value) (t1 t2 : Nat) (wx : World) : Prop where
  k1 : Blk wx w.heap.size (da.map byt) 25
  k2 : Blk wx g2 (db.map byt) 25
  ap : Arr 32 Any wx v (dcs [da])
  b : Below w.heap.size w wx
  t : TabB wx t1
  r : TabB wx t2
theorem AS.below {w : World} {g2 : Nat} {da db : Dg} {v : Value} {t1 t2 : Nat} {a b : World} (h : AS w g2 da db v t1 t2 a) (hb : Below a.heap.size a b) : AS w g2 da db v t1 t2 b :=
  ⟨h.k1.below hb, h.k2.below hb, h.ap.below (by omega) hb, h.b.trans (hb.mono h.b.size), h.t.below hb, h.r.below hb⟩
theorem AS.drew {w : World} {g2 : Nat} {da db : Dg} {v : Value} {t1 t2 : Nat} {a : World} (h : AS w g2 da db v t1 t2 a) : AS w g2 da db v t1 t2 a.drew := ⟨h.k1, h.k2, h.ap, below_drew h.b, h.t, h.r⟩
theorem AS.alloc {w : World} {g2 : Nat} {da db : Dg} {v : Value} {t1 t2 : Nat} {a : World} (h : AS w g2 da db v t1 t2 a) (o : Obj) : AS w g2 da db v t1 t2 (a.alloc o) := h.below ((Below.refl _ _).alloc (Nat.le_refl _) _)

def dg1 : Dg := 1 :: List.replicate 31 0
def dg2 : Dg := 2 :: List.replicate 31 0
theorem dg1_len : dg1.length = 32 := rfl
theorem dg2_len : dg2.length = 32 := rfl

set_option maxHeartbeats 8000000 in
set_option maxRecDepth 100000 in
theorem alive_calls (w : World) (hT : TabB w 1) (hR : TabB w 0) :
    Calls Tryd.prog 11 #[] w fun e w' => e = .returned (.bool true) ∧ Below w.heap.size w w' := by
  have HTL : 1 < w.heap.size := (Array.getElem?_eq_some_iff.1 hT.choose_spec.choose_spec).1
  have HRL : 0 < w.heap.size := (Array.getElem?_eq_some_iff.1 hR.choose_spec.choose_spec).1
  obtain ⟨W1, hW1, N1, B1, s1⟩ := start32 w
  obtain ⟨W2, hW2, N2, B2, s2⟩ := start32 W1
  have N1' := Lib.hid (N1.out.below (B2.out.mono (Nat.le_refl _)))
  have NB := Lib.hid (B1.out.trans (B2.out.mono (by omega)))
  have e1 : (w.heap.size + 1) = W1.heap.size := s1
  have HO1 := Lib.hid (one_cells dg1)
  have HO2 := Lib.hid (one_cells dg2)
  have K1 := Lib.hid (N1'.out.row (dg1.map byt))
  have hf1 : Fr (fun b => b = w.heap.size) W2 (W2.setRow w.heap.size (dg1.map byt).toArray) := (Fr.refl (fun b => b = w.heap.size) W2).setRow (.inr rfl) _
  have K2 := Lib.hid (N2.out.fr hf1 (by omega))
  have KB := Lib.hid (NB.out.trans (hf1.below NB.out.size (fun b h => by omega)))
  obtain ⟨W3, hW3⟩ : ∃ x, W2.setRow w.heap.size (dg1.map byt).toArray = x := ⟨_, rfl⟩
  rw [hW3] at K1 K2 KB hf1
  have hf2 : Fr (fun b => b = W1.heap.size) W3 (W3.setRow W1.heap.size (dg2.map byt).toArray) := (Fr.refl (fun b => b = W1.heap.size) W3).setRow (.inr rfl) _
  have K22 := Lib.hid (K2.out.row (dg2.map byt))
  have K12 := Lib.hid (K1.out.fr hf2 (by omega))
  have KB2 := Lib.hid (KB.out.trans (hf2.below KB.out.size (fun b h => by omega)))
  have s3 : W2.heap.size ≤ W3.heap.size := hf1.size
  have s4 := hf2.size
  obtain ⟨W, hW⟩ : ∃ x, W3.setRow W1.heap.size (dg2.map byt).toArray = x := ⟨_, rfl⟩
  rw [hW] at K22 K12 KB2 s4
  have HT := Lib.hid (hT.below KB2.out)
  have HR := Lib.hid (hR.below KB2.out)
  clear hf1 hf2 NB B1 B2 hT hR
  go_enter Tryd.func11, Tryd.ntmps11
  go_upto_region 2 with (first
    | (with_reducible refine wpList_store_blk rfl _ _ _ rfl w.heap.size (dg1.map byt) _ rfl _ rfl (by with_unfolding_all rfl) N1'.out (szD' dg1_len) (by simp [dg1_len]) HO1.out ?_; rw [hW3])
    | (with_reducible refine wpList_store_blk rfl _ _ _ rfl W1.heap.size (dg2.map byt) _ rfl _ rfl (by with_unfolding_all rfl) K2.out (szD' dg2_len) (by simp [dg2_len]) HO2.out ?_))
  rw [hW]
  obtain ⟨da, hda⟩ : ∃ x, dg1 = x := ⟨_, rfl⟩
  obtain ⟨db, hdb⟩ : ∃ x, dg2 = x := ⟨_, rfl⟩
  have HLA := Lib.hid (show da.length = 32 by rw [← hda]; rfl)
  have HLB := Lib.hid (show db.length = 32 by rw [← hdb]; rfl)
  rw [hda] at K12
  rw [hdb] at K22
  have hsW : W1.heap.size < W.heap.size := by omega
  clear hW1 hW2 hW3 hW hda hdb HO1 HO2 K1 K2 KB N1 N2 N1'
  obtain ⟨V, hV⟩ : ∃ x, W.alloc (.cells (da.map byt ++ db.map byt).toArray 25) = x := ⟨_, rfl⟩
  have HAR := Lib.hid (show Arr 32 Any V (.slice (some ⟨W.heap.size, 0, none⟩) 2 2) (dcs [da, db]) by rw [← hV, ← List.append_toArray]; exact arr_two (k := 32) W _ _ _ _ _ (by simp [HLA.out]) (by simp [HLB.out]) rfl rfl trivial)
  have HVB := Lib.hid (show Below W.heap.size W V by rw [← hV]; exact (Below.refl _ _).alloc (Nat.le_refl _) _)
  have HSA := Lib.hid (show (da.map byt).toArray.size = 32 by simp [HLA.out])
  have HSB := Lib.hid (show (db.map byt).toArray.size = 32 by simp [HLB.out])
  have HD := Lib.hid (show ∀ d ∈ [da, db], d.length = 32 by intro d hd; simp at hd; rcases hd with rfl | rfl; exact HLA.out; exact HLB.out)
  go_wp2_with (first
    | (with_reducible refine wpList_load_cs (by with_unfolding_all rfl) _ _ rfl w.heap.size _ rfl K12.out _ Tryd.underlying25 rfl (szD' HLA.out) _ rfl ?_)
    | (with_reducible refine wpList_load_cs (by with_unfolding_all rfl) _ _ rfl W1.heap.size _ rfl K22.out _ Tryd.underlying25 rfl (szD' HLB.out) _ rfl ?_)
    | (with_reducible refine wpList_buildSlice2 _ rfl elemD _ _ rfl _ _ rfl rfl HSA.out HSB.out (by decide) ?_)
    | fail)
  refine (path_calls V _ [da, db] HAR.out HD.out (HT.out.below HVB.out) (by simp) 1 (by simp)).mono ?_
  rintro e w5 ⟨v, rfl, g1, g2'⟩
  rw [path_two] at g1
  have HS := Lib.hid (show AS w W1.heap.size da db v 1 0 w5 from
    ⟨(K12.out.below HVB.out).below g2', (K22.out.below HVB.out).below g2', g1.any, (KB2.out.trans (HVB.out.mono (by omega))).trans (g2'.mono (by have := HVB.out.size; omega)), (HT.out.below HVB.out).below g2', (HR.out.below HVB.out).below g2'⟩)
  generalize W1.heap.size = g2 at *
  have HDA := Lib.hid (show ∀ d ∈ [da], d.length = 32 by intro d hd; simp at hd; subst hd; exact HLA.out)
  obtain ⟨m, hnode⟩ : ∃ x, nodeD da db = x := ⟨_, rfl⟩
  obtain ⟨l0, hleaf⟩ : ∃ x, leafD [] = x := ⟨_, rfl⟩
  have hroot : root [da, db] = m := by rw [root_two, hnode]
  have hchk : chk m db 1 2 [da] = true := by rw [← hnode]; exact chk_two da db
  have HML := Lib.hid (show m.length = 32 by rw [← hnode]; exact nodeD_length _ _)
  have HLL := Lib.hid (show l0.length = 32 by rw [← hleaf]; exact leafD_length _)
  have hqm : ∀ w, (Op.equalIn 10000 25 (.agg (m.map byt).toArray) (.agg (m.map byt).toArray)).run Tryd.prog w = .ok true w := fun w => by
    have := run_equal_u8 Tryd.underlying25 (i := _) rfl (by kernel_rfl) Tryd.underlying5 w m m HML.out HML.out
    rwa [beq_self_eq_true] at this
  have hql : ∀ w, (Op.equalIn 10000 25 (.agg (l0.map byt).toArray) (.agg (l0.map byt).toArray)).run Tryd.prog w = .ok true w := fun w => by
    have := run_equal_u8 Tryd.underlying25 (i := _) rfl (by kernel_rfl) Tryd.underlying5 w l0 l0 HLL.out HLL.out
    rwa [beq_self_eq_true] at this
  clear hV g1 g2' K12 K22 KB2 HT HR HVB HAR s1 s2 e1 s3 s4 hsW
  go_upto_region 3 with fail
  refine wp_region_held_drew (S := (AS w g2 da db v 1 0)) (by kernel_rfl) HS.out.drew (fun hHeld => ?_)
  refine wpAnyH_take (i := 0) (oi := ⟨_, _, _, _, _, _⟩) rfl (by kernel_rfl) (by kernel_rfl) (by kernel_rfl) (fun _ _ _ h => h) (yieldsIf_load_mid (by rfl) _ _ rfl w.heap.size 0 rfl (da.map byt) _ (fun _ h => blk_range h.k1) Tryd.underlying25 rfl (szD' HLA.out)) (by assumption) ?_
  try simp only [Act.put, List.setIfInBounds_toArray, List.set_cons_zero, List.set_cons_succ]
  refine wpAnyH_take (i := 1) (oi := ⟨_, _, _, _, _, _⟩) rfl (by kernel_rfl) (by kernel_rfl) (by kernel_rfl) (fun _ _ _ h => h) (yieldsIf_load_mid (by rfl) _ _ rfl g2 0 rfl (db.map byt) _ (fun _ h => blk_range h.k2) Tryd.underlying25 rfl (szD' HLB.out)) (by assumption) ?_
  try simp only [Act.put, List.setIfInBounds_toArray, List.set_cons_zero, List.set_cons_succ]
  refine wpAnyH_take (i := 4) (oi := ⟨_, _, _, _, _, _⟩) rfl (by kernel_rfl) (by kernel_rfl) (by kernel_rfl) (fun _ _ _ h => h) (yieldsIf_load_mid (by rfl) _ _ rfl w.heap.size 0 rfl (da.map byt) _ (fun _ h => blk_range h.k1) Tryd.underlying25 rfl (szD' HLA.out)) (by assumption) ?_
  try simp only [Act.put, List.setIfInBounds_toArray, List.set_cons_zero, List.set_cons_succ]
  refine wpAnyH_take (i := 5) (oi := ⟨_, _, _, _, _, _⟩) rfl (by kernel_rfl) (by kernel_rfl) (by kernel_rfl) (fun _ _ _ h => h) (yieldsIf_load_mid (by rfl) _ _ rfl g2 0 rfl (db.map byt) _ (fun _ h => blk_range h.k2) Tryd.underlying25 rfl (szD' HLB.out)) (by assumption) ?_
  try simp only [Act.put, List.setIfInBounds_toArray, List.set_cons_zero, List.set_cons_succ]
  refine wpAnyH_ready (rs := [2]) (by kernel_rfl) (by simp) ?_
  refine AllReadyH.cons (o := ⟨_, _, _, _, _, _⟩) rfl (fun K hK => ?_) AllReadyH.nil
  rw [if_pos (by rfl)]
  refine wp_buildSlice2 _ elemD _ _ rfl _ _ rfl rfl HSA.out HSB.out (by decide) ?_
  refine hK.out _ _ (hHeld.alloc _) (fun hHeld => ?_)
  obtain ⟨V2, hV2⟩ : ∃ x, w5.drew.alloc (.cells ((da.map byt).toArray ++ (db.map byt).toArray) 25) = x := ⟨_, rfl⟩
  have HAr := Lib.hid (show Arr 32 Any V2 (.slice (some ⟨w5.drew.heap.size, 0, none⟩) 2 2) (dcs [da, db]) by rw [← hV2]; exact arr_two (k := 32) w5.drew _ _ 25 _ _ (by simp [HLA.out]) (by simp [HLB.out]) rfl rfl trivial)
  rw [hV2] at hHeld ⊢
  clear hV2
  clear hK
  refine wpAnyH_ready (rs := [3]) (by kernel_rfl) (by simp) ?_
  refine AllReadyH.cons (o := ⟨_, _, _, _, _, _⟩) rfl (fun K hK => ?_) AllReadyH.nil
  go_simp
  refine (root_calls 2 _ _ [da, db] rfl HAr.out HD.out hHeld.t (by simp)).mono ?_
  rintro e w6 ⟨rfl, g⟩
  rw [hroot]
  refine hK.out _ _ (by exact hHeld.below g) (fun hHeld => ?_)
  clear hK
  try simp only [Act.put, List.setIfInBounds_toArray, List.set_cons_zero, List.set_cons_succ]
  clear HAr g
  refine wpAnyH_ready (rs := [6]) (by kernel_rfl) (by simp) ?_
  refine AllReadyH.cons (o := ⟨_, _, _, _, _, _⟩) rfl (fun K hK => ?_) AllReadyH.nil
  go_simp
  refine (ref_node_calls _ da db HLA.out HLB.out hHeld.r).mono ?_
  rintro e w7 ⟨rfl, g⟩
  rw [hnode]
  refine hK.out _ _ (by exact hHeld.below g) (fun hHeld => ?_)
  clear hK
  try simp only [Act.put, List.setIfInBounds_toArray, List.set_cons_zero, List.set_cons_succ]
  clear g
  refine wpAnyH_take (i := 7) (oi := ⟨_, _, _, _, _, _⟩) (v := ?_) rfl (by kernel_rfl) (by kernel_rfl) (by kernel_rfl) (fun _ _ _ h => h) (Or.inl ⟨by rfl, ?_⟩) (by assumption) ?_
  rotate_left
  · intro w hSw; go_simp; try (with_reducible rfl)
  try simp only [Act.put, List.setIfInBounds_toArray, List.set_cons_zero, List.set_cons_succ]
  refine wpAnyH_take (i := 8) (oi := ⟨_, _, _, _, _, _⟩) (v := ?_) rfl (by kernel_rfl) (by kernel_rfl) (by kernel_rfl) (fun _ _ _ h => h) (Or.inl ⟨by rfl, ?_⟩) (by assumption) ?_
  rotate_left
  · intro w hSw; go_simp; try (with_reducible rfl)
  try simp only [Act.put, List.setIfInBounds_toArray, List.set_cons_zero, List.set_cons_succ]
  refine wpAnyH_take (i := 9) (oi := ⟨_, _, _, _, _, _⟩) (v := ?_) rfl (by kernel_rfl) (by kernel_rfl) (by kernel_rfl) (fun _ _ _ h => h) (Or.inl ⟨by rfl, ?_⟩) (by assumption) ?_
  rotate_left
  · intro w hSw; go_simp; try (with_reducible rfl)
  try simp only [Act.put, List.setIfInBounds_toArray, List.set_cons_zero, List.set_cons_succ]
  refine wpAnyH_take (i := 10) (oi := ⟨_, _, _, _, _, _⟩) (v := ?_) rfl (by kernel_rfl) (by kernel_rfl) (by kernel_rfl) (fun _ _ _ h => h) (Or.inl ⟨by rfl, ?_⟩) (by assumption) ?_
  rotate_left
  · intro w hSw; go_simp; try (with_reducible rfl)
  try simp only [Act.put, List.setIfInBounds_toArray, List.set_cons_zero, List.set_cons_succ]
  refine wpAnyH_take (i := 11) (oi := ⟨_, _, _, _, _, _⟩) (v := ?_) rfl (by kernel_rfl) (by kernel_rfl) (by kernel_rfl) (fun _ _ _ h => h) (Or.inl ⟨by rfl, ?_⟩) (by assumption) ?_
  rotate_left
  · intro w hSw; go_simp; try (with_reducible rfl)
  try simp only [Act.put, List.setIfInBounds_toArray, List.set_cons_zero, List.set_cons_succ]
  refine wpAnyH_take (i := 12) (oi := ⟨_, _, _, _, _, _⟩) (v := ?_) rfl (by kernel_rfl) (by kernel_rfl) (by kernel_rfl) (fun _ _ _ h => h) (Or.inl ⟨by rfl, ?_⟩) (by assumption) ?_
  rotate_left
  · intro w hSw; go_simp; try (with_reducible rfl)
  try simp only [Act.put, List.setIfInBounds_toArray, List.set_cons_zero, List.set_cons_succ]
  refine wpAnyH_take (i := 13) (oi := ⟨_, _, _, _, _, _⟩) rfl (by kernel_rfl) (by kernel_rfl) (by kernel_rfl) (fun _ _ _ h => h) (yieldsIf_load_mid (by rfl) _ _ rfl w.heap.size 0 rfl (da.map byt) _ (fun _ h => blk_range h.k1) Tryd.underlying25 rfl (szD' HLA.out)) (by assumption) ?_
  try simp only [Act.put, List.setIfInBounds_toArray, List.set_cons_zero, List.set_cons_succ]
  refine wpAnyH_ready (rs := [14]) (by kernel_rfl) (by simp) ?_
  refine AllReadyH.cons (o := ⟨_, _, _, _, _, _⟩) rfl (fun K hK => ?_) AllReadyH.nil
  rw [if_pos (by rfl)]
  refine wp_buildSlice1 _ elemD _ rfl _ rfl HSA.out (by decide) ?_
  refine hK.out _ _ (hHeld.alloc _) (fun hHeld => ?_)
  obtain ⟨V3, hV3⟩ : ∃ x, w7.alloc (.cells (da.map byt).toArray 25) = x := ⟨_, rfl⟩
  have HAr := Lib.hid (show Arr 32 Any V3 (.slice (some ⟨w7.heap.size, 0, none⟩) 1 1) (dcs [da]) by rw [← hV3]; exact arr_one (k := 32) w7 _ 25 _ _ (by simp [HLA.out]) rfl trivial)
  rw [hV3] at hHeld ⊢
  clear hV3
  clear hK
  refine wpAnyH_ready (rs := [15]) (by kernel_rfl) (by simp) ?_
  refine AllReadyH.cons (o := ⟨_, _, _, _, _, _⟩) rfl (fun K hK => ?_) AllReadyH.nil
  go_simp
  refine (same_calls _ _ _ [da] [da] hHeld.ap HAr.out HDA.out HDA.out (by simp) (by simp)).mono ?_
  rintro e w8 ⟨rfl, g⟩
  rw [show decide ([da] = [da]) = true by simp]
  refine hK.out _ _ (by exact hHeld.below g) (fun hHeld => ?_)
  clear hK
  try simp only [Act.put, List.setIfInBounds_toArray, List.set_cons_zero, List.set_cons_succ]
  clear HAr g
  refine wpAnyH_take (i := 16) (oi := ⟨_, _, _, _, _, _⟩) (v := ?_) rfl (by kernel_rfl) (by kernel_rfl) (by kernel_rfl) (fun _ _ _ h => h) (Or.inl ⟨by rfl, ?_⟩) (by assumption) ?_
  rotate_left
  · intro w hSw; go_simp; try (with_reducible rfl)
  try simp only [Act.put, List.setIfInBounds_toArray, List.set_cons_zero, List.set_cons_succ]
  refine wpAnyH_take (i := 17) (oi := ⟨_, _, _, _, _, _⟩) (v := ?_) rfl (by kernel_rfl) (by kernel_rfl) (by kernel_rfl) (fun _ _ _ h => h) (Or.inl ⟨by rfl, ?_⟩) (by assumption) ?_
  rotate_left
  · intro w hSw; go_simp; try (with_reducible rfl)
  try simp only [Act.put, List.setIfInBounds_toArray, List.set_cons_zero, List.set_cons_succ]
  refine wpAnyH_take (i := 18) (oi := ⟨_, _, _, _, _, _⟩) rfl (by kernel_rfl) (by kernel_rfl) (by kernel_rfl) (fun _ _ _ h => h) (yieldsIf_load_mid (by rfl) _ _ rfl w.heap.size 0 rfl (da.map byt) _ (fun _ h => blk_range h.k1) Tryd.underlying25 rfl (szD' HLA.out)) (by assumption) ?_
  try simp only [Act.put, List.setIfInBounds_toArray, List.set_cons_zero, List.set_cons_succ]
  refine wpAnyH_take (i := 19) (oi := ⟨_, _, _, _, _, _⟩) rfl (by kernel_rfl) (by kernel_rfl) (by kernel_rfl) (fun _ _ _ h => h) (yieldsIf_load_mid (by rfl) _ _ rfl g2 0 rfl (db.map byt) _ (fun _ h => blk_range h.k2) Tryd.underlying25 rfl (szD' HLB.out)) (by assumption) ?_
  try simp only [Act.put, List.setIfInBounds_toArray, List.set_cons_zero, List.set_cons_succ]
  refine wpAnyH_take (i := 21) (oi := ⟨_, _, _, _, _, _⟩) rfl (by kernel_rfl) (by kernel_rfl) (by kernel_rfl) (fun _ _ _ h => h) (yieldsIf_load_mid (by rfl) _ _ rfl g2 0 rfl (db.map byt) _ (fun _ h => blk_range h.k2) Tryd.underlying25 rfl (szD' HLB.out)) (by assumption) ?_
  try simp only [Act.put, List.setIfInBounds_toArray, List.set_cons_zero, List.set_cons_succ]
  refine wpAnyH_take (i := 22) (oi := ⟨_, _, _, _, _, _⟩) (v := ?_) rfl (by kernel_rfl) (by kernel_rfl) (by kernel_rfl) (fun _ _ _ h => h) (Or.inl ⟨by rfl, ?_⟩) (by assumption) ?_
  rotate_left
  · intro w hSw; go_simp; try (with_reducible rfl)
  try simp only [Act.put, List.setIfInBounds_toArray, List.set_cons_zero, List.set_cons_succ]
  refine wpAnyH_ready (rs := [20]) (by kernel_rfl) (by simp) ?_
  refine AllReadyH.cons (o := ⟨_, _, _, _, _, _⟩) rfl (fun K hK => ?_) AllReadyH.nil
  go_simp
  refine (ref_node_calls _ da db HLA.out HLB.out hHeld.r).mono ?_
  rintro e w9 ⟨rfl, g⟩
  rw [hnode]
  refine hK.out _ _ (by exact hHeld.below g) (fun hHeld => ?_)
  clear hK
  try simp only [Act.put, List.setIfInBounds_toArray, List.set_cons_zero, List.set_cons_succ]
  refine wpAnyH_ready (rs := [23]) (by kernel_rfl) (by simp) ?_
  refine AllReadyH.cons (o := ⟨_, _, _, _, _, _⟩) rfl (fun K hK => ?_) AllReadyH.nil
  go_simp
  refine (check_calls _ m db 1 2 _ [da] hHeld.ap HDA.out HML.out HLB.out hHeld.t (by decide) (by decide) (by simp)).mono ?_
  rintro e w10 ⟨rfl, g⟩
  rw [hchk]
  refine hK.out _ _ (by exact hHeld.below g) (fun hHeld => ?_)
  clear hK
  try simp only [Act.put, List.setIfInBounds_toArray, List.set_cons_zero, List.set_cons_succ]
  refine wpAnyH_take (i := 24) (oi := ⟨_, _, _, _, _, _⟩) (v := ?_) rfl (by kernel_rfl) (by kernel_rfl) (by kernel_rfl) (fun _ _ _ h => h) (Or.inl ⟨by rfl, ?_⟩) (by assumption) ?_
  rotate_left
  · intro w hSw; go_simp; try (with_reducible rfl)
  try simp only [Act.put, List.setIfInBounds_toArray, List.set_cons_zero, List.set_cons_succ]
  refine wpAnyH_take (i := 25) (oi := ⟨_, _, _, _, _, _⟩) (v := ?_) rfl (by kernel_rfl) (by kernel_rfl) (by kernel_rfl) (fun _ _ _ h => h) (Or.inl ⟨by rfl, ?_⟩) (by assumption) ?_
  rotate_left
  · intro w hSw; go_simp; try (with_reducible rfl)
  try simp only [Act.put, List.setIfInBounds_toArray, List.set_cons_zero, List.set_cons_succ]
  refine wpAnyH_ready (rs := [26]) (by kernel_rfl) (by simp) ?_
  refine AllReadyH.cons (o := ⟨_, _, _, _, _, _⟩) rfl (fun K hK => ?_) AllReadyH.nil
  go_simp
  refine (leaf_calls _ _ [] (Byt.nil _ _) (by simp) hHeld.t).mono ?_
  rintro e w11 ⟨rfl, g⟩
  rw [hleaf]
  refine hK.out _ _ (by exact hHeld.below g) (fun hHeld => ?_)
  clear hK
  try simp only [Act.put, List.setIfInBounds_toArray, List.set_cons_zero, List.set_cons_succ]
  refine wpAnyH_ready (rs := [27]) (by kernel_rfl) (by simp) ?_
  refine AllReadyH.cons (o := ⟨_, _, _, _, _, _⟩) rfl (fun K hK => ?_) AllReadyH.nil
  go_simp
  refine (ref_leaf_calls _ _ [] (Byt.nil _ _) (by simp) hHeld.r).mono ?_
  rintro e w12 ⟨rfl, g⟩
  rw [hleaf]
  refine hK.out _ _ (by exact hHeld.below g) (fun hHeld => ?_)
  clear hK
  try simp only [Act.put, List.setIfInBounds_toArray, List.set_cons_zero, List.set_cons_succ]
  refine wpAnyH_take (i := 28) (oi := ⟨_, _, _, _, _, _⟩) (v := ?_) rfl (by kernel_rfl) (by kernel_rfl) (by kernel_rfl) (fun _ _ _ h => h) (Or.inl ⟨by rfl, ?_⟩) (by assumption) ?_
  rotate_left
  · intro w hSw; go_simp; try (with_reducible rfl)
  try simp only [Act.put, List.setIfInBounds_toArray, List.set_cons_zero, List.set_cons_succ]
  refine wpAnyH_take (i := 29) (oi := ⟨_, _, _, _, _, _⟩) (v := ?_) rfl (by kernel_rfl) (by kernel_rfl) (by kernel_rfl) (fun _ _ _ h => h) (Or.inl ⟨by rfl, ?_⟩) (by assumption) ?_
  rotate_left
  · intro w hSw; go_simp; try (with_reducible rfl)
  try simp only [Act.put, List.setIfInBounds_toArray, List.set_cons_zero, List.set_cons_succ]
  refine wpAnyH_ready (rs := [30]) (by kernel_rfl) (by simp) ?_
  refine AllReadyH.cons (o := ⟨_, _, _, _, _, _⟩) rfl (fun K hK => ?_) AllReadyH.nil
  go_simp
  refine hK.out _ _ (by exact hHeld) (fun hHeld => ?_)
  clear hK
  try simp only [Act.put, List.setIfInBounds_toArray, List.set_cons_zero, List.set_cons_succ]
  refine wpAnyH_done (by kernel_rfl) ?_ _
  have hfin := hHeld.b
  go_wp2
  go_ret
  exact ⟨rfl, hfin⟩
end Go.Proofs.YtiaoifaglfhagaaDoor.MkW
