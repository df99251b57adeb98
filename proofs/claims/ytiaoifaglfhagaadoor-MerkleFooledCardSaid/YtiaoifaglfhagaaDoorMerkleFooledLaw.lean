/- The walk of the law MerkleFooled. Conditions: at most 2^42 digests on each way; the tables are laid. -/
import Derived.Test.YtiaoifaglfhagaaDoorMkV
import Derived.Test.YtiaoifaglfhagaaDoorMkRead
import Derived.Test.YtiaoifaglfhagaaDoorQuiet
import Derived.Test.YtiaoifaglfhagaaDoorShaLaid
import Derived.Test.YtiaoifaglfhagaaDoorCards
namespace Go.Proofs.YtiaoifaglfhagaaDoor.merkleFooled
open Go Go.RowKit Mem Sha ShaW Mk Arr Row MkW
set_option linter.unusedVariables false

set_option maxHeartbeats 16000000 in
set_option maxRecDepth 100000 in
theorem walk0 (w : World) (a : Dg) (ha : a.length = 32) (b : Dg) (hb : b.length = 32) (p n : Nat) (vp : Value) (ps : List Dg) (p2 n2 : Nat) (vq : Value) (qs : List Dg) (hP : Arr 32 Any w vp (dcs ps)) (hQ : Arr 32 Any w vq (dcs qs)) (hDP : ∀ d ∈ ps, d.length = 32) (hDQ : ∀ d ∈ qs, d.length = 32)
    (hT : TabB w 1) (hR : TabB w 0) (hn : n < 4294967296) (hp : p < 4294967296) (hd : ps.length ≤ 4398046511104) (he : qs.length ≤ 4398046511104) :
    Calls Tryd.prog 8 #[dv a, dv b, .agg #[.int .u32 (p : Int), .int .u32 (n : Int), vp, .int .u32 (p2 : Int), .int .u32 (n2 : Int), vq]] w fun e w' => e = .returned (.bool true) ∧ Below w.heap.size w w' := by
  obtain ⟨pa, pc, rfl, hk1, hk2, hk3⟩ := hP.form
  obtain ⟨qa, qc, rfl, hj1, hj2, hj3⟩ := hQ.form
  simp only [List.length_map] at hP hk1 hQ hj1 ⊢
  obtain ⟨W, hW, KA0, KB0, KW0, BB0, ks⟩ : ∃ W, ((w.alloc (.cells (a.map byt).toArray 25)).alloc (.cells (b.map byt).toArray 25)).alloc (.cells #[.int .u32 (p : Int), .int .u32 (n : Int), .slice pa ps.length pc, .int .u32 (p2 : Int), .int .u32 (n2 : Int), .slice qa qs.length qc] 43) = W ∧ Hid (Blk W w.heap.size (a.map byt) 25) ∧ Hid (Blk W (w.heap.size + 1) (b.map byt) 25) ∧ Hid (Blk W (w.heap.size + 1 + 1) [.int .u32 (p : Int), .int .u32 (n : Int), .slice pa ps.length pc, .int .u32 (p2 : Int), .int .u32 (n2 : Int), .slice qa qs.length qc] 43) ∧ Hid (Below w.heap.size w W) ∧ W.heap.size = w.heap.size + 1 + 1 + 1 := by
    have k1 := Blk.new (w.alloc (.cells (a.map byt).toArray 25)) (b.map byt).toArray 25 _ rfl
    have k2 := Blk.new ((w.alloc (.cells (a.map byt).toArray 25)).alloc (.cells (b.map byt).toArray 25)) #[.int .u32 (p : Int), .int .u32 (n : Int), .slice pa ps.length pc, .int .u32 (p2 : Int), .int .u32 (n2 : Int), .slice qa qs.length qc] 43 _ rfl
    simp only [World.size_alloc] at k1 k2
    exact ⟨_, rfl, Lib.hid (((Blk.new w _ _ _ rfl).alloc _).alloc _), Lib.hid (k1.alloc _), Lib.hid k2, Lib.hid ((((Below.refl _ _).alloc (Nat.le_refl _) _).alloc (by simp) _).alloc (by simp only [World.size_alloc]; omega) _), by simp⟩
  have P0 := Lib.hid (hP.below (by omega) BB0.out)
  have Q0 := Lib.hid (hQ.below (by omega) BB0.out)
  have T0 := Lib.hid (hT.below BB0.out)
  have R0 := Lib.hid (hR.below BB0.out)
  have HLA := Lib.hid ha
  have HLB := Lib.hid hb
  have HDP := Lib.hid hDP
  have HDQ := Lib.hid hDQ
  clear hP hQ hT hR ha hb hDP hDQ hk1 hk2 hk3 hj1 hj2 hj3
  go_enter Tryd.func8, Tryd.ntmps8
  go_upto_region 1 with fail
  clear hW
  refine wp_region_held_drew (S := (fun w' => Blk w' (w.heap.size + 1 + 1) [.int .u32 (p : Int), .int .u32 (n : Int), .slice pa ps.length pc, .int .u32 (p2 : Int), .int .u32 (n2 : Int), .slice qa qs.length qc] 43 ∧ w' = W.drew)) (by kernel_rfl) ⟨KW0.out.drew, rfl⟩ (fun hHeld => ?_)
  refine wpAnyH_take (i := 0) (oi := ⟨_, _, _, _, _, _⟩) (v := ?_) rfl (by kernel_rfl) (by kernel_rfl) (by kernel_rfl) (fun _ _ _ h => h) (Or.inl ⟨by rfl, ?_⟩) (by assumption) ?_
  rotate_left
  · intro w hSw; go_simp; try (with_reducible rfl)
  try simp only [Act.put, List.setIfInBounds_toArray, List.set_cons_zero, List.set_cons_succ]
  refine wpAnyH_take (i := 1) (oi := ⟨_, _, _, _, _, _⟩) (v := ?_) rfl (by kernel_rfl) (by kernel_rfl) (by kernel_rfl) (fun _ _ _ h => h) (Or.inl ⟨by rfl, ?_⟩) (by assumption) ?_
  rotate_left
  · intro w hSw; go_simp; try (with_reducible rfl)
  try simp only [Act.put, List.setIfInBounds_toArray, List.set_cons_zero, List.set_cons_succ]
  refine wpAnyH_take (i := 2) (oi := ⟨_, _, _, _, _, _⟩) (v := .int .u32 (p : Int)) rfl (by kernel_rfl) (by kernel_rfl) (by kernel_rfl) (fun _ _ _ h => h) (Or.inl ⟨by rfl, fun w hSw => (by have hc := hSw.1.cell (i := 0) rfl; clear hSw; go_simp; try (with_reducible rfl))⟩) (by assumption) ?_
  try simp only [Act.put, List.setIfInBounds_toArray, List.set_cons_zero, List.set_cons_succ]
  refine wpAnyH_take (i := 3) (oi := ⟨_, _, _, _, _, _⟩) (v := ?_) rfl (by kernel_rfl) (by kernel_rfl) (by kernel_rfl) (fun _ _ _ h => h) (Or.inl ⟨by rfl, ?_⟩) (by assumption) ?_
  rotate_left
  · intro w hSw; go_simp; try (with_reducible rfl)
  try simp only [Act.put, List.setIfInBounds_toArray, List.set_cons_zero, List.set_cons_succ]
  refine wpAnyH_take (i := 4) (oi := ⟨_, _, _, _, _, _⟩) (v := ?_) rfl (by kernel_rfl) (by kernel_rfl) (by kernel_rfl) (fun _ _ _ h => h) (Or.inl ⟨by rfl, ?_⟩) (by assumption) ?_
  rotate_left
  · intro w hSw; go_simp; try (with_reducible rfl)
  try simp only [Act.put, List.setIfInBounds_toArray, List.set_cons_zero, List.set_cons_succ]
  refine wpAnyH_take (i := 5) (oi := ⟨_, _, _, _, _, _⟩) (v := .int .u32 (n : Int)) rfl (by kernel_rfl) (by kernel_rfl) (by kernel_rfl) (fun _ _ _ h => h) (Or.inl ⟨by rfl, fun w hSw => (by have hc := hSw.1.cell (i := 1) rfl; clear hSw; go_simp; try (with_reducible rfl))⟩) (by assumption) ?_
  try simp only [Act.put, List.setIfInBounds_toArray, List.set_cons_zero, List.set_cons_succ]
  refine wpAnyH_take (i := 6) (oi := ⟨_, _, _, _, _, _⟩) (v := ?_) rfl (by kernel_rfl) (by kernel_rfl) (by kernel_rfl) (fun _ _ _ h => h) (Or.inl ⟨by rfl, ?_⟩) (by assumption) ?_
  rotate_left
  · intro w hSw; go_simp; try (with_reducible rfl)
  try simp only [Act.put, List.setIfInBounds_toArray, List.set_cons_zero, List.set_cons_succ]
  refine wpAnyH_take (i := 7) (oi := ⟨_, _, _, _, _, _⟩) (v := ?_) rfl (by kernel_rfl) (by kernel_rfl) (by kernel_rfl) (fun _ _ _ h => h) (Or.inl ⟨by rfl, ?_⟩) (by assumption) ?_
  rotate_left
  · intro w hSw; go_simp; try (with_reducible rfl)
  try simp only [Act.put, List.setIfInBounds_toArray, List.set_cons_zero, List.set_cons_succ]
  refine wpAnyH_take (i := 8) (oi := ⟨_, _, _, _, _, _⟩) (v := .slice pa ps.length pc) rfl (by kernel_rfl) (by kernel_rfl) (by kernel_rfl) (fun _ _ _ h => h) (Or.inl ⟨by rfl, fun w hSw => (by have hc := hSw.1.cell (i := 2) rfl; clear hSw; go_simp; try (with_reducible rfl))⟩) (by assumption) ?_
  try simp only [Act.put, List.setIfInBounds_toArray, List.set_cons_zero, List.set_cons_succ]
  refine wpAnyH_take (i := 9) (oi := ⟨_, _, _, _, _, _⟩) (v := ?_) rfl (by kernel_rfl) (by kernel_rfl) (by kernel_rfl) (fun _ _ _ h => h) (Or.inl ⟨by rfl, ?_⟩) (by assumption) ?_
  rotate_left
  · intro w hSw; go_simp; try (with_reducible rfl)
  try simp only [Act.put, List.setIfInBounds_toArray, List.set_cons_zero, List.set_cons_succ]
  refine wpAnyH_take (i := 10) (oi := ⟨_, _, _, _, _, _⟩) (v := ?_) rfl (by kernel_rfl) (by kernel_rfl) (by kernel_rfl) (fun _ _ _ h => h) (Or.inl ⟨by rfl, ?_⟩) (by assumption) ?_
  rotate_left
  · intro w hSw; go_simp; try (with_reducible rfl)
  try simp only [Act.put, List.setIfInBounds_toArray, List.set_cons_zero, List.set_cons_succ]
  refine wpAnyH_take (i := 11) (oi := ⟨_, _, _, _, _, _⟩) (v := .slice qa qs.length qc) rfl (by kernel_rfl) (by kernel_rfl) (by kernel_rfl) (fun _ _ _ h => h) (Or.inl ⟨by rfl, fun w hSw => (by have hc := hSw.1.cell (i := 5) rfl; clear hSw; go_simp; try (with_reducible rfl))⟩) (by assumption) ?_
  try simp only [Act.put, List.setIfInBounds_toArray, List.set_cons_zero, List.set_cons_succ]
  refine wpAnyH_ready (rs := [12]) (by kernel_rfl) (by simp) ?_
  refine AllReadyH.cons (o := ⟨_, _, _, _, _, _⟩) rfl (fun K hK => ?_) AllReadyH.nil
  go_simp
  refine hK.out _ _ (by exact hHeld) (fun hHeld => ?_)
  clear hK
  try simp only [Act.put, List.setIfInBounds_toArray, List.set_cons_zero, List.set_cons_succ]
  refine wpAnyH_ready (rs := [13]) (by kernel_rfl) (by simp) ?_
  refine AllReadyH.cons (o := ⟨_, _, _, _, _, _⟩) rfl (fun K hK => ?_) AllReadyH.nil
  go_simp
  refine hK.out _ _ (by exact hHeld) (fun hHeld => ?_)
  clear hK
  try simp only [Act.put, List.setIfInBounds_toArray, List.set_cons_zero, List.set_cons_succ]
  refine wpAnyH_ready (rs := [14]) (by kernel_rfl) (by simp) ?_
  refine AllReadyH.cons (o := ⟨_, _, _, _, _, _⟩) rfl (fun K hK => ?_) AllReadyH.nil
  go_simp
  refine hK.out _ _ (by exact hHeld) (fun hHeld => ?_)
  clear hK
  try simp only [Act.put, List.setIfInBounds_toArray, List.set_cons_zero, List.set_cons_succ]
  refine wpAnyH_ready (rs := [15]) (by kernel_rfl) (by simp) ?_
  refine AllReadyH.cons (o := ⟨_, _, _, _, _, _⟩) rfl (fun K hK => ?_) AllReadyH.nil
  go_simp
  refine hK.out _ _ (by exact hHeld) (fun hHeld => ?_)
  clear hK
  try simp only [Act.put, List.setIfInBounds_toArray, List.set_cons_zero, List.set_cons_succ]
  refine wpAnyH_done (by kernel_rfl) ?_ _
  obtain ⟨w1, hw1⟩ : ∃ x, W.drew = x := ⟨_, rfl⟩
  have KA1 := Lib.hid (show Blk w1 w.heap.size (a.map byt) 25 by rw [← hw1]; exact KA0.out.drew)
  have KB1 := Lib.hid (show Blk w1 (w.heap.size + 1) (b.map byt) 25 by rw [← hw1]; exact KB0.out.drew)
  have P1 := Lib.hid (show Arr 32 Any w1 _ (dcs ps) by rw [← hw1]; exact P0.out)
  have Q1 := Lib.hid (show Arr 32 Any w1 _ (dcs qs) by rw [← hw1]; exact Q0.out)
  have BB1 := Lib.hid (show Below w.heap.size w w1 by rw [← hw1]; exact below_drew BB0.out)
  have T1 := Lib.hid (show TabB w1 1 by rw [← hw1]; exact T0.out)
  have R1 := Lib.hid (show TabB w1 0 by rw [← hw1]; exact R0.out)
  rw [hw1]
  clear hHeld hw1 KA0 KB0 KW0 P0 Q0 BB0 T0 R0 ks
  go_wp2_with (first
    | (with_reducible refine wpList_load_cs (by with_unfolding_all rfl) _ _ rfl w.heap.size _ rfl KA1.out _ Tryd.underlying25 rfl (szD' HLA.out) _ rfl ?_)
    | (with_reducible refine wpList_load_cs (by with_unfolding_all rfl) _ _ rfl (w.heap.size + 1) _ rfl KB1.out _ Tryd.underlying25 rfl (szD' HLB.out) _ rfl ?_)
    | fail)
  refine (clash_calls w1 a b p n _ _ ps qs P1.out Q1.out HDP.out HDQ.out HLA.out HLB.out T1.out hn hp hd he).mono ?_
  rintro e w2 ⟨g, hcase⟩
  have KA2 := Lib.hid (KA1.out.below g)
  have KB2 := Lib.hid (KB1.out.below g)
  have P2 := Lib.hid (P1.out.below (by omega) g)
  have Q2 := Lib.hid (Q1.out.below (by omega) g)
  have BB2 := Lib.hid (BB1.out.trans (g.mono BB1.out.size))
  have T2 := Lib.hid (T1.out.below g)
  have R2 := Lib.hid (R1.out.below g)
  clear g
  rcases hcase with ⟨⟨d, hra, hrb⟩, hne, vx, vy, x, y, rfl, hx, hy, hxy, hsh, hxl, hyl⟩ | ⟨hbad, rfl⟩
  · obtain ⟨xa, xc, rfl, _⟩ := id hx
    obtain ⟨ya, yc, rfl, _⟩ := id hy
    have hl1 : ¬ (64 : Int) < (ps.length : Int) := by
      intro h
      have := rise_long (leaf := a) (p := p) hn (show 64 < ps.length by omega)
      rw [this] at hra; cases hra
    have hl2 : ¬ (64 : Int) < (qs.length : Int) := by
      intro h
      have := rise_long (leaf := b) (p := p) hn (show 64 < qs.length by omega)
      rw [this] at hrb; cases hrb
    have HX2 := Lib.hid hx
    have HY2 := Lib.hid hy
    have HRA := Lib.hid hra
    have HRB := Lib.hid hrb
    have HNS := Lib.hid hne
    have HNE := Lib.hid hxy
    have HSH := Lib.hid hsh
    have HXL := Lib.hid hxl
    have HYL := Lib.hid hyl
    clear hx hy hra hrb hne hxy hsh hxl hyl
    go_wp2_with (first
      | (with_reducible refine wpList_load_cs (by with_unfolding_all rfl) _ _ rfl w.heap.size _ rfl KA2.out _ Tryd.underlying25 rfl (szD' HLA.out) _ rfl ?_)
      | fail)
    refine (fold_calls a HLA.out _ w2 ps rfl p n _ P2.out HDP.out R2.out hn hp hd).mono ?_
    rintro e w3 ⟨m, rfl, hm, hmx, g⟩
    have HM := Lib.hid hm
    have HMX := Lib.hid hmx
    have HX3 := Lib.hid (HX2.out.below g)
    have HY3 := Lib.hid (HY2.out.below g)
    have KA3 := Lib.hid (KA2.out.below g)
    have KB3 := Lib.hid (KB2.out.below g)
    have P3 := Lib.hid (P2.out.below (by omega) g)
    have Q3 := Lib.hid (Q2.out.below (by omega) g)
    have BB3 := Lib.hid (BB2.out.trans (g.mono BB2.out.size))
    have T3 := Lib.hid (T2.out.below g)
    have R3 := Lib.hid (R2.out.below g)
    obtain ⟨w4, hw4, N4, NB4, ns4⟩ := start32 w3
    have HOM := Lib.hid (one_cells m)
    have hf5 : Fr (fun b => b = w3.heap.size) w4 (w4.setRow w3.heap.size (m.map byt).toArray) := (Fr.refl (fun b => b = w3.heap.size) w4).setRow (.inr rfl) _
    have hb5 : Below w3.heap.size w3 (w4.setRow w3.heap.size (m.map byt).toArray) := below_setRow NB4.out (Nat.le_refl _) _
    have N5 := Lib.hid (N4.out.row (m.map byt))
    obtain ⟨w5, hw5⟩ : ∃ x, w4.setRow w3.heap.size (m.map byt).toArray = x := ⟨_, rfl⟩
    rw [hw5] at hb5 N5 hf5
    have HX5 := Lib.hid (HX3.out.below hb5)
    have HY5 := Lib.hid (HY3.out.below hb5)
    have KA5 := Lib.hid (KA3.out.below hb5)
    have KB5 := Lib.hid (KB3.out.below hb5)
    have P5 := Lib.hid (P3.out.below (by omega) hb5)
    have Q5 := Lib.hid (Q3.out.below (by omega) hb5)
    have BB5 := Lib.hid (BB3.out.trans (hb5.mono BB3.out.size))
    have T5 := Lib.hid (T3.out.below hb5)
    have R5 := Lib.hid (R3.out.below hb5)
    have hs5 : w3.heap.size < w5.heap.size := N5.out.lt
    clear hm hmx g hf5 hb5
    go_wp2_with (first
      | (with_reducible refine wpList_store_blk rfl _ _ _ rfl w3.heap.size (m.map byt) _ rfl _ rfl rfl N4.out (szD' HM.out) (by simp [HM.out]) HOM.out ?_; rw [hw5])
      | (with_reducible refine wpList_load_cs (by with_unfolding_all rfl) _ _ rfl (w.heap.size + 1) _ rfl KB5.out _ Tryd.underlying25 rfl (szD' HLB.out) _ rfl ?_)
      | fail)
    clear hw4 hw5 N4 NB4 ns4
    refine (fold_calls b HLB.out _ w5 qs rfl p n _ Q5.out HDQ.out R5.out hn hp he).mono ?_
    rintro e w6 ⟨m2, rfl, hm, hmx, g⟩
    have HM2 := Lib.hid hm
    have HMX2 := Lib.hid hmx
    have N6 := Lib.hid (N5.out.below g)
    have HX6 := Lib.hid (HX5.out.below g)
    have HY6 := Lib.hid (HY5.out.below g)
    have KA6 := Lib.hid (KA5.out.below g)
    have KB6 := Lib.hid (KB5.out.below g)
    have P6 := Lib.hid (P5.out.below (by omega) g)
    have Q6 := Lib.hid (Q5.out.below (by omega) g)
    have BB6 := Lib.hid (BB5.out.trans (g.mono BB5.out.size))
    have T6 := Lib.hid (T5.out.below g)
    have R6 := Lib.hid (R5.out.below g)
    obtain ⟨w7, hw7, N7, NB7, ns7⟩ := start32 w6
    have HOM2 := Lib.hid (one_cells m2)
    have hb8 : Below w6.heap.size w6 (w7.setRow w6.heap.size (m2.map byt).toArray) := below_setRow NB7.out (Nat.le_refl _) _
    have M8 := Lib.hid (N7.out.row (m2.map byt))
    obtain ⟨w8, hw8⟩ : ∃ x, w7.setRow w6.heap.size (m2.map byt).toArray = x := ⟨_, rfl⟩
    rw [hw8] at hb8 M8
    have N8 := Lib.hid (N6.out.below hb8)
    have HX8 := Lib.hid (HX6.out.below hb8)
    have HY8 := Lib.hid (HY6.out.below hb8)
    have KA8 := Lib.hid (KA6.out.below hb8)
    have KB8 := Lib.hid (KB6.out.below hb8)
    have P8 := Lib.hid (P6.out.below (by omega) hb8)
    have Q8 := Lib.hid (Q6.out.below (by omega) hb8)
    have BB8 := Lib.hid (BB6.out.trans (hb8.mono BB6.out.size))
    have T8 := Lib.hid (T6.out.below hb8)
    have R8 := Lib.hid (R6.out.below hb8)
    clear hm hmx g hb8
    have hqm : ∀ w, (Op.equalIn 10000 25 (.agg (m.map byt).toArray) (.agg (m2.map byt).toArray)).run Tryd.prog w = .ok (m == m2) w := fun w => run_equal_u8 Tryd.underlying25 (i := _) rfl (by kernel_rfl) Tryd.underlying5 w m m2 HM.out HM2.out
    have hqab : ∀ w, (Op.equalIn 10000 25 (.agg (a.map byt).toArray) (.agg (b.map byt).toArray)).run Tryd.prog w = .ok (a == b) w := fun w => run_equal_u8 Tryd.underlying25 (i := _) rfl (by kernel_rfl) Tryd.underlying5 w a b HLA.out HLB.out
    have hme : (m == m2) = true := by rw [HMX.out d HRA.out, HMX2.out d HRB.out]; simp
    have hia : (rise a p n ps).isSome = true := by rw [HRA.out]; rfl
    have hib : (rise b p n qs).isSome = true := by rw [HRB.out]; rfl
    rw [hme] at hqm
    rcases Bool.eq_false_or_eq_true (a == b) with hab | hab
    · rw [hab] at hqab
      go_wp2_with (first
        | (with_reducible refine wpList_store_blk rfl _ _ _ rfl w6.heap.size (m2.map byt) _ rfl _ rfl rfl N7.out (szD' HM2.out) (by simp [HM2.out]) HOM2.out ?_; rw [hw8])
        | (with_reducible refine wpList_load_cs (by with_unfolding_all rfl) _ _ rfl w3.heap.size _ rfl N8.out _ Tryd.underlying25 rfl (szD' HM.out) _ rfl ?_)
        | (with_reducible refine wpList_load_cs (by with_unfolding_all rfl) _ _ rfl w6.heap.size _ rfl M8.out _ Tryd.underlying25 rfl (szD' HM2.out) _ rfl ?_)
        | (with_reducible refine wpList_load_cs (by with_unfolding_all rfl) _ _ rfl w.heap.size _ rfl KA8.out _ Tryd.underlying25 rfl (szD' HLA.out) _ rfl ?_)
        | (with_reducible refine wpList_load_cs (by with_unfolding_all rfl) _ _ rfl (w.heap.size + 1) _ rfl KB8.out _ Tryd.underlying25 rfl (szD' HLB.out) _ rfl ?_)
        | fail)
      refine (same_calls w8 _ _ ps qs P8.out Q8.out HDP.out HDQ.out hd he).mono ?_
      rintro e w9 ⟨rfl, g⟩
      have BB9 := Lib.hid (BB8.out.trans (g.mono BB8.out.size))
      have T9 := Lib.hid (T8.out.below g)
      have R9 := Lib.hid (R8.out.below g)
      have HX9 := Lib.hid (HX8.out.below g)
      have HY9 := Lib.hid (HY8.out.below g)
      clear g
      rw [show decide (ps = qs) = false by simp; intro h; exact HNS.out ⟨by simpa using hab, h⟩]
      go_wp2_with fail
      refine (alive_calls w9 T9.out R9.out).mono ?_
      rintro e w10 ⟨rfl, g⟩
      have X10 := Lib.hid (HX9.out.below g)
      have Y10 := Lib.hid (HY9.out.below g)
      have B10 := Lib.hid (BB9.out.trans (g.mono BB9.out.size))
      have R10 := Lib.hid (R9.out.below g)
      clear g
      have hc1 := run_convert_byt (P := Tryd.prog) X10.out (src := 23) (dst := 9) Tryd.underlying23 Tryd.underlying5 Tryd.underlying9
      have hc2 := run_convert_byt (P := Tryd.prog) Y10.out (src := 23) (dst := 9) Tryd.underlying23 Tryd.underlying5 Tryd.underlying9
      have hsx : ((str x).toList == (str y).toList) = false := by rw [ByteArray.toList_eq, ByteArray.toList_eq]; simpa [str] using HNE.out
      generalize str x = tx at hc1 hsx
      generalize str y = ty at hc2 hsx
      go_wp2_with fail
      refine (ref_of_calls w10 _ _ x X10.out (by have := HXL.out; omega) R10.out).mono ?_
      rintro e w11 ⟨rfl, g⟩
      have Y11 := Lib.hid (Y10.out.below g)
      have B11 := Lib.hid (B10.out.trans (g.mono B10.out.size))
      have R11 := Lib.hid (R10.out.below g)
      clear g hc1 hc2
      go_wp2_with fail
      refine (ref_of_calls w11 _ _ y Y11.out (by have := HYL.out; omega) R11.out).mono ?_
      rintro e w12 ⟨rfl, g⟩
      have B12 := Lib.hid (B11.out.trans (g.mono B11.out.size))
      clear g
      rw [← HSH.out]
      obtain ⟨sx, hsx'⟩ : ∃ z, sha x = z := ⟨_, rfl⟩
      have HSXL := Lib.hid (show sx.length = 32 by rw [← hsx']; exact sha_length _)
      rw [hsx']
      have hqs : ∀ w, (Op.equalIn 10000 25 (.agg (sx.map byt).toArray) (.agg (sx.map byt).toArray)).run Tryd.prog w = .ok true w := fun w => by
        have := run_equal_u8 Tryd.underlying25 (i := _) rfl (by kernel_rfl) Tryd.underlying5 w sx sx HSXL.out HSXL.out
        rwa [beq_self_eq_true] at this
      go_wp2
      go_ret
      exact ⟨rfl, B12.out⟩
    · rw [hab] at hqab
      go_wp2_with (first
        | (with_reducible refine wpList_store_blk rfl _ _ _ rfl w6.heap.size (m2.map byt) _ rfl _ rfl rfl N7.out (szD' HM2.out) (by simp [HM2.out]) HOM2.out ?_; rw [hw8])
        | (with_reducible refine wpList_load_cs (by with_unfolding_all rfl) _ _ rfl w3.heap.size _ rfl N8.out _ Tryd.underlying25 rfl (szD' HM.out) _ rfl ?_)
        | (with_reducible refine wpList_load_cs (by with_unfolding_all rfl) _ _ rfl w6.heap.size _ rfl M8.out _ Tryd.underlying25 rfl (szD' HM2.out) _ rfl ?_)
        | (with_reducible refine wpList_load_cs (by with_unfolding_all rfl) _ _ rfl w.heap.size _ rfl KA8.out _ Tryd.underlying25 rfl (szD' HLA.out) _ rfl ?_)
        | (with_reducible refine wpList_load_cs (by with_unfolding_all rfl) _ _ rfl (w.heap.size + 1) _ rfl KB8.out _ Tryd.underlying25 rfl (szD' HLB.out) _ rfl ?_))
      refine (alive_calls w8 T8.out R8.out).mono ?_
      rintro e w10 ⟨rfl, g⟩
      have X10 := Lib.hid (HX8.out.below g)
      have Y10 := Lib.hid (HY8.out.below g)
      have B10 := Lib.hid (BB8.out.trans (g.mono BB8.out.size))
      have R10 := Lib.hid (R8.out.below g)
      clear g
      have hc1 := run_convert_byt (P := Tryd.prog) X10.out (src := 23) (dst := 9) Tryd.underlying23 Tryd.underlying5 Tryd.underlying9
      have hc2 := run_convert_byt (P := Tryd.prog) Y10.out (src := 23) (dst := 9) Tryd.underlying23 Tryd.underlying5 Tryd.underlying9
      have hsx : ((str x).toList == (str y).toList) = false := by rw [ByteArray.toList_eq, ByteArray.toList_eq]; simpa [str] using HNE.out
      generalize str x = tx at hc1 hsx
      generalize str y = ty at hc2 hsx
      go_wp2_with fail
      refine (ref_of_calls w10 _ _ x X10.out (by have := HXL.out; omega) R10.out).mono ?_
      rintro e w11 ⟨rfl, g⟩
      have Y11 := Lib.hid (Y10.out.below g)
      have B11 := Lib.hid (B10.out.trans (g.mono B10.out.size))
      have R11 := Lib.hid (R10.out.below g)
      clear g hc1 hc2
      go_wp2_with fail
      refine (ref_of_calls w11 _ _ y Y11.out (by have := HYL.out; omega) R11.out).mono ?_
      rintro e w12 ⟨rfl, g⟩
      have B12 := Lib.hid (B11.out.trans (g.mono B11.out.size))
      clear g
      rw [← HSH.out]
      obtain ⟨sx, hsx'⟩ : ∃ z, sha x = z := ⟨_, rfl⟩
      have HSXL := Lib.hid (show sx.length = 32 by rw [← hsx']; exact sha_length _)
      rw [hsx']
      have hqs : ∀ w, (Op.equalIn 10000 25 (.agg (sx.map byt).toArray) (.agg (sx.map byt).toArray)).run Tryd.prog w = .ok true w := fun w => by
        have := run_equal_u8 Tryd.underlying25 (i := _) rfl (by kernel_rfl) Tryd.underlying5 w sx sx HSXL.out HSXL.out
        rwa [beq_self_eq_true] at this
      go_wp2
      go_ret
      exact ⟨rfl, B12.out⟩
  · have HBAD := Lib.hid hbad
    clear hbad
    by_cases hl1 : 64 < ps.length
    · have hl1I : (64 : Int) < (ps.length : Int) := by omega
      go_wp2_with fail
      refine (alive_calls w2 T2.out R2.out).mono ?_
      rintro e wz ⟨rfl, g⟩
      have BZ := Lib.hid (BB2.out.trans (g.mono BB2.out.size))
      clear g
      go_wp2
      go_ret
      exact ⟨rfl, BZ.out⟩
    · have hl1I : ¬ (64 : Int) < (ps.length : Int) := by omega
      by_cases hl2 : 64 < qs.length
      · have hl2I : (64 : Int) < (qs.length : Int) := by omega
        go_wp2_with fail
        refine (alive_calls w2 T2.out R2.out).mono ?_
        rintro e wz ⟨rfl, g⟩
        have BZ := Lib.hid (BB2.out.trans (g.mono BB2.out.size))
        clear g
        go_wp2
        go_ret
        exact ⟨rfl, BZ.out⟩
      · have hl2I : ¬ (64 : Int) < (qs.length : Int) := by omega
        go_wp2_with (first
          | (with_reducible refine wpList_load_cs (by with_unfolding_all rfl) _ _ rfl w.heap.size _ rfl KA2.out _ Tryd.underlying25 rfl (szD' HLA.out) _ rfl ?_)
          | fail)
        refine (fold_calls a HLA.out _ w2 ps rfl p n _ P2.out HDP.out R2.out hn hp hd).mono ?_
        rintro e w3 ⟨m, rfl, hm, hmx, g⟩
        have HM := Lib.hid hm
        have HMX := Lib.hid hmx
        have KA3 := Lib.hid (KA2.out.below g)
        have KB3 := Lib.hid (KB2.out.below g)
        have P3 := Lib.hid (P2.out.below (by omega) g)
        have Q3 := Lib.hid (Q2.out.below (by omega) g)
        have BB3 := Lib.hid (BB2.out.trans (g.mono BB2.out.size))
        have T3 := Lib.hid (T2.out.below g)
        have R3 := Lib.hid (R2.out.below g)
        obtain ⟨w4, hw4, N4, NB4, ns4⟩ := start32 w3
        have HOM := Lib.hid (one_cells m)
        have hf5 : Fr (fun b => b = w3.heap.size) w4 (w4.setRow w3.heap.size (m.map byt).toArray) := (Fr.refl (fun b => b = w3.heap.size) w4).setRow (.inr rfl) _
        have hb5 : Below w3.heap.size w3 (w4.setRow w3.heap.size (m.map byt).toArray) := below_setRow NB4.out (Nat.le_refl _) _
        have N5 := Lib.hid (N4.out.row (m.map byt))
        obtain ⟨w5, hw5⟩ : ∃ x, w4.setRow w3.heap.size (m.map byt).toArray = x := ⟨_, rfl⟩
        rw [hw5] at hb5 N5 hf5
        have KA5 := Lib.hid (KA3.out.below hb5)
        have KB5 := Lib.hid (KB3.out.below hb5)
        have P5 := Lib.hid (P3.out.below (by omega) hb5)
        have Q5 := Lib.hid (Q3.out.below (by omega) hb5)
        have BB5 := Lib.hid (BB3.out.trans (hb5.mono BB3.out.size))
        have T5 := Lib.hid (T3.out.below hb5)
        have R5 := Lib.hid (R3.out.below hb5)
        have hs5 : w3.heap.size < w5.heap.size := N5.out.lt
        clear hm hmx g hf5 hb5
        go_wp2_with (first
          | (with_reducible refine wpList_store_blk rfl _ _ _ rfl w3.heap.size (m.map byt) _ rfl _ rfl rfl N4.out (szD' HM.out) (by simp [HM.out]) HOM.out ?_; rw [hw5])
          | (with_reducible refine wpList_load_cs (by with_unfolding_all rfl) _ _ rfl (w.heap.size + 1) _ rfl KB5.out _ Tryd.underlying25 rfl (szD' HLB.out) _ rfl ?_)
          | fail)
        clear hw4 hw5 N4 NB4 ns4
        refine (fold_calls b HLB.out _ w5 qs rfl p n _ Q5.out HDQ.out R5.out hn hp he).mono ?_
        rintro e w6 ⟨m2, rfl, hm, hmx, g⟩
        have HM2 := Lib.hid hm
        have HMX2 := Lib.hid hmx
        have N6 := Lib.hid (N5.out.below g)
        have KA6 := Lib.hid (KA5.out.below g)
        have KB6 := Lib.hid (KB5.out.below g)
        have P6 := Lib.hid (P5.out.below (by omega) g)
        have Q6 := Lib.hid (Q5.out.below (by omega) g)
        have BB6 := Lib.hid (BB5.out.trans (g.mono BB5.out.size))
        have T6 := Lib.hid (T5.out.below g)
        have R6 := Lib.hid (R5.out.below g)
        obtain ⟨w7, hw7, N7, NB7, ns7⟩ := start32 w6
        have HOM2 := Lib.hid (one_cells m2)
        have hb8 : Below w6.heap.size w6 (w7.setRow w6.heap.size (m2.map byt).toArray) := below_setRow NB7.out (Nat.le_refl _) _
        have M8 := Lib.hid (N7.out.row (m2.map byt))
        obtain ⟨w8, hw8⟩ : ∃ x, w7.setRow w6.heap.size (m2.map byt).toArray = x := ⟨_, rfl⟩
        rw [hw8] at hb8 M8
        have N8 := Lib.hid (N6.out.below hb8)
        have KA8 := Lib.hid (KA6.out.below hb8)
        have KB8 := Lib.hid (KB6.out.below hb8)
        have P8 := Lib.hid (P6.out.below (by omega) hb8)
        have Q8 := Lib.hid (Q6.out.below (by omega) hb8)
        have BB8 := Lib.hid (BB6.out.trans (hb8.mono BB6.out.size))
        have T8 := Lib.hid (T6.out.below hb8)
        have R8 := Lib.hid (R6.out.below hb8)
        clear hm hmx g hb8
        have hqm : ∀ w, (Op.equalIn 10000 25 (.agg (m.map byt).toArray) (.agg (m2.map byt).toArray)).run Tryd.prog w = .ok (m == m2) w := fun w => run_equal_u8 Tryd.underlying25 (i := _) rfl (by kernel_rfl) Tryd.underlying5 w m m2 HM.out HM2.out
        have hqab : ∀ w, (Op.equalIn 10000 25 (.agg (a.map byt).toArray) (.agg (b.map byt).toArray)).run Tryd.prog w = .ok (a == b) w := fun w => run_equal_u8 Tryd.underlying25 (i := _) rfl (by kernel_rfl) Tryd.underlying5 w a b HLA.out HLB.out
        have hcases : (rise a p n ps).isSome = false ∨ ((rise a p n ps).isSome = true ∧ (rise b p n qs).isSome = false) ∨ ((rise a p n ps).isSome = true ∧ (rise b p n qs).isSome = true ∧ (m == m2) = false) ∨ ((rise a p n ps).isSome = true ∧ (rise b p n qs).isSome = true ∧ (m == m2) = true ∧ (a == b) = true ∧ ps = qs) := by
          cases h1 : rise a p n ps with
          | none => exact .inl rfl
          | some d1 =>
            cases h2 : rise b p n qs with
            | none => exact .inr (.inl ⟨rfl, rfl⟩)
            | some d2 =>
              by_cases h3 : m = m2
              · refine .inr (.inr (.inr ⟨rfl, rfl, by simp [h3], ?_⟩))
                have e1 := HMX.out _ h1
                have e2 := HMX2.out _ h2
                have hd12 : d1 = d2 := by rw [← e1, ← e2, h3]
                subst hd12
                by_cases h4 : a = b ∧ ps = qs
                · exact ⟨by simp [h4.1], h4.2⟩
                · exact absurd ⟨⟨d1, h1, h2⟩, h4⟩ HBAD.out
              · exact .inr (.inr (.inl ⟨rfl, rfl, by simpa using h3⟩))
        rcases hcases with h1 | ⟨h1, h2⟩ | ⟨h1, h2, h3⟩ | ⟨h1, h2, h3, h4, h5⟩
        · skip
          go_wp2_with (first
            | (with_reducible refine wpList_store_blk rfl _ _ _ rfl w6.heap.size (m2.map byt) _ rfl _ rfl rfl N7.out (szD' HM2.out) (by simp [HM2.out]) HOM2.out ?_; rw [hw8])
            | (with_reducible refine wpList_load_cs (by with_unfolding_all rfl) _ _ rfl w3.heap.size _ rfl N8.out _ Tryd.underlying25 rfl (szD' HM.out) _ rfl ?_)
            | (with_reducible refine wpList_load_cs (by with_unfolding_all rfl) _ _ rfl w6.heap.size _ rfl M8.out _ Tryd.underlying25 rfl (szD' HM2.out) _ rfl ?_)
            | (with_reducible refine wpList_load_cs (by with_unfolding_all rfl) _ _ rfl w.heap.size _ rfl KA8.out _ Tryd.underlying25 rfl (szD' HLA.out) _ rfl ?_)
            | (with_reducible refine wpList_load_cs (by with_unfolding_all rfl) _ _ rfl (w.heap.size + 1) _ rfl KB8.out _ Tryd.underlying25 rfl (szD' HLB.out) _ rfl ?_)
            | fail)
          refine (alive_calls w8 T8.out R8.out).mono ?_
          rintro e wz ⟨rfl, g⟩
          have BZ := Lib.hid (BB8.out.trans (g.mono BB8.out.size))
          clear g
          go_wp2
          go_ret
          exact ⟨rfl, BZ.out⟩
        · skip
          go_wp2_with (first
            | (with_reducible refine wpList_store_blk rfl _ _ _ rfl w6.heap.size (m2.map byt) _ rfl _ rfl rfl N7.out (szD' HM2.out) (by simp [HM2.out]) HOM2.out ?_; rw [hw8])
            | (with_reducible refine wpList_load_cs (by with_unfolding_all rfl) _ _ rfl w3.heap.size _ rfl N8.out _ Tryd.underlying25 rfl (szD' HM.out) _ rfl ?_)
            | (with_reducible refine wpList_load_cs (by with_unfolding_all rfl) _ _ rfl w6.heap.size _ rfl M8.out _ Tryd.underlying25 rfl (szD' HM2.out) _ rfl ?_)
            | (with_reducible refine wpList_load_cs (by with_unfolding_all rfl) _ _ rfl w.heap.size _ rfl KA8.out _ Tryd.underlying25 rfl (szD' HLA.out) _ rfl ?_)
            | (with_reducible refine wpList_load_cs (by with_unfolding_all rfl) _ _ rfl (w.heap.size + 1) _ rfl KB8.out _ Tryd.underlying25 rfl (szD' HLB.out) _ rfl ?_)
            | fail)
          refine (alive_calls w8 T8.out R8.out).mono ?_
          rintro e wz ⟨rfl, g⟩
          have BZ := Lib.hid (BB8.out.trans (g.mono BB8.out.size))
          clear g
          go_wp2
          go_ret
          exact ⟨rfl, BZ.out⟩
        · skip
          go_wp2_with (first
            | (with_reducible refine wpList_store_blk rfl _ _ _ rfl w6.heap.size (m2.map byt) _ rfl _ rfl rfl N7.out (szD' HM2.out) (by simp [HM2.out]) HOM2.out ?_; rw [hw8])
            | (with_reducible refine wpList_load_cs (by with_unfolding_all rfl) _ _ rfl w3.heap.size _ rfl N8.out _ Tryd.underlying25 rfl (szD' HM.out) _ rfl ?_)
            | (with_reducible refine wpList_load_cs (by with_unfolding_all rfl) _ _ rfl w6.heap.size _ rfl M8.out _ Tryd.underlying25 rfl (szD' HM2.out) _ rfl ?_)
            | (with_reducible refine wpList_load_cs (by with_unfolding_all rfl) _ _ rfl w.heap.size _ rfl KA8.out _ Tryd.underlying25 rfl (szD' HLA.out) _ rfl ?_)
            | (with_reducible refine wpList_load_cs (by with_unfolding_all rfl) _ _ rfl (w.heap.size + 1) _ rfl KB8.out _ Tryd.underlying25 rfl (szD' HLB.out) _ rfl ?_)
            | fail)
          refine (alive_calls w8 T8.out R8.out).mono ?_
          rintro e wz ⟨rfl, g⟩
          have BZ := Lib.hid (BB8.out.trans (g.mono BB8.out.size))
          clear g
          go_wp2
          go_ret
          exact ⟨rfl, BZ.out⟩
        · rw [h3] at hqm
          rw [h4] at hqab
          have H5 := Lib.hid h5
          clear h5
          go_wp2_with (first
            | (with_reducible refine wpList_store_blk rfl _ _ _ rfl w6.heap.size (m2.map byt) _ rfl _ rfl rfl N7.out (szD' HM2.out) (by simp [HM2.out]) HOM2.out ?_; rw [hw8])
            | (with_reducible refine wpList_load_cs (by with_unfolding_all rfl) _ _ rfl w3.heap.size _ rfl N8.out _ Tryd.underlying25 rfl (szD' HM.out) _ rfl ?_)
            | (with_reducible refine wpList_load_cs (by with_unfolding_all rfl) _ _ rfl w6.heap.size _ rfl M8.out _ Tryd.underlying25 rfl (szD' HM2.out) _ rfl ?_)
            | (with_reducible refine wpList_load_cs (by with_unfolding_all rfl) _ _ rfl w.heap.size _ rfl KA8.out _ Tryd.underlying25 rfl (szD' HLA.out) _ rfl ?_)
            | (with_reducible refine wpList_load_cs (by with_unfolding_all rfl) _ _ rfl (w.heap.size + 1) _ rfl KB8.out _ Tryd.underlying25 rfl (szD' HLB.out) _ rfl ?_)
            | fail)
          refine (same_calls w8 _ _ ps qs P8.out Q8.out HDP.out HDQ.out hd he).mono ?_
          rintro e w9 ⟨rfl, g⟩
          have BB9 := Lib.hid (BB8.out.trans (g.mono BB8.out.size))
          have T9 := Lib.hid (T8.out.below g)
          have R9 := Lib.hid (R8.out.below g)
          have h6 : decide (ps = qs) = true := by simp [H5.out]
          rw [h6]
          clear g
          go_wp2_with fail
          refine (alive_calls w9 T9.out R9.out).mono ?_
          rintro e wz ⟨rfl, g⟩
          have BZ := Lib.hid (BB9.out.trans (g.mono BB9.out.size))
          clear g
          go_wp2
          go_ret
          exact ⟨rfl, BZ.out⟩
theorem walk (w : World) (a : Dg) (ha : a.length = 32) (b : Dg) (hb : b.length = 32) (p n : Nat) (vp : Value) (ps : List Dg) (p2 n2 : Nat) (vq : Value) (qs : List Dg) (h1 : Read.WayIs w [.int .u32 (p : Int), .int .u32 (n : Int), vp] p n vp ps) (h2 : Read.WayIs w [.int .u32 (p2 : Int), .int .u32 (n2 : Int), vq] p2 n2 vq qs) (hd : ps.length ≤ 4398046511104) (he : qs.length ≤ 4398046511104) (hL : laidMetH Tryd.prog Rows.merkleFooledRow.laid w) :
    Calls Tryd.prog 8 #[dv a, dv b, .agg #[.int .u32 (p : Int), .int .u32 (n : Int), vp, .int .u32 (p2 : Int), .int .u32 (n2 : Int), vq]] w fun e w' => e = .returned (.bool true) ∧ Below w.heap.size w w' :=
  walk0 w a ha b hb p n vp ps p2 n2 vq qs h1.a h2.a h1.l h2.l (tab_sha hL (by kernel_rfl) (List.Mem.tail _ (List.Mem.head _))) (tab_ref hL (by kernel_rfl) (List.Mem.head _)) h1.n' h1.p' hd he
end Go.Proofs.YtiaoifaglfhagaaDoor.merkleFooled
