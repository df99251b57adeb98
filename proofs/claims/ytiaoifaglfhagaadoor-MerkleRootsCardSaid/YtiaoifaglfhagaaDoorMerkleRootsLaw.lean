/- The walk of the law MerkleRoots. Condition: at most 2^42 digests; the tables are laid. -/
import Derived.Test.YtiaoifaglfhagaaDoorMkP
import Derived.Test.YtiaoifaglfhagaaDoorShaLaid
import Derived.Test.YtiaoifaglfhagaaDoorCards
namespace Go.Proofs.YtiaoifaglfhagaaDoor.merkleRoots
open Go Go.RowKit Mem Sha ShaW Mk Arr Row MkW
set_option linter.unusedVariables false

/-- what the law keeps -/
structure RLS (w : World) (b0 o0 c : Nat) (ds : List Dg) (vb : Value) (bs : List UInt8) (d0 d1 : Dg) (t1 t2 : Nat) (wx : World) : Prop where
  a : Arr 32 Any wx (.slice (some ⟨b0, o0, none⟩) ds.length c) (dcs ds)
  y : Byt Any wx vb bs
  r0 : wx.rangeAt b0 o0 (d0.map byt)
  r1 : wx.rangeAt b0 (o0 + 32) (d1.map byt)
  b : Below w.heap.size w wx
  t : TabB wx t1
  r : TabB wx t2
theorem RLS.below {w : World} {b0 o0 c : Nat} {ds : List Dg} {vb : Value} {bs : List UInt8} {d0 d1 : Dg} {t1 t2 : Nat} {a b : World} (h : RLS w b0 o0 c ds vb bs d0 d1 t1 t2 a) (hb : Below a.heap.size a b) : RLS w b0 o0 c ds vb bs d0 d1 t1 t2 b := by
  have hk : ∀ {o : Nat} {d : Dg}, a.rangeAt b0 o (d.map byt) → b.rangeAt b0 o (d.map byt) := by
    intro o d hr j u hu
    exact (World.cell?_of_block (w := a) (hb.block b0 (World.block_lt_of_cell? a _ (hr j u hu)))).trans (hr j u hu)
  exact ⟨h.a.below (by omega) hb, h.y.below hb, hk h.r0, hk h.r1, h.b.trans (hb.mono h.b.size), h.t.below hb, h.r.below hb⟩
theorem RLS.drew {w : World} {b0 o0 c : Nat} {ds : List Dg} {vb : Value} {bs : List UInt8} {d0 d1 : Dg} {t1 t2 : Nat} {a : World} (h : RLS w b0 o0 c ds vb bs d0 d1 t1 t2 a) : RLS w b0 o0 c ds vb bs d0 d1 t1 t2 a.drew := ⟨h.a, h.y, h.r0, h.r1, below_drew h.b, h.t, h.r⟩

set_option maxHeartbeats 8000000 in
set_option maxRecDepth 100000 in
theorem walk0 (w : World) (v : Value) (ds : List Dg) (hA : Arr 32 Any w v (dcs ds)) (hD : ∀ d ∈ ds, d.length = 32) (hn : ds.length ≤ 4398046511104) (vb : Value) (bs : List UInt8) (hB : Byt Any w vb bs) (hb : bs.length ≤ 140737488351232)
    (hT : TabB w 1) (hR : TabB w 0) :
    Calls Tryd.prog 3 #[v, vb] w fun e w' => e = .returned (.bool true) ∧ Below w.heap.size w w' := by
  obtain ⟨a, c, rfl, hk1, hk2, hk3⟩ := hA.form
  simp only [List.length_map] at hA hk1 ⊢
  have HA := Lib.hid hA
  have HD := Lib.hid hD
  have HB := Lib.hid hB
  have HT := Lib.hid hT
  have HR := Lib.hid hR
  clear hA hD hB hT hR
  go_enter Tryd.func3, Tryd.ntmps3
  go_upto_region 1 with fail
  by_cases h1 : 1 < ds.length
  · have h1I : (1 : Int) < (ds.length : Int) := by omega
    have h0N : 0 < ds.length := by omega
    obtain ⟨b0, o0, q0, e0, _, r0⟩ := HA.out.at 0 (by simp; omega)
    obtain ⟨b1, o1, q1, e1, _, r1⟩ := HA.out.at 1 (by simp; omega)
    simp only [Value.slice.injEq, List.length_map, true_and] at e0 e1
    obtain ⟨rfl, rfl⟩ := e0
    obtain ⟨e1, -⟩ := e1
    obtain ⟨rfl, rfl⟩ : b0 = b1 ∧ o0 = o1 := by simpa using e1
    obtain ⟨d0, hd0⟩ : ∃ x, ds[0]'(by omega) = x := ⟨_, rfl⟩
    obtain ⟨d1, hd1⟩ : ∃ x, ds[1]'(by omega) = x := ⟨_, rfl⟩
    simp only [List.getElem_map, hd0, Nat.zero_mul, Nat.add_zero] at r0
    simp only [List.getElem_map, hd1, Nat.one_mul] at r1
    have HL0 := Lib.hid (show d0.length = 32 by rw [← hd0]; exact HD.out _ (List.getElem_mem _))
    have HL1 := Lib.hid (show d1.length = 32 by rw [← hd1]; exact HD.out _ (List.getElem_mem _))
    have HS := Lib.hid (show RLS w b0 o0 c ds vb bs d0 d1 1 0 w from ⟨HA.out, HB.out, r0, r1, Below.refl _ _, HT.out, HR.out⟩)
    obtain ⟨m, hnode⟩ : ∃ x, nodeD d0 d1 = x := ⟨_, rfl⟩
    have HML := Lib.hid (show m.length = 32 by rw [← hnode]; exact nodeD_length _ _)
    have hqm : ∀ w, (Op.equalIn 10000 25 (.agg (m.map byt).toArray) (.agg (m.map byt).toArray)).run Tryd.prog w = .ok true w := fun w => by
      have := run_equal_u8 Tryd.underlying25 (i := _) rfl (by kernel_rfl) Tryd.underlying5 w m m HML.out HML.out
      rwa [beq_self_eq_true] at this
    clear r0 r1 hd0 hd1 e1
    refine wp_region_held_drew (S := (RLS w b0 o0 c ds vb bs d0 d1 1 0)) (by kernel_rfl) HS.out.drew (fun hHeld => ?_)
    refine wpAnyH_take (i := 0) (oi := ⟨_, _, _, _, _, _⟩) (v := ?_) rfl (by kernel_rfl) (by kernel_rfl) (by kernel_rfl) (fun _ _ _ h => h) (Or.inl ⟨by rfl, ?_⟩) (by assumption) ?_
    rotate_left
    · intro w hSw; go_simp; try (with_reducible rfl)
    try simp only [Act.put, List.setIfInBounds_toArray, List.set_cons_zero, List.set_cons_succ]
    refine wpAnyH_take (i := 1) (oi := ⟨_, _, _, _, _, _⟩) (v := ?_) rfl (by kernel_rfl) (by kernel_rfl) (by kernel_rfl) (fun _ _ _ h => h) (Or.inl ⟨by rfl, ?_⟩) (by assumption) ?_
    rotate_left
    · intro w hSw; go_simp; try (with_reducible rfl)
    try simp only [Act.put, List.setIfInBounds_toArray, List.set_cons_zero, List.set_cons_succ]
    refine wpAnyH_take (i := 2) (oi := ⟨_, _, _, _, _, _⟩) (v := ?_) rfl (by kernel_rfl) (by kernel_rfl) (by kernel_rfl) (fun _ _ _ h => h) (Or.inl ⟨by rfl, ?_⟩) (by assumption) ?_
    rotate_left
    · intro w hSw; go_simp; try (with_reducible rfl)
    try simp only [Act.put, List.setIfInBounds_toArray, List.set_cons_zero, List.set_cons_succ]
    refine wpAnyH_take (i := 3) (oi := ⟨_, _, _, _, _, _⟩) (v := ?_) rfl (by kernel_rfl) (by kernel_rfl) (by kernel_rfl) (fun _ _ _ h => h) (Or.inl ⟨by rfl, ?_⟩) (by assumption) ?_
    rotate_left
    · intro w hSw; go_simp; try (with_reducible rfl)
    try simp only [Act.put, List.setIfInBounds_toArray, List.set_cons_zero, List.set_cons_succ]
    refine wpAnyH_take (i := 4) (oi := ⟨_, _, _, _, _, _⟩) (v := ?_) rfl (by kernel_rfl) (by kernel_rfl) (by kernel_rfl) (fun _ _ _ h => h) (Or.inl ⟨by rfl, ?_⟩) (by assumption) ?_
    rotate_left
    · intro w hSw; go_simp; try (with_reducible rfl)
    try simp only [Act.put, List.setIfInBounds_toArray, List.set_cons_zero, List.set_cons_succ]
    refine wpAnyH_take (i := 5) (oi := ⟨_, _, _, _, _, _⟩) (v := ?_) rfl (by kernel_rfl) (by kernel_rfl) (by kernel_rfl) (fun _ _ _ h => h) (Or.inl ⟨by rfl, ?_⟩) (by assumption) ?_
    rotate_left
    · intro w hSw; go_simp; try (with_reducible rfl)
    try simp only [Act.put, List.setIfInBounds_toArray, List.set_cons_zero, List.set_cons_succ]
    refine wpAnyH_take (i := 6) (oi := ⟨_, _, _, _, _, _⟩) rfl (by kernel_rfl) (by kernel_rfl) (by kernel_rfl) (fun _ _ _ h => h) (yieldsIf_load_mid (by rfl) _ _ rfl b0 o0 rfl (d0.map byt) _ (fun _ h => h.r0) Tryd.underlying25 rfl (szD' HL0.out)) (by assumption) ?_
    try simp only [Act.put, List.setIfInBounds_toArray, List.set_cons_zero, List.set_cons_succ]
    refine wpAnyH_take (i := 7) (oi := ⟨_, _, _, _, _, _⟩) (v := ?_) rfl (by kernel_rfl) (by kernel_rfl) (by kernel_rfl) (fun _ _ _ h => h) (Or.inl ⟨by rfl, ?_⟩) (by assumption) ?_
    rotate_left
    · intro w hSw; go_simp; try (with_reducible rfl)
    try simp only [Act.put, List.setIfInBounds_toArray, List.set_cons_zero, List.set_cons_succ]
    refine wpAnyH_take (i := 8) (oi := ⟨_, _, _, _, _, _⟩) (v := ?_) rfl (by kernel_rfl) (by kernel_rfl) (by kernel_rfl) (fun _ _ _ h => h) (Or.inl ⟨by rfl, ?_⟩) (by assumption) ?_
    rotate_left
    · intro w hSw; go_simp; try (with_reducible rfl)
    try simp only [Act.put, List.setIfInBounds_toArray, List.set_cons_zero, List.set_cons_succ]
    refine wpAnyH_take (i := 9) (oi := ⟨_, _, _, _, _, _⟩) rfl (by kernel_rfl) (by kernel_rfl) (by kernel_rfl) (fun _ _ _ h => h) (yieldsIf_load_mid (by rfl) _ _ rfl b0 (o0 + 32) rfl (d1.map byt) _ (fun _ h => h.r1) Tryd.underlying25 rfl (szD' HL1.out)) (by assumption) ?_
    try simp only [Act.put, List.setIfInBounds_toArray, List.set_cons_zero, List.set_cons_succ]
    refine wpAnyH_take (i := 11) (oi := ⟨_, _, _, _, _, _⟩) (v := ?_) rfl (by kernel_rfl) (by kernel_rfl) (by kernel_rfl) (fun _ _ _ h => h) (Or.inl ⟨by rfl, ?_⟩) (by assumption) ?_
    rotate_left
    · intro w hSw; go_simp; try (with_reducible rfl)
    try simp only [Act.put, List.setIfInBounds_toArray, List.set_cons_zero, List.set_cons_succ]
    refine wpAnyH_take (i := 12) (oi := ⟨_, _, _, _, _, _⟩) (v := ?_) rfl (by kernel_rfl) (by kernel_rfl) (by kernel_rfl) (fun _ _ _ h => h) (Or.inl ⟨by rfl, ?_⟩) (by assumption) ?_
    rotate_left
    · intro w hSw; go_simp; try (with_reducible rfl)
    try simp only [Act.put, List.setIfInBounds_toArray, List.set_cons_zero, List.set_cons_succ]
    refine wpAnyH_take (i := 13) (oi := ⟨_, _, _, _, _, _⟩) rfl (by kernel_rfl) (by kernel_rfl) (by kernel_rfl) (fun _ _ _ h => h) (yieldsIf_load_mid (by rfl) _ _ rfl b0 o0 rfl (d0.map byt) _ (fun _ h => h.r0) Tryd.underlying25 rfl (szD' HL0.out)) (by assumption) ?_
    try simp only [Act.put, List.setIfInBounds_toArray, List.set_cons_zero, List.set_cons_succ]
    refine wpAnyH_take (i := 14) (oi := ⟨_, _, _, _, _, _⟩) (v := ?_) rfl (by kernel_rfl) (by kernel_rfl) (by kernel_rfl) (fun _ _ _ h => h) (Or.inl ⟨by rfl, ?_⟩) (by assumption) ?_
    rotate_left
    · intro w hSw; go_simp; try (with_reducible rfl)
    try simp only [Act.put, List.setIfInBounds_toArray, List.set_cons_zero, List.set_cons_succ]
    refine wpAnyH_take (i := 15) (oi := ⟨_, _, _, _, _, _⟩) (v := ?_) rfl (by kernel_rfl) (by kernel_rfl) (by kernel_rfl) (fun _ _ _ h => h) (Or.inl ⟨by rfl, ?_⟩) (by assumption) ?_
    rotate_left
    · intro w hSw; go_simp; try (with_reducible rfl)
    try simp only [Act.put, List.setIfInBounds_toArray, List.set_cons_zero, List.set_cons_succ]
    refine wpAnyH_take (i := 16) (oi := ⟨_, _, _, _, _, _⟩) rfl (by kernel_rfl) (by kernel_rfl) (by kernel_rfl) (fun _ _ _ h => h) (yieldsIf_load_mid (by rfl) _ _ rfl b0 (o0 + 32) rfl (d1.map byt) _ (fun _ h => h.r1) Tryd.underlying25 rfl (szD' HL1.out)) (by assumption) ?_
    try simp only [Act.put, List.setIfInBounds_toArray, List.set_cons_zero, List.set_cons_succ]
    refine wpAnyH_ready (rs := [10]) (by kernel_rfl) (by simp) ?_
    refine AllReadyH.cons (o := ⟨_, _, _, _, _, _⟩) rfl (fun K hK => ?_) AllReadyH.nil
    go_simp
    refine (node_calls _ d0 d1 HL0.out HL1.out hHeld.t).mono ?_
    rintro e w2 ⟨rfl, g⟩
    rw [hnode]
    refine hK.out _ _ (by exact hHeld.below g) (fun hHeld => ?_)
    clear hK
    try simp only [Act.put, List.setIfInBounds_toArray, List.set_cons_zero, List.set_cons_succ]
    clear g
    refine wpAnyH_ready (rs := [17]) (by kernel_rfl) (by simp) ?_
    refine AllReadyH.cons (o := ⟨_, _, _, _, _, _⟩) rfl (fun K hK => ?_) AllReadyH.nil
    go_simp
    refine (ref_node_calls _ d0 d1 HL0.out HL1.out hHeld.r).mono ?_
    rintro e w3 ⟨rfl, g⟩
    rw [hnode]
    refine hK.out _ _ (by exact hHeld.below g) (fun hHeld => ?_)
    clear hK
    try simp only [Act.put, List.setIfInBounds_toArray, List.set_cons_zero, List.set_cons_succ]
    clear g
    refine wpAnyH_take (i := 18) (oi := ⟨_, _, _, _, _, _⟩) (v := ?_) rfl (by kernel_rfl) (by kernel_rfl) (by kernel_rfl) (fun _ _ _ h => h) (Or.inl ⟨by rfl, ?_⟩) (by assumption) ?_
    rotate_left
    · intro w hSw; go_simp; try (with_reducible rfl)
    try simp only [Act.put, List.setIfInBounds_toArray, List.set_cons_zero, List.set_cons_succ]
    refine wpAnyH_take (i := 19) (oi := ⟨_, _, _, _, _, _⟩) (v := ?_) rfl (by kernel_rfl) (by kernel_rfl) (by kernel_rfl) (fun _ _ _ h => h) (Or.inl ⟨by rfl, ?_⟩) (by assumption) ?_
    rotate_left
    · intro w hSw; go_simp; try (with_reducible rfl)
    try simp only [Act.put, List.setIfInBounds_toArray, List.set_cons_zero, List.set_cons_succ]
    refine wpAnyH_done (by kernel_rfl) ?_ _
    have HF := Lib.hid hHeld
    clear hHeld hqm
    obtain ⟨ZA, ZY, ZB, ZT, ZR⟩ := (⟨HF.out.a, HF.out.y, HF.out.b, HF.out.t, HF.out.r⟩ : Arr 32 Any w3 _ (dcs ds) ∧ Byt Any w3 vb bs ∧ Below w.heap.size w w3 ∧ TabB w3 _ ∧ TabB w3 _)
    go_wp2_with fail
    refine (alive_calls w3 ZT ZR).mono ?_
    rintro e w4 ⟨rfl, g⟩
    have A4 := Lib.hid (ZA.below (by omega) g)
    have Y4 := Lib.hid (ZY.below g)
    have B4 := Lib.hid (ZB.trans (g.mono ZB.size))
    have T4 := Lib.hid (ZT.below g)
    have R4 := Lib.hid (ZR.below g)
    clear g ZA ZY ZB ZT ZR
    go_wp2_with fail
    refine (root_calls _ w4 _ ds rfl A4.out HD.out T4.out hn).mono ?_
    rintro e w5 ⟨rfl, g⟩
    have A5 := Lib.hid (A4.out.below (by omega) g)
    have Y5 := Lib.hid (Y4.out.below g)
    have B5 := Lib.hid (B4.out.trans (g.mono B4.out.size))
    have T5 := Lib.hid (T4.out.below g)
    have R5 := Lib.hid (R4.out.below g)
    clear g
    obtain ⟨rt, hrt⟩ : ∃ x, root ds = x := ⟨_, rfl⟩
    have HRL := Lib.hid (show rt.length = 32 by rw [← hrt]; exact root_length _ _ rfl HD.out)
    have HRT := Lib.hid hrt
    rw [hrt]
    clear hrt
    go_wp2_with fail
    refine (ref_root_calls _ w5 _ ds rfl A5.out HD.out R5.out hn).mono ?_
    rintro e w6 ⟨rfl, g⟩
    have Y6 := Lib.hid (Y5.out.below g)
    have B6 := Lib.hid (B5.out.trans (g.mono B5.out.size))
    have T6 := Lib.hid (T5.out.below g)
    have R6 := Lib.hid (R5.out.below g)
    clear g
    rw [HRT.out]
    have hqr : ∀ w, (Op.equalIn 10000 25 (.agg (rt.map byt).toArray) (.agg (rt.map byt).toArray)).run Tryd.prog w = .ok true w := fun w => by
      have := run_equal_u8 Tryd.underlying25 (i := _) rfl (by kernel_rfl) Tryd.underlying5 w rt rt HRL.out HRL.out
      rwa [beq_self_eq_true] at this
    go_wp2_with fail
    refine (leaf_calls w6 vb bs Y6.out hb T6.out).mono ?_
    rintro e w7 ⟨rfl, g⟩
    have Y7 := Lib.hid (Y6.out.below g)
    have B7 := Lib.hid (B6.out.trans (g.mono B6.out.size))
    have R7 := Lib.hid (R6.out.below g)
    clear g hqr
    obtain ⟨lf, hlf⟩ : ∃ x, leafD bs = x := ⟨_, rfl⟩
    have HLL := Lib.hid (show lf.length = 32 by rw [← hlf]; exact leafD_length _)
    have HLF := Lib.hid hlf
    rw [hlf]
    clear hlf
    go_wp2_with fail
    refine (ref_leaf_calls w7 vb bs Y7.out hb R7.out).mono ?_
    rintro e w8 ⟨rfl, g⟩
    have B8 := Lib.hid (B7.out.trans (g.mono B7.out.size))
    clear g
    rw [HLF.out]
    have hql : ∀ w, (Op.equalIn 10000 25 (.agg (lf.map byt).toArray) (.agg (lf.map byt).toArray)).run Tryd.prog w = .ok true w := fun w => by
      have := run_equal_u8 Tryd.underlying25 (i := _) rfl (by kernel_rfl) Tryd.underlying5 w lf lf HLL.out HLL.out
      rwa [beq_self_eq_true] at this
    go_wp2
    go_ret
    exact ⟨rfl, B8.out⟩
  · have h1I : ¬ (1 : Int) < (ds.length : Int) := by omega
    have ZS := Lib.hid (show Arr 32 Any w.drew (.slice a ds.length c) (dcs ds) ∧ Byt Any w.drew vb bs ∧ Below w.heap.size w w.drew ∧ TabB w.drew 1 ∧ TabB w.drew 0 from ⟨HA.out, HB.out, below_drew (Below.refl w.heap.size w), HT.out, HR.out⟩)
    refine wp_region_held_drew (S := (fun wx => wx = w.drew)) (by kernel_rfl) rfl (fun hHeld => ?_)
    refine wpAnyH_take (i := 0) (oi := ⟨_, _, _, _, _, _⟩) (v := ?_) rfl (by kernel_rfl) (by kernel_rfl) (by kernel_rfl) (fun _ _ _ h => h) (Or.inl ⟨by rfl, ?_⟩) (by assumption) ?_
    rotate_left
    · intro w hSw; go_simp; try (with_reducible rfl)
    try simp only [Act.put, List.setIfInBounds_toArray, List.set_cons_zero, List.set_cons_succ]
    refine wpAnyH_take (i := 1) (oi := ⟨_, _, _, _, _, _⟩) (v := ?_) rfl (by kernel_rfl) (by kernel_rfl) (by kernel_rfl) (fun _ _ _ h => h) (Or.inl ⟨by rfl, ?_⟩) (by assumption) ?_
    rotate_left
    · intro w hSw; go_simp; try (with_reducible rfl)
    try simp only [Act.put, List.setIfInBounds_toArray, List.set_cons_zero, List.set_cons_succ]
    refine wpAnyH_take (i := 2) (oi := ⟨_, _, _, _, _, _⟩) (v := ?_) rfl (by kernel_rfl) (by kernel_rfl) (by kernel_rfl) (fun _ _ _ h => h) (Or.inl ⟨by rfl, ?_⟩) (by assumption) ?_
    rotate_left
    · intro w hSw; go_simp; try (with_reducible rfl)
    try simp only [Act.put, List.setIfInBounds_toArray, List.set_cons_zero, List.set_cons_succ]
    refine wpAnyH_take (i := 3) (oi := ⟨_, _, _, _, _, _⟩) (v := ?_) rfl (by kernel_rfl) (by kernel_rfl) (by kernel_rfl) (fun _ _ _ h => h) (Or.inl ⟨by rfl, ?_⟩) (by assumption) ?_
    rotate_left
    · intro w hSw; go_simp; try (with_reducible rfl)
    try simp only [Act.put, List.setIfInBounds_toArray, List.set_cons_zero, List.set_cons_succ]
    refine wpAnyH_take (i := 4) (oi := ⟨_, _, _, _, _, _⟩) (v := undef) rfl (by kernel_rfl) (by kernel_rfl) (by kernel_rfl) (fun _ _ _ h => h) (Or.inr ⟨by rfl, rfl⟩) (by assumption) ?_
    try simp only [Act.put, List.setIfInBounds_toArray, List.set_cons_zero, List.set_cons_succ]
    refine wpAnyH_take (i := 5) (oi := ⟨_, _, _, _, _, _⟩) (v := undef) rfl (by kernel_rfl) (by kernel_rfl) (by kernel_rfl) (fun _ _ _ h => h) (Or.inr ⟨by rfl, rfl⟩) (by assumption) ?_
    try simp only [Act.put, List.setIfInBounds_toArray, List.set_cons_zero, List.set_cons_succ]
    refine wpAnyH_take (i := 6) (oi := ⟨_, _, _, _, _, _⟩) (v := undef) rfl (by kernel_rfl) (by kernel_rfl) (by kernel_rfl) (fun _ _ _ h => h) (Or.inr ⟨by rfl, rfl⟩) (by assumption) ?_
    try simp only [Act.put, List.setIfInBounds_toArray, List.set_cons_zero, List.set_cons_succ]
    refine wpAnyH_take (i := 7) (oi := ⟨_, _, _, _, _, _⟩) (v := undef) rfl (by kernel_rfl) (by kernel_rfl) (by kernel_rfl) (fun _ _ _ h => h) (Or.inr ⟨by rfl, rfl⟩) (by assumption) ?_
    try simp only [Act.put, List.setIfInBounds_toArray, List.set_cons_zero, List.set_cons_succ]
    refine wpAnyH_take (i := 8) (oi := ⟨_, _, _, _, _, _⟩) (v := undef) rfl (by kernel_rfl) (by kernel_rfl) (by kernel_rfl) (fun _ _ _ h => h) (Or.inr ⟨by rfl, rfl⟩) (by assumption) ?_
    try simp only [Act.put, List.setIfInBounds_toArray, List.set_cons_zero, List.set_cons_succ]
    refine wpAnyH_take (i := 9) (oi := ⟨_, _, _, _, _, _⟩) (v := undef) rfl (by kernel_rfl) (by kernel_rfl) (by kernel_rfl) (fun _ _ _ h => h) (Or.inr ⟨by rfl, rfl⟩) (by assumption) ?_
    try simp only [Act.put, List.setIfInBounds_toArray, List.set_cons_zero, List.set_cons_succ]
    refine wpAnyH_take (i := 11) (oi := ⟨_, _, _, _, _, _⟩) (v := undef) rfl (by kernel_rfl) (by kernel_rfl) (by kernel_rfl) (fun _ _ _ h => h) (Or.inr ⟨by rfl, rfl⟩) (by assumption) ?_
    try simp only [Act.put, List.setIfInBounds_toArray, List.set_cons_zero, List.set_cons_succ]
    refine wpAnyH_take (i := 12) (oi := ⟨_, _, _, _, _, _⟩) (v := undef) rfl (by kernel_rfl) (by kernel_rfl) (by kernel_rfl) (fun _ _ _ h => h) (Or.inr ⟨by rfl, rfl⟩) (by assumption) ?_
    try simp only [Act.put, List.setIfInBounds_toArray, List.set_cons_zero, List.set_cons_succ]
    refine wpAnyH_take (i := 13) (oi := ⟨_, _, _, _, _, _⟩) (v := undef) rfl (by kernel_rfl) (by kernel_rfl) (by kernel_rfl) (fun _ _ _ h => h) (Or.inr ⟨by rfl, rfl⟩) (by assumption) ?_
    try simp only [Act.put, List.setIfInBounds_toArray, List.set_cons_zero, List.set_cons_succ]
    refine wpAnyH_take (i := 14) (oi := ⟨_, _, _, _, _, _⟩) (v := undef) rfl (by kernel_rfl) (by kernel_rfl) (by kernel_rfl) (fun _ _ _ h => h) (Or.inr ⟨by rfl, rfl⟩) (by assumption) ?_
    try simp only [Act.put, List.setIfInBounds_toArray, List.set_cons_zero, List.set_cons_succ]
    refine wpAnyH_take (i := 15) (oi := ⟨_, _, _, _, _, _⟩) (v := undef) rfl (by kernel_rfl) (by kernel_rfl) (by kernel_rfl) (fun _ _ _ h => h) (Or.inr ⟨by rfl, rfl⟩) (by assumption) ?_
    try simp only [Act.put, List.setIfInBounds_toArray, List.set_cons_zero, List.set_cons_succ]
    refine wpAnyH_take (i := 16) (oi := ⟨_, _, _, _, _, _⟩) (v := undef) rfl (by kernel_rfl) (by kernel_rfl) (by kernel_rfl) (fun _ _ _ h => h) (Or.inr ⟨by rfl, rfl⟩) (by assumption) ?_
    try simp only [Act.put, List.setIfInBounds_toArray, List.set_cons_zero, List.set_cons_succ]
    refine wpAnyH_take (i := 10) (oi := ⟨_, _, _, _, _, _⟩) (v := undef) rfl (by kernel_rfl) (by kernel_rfl) (by kernel_rfl) (fun _ _ _ h => h) (Or.inr ⟨by rfl, rfl⟩) (by assumption) ?_
    try simp only [Act.put, List.setIfInBounds_toArray, List.set_cons_zero, List.set_cons_succ]
    refine wpAnyH_take (i := 17) (oi := ⟨_, _, _, _, _, _⟩) (v := undef) rfl (by kernel_rfl) (by kernel_rfl) (by kernel_rfl) (fun _ _ _ h => h) (Or.inr ⟨by rfl, rfl⟩) (by assumption) ?_
    try simp only [Act.put, List.setIfInBounds_toArray, List.set_cons_zero, List.set_cons_succ]
    refine wpAnyH_take (i := 18) (oi := ⟨_, _, _, _, _, _⟩) (v := undef) rfl (by kernel_rfl) (by kernel_rfl) (by kernel_rfl) (fun _ _ _ h => h) (Or.inr ⟨by rfl, rfl⟩) (by assumption) ?_
    try simp only [Act.put, List.setIfInBounds_toArray, List.set_cons_zero, List.set_cons_succ]
    refine wpAnyH_take (i := 19) (oi := ⟨_, _, _, _, _, _⟩) (v := ?_) rfl (by kernel_rfl) (by kernel_rfl) (by kernel_rfl) (fun _ _ _ h => h) (Or.inl ⟨by rfl, ?_⟩) (by assumption) ?_
    rotate_left
    · intro w hSw; go_simp; try (with_reducible rfl)
    try simp only [Act.put, List.setIfInBounds_toArray, List.set_cons_zero, List.set_cons_succ]
    refine wpAnyH_done (by kernel_rfl) ?_ _
    clear hHeld
    obtain ⟨ZA, ZY, ZB, ZT, ZR⟩ := ZS.out
    go_wp2_with fail
    refine (alive_calls w.drew ZT ZR).mono ?_
    rintro e w4 ⟨rfl, g⟩
    have A4 := Lib.hid (ZA.below (by omega) g)
    have Y4 := Lib.hid (ZY.below g)
    have B4 := Lib.hid (ZB.trans (g.mono ZB.size))
    have T4 := Lib.hid (ZT.below g)
    have R4 := Lib.hid (ZR.below g)
    clear g ZA ZY ZB ZT ZR
    go_wp2_with fail
    refine (root_calls _ w4 _ ds rfl A4.out HD.out T4.out hn).mono ?_
    rintro e w5 ⟨rfl, g⟩
    have A5 := Lib.hid (A4.out.below (by omega) g)
    have Y5 := Lib.hid (Y4.out.below g)
    have B5 := Lib.hid (B4.out.trans (g.mono B4.out.size))
    have T5 := Lib.hid (T4.out.below g)
    have R5 := Lib.hid (R4.out.below g)
    clear g
    obtain ⟨rt, hrt⟩ : ∃ x, root ds = x := ⟨_, rfl⟩
    have HRL := Lib.hid (show rt.length = 32 by rw [← hrt]; exact root_length _ _ rfl HD.out)
    have HRT := Lib.hid hrt
    rw [hrt]
    clear hrt
    go_wp2_with fail
    refine (ref_root_calls _ w5 _ ds rfl A5.out HD.out R5.out hn).mono ?_
    rintro e w6 ⟨rfl, g⟩
    have Y6 := Lib.hid (Y5.out.below g)
    have B6 := Lib.hid (B5.out.trans (g.mono B5.out.size))
    have T6 := Lib.hid (T5.out.below g)
    have R6 := Lib.hid (R5.out.below g)
    clear g
    rw [HRT.out]
    have hqr : ∀ w, (Op.equalIn 10000 25 (.agg (rt.map byt).toArray) (.agg (rt.map byt).toArray)).run Tryd.prog w = .ok true w := fun w => by
      have := run_equal_u8 Tryd.underlying25 (i := _) rfl (by kernel_rfl) Tryd.underlying5 w rt rt HRL.out HRL.out
      rwa [beq_self_eq_true] at this
    go_wp2_with fail
    refine (leaf_calls w6 vb bs Y6.out hb T6.out).mono ?_
    rintro e w7 ⟨rfl, g⟩
    have Y7 := Lib.hid (Y6.out.below g)
    have B7 := Lib.hid (B6.out.trans (g.mono B6.out.size))
    have R7 := Lib.hid (R6.out.below g)
    clear g hqr
    obtain ⟨lf, hlf⟩ : ∃ x, leafD bs = x := ⟨_, rfl⟩
    have HLL := Lib.hid (show lf.length = 32 by rw [← hlf]; exact leafD_length _)
    have HLF := Lib.hid hlf
    rw [hlf]
    clear hlf
    go_wp2_with fail
    refine (ref_leaf_calls w7 vb bs Y7.out hb R7.out).mono ?_
    rintro e w8 ⟨rfl, g⟩
    have B8 := Lib.hid (B7.out.trans (g.mono B7.out.size))
    clear g
    rw [HLF.out]
    have hql : ∀ w, (Op.equalIn 10000 25 (.agg (lf.map byt).toArray) (.agg (lf.map byt).toArray)).run Tryd.prog w = .ok true w := fun w => by
      have := run_equal_u8 Tryd.underlying25 (i := _) rfl (by kernel_rfl) Tryd.underlying5 w lf lf HLL.out HLL.out
      rwa [beq_self_eq_true] at this
    go_wp2
    go_ret
    exact ⟨rfl, B8.out⟩
theorem walk (w : World) (v : Value) (ds : List Dg) (hA : Arr 32 Any w v (dcs ds)) (hD : ∀ d ∈ ds, d.length = 32) (hn : ds.length ≤ 4398046511104) (vb : Value) (bs : List UInt8) (hB : Byt Any w vb bs) (hb : bs.length ≤ 140737488351232) (hL : laidMetH Tryd.prog Rows.merkleRootsRow.laid w) :
    Calls Tryd.prog 3 #[v, vb] w fun e w' => e = .returned (.bool true) ∧ Below w.heap.size w w' :=
  walk0 w v ds hA hD hn vb bs hB hb (tab_sha hL (by kernel_rfl) (List.Mem.tail _ (List.Mem.head _))) (tab_ref hL (by kernel_rfl) (List.Mem.head _))
end Go.Proofs.YtiaoifaglfhagaaDoor.merkleRoots
