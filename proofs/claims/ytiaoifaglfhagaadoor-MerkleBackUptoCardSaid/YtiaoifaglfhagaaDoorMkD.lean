/- Walks of the root, the program's and the reference's. Conditions: at most 2^42 digests; the tables are laid. -/
import Derived.Test.YtiaoifaglfhagaaDoorMkC
namespace Go.Proofs.YtiaoifaglfhagaaDoor.MkW
open Go Go.RowKit Mem Sha ShaW Mk Arr
set_option linter.unusedVariables false

theorem elemD : ElemT Tryd.prog 22 25 (.agg #[.int .u8 0, .int .u8 0, .int .u8 0, .int .u8 0, .int .u8 0, .int .u8 0, .int .u8 0, .int .u8 0, .int .u8 0, .int .u8 0, .int .u8 0, .int .u8 0, .int .u8 0, .int .u8 0, .int .u8 0, .int .u8 0, .int .u8 0, .int .u8 0, .int .u8 0, .int .u8 0, .int .u8 0, .int .u8 0, .int .u8 0, .int .u8 0, .int .u8 0, .int .u8 0, .int .u8 0, .int .u8 0, .int .u8 0, .int .u8 0, .int .u8 0, .int .u8 0]) 32 32 :=
  ⟨Tryd.underlying22, ⟨_, rfl, rfl, rfl, rfl⟩, rfl, by omega⟩
/-- digests as cells -/
abbrev dcs (ds : List Dg) : List (List Value) := ds.map (fun d => d.map byt)
theorem dcs_len {ds : List Dg} (h : ∀ d ∈ ds, d.length = 32) : ∀ x ∈ dcs ds, x.length = 32 := by
  intro x hx; obtain ⟨d, hd, rfl⟩ := List.mem_map.1 hx; rw [List.length_map]; exact h d hd
/-- what Root keeps: its digests, its result's block, a table -/
structure RS (w : World) (v : Value) (ds : List Dg) (tab : Nat) (w' : World) : Prop where
  a' : Arr 32 (fun b => b < w.heap.size) w' v (dcs ds)
  z' : ∃ z : List Value, z.length = 32 ∧ Blk w' w.heap.size z 25
  b' : Below w.heap.size w w'
  t' : TabB w' tab
theorem RS.below {w : World} {v : Value} {ds : List Dg} {tab : Nat} {a b : World} (h : RS w v ds tab a) (hb : Below a.heap.size a b) : RS w v ds tab b :=
  ⟨h.a'.below (by omega) hb, (by obtain ⟨z, h1, h2⟩ := h.z'; exact ⟨z, h1, h2.below hb⟩), h.b'.trans (hb.mono h.b'.size), h.t'.below hb⟩
theorem RS.drew {w : World} {v : Value} {ds : List Dg} {tab : Nat} {a : World} (h : RS w v ds tab a) : RS w v ds tab a.drew := ⟨h.a', h.z', ⟨h.b'.os, h.b'.tape, h.b'.output, h.b'.size, h.b'.block⟩, h.t'⟩
theorem RS.start {w : World} {v : Value} {ds : List Dg} {tab : Nat} (hA : Arr 32 Any w v (dcs ds)) (hT : TabB w tab) : ∃ W, w.alloc (.cells #[.int .u8 0, .int .u8 0, .int .u8 0, .int .u8 0, .int .u8 0, .int .u8 0, .int .u8 0, .int .u8 0, .int .u8 0, .int .u8 0, .int .u8 0, .int .u8 0, .int .u8 0, .int .u8 0, .int .u8 0, .int .u8 0, .int .u8 0, .int .u8 0, .int .u8 0, .int .u8 0, .int .u8 0, .int .u8 0, .int .u8 0, .int .u8 0, .int .u8 0, .int .u8 0, .int .u8 0, .int .u8 0, .int .u8 0, .int .u8 0, .int .u8 0, .int .u8 0] 25) = W ∧ Hid (RS w v ds tab W) :=
  ⟨_, rfl, Lib.hid ⟨(hA.mono (by omega) (fun b h _ => h)).below (by omega) ((Below.refl _ _).alloc (Nat.le_refl _) _), ⟨_, rfl, new32 w⟩, (Below.refl _ _).alloc (Nat.le_refl _) _, hT.below ((Below.refl _ _).alloc (Nat.le_refl _) _)⟩⟩
theorem RS.store {w : World} {v : Value} {ds : List Dg} {m : Dg} {tab : Nat} {a : World} (h : RS w v ds tab a) (hm : m.length = 32) (ht : tab < w.heap.size) : RS w v ds tab (a.setRow w.heap.size (m.map byt).toArray) := by
  obtain ⟨z, h1, h2⟩ := h.z'
  have hf : Fr (fun k => k = w.heap.size) a (a.setRow w.heap.size (m.map byt).toArray) := (Fr.refl (fun k => k = w.heap.size) a).setRow (.inr rfl) _
  exact ⟨h.a'.fr (by omega) hf (fun b _ h e => by omega), ⟨_, by simp [hm], h2.row _⟩, below_setRow h.b' (Nat.le_refl _) _, h.t'.fr hf (by omega)⟩
theorem dcs_take (ds : List Dg) (k : Nat) : dcs (ds.take k) = (dcs ds).take k := by simp [dcs, List.map_take]
theorem dcs_drop (ds : List Dg) (k : Nat) : dcs (ds.drop k) = (dcs ds).drop k := by simp [dcs, List.map_drop]

set_option maxHeartbeats 8000000 in
set_option maxRecDepth 100000 in
theorem root_calls (n : Nat) : ∀ (w : World) (v : Value) (ds : List Dg), ds.length = n → Arr 32 Any w v (dcs ds) → (∀ d ∈ ds, d.length = 32) → TabB w 1 → ds.length ≤ 4398046511104 →
    Calls Tryd.prog 12 #[v] w fun e w' => e = .returned (dv (root ds)) ∧ Below w.heap.size w w' := by
  induction n using Nat.strongRecOn with
  | ind n ih =>
  intro w v ds hn hA hD hT hbd
  subst hn
  obtain ⟨a, c, rfl, hk1, hk2, hk3⟩ := hA.form
  simp only [List.length_map] at hA hk1 ⊢
  have HTL := Lib.hid (show 1 < w.heap.size from (Array.getElem?_eq_some_iff.1 hT.choose_spec.choose_spec).1)
  obtain ⟨W, hW, HN⟩ := RS.start hA hT
  obtain ⟨m, hm⟩ : ∃ m, root ds = m := ⟨_, rfl⟩
  have HML := Lib.hid (show m.length = 32 by rw [← hm]; exact root_length _ ds rfl hD)
  have HM := Lib.hid hm
  have HONE := Lib.hid (one_cells m)
  have HD := Lib.hid hD
  clear hT hA hm hD
  by_cases h0 : ds = []
  · subst h0
    clear ih
    simp only [List.length_nil] at HN ⊢
    go_enter Tryd.func12, Tryd.ntmps12
    go_wp2_with fail
    clear hW
    refine (tagged_calls _ _ _ [] ⟨none, 0, rfl, ⟨Nat.le_refl _, Nat.zero_le _, fun _ => rfl⟩, .inl rfl⟩ (by decide) (by simp) (by simp) HN.out.t').mono ?_
    rintro e w2 ⟨rfl, g⟩
    have HN2 := Lib.hid (HN.out.below g)
    rw [show tagged _ [] = root [] from root_nil.symm, HM.out]
    obtain ⟨z, hz1, hz2⟩ := HN2.out.z'
    have HZ := Lib.hid hz2
    have HZ1 := Lib.hid hz1
    clear hz1 hz2 g
    go_wp2_with (with_reducible refine wpList_store_blk rfl _ _ _ rfl w.heap.size (m.map byt) _ rfl _ rfl rfl HZ.out (szD' HML.out) (by simp [HML.out, HZ1.out]) HONE.out ?_)
    exact bodyPost_ret (v := dv m) (results_cell_row Tryd.results12 _ _ w.heap.size 25 _ (0, 0) _ rfl (HZ.out.row _) Tryd.underlying25 rfl (szD'' HML.out)) rfl ⟨by rw [HM.out], below_setRow HN2.out.b' (Nat.le_refl _) _⟩
  · by_cases h1 : ds.length = 1
    · obtain ⟨d, rfl⟩ : ∃ d, ds = [d] := List.length_eq_one_iff.1 h1
      clear ih
      have hd : m = d := by rw [← HM.out, root_one]
      subst hd
      obtain ⟨b, off, cap, he, _, hr⟩ := HN.out.a'.at 0 (by simp)
      simp only [List.length_map, Value.slice.injEq] at he
      obtain ⟨rfl, _, rfl⟩ := he
      simp only [Nat.zero_mul, Nat.add_zero, List.map_cons, List.getElem_cons_zero] at hr
      have HRG := Lib.hid hr
      obtain ⟨z, hz1, hz2⟩ := HN.out.z'
      have HZ := Lib.hid hz2
      have HZ1 := Lib.hid hz1
      have HSZ := Lib.hid (szD' HML.out)
      clear hr hz1 hz2 h0 h1
      simp only [List.length_singleton] at HN ⊢
      go_enter Tryd.func12, Tryd.ntmps12
      go_wp2_with (first
        | (with_reducible refine wpList_load_mid rfl _ _ rfl b off rfl (m.map byt) _ HRG.out Tryd.underlying25 rfl HSZ.out ?_)
        | (with_reducible refine wpList_store_blk rfl _ _ _ rfl w.heap.size (m.map byt) _ rfl _ rfl rfl HZ.out HSZ.out (by simp [HML.out, HZ1.out]) HONE.out ?_))
      exact bodyPost_ret (v := dv m) (results_cell_row Tryd.results12 _ _ w.heap.size 25 _ (0, 0) _ rfl (HZ.out.row _) Tryd.underlying25 rfl (szD'' HML.out)) rfl ⟨by rw [HM.out], below_setRow HN.out.b' (Nat.le_refl _) _⟩
    · have h2 : 2 ≤ ds.length := by
        rcases ds with _ | ⟨x, _ | ⟨y, r⟩⟩
        · exact absurd rfl h0
        · exact absurd rfl h1
        · simp
      have hcb := cutN_bounds h2 (by omega)
      have hce := cutAt_eq h2 (by omega)
      have HRT := Lib.hid (root_many h2)
      rw [hce] at HRT
      have HD1 := Lib.hid (fun d hd => HD.out d (List.mem_of_mem_take hd) : ∀ d ∈ ds.take (cutN ds.length), d.length = 32)
      have HD2 := Lib.hid (fun d hd => HD.out d (List.mem_of_mem_drop hd) : ∀ d ∈ ds.drop (cutN ds.length), d.length = 32)
      have HR1 := Lib.hid (root_length _ _ rfl HD1.out)
      have HR2 := Lib.hid (root_length _ _ rfl HD2.out)
      obtain ⟨sa, hs1, ha1⟩ := run_slice_arr3 elemD HN.out.a' (cutN ds.length) (by simp; omega)
      obtain ⟨sb, sd, _, _, hs2, ha2⟩ := run_slice_arr elemD HN.out.a' (cutN ds.length) (dcs ds).length (by simp; omega) (Nat.le_refl _)
      have hs2 := hs2 rfl
      rw [List.take_length] at ha2
      simp only [List.length_map] at hs2 ha2
      
      have HA1 := Lib.hid (show Arr 32 Any W (.slice sa (cutN ds.length) (cutN ds.length)) (dcs (ds.take (cutN ds.length))) by rw [dcs_take]; exact ha1.any)
      have HA2 := Lib.hid (show Arr 32 Any W (.slice sb (ds.length - cutN ds.length) sd) (dcs (ds.drop (cutN ds.length))) by rw [dcs_drop]; exact ha2.any)
      have hcI : (0 : Int) ≤ (cutN ds.length : Int) := by omega
      have HI := Lib.hid ih
      have hl0 : ((ds.length : Int) == 0) = false := by simp; omega
      have hl1 : ((ds.length : Int) == 1) = false := by simp; omega
      clear ha1 ha2 hce h0 h1 ih
      go_enter Tryd.func12, Tryd.ntmps12
      go_wp2_with fail
      refine (cut_calls _ _ h2 (by omega)).mono ?_
      rintro e w2 ⟨rfl, rfl⟩
      have ih := HI.out
      clear hW HI
      go_upto_region 7 with fail
      refine wp_region_held_drew (S := (fun w' => RS w (.slice a ds.length c) ds 1 w')) (by kernel_rfl) HN.out.drew (fun hHeld => ?_)
      refine wpAnyH_take (i := 0) (oi := ⟨_, _, _, _, _, _⟩) (v := ?_) rfl (by kernel_rfl) (by kernel_rfl) (by kernel_rfl) (fun _ _ _ h => h) (Or.inl ⟨by rfl, ?_⟩) (by assumption) ?_
      rotate_left
      · intro w hSw; go_simp; try (with_reducible rfl)
      try simp only [Act.put, List.setIfInBounds_toArray, List.set_cons_zero, List.set_cons_succ]
      refine wpAnyH_take (i := 1) (oi := ⟨_, _, _, _, _, _⟩) (v := ?_) rfl (by kernel_rfl) (by kernel_rfl) (by kernel_rfl) (fun _ _ _ h => h) (Or.inl ⟨by rfl, ?_⟩) (by assumption) ?_
      rotate_left
      · intro w hSw; go_simp; try (with_reducible rfl)
      try simp only [Act.put, List.setIfInBounds_toArray, List.set_cons_zero, List.set_cons_succ]
      refine wpAnyH_take (i := 2) (oi := ⟨_, _, _, _, _, _⟩) (v := ?_) rfl (by kernel_rfl) (by kernel_rfl) (by kernel_rfl) (fun _ _ _ h => h) (Or.inl ⟨by rfl, ?_⟩) (by assumption) ?_
      rotate_left
      · intro w hSw; go_simp; try (with_reducible rfl)
      try simp only [Act.put, List.setIfInBounds_toArray, List.set_cons_zero, List.set_cons_succ]
      refine wpAnyH_take (i := 3) (oi := ⟨_, _, _, _, _, _⟩) (v := ?_) rfl (by kernel_rfl) (by kernel_rfl) (by kernel_rfl) (fun _ _ _ h => h) (Or.inl ⟨by rfl, ?_⟩) (by assumption) ?_
      rotate_left
      · intro w hSw; go_simp; try (with_reducible rfl)
      try simp only [Act.put, List.setIfInBounds_toArray, List.set_cons_zero, List.set_cons_succ]
      refine wpAnyH_take (i := 5) (oi := ⟨_, _, _, _, _, _⟩) (v := ?_) rfl (by kernel_rfl) (by kernel_rfl) (by kernel_rfl) (fun _ _ _ h => h) (Or.inl ⟨by rfl, ?_⟩) (by assumption) ?_
      rotate_left
      · intro w hSw; go_simp; try (with_reducible rfl)
      try simp only [Act.put, List.setIfInBounds_toArray, List.set_cons_zero, List.set_cons_succ]
      refine wpAnyH_take (i := 6) (oi := ⟨_, _, _, _, _, _⟩) (v := ?_) rfl (by kernel_rfl) (by kernel_rfl) (by kernel_rfl) (fun _ _ _ h => h) (Or.inl ⟨by rfl, ?_⟩) (by assumption) ?_
      rotate_left
      · intro w hSw; go_simp; try (with_reducible rfl)
      try simp only [Act.put, List.setIfInBounds_toArray, List.set_cons_zero, List.set_cons_succ]
      refine wpAnyH_take (i := 7) (oi := ⟨_, _, _, _, _, _⟩) (v := ?_) rfl (by kernel_rfl) (by kernel_rfl) (by kernel_rfl) (fun _ _ _ h => h) (Or.inl ⟨by rfl, ?_⟩) (by assumption) ?_
      rotate_left
      · intro w hSw; go_simp; try (with_reducible rfl)
      try simp only [Act.put, List.setIfInBounds_toArray, List.set_cons_zero, List.set_cons_succ]
      have hBW : Below W.heap.size W W.drew := (Below.refl _ _).drew
      refine wpAnyH_ready (rs := [4]) (by kernel_rfl) (by simp) ?_
      refine AllReadyH.cons (o := ⟨_, _, _, _, _, _⟩) rfl (fun K hK => ?_) AllReadyH.nil
      go_simp
      refine (ih _ (by simp; omega) _ _ (ds.take (cutN ds.length)) rfl (HA1.out.below (by omega) hBW) HD1.out hHeld.t' (by simp; omega)).mono ?_
      rintro e w2 ⟨rfl, g⟩
      refine hK.out _ _ (by exact hHeld.below g) (fun hHeld => ?_)
      clear hK
      try simp only [Act.put, List.setIfInBounds_toArray, List.set_cons_zero, List.set_cons_succ]
      replace hBW := hBW.trans (g.mono hBW.size)
      clear g
      refine wpAnyH_ready (rs := [8]) (by kernel_rfl) (by simp) ?_
      refine AllReadyH.cons (o := ⟨_, _, _, _, _, _⟩) rfl (fun K hK => ?_) AllReadyH.nil
      go_simp
      refine (ih _ (by simp; omega) _ _ (ds.drop (cutN ds.length)) rfl (HA2.out.below (by omega) hBW) HD2.out hHeld.t' (by simp; omega)).mono ?_
      rintro e w2 ⟨rfl, g⟩
      refine hK.out _ _ (by exact hHeld.below g) (fun hHeld => ?_)
      clear hK
      try simp only [Act.put, List.setIfInBounds_toArray, List.set_cons_zero, List.set_cons_succ]
      clear g
      refine wpAnyH_ready (rs := [9]) (by kernel_rfl) (by simp) ?_
      refine AllReadyH.cons (o := ⟨_, _, _, _, _, _⟩) rfl (fun K hK => ?_) AllReadyH.nil
      go_simp
      refine (node_calls _ (root (ds.take (cutN ds.length))) (root (ds.drop (cutN ds.length))) HR1.out HR2.out hHeld.t').mono ?_
      rintro e w2 ⟨rfl, g⟩
      rw [← HRT.out, HM.out]
      refine hK.out _ _ (by exact hHeld.below g) (fun hHeld => ?_)
      clear hK
      try simp only [Act.put, List.setIfInBounds_toArray, List.set_cons_zero, List.set_cons_succ]
      refine wpAnyH_ready (rs := [10]) (by kernel_rfl) (by simp) ?_
      refine AllReadyH.cons (o := ⟨_, _, _, _, _, _⟩) rfl (fun K hK => ?_) AllReadyH.nil
      obtain ⟨z, hz1, hz2⟩ := hHeld.z'
      rw [if_pos (by rfl)]
      refine wp_store_blk _ _ _ rfl w.heap.size (m.map byt) z rfl rfl hz2 (szD' HML.out) (by rw [List.length_map, HML.out]; exact hz1) HONE.out ?_
      have hfin : Blk _ w.heap.size (m.map byt) 25 := hz2.row (m.map byt)
      have hbl := below_setRow hHeld.b' (Nat.le_refl w.heap.size) (m.map byt).toArray
      refine hK.out _ _ (hHeld.store HML.out HTL.out) (fun hHeld => ?_)
      clear hK
      refine wpAnyH_done (by kernel_rfl) ?_ _
      go_wp2
      exact bodyPost_ret (v := dv m) (results_cell_row Tryd.results12 _ _ w.heap.size 25 _ (0, 0) _ rfl hfin Tryd.underlying25 rfl (szD'' HML.out)) rfl ⟨by rw [HM.out], hbl⟩
set_option maxHeartbeats 8000000 in
set_option maxRecDepth 100000 in
theorem ref_root_calls (n : Nat) : ∀ (w : World) (v : Value) (ds : List Dg), ds.length = n → Arr 32 Any w v (dcs ds) → (∀ d ∈ ds, d.length = 32) → TabB w 0 → ds.length ≤ 4398046511104 →
    Calls Tryd.prog 13 #[v] w fun e w' => e = .returned (dv (root ds)) ∧ Below w.heap.size w w' := by
  induction n using Nat.strongRecOn with
  | ind n ih =>
  intro w v ds hn hA hD hT hbd
  subst hn
  obtain ⟨a, c, rfl, hk1, hk2, hk3⟩ := hA.form
  simp only [List.length_map] at hA hk1 ⊢
  have HTL := Lib.hid (show 0 < w.heap.size from (Array.getElem?_eq_some_iff.1 hT.choose_spec.choose_spec).1)
  obtain ⟨W, hW, HN⟩ := RS.start hA hT
  obtain ⟨m, hm⟩ : ∃ m, root ds = m := ⟨_, rfl⟩
  have HML := Lib.hid (show m.length = 32 by rw [← hm]; exact root_length _ ds rfl hD)
  have HM := Lib.hid hm
  have HONE := Lib.hid (one_cells m)
  have HD := Lib.hid hD
  clear hT hA hm hD
  by_cases h0 : ds = []
  · subst h0
    clear ih
    simp only [List.length_nil] at HN ⊢
    go_enter Tryd.func13, Tryd.ntmps13
    go_wp2_with fail
    clear hW
    refine (ref_tagged_calls _ _ _ [] ⟨none, 0, rfl, ⟨Nat.le_refl _, Nat.zero_le _, fun _ => rfl⟩, .inl rfl⟩ (by decide) (by simp) (by simp) HN.out.t').mono ?_
    rintro e w2 ⟨rfl, g⟩
    have HN2 := Lib.hid (HN.out.below g)
    rw [show tagged _ [] = root [] from root_nil.symm, HM.out]
    obtain ⟨z, hz1, hz2⟩ := HN2.out.z'
    have HZ := Lib.hid hz2
    have HZ1 := Lib.hid hz1
    clear hz1 hz2 g
    go_wp2_with (with_reducible refine wpList_store_blk rfl _ _ _ rfl w.heap.size (m.map byt) _ rfl _ rfl rfl HZ.out (szD' HML.out) (by simp [HML.out, HZ1.out]) HONE.out ?_)
    exact bodyPost_ret (v := dv m) (results_cell_row Tryd.results13 _ _ w.heap.size 25 _ (0, 0) _ rfl (HZ.out.row _) Tryd.underlying25 rfl (szD'' HML.out)) rfl ⟨by rw [HM.out], below_setRow HN2.out.b' (Nat.le_refl _) _⟩
  · by_cases h1 : ds.length = 1
    · obtain ⟨d, rfl⟩ : ∃ d, ds = [d] := List.length_eq_one_iff.1 h1
      clear ih
      have hd : m = d := by rw [← HM.out, root_one]
      subst hd
      obtain ⟨b, off, cap, he, _, hr⟩ := HN.out.a'.at 0 (by simp)
      simp only [List.length_map, Value.slice.injEq] at he
      obtain ⟨rfl, _, rfl⟩ := he
      simp only [Nat.zero_mul, Nat.add_zero, List.map_cons, List.getElem_cons_zero] at hr
      have HRG := Lib.hid hr
      obtain ⟨z, hz1, hz2⟩ := HN.out.z'
      have HZ := Lib.hid hz2
      have HZ1 := Lib.hid hz1
      have HSZ := Lib.hid (szD' HML.out)
      clear hr hz1 hz2 h0 h1
      simp only [List.length_singleton] at HN ⊢
      go_enter Tryd.func13, Tryd.ntmps13
      go_wp2_with (first
        | (with_reducible refine wpList_load_mid rfl _ _ rfl b off rfl (m.map byt) _ HRG.out Tryd.underlying25 rfl HSZ.out ?_)
        | (with_reducible refine wpList_store_blk rfl _ _ _ rfl w.heap.size (m.map byt) _ rfl _ rfl rfl HZ.out HSZ.out (by simp [HML.out, HZ1.out]) HONE.out ?_))
      exact bodyPost_ret (v := dv m) (results_cell_row Tryd.results13 _ _ w.heap.size 25 _ (0, 0) _ rfl (HZ.out.row _) Tryd.underlying25 rfl (szD'' HML.out)) rfl ⟨by rw [HM.out], below_setRow HN.out.b' (Nat.le_refl _) _⟩
    · have h2 : 2 ≤ ds.length := by
        rcases ds with _ | ⟨x, _ | ⟨y, r⟩⟩
        · exact absurd rfl h0
        · exact absurd rfl h1
        · simp
      have hcb := cutN_bounds h2 (by omega)
      have hce := cutAt_eq h2 (by omega)
      have HRT := Lib.hid (root_many h2)
      rw [hce] at HRT
      have HD1 := Lib.hid (fun d hd => HD.out d (List.mem_of_mem_take hd) : ∀ d ∈ ds.take (cutN ds.length), d.length = 32)
      have HD2 := Lib.hid (fun d hd => HD.out d (List.mem_of_mem_drop hd) : ∀ d ∈ ds.drop (cutN ds.length), d.length = 32)
      have HR1 := Lib.hid (root_length _ _ rfl HD1.out)
      have HR2 := Lib.hid (root_length _ _ rfl HD2.out)
      obtain ⟨sa, sc, _, hs1, _, ha1⟩ := run_slice_arr elemD HN.out.a' 0 (cutN ds.length) (Nat.zero_le _) (by simp; omega)
      have hs1 := hs1 rfl
      rw [List.drop_zero] at ha1
      simp only [Nat.sub_zero] at hs1 ha1
      obtain ⟨sb, sd, _, _, hs2, ha2⟩ := run_slice_arr elemD HN.out.a' (cutN ds.length) (dcs ds).length (by simp; omega) (Nat.le_refl _)
      have hs2 := hs2 rfl
      rw [List.take_length] at ha2
      simp only [List.length_map] at hs2 ha2
      
      have HA1 := Lib.hid (show Arr 32 Any W (.slice sa (cutN ds.length) sc) (dcs (ds.take (cutN ds.length))) by rw [dcs_take]; exact ha1.any)
      have HA2 := Lib.hid (show Arr 32 Any W (.slice sb (ds.length - cutN ds.length) sd) (dcs (ds.drop (cutN ds.length))) by rw [dcs_drop]; exact ha2.any)
      have hcI : (0 : Int) ≤ (cutN ds.length : Int) := by omega
      have HI := Lib.hid ih
      have hl0 : ((ds.length : Int) == 0) = false := by simp; omega
      have hl1 : ((ds.length : Int) == 1) = false := by simp; omega
      clear ha1 ha2 hce h0 h1 ih
      go_enter Tryd.func13, Tryd.ntmps13
      go_wp2_with fail
      refine (ref_cut_calls _ _ h2 (by omega)).mono ?_
      rintro e w2 ⟨rfl, rfl⟩
      have ih := HI.out
      clear hW HI
      go_upto_region 6 with fail
      refine wp_region_held_drew (S := (fun w' => RS w (.slice a ds.length c) ds 0 w')) (by kernel_rfl) HN.out.drew (fun hHeld => ?_)
      refine wpAnyH_take (i := 0) (oi := ⟨_, _, _, _, _, _⟩) (v := ?_) rfl (by kernel_rfl) (by kernel_rfl) (by kernel_rfl) (fun _ _ _ h => h) (Or.inl ⟨by rfl, ?_⟩) (by assumption) ?_
      rotate_left
      · intro w hSw; go_simp; try (with_reducible rfl)
      try simp only [Act.put, List.setIfInBounds_toArray, List.set_cons_zero, List.set_cons_succ]
      refine wpAnyH_take (i := 1) (oi := ⟨_, _, _, _, _, _⟩) (v := ?_) rfl (by kernel_rfl) (by kernel_rfl) (by kernel_rfl) (fun _ _ _ h => h) (Or.inl ⟨by rfl, ?_⟩) (by assumption) ?_
      rotate_left
      · intro w hSw; go_simp; try (with_reducible rfl)
      try simp only [Act.put, List.setIfInBounds_toArray, List.set_cons_zero, List.set_cons_succ]
      refine wpAnyH_take (i := 2) (oi := ⟨_, _, _, _, _, _⟩) (v := ?_) rfl (by kernel_rfl) (by kernel_rfl) (by kernel_rfl) (fun _ _ _ h => h) (Or.inl ⟨by rfl, ?_⟩) (by assumption) ?_
      rotate_left
      · intro w hSw; go_simp; try (with_reducible rfl)
      try simp only [Act.put, List.setIfInBounds_toArray, List.set_cons_zero, List.set_cons_succ]
      refine wpAnyH_take (i := 4) (oi := ⟨_, _, _, _, _, _⟩) (v := ?_) rfl (by kernel_rfl) (by kernel_rfl) (by kernel_rfl) (fun _ _ _ h => h) (Or.inl ⟨by rfl, ?_⟩) (by assumption) ?_
      rotate_left
      · intro w hSw; go_simp; try (with_reducible rfl)
      try simp only [Act.put, List.setIfInBounds_toArray, List.set_cons_zero, List.set_cons_succ]
      refine wpAnyH_take (i := 5) (oi := ⟨_, _, _, _, _, _⟩) (v := ?_) rfl (by kernel_rfl) (by kernel_rfl) (by kernel_rfl) (fun _ _ _ h => h) (Or.inl ⟨by rfl, ?_⟩) (by assumption) ?_
      rotate_left
      · intro w hSw; go_simp; try (with_reducible rfl)
      try simp only [Act.put, List.setIfInBounds_toArray, List.set_cons_zero, List.set_cons_succ]
      refine wpAnyH_take (i := 6) (oi := ⟨_, _, _, _, _, _⟩) (v := ?_) rfl (by kernel_rfl) (by kernel_rfl) (by kernel_rfl) (fun _ _ _ h => h) (Or.inl ⟨by rfl, ?_⟩) (by assumption) ?_
      rotate_left
      · intro w hSw; go_simp; try (with_reducible rfl)
      try simp only [Act.put, List.setIfInBounds_toArray, List.set_cons_zero, List.set_cons_succ]
      have hBW : Below W.heap.size W W.drew := (Below.refl _ _).drew
      refine wpAnyH_ready (rs := [3]) (by kernel_rfl) (by simp) ?_
      refine AllReadyH.cons (o := ⟨_, _, _, _, _, _⟩) rfl (fun K hK => ?_) AllReadyH.nil
      go_simp
      refine (ih _ (by simp; omega) _ _ (ds.take (cutN ds.length)) rfl (HA1.out.below (by omega) hBW) HD1.out hHeld.t' (by simp; omega)).mono ?_
      rintro e w2 ⟨rfl, g⟩
      refine hK.out _ _ (by exact hHeld.below g) (fun hHeld => ?_)
      clear hK
      try simp only [Act.put, List.setIfInBounds_toArray, List.set_cons_zero, List.set_cons_succ]
      replace hBW := hBW.trans (g.mono hBW.size)
      clear g
      refine wpAnyH_ready (rs := [7]) (by kernel_rfl) (by simp) ?_
      refine AllReadyH.cons (o := ⟨_, _, _, _, _, _⟩) rfl (fun K hK => ?_) AllReadyH.nil
      go_simp
      refine (ih _ (by simp; omega) _ _ (ds.drop (cutN ds.length)) rfl (HA2.out.below (by omega) hBW) HD2.out hHeld.t' (by simp; omega)).mono ?_
      rintro e w2 ⟨rfl, g⟩
      refine hK.out _ _ (by exact hHeld.below g) (fun hHeld => ?_)
      clear hK
      try simp only [Act.put, List.setIfInBounds_toArray, List.set_cons_zero, List.set_cons_succ]
      clear g
      refine wpAnyH_ready (rs := [8]) (by kernel_rfl) (by simp) ?_
      refine AllReadyH.cons (o := ⟨_, _, _, _, _, _⟩) rfl (fun K hK => ?_) AllReadyH.nil
      go_simp
      refine (ref_node_calls _ (root (ds.take (cutN ds.length))) (root (ds.drop (cutN ds.length))) HR1.out HR2.out hHeld.t').mono ?_
      rintro e w2 ⟨rfl, g⟩
      rw [← HRT.out, HM.out]
      refine hK.out _ _ (by exact hHeld.below g) (fun hHeld => ?_)
      clear hK
      try simp only [Act.put, List.setIfInBounds_toArray, List.set_cons_zero, List.set_cons_succ]
      refine wpAnyH_ready (rs := [9]) (by kernel_rfl) (by simp) ?_
      refine AllReadyH.cons (o := ⟨_, _, _, _, _, _⟩) rfl (fun K hK => ?_) AllReadyH.nil
      obtain ⟨z, hz1, hz2⟩ := hHeld.z'
      rw [if_pos (by rfl)]
      refine wp_store_blk _ _ _ rfl w.heap.size (m.map byt) z rfl rfl hz2 (szD' HML.out) (by rw [List.length_map, HML.out]; exact hz1) HONE.out ?_
      have hfin : Blk _ w.heap.size (m.map byt) 25 := hz2.row (m.map byt)
      have hbl := below_setRow hHeld.b' (Nat.le_refl w.heap.size) (m.map byt).toArray
      refine hK.out _ _ (hHeld.store HML.out HTL.out) (fun hHeld => ?_)
      clear hK
      refine wpAnyH_done (by kernel_rfl) ?_ _
      go_wp2
      exact bodyPost_ret (v := dv m) (results_cell_row Tryd.results13 _ _ w.heap.size 25 _ (0, 0) _ rfl hfin Tryd.underlying25 rfl (szD'' HML.out)) rfl ⟨by rw [HM.out], hbl⟩
end Go.Proofs.YtiaoifaglfhagaaDoor.MkW
