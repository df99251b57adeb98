/- The walk of text: the bytes that a node of the tree is the digest of. Condition: the table is laid. -/
import Derived.Test.YtiaoifaglfhagaaDoorMkQ
import Derived.Test.YtiaoifaglfhagaaDoorConcat
import Derived.Lib.SlBytesConst
namespace Go.Proofs.YtiaoifaglfhagaaDoor.MkW
open Go Go.RowKit Mem Sha ShaW Mk Arr Row
set_option linter.unusedVariables false

/-- the bytes that a node is the digest of -/
def nodeN : List UInt8 := [116, 111, 108, 108, 104, 111, 117, 115, 101, 47, 110, 111, 100, 101]
def textD (x : Dg × Dg) : List UInt8 := sha nodeN ++ (sha nodeN ++ (x.1 ++ x.2))
theorem sha_textD (x : Dg × Dg) : sha (textD x) = nodeP x := by simp [textD, nodeP, nodeD, tagged, nodeN]
theorem byts_list (w : World) (vs : List Value) (ls : List (List UInt8)) (e : TypeId) (hlen : vs.length = ls.length) (hm : ls.length ≤ maxLen) (h : ∀ i (h1 : i < vs.length) (h2 : i < ls.length), Byt Any w vs[i] ls[i]) :
    Byts (w.alloc (.cells vs.toArray e)) (.slice (some ⟨w.heap.size, 0, none⟩) ls.length ls.length) ls := by
  refine ⟨_, ls.length, rfl, ⟨Nat.le_refl _, hm, fun h => by cases h⟩, .inr ⟨w.heap.size, 0, rfl, fun i hi => ?_⟩⟩
  refine ⟨vs[i]'(by omega), ?_, (h i (by omega) hi).below ((Below.refl _ w).alloc (Nat.le_refl _) _)⟩
  have := (Blk.new w vs.toArray e vs rfl).cell (i := i) (v := vs[i]'(by omega)) (List.getElem?_eq_getElem _)
  simpa only [Nat.zero_add] using this

theorem part_byt {w : World} {b : Nat} {cs : List Value} {e : TypeId} (h : Blk w b cs e) (o : Nat) (l : Dg) (hl : ((cs.drop o).take 32) = l.map byt) (h32 : l.length = 32) : Byt Any w (.slice (some ⟨b, o, none⟩) 32 32) l := by
  refine ⟨_, 32, by rw [h32], ⟨by omega, by decide, fun h => by cases h⟩, .inr ⟨b, o, rfl, trivial, fun i hi => ?_⟩⟩
  have e1 : (l.map byt)[i]? = some (byt l[i]) := by simp [List.getElem?_eq_getElem hi]
  rw [← hl, List.getElem?_take_of_lt (by omega), List.getElem?_drop] at e1
  exact h.cell e1

set_option maxHeartbeats 8000000 in
set_option maxRecDepth 100000 in
theorem text_calls (w : World) (l r : Dg) (hl : l.length = 32) (hr : r.length = 32) (hT : TabB w 1) :
    Calls Tryd.prog 31 #[.agg (l.map byt ++ r.map byt).toArray] w fun e w' => ∃ v, e = .returned v ∧ OwnB w.heap.size 5 w' v (textD (l, r)) ∧ Below w.heap.size w w' := by
  obtain ⟨cs, hcs⟩ : ∃ cs, l.map byt ++ r.map byt = cs := ⟨_, rfl⟩
  rw [hcs]
  obtain ⟨W, hW, k0, kb, ks⟩ : ∃ W, w.alloc (.cells cs.toArray 57) = W ∧ Hid (Blk W w.heap.size cs 57) ∧ Hid (Below w.heap.size w W) ∧ w.heap.size + 1 = W.heap.size :=
    ⟨_, rfl, Lib.hid (Blk.new w _ _ _ rfl), Lib.hid ((Below.refl _ _).alloc (Nat.le_refl _) _), by simp⟩
  have HT := Lib.hid (hT.below kb.out)
  have HL := Lib.hid hl
  have HR := Lib.hid hr
  have HCS := Lib.hid hcs
  clear hT hl hr hcs
  go_enter Tryd.func31, Tryd.ntmps31
  have kc := fun (w : World) (C : Array Value) (n c : Nat) => Lib.run_convert_bytes_const (P := Tryd.prog) w 23 5 C n c Tryd.underlying23 Tryd.underlying5
  go_wp2_with fail
  obtain ⟨W2, hW2⟩ : ∃ x, W.alloc (.cells #[.int .u8 116, .int .u8 111, .int .u8 108, .int .u8 108, .int .u8 104, .int .u8 111, .int .u8 117, .int .u8 115, .int .u8 101, .int .u8 47, .int .u8 110, .int .u8 111, .int .u8 100, .int .u8 101] 5 (14, 15)) = x := ⟨_, rfl⟩
  have HN := Lib.hid (show Byt Any W2 (.slice (some ⟨W.heap.size, 0, none⟩) 14 14) nodeN by
    rw [← hW2]
    refine ⟨_, 14, rfl, ⟨by decide, by unfold maxLen; omega, fun h => by cases h⟩, .inr ⟨_, 0, rfl, trivial, fun i hi => ?_⟩⟩
    have e1 : (W.alloc (.cells (nodeN.map byt).toArray 5 (14, 15))).heap[W.heap.size]? = some (.cells (nodeN.map byt).toArray 5 (14, 15)) := heap_alloc_new W _
    show World.cell? (W.alloc (.cells (nodeN.map byt).toArray 5 (14, 15))) _ = _
    simp only [World.cell?, e1]
    simp [List.getElem?_eq_getElem hi])
  have hb2 : Below W.heap.size W W2 := by rw [← hW2]; exact (Below.refl _ _).alloc (Nat.le_refl _) _
  have K2 := Lib.hid (k0.out.below hb2)
  have B2 := Lib.hid (kb.out.trans (hb2.mono (by omega)))
  have T2 := Lib.hid (HT.out.below hb2)
  rw [hW2]
  have hs2 := hb2.size
  clear hW2 hW hb2 kc
  refine (of_calls W2 Any _ nodeN HN.out (by decide) T2.out).mono ?_
  rintro e w3 ⟨rfl, g⟩
  obtain ⟨dg, hdg⟩ : ∃ x, sha nodeN = x := ⟨_, rfl⟩
  have HDG := Lib.hid (show dg.length = 32 by rw [← hdg]; exact sha_length _)
  have HDE := Lib.hid hdg
  rw [hdg]
  have K3 := Lib.hid (K2.out.below g)
  have B3 := Lib.hid (B2.out.trans (g.mono B2.out.size))
  have s3 := g.size
  clear g hdg
  obtain ⟨W4, hW4, N4, NB4, ns4⟩ := start32 w3
  have HOD := Lib.hid (one_cells dg)
  go_upto_region 2 with (first
    | (with_reducible refine wpList_store_blk rfl _ _ _ rfl w3.heap.size (dg.map byt) _ rfl _ rfl rfl N4.out (szD' HDG.out) (by simp [HDG.out]) HOD.out ?_))
  have K5 := Lib.hid ((K3.out.below NB4.out).rowOther (g := w3.heap.size) (by omega) (dg.map byt).toArray)
  have N5 := Lib.hid (N4.out.row (dg.map byt))
  have B5 := Lib.hid (below_setRow (B3.out.trans (NB4.out.mono B3.out.size)) (show w.heap.size ≤ w3.heap.size from B3.out.size) (dg.map byt).toArray)
  obtain ⟨W5, hW5⟩ : ∃ x, W4.setRow w3.heap.size (dg.map byt).toArray = x := ⟨_, rfl⟩
  rw [hW5] at K5 N5 B5 ⊢
  clear hW4 hW5
  have HF1 := Lib.hid (part_byt K5.out 0 l (by rw [← HCS.out, List.drop_zero, List.take_left' (by simp [HL.out])]) HL.out)
  have HF2 := Lib.hid (part_byt K5.out 32 r (by rw [← HCS.out, List.drop_left' (by simp [HL.out]), List.take_of_length_le (by simp [HR.out])]) HR.out)
  refine wp_region_held_drew (S := (fun _ => True)) (by kernel_rfl) trivial (fun hHeld => ?_)
  refine wpAnyH_take (i := 0) (oi := ⟨_, _, _, _, _, _⟩) (v := ?_) rfl (by kernel_rfl) (by kernel_rfl) (by kernel_rfl) (fun _ _ _ h => h) (Or.inl ⟨by rfl, ?_⟩) (by assumption) ?_
  rotate_left
  · intro w hSw; go_simp; try (with_reducible rfl)
  try simp only [Act.put, List.setIfInBounds_toArray, List.set_cons_zero, List.set_cons_succ]
  refine wpAnyH_take (i := 1) (oi := ⟨_, _, _, _, _, _⟩) (v := ?_) rfl (by kernel_rfl) (by kernel_rfl) (by kernel_rfl) (fun _ _ _ h => h) (Or.inl ⟨by rfl, ?_⟩) (by assumption) ?_
  rotate_left
  · intro w hSw; go_simp; try (with_reducible rfl)
  try simp only [Act.put, List.setIfInBounds_toArray, List.set_cons_zero, List.set_cons_succ]
  refine wpAnyH_take (i := 2) (oi := ⟨_, _, _, _, _, _⟩) (v := ?_) rfl (by kernel_rfl) (by kernel_rfl) (by kernel_rfl) (fun _ _ _ h => h) (Or.inl ⟨by rfl, ?_⟩) (by assumption) ?_
  rotate_left
  · intro w hSw; go_simp; try (with_reducible rfl)
  try simp only [Act.put, List.setIfInBounds_toArray, List.set_cons_zero, List.set_cons_succ]
  refine wpAnyH_take (i := 3) (oi := ⟨_, _, _, _, _, _⟩) (v := ?_) rfl (by kernel_rfl) (by kernel_rfl) (by kernel_rfl) (fun _ _ _ h => h) (Or.inl ⟨by rfl, ?_⟩) (by assumption) ?_
  rotate_left
  · intro w hSw; go_simp; try (with_reducible rfl)
  try simp only [Act.put, List.setIfInBounds_toArray, List.set_cons_zero, List.set_cons_succ]
  refine wpAnyH_take (i := 4) (oi := ⟨_, _, _, _, _, _⟩) (v := ?_) rfl (by kernel_rfl) (by kernel_rfl) (by kernel_rfl) (fun _ _ _ h => h) (Or.inl ⟨by rfl, ?_⟩) (by assumption) ?_
  rotate_left
  · intro w hSw; go_simp; try (with_reducible rfl)
  try simp only [Act.put, List.setIfInBounds_toArray, List.set_cons_zero, List.set_cons_succ]
  refine wpAnyH_take (i := 5) (oi := ⟨_, _, _, _, _, _⟩) (v := ?_) rfl (by kernel_rfl) (by kernel_rfl) (by kernel_rfl) (fun _ _ _ h => h) (Or.inl ⟨by rfl, ?_⟩) (by assumption) ?_
  rotate_left
  · intro w hSw; go_simp; try (with_reducible rfl)
  try simp only [Act.put, List.setIfInBounds_toArray, List.set_cons_zero, List.set_cons_succ]
  refine wpAnyH_ready (rs := [6]) (by kernel_rfl) (by simp) ?_
  refine AllReadyH.cons (o := ⟨_, _, _, _, _, _⟩) rfl (fun K hK => ?_) AllReadyH.nil
  go_simp
  refine hK.out _ _ (by trivial) (fun hHeld => ?_)
  clear hK
  try simp only [Act.put, List.setIfInBounds_toArray, List.set_cons_zero, List.set_cons_succ]
  obtain ⟨V6, hV6⟩ : ∃ x, (W5.alloc (.cells #[.slice (some ⟨w3.heap.size, 0, none⟩) 32 32, .slice (some ⟨w3.heap.size, 0, none⟩) 32 32, .slice (some ⟨w.heap.size, 0, none⟩) 32 32, .slice (some ⟨w.heap.size, 32, none⟩) 32 32] 23)).drew = x := ⟨_, rfl⟩
  have HV := Lib.hid (show Byts V6 (.slice (some ⟨W5.heap.size, 0, none⟩) 4 4) [dg, dg, l, r] by
    rw [← hV6]
    exact byts_list W5 [_, _, _, _] [dg, dg, l, r] _ rfl (by unfold maxLen; simp) (fun i h1 h2 => match i, h1, h2 with | 0, _, _ => N5.out.byt HDG.out (by decide) trivial | 1, _, _ => N5.out.byt HDG.out (by decide) trivial | 2, _, _ => HF1.out | 3, _, _ => HF2.out))
  have HVB := Lib.hid (show Below w.heap.size w V6 by rw [← hV6]; exact below_drew (B5.out.alloc B5.out.size _))
  rw [hV6]
  clear hV6 hHeld
  refine wpAnyH_ready (rs := [7]) (by kernel_rfl) (by simp) ?_
  refine AllReadyH.cons (o := ⟨_, _, _, _, _, _⟩) rfl (fun K hK => ?_) AllReadyH.nil
  go_simp
  refine (Cat.concat_calls V6 _ [dg, dg, l, r] HV.out (by simp [HDG.out, HL.out, HR.out]) (by simp)).mono ?_
  rintro e w7 ⟨v, rfl, g1, g2⟩
  refine hK.out _ _ (by trivial) (fun hHeld => ?_)
  clear hK
  try simp only [Act.put, List.setIfInBounds_toArray, List.set_cons_zero, List.set_cons_succ]
  refine wpAnyH_ready (rs := [8]) (by kernel_rfl) (by simp) ?_
  refine AllReadyH.cons (o := ⟨_, _, _, _, _, _⟩) rfl (fun K hK => ?_) AllReadyH.nil
  go_simp
  refine hK.out _ _ (by trivial) (fun hHeld => ?_)
  clear hK
  try simp only [Act.put, List.setIfInBounds_toArray, List.set_cons_zero, List.set_cons_succ]
  refine wpAnyH_done (by kernel_rfl) ?_ _
  have hfl : [dg, dg, l, r].flatten = textD (l, r) := by simp [textD, HDE.out]
  have O7 := Lib.hid ((g1.cast hfl).mono HVB.out.size)
  have B7 := Lib.hid (HVB.out.trans (g2.mono HVB.out.size))
  clear g1 g2
  go_wp2
  go_ret
  exact ⟨_, rfl, O7.out, B7.out⟩
end Go.Proofs.YtiaoifaglfhagaaDoor.MkW
