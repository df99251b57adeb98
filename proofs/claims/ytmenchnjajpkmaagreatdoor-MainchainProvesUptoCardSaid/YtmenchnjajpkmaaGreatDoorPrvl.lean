/- Walks of Node, the program's and the reference's. Condition: the tables are laid. The library's Len of a number, laid at this program out of the contracts that are proved once (written by the kit's tools lay-shelf, lay-plain). No condition. Walks of the cut and of the root, the program's and the reference's. Conditions: as many digests as memory holds; the tables are laid. Walks of the root, the program's and the reference's. Conditions: at most 2^42 digests; the tables are laid. The walk of slices.Reverse over digests. No condition. The walk of the program's Path. Conditions: at most 2^42 digests; the tables are laid. The walk of the reference's Path. Conditions: at most 2^42 digests; the tables are laid. Walks of the law's same, of the sides and of the way up. Conditions: at most 2^42 digests; the tables are laid. The walk of the sides of a way. Condition: the numbers are below 2^62. The walk of the way up, from a leaf to the root. Conditions: at most 2^40 digests on the way; the table is laid. -/
import Derived.Test.YtmenchnjajpkmaaGreatDoorPrvi
import Derived.Shelf.Small.Bits
import Derived.Shelf.Strconv.Itoa0
import Derived.Test.YtmenchnjajpkmaaGreatDoorProg
import Derived.Test.YtmenchnjajpkmaaGreatDoorPrvf
section
namespace Go.Proofs.YtmenchnjajpkmaaGreatDoor.MkW
open Go Go.RowKit Mem Sha ShaW Mk Arr
set_option linter.unusedVariables false

/-- a whole row is stored, inside a region that draws -/
theorem wp_store_blk {P : Program} {o : Oper} {a : Act} {w : World} {K : Act → World → Prop} {Q : Exit → Act → World → Prop} (ty : TypeId) (x y : Operand) (ho : o.op = .store ty x y)
    (g : Nat) (l old : List Value) (hx : a.eval x = .pointer (some ⟨g, 0, none⟩)) (hy : a.eval y = .agg l.toArray) {t : TypeId} (hB : Blk w g old t)
    (hi : (P.info? ty).map (·.size) = some l.length) (hl : old.length = l.length) (h1 : ∀ v ∈ l, v.oneCell' = true)
    (h : K (a.put o.dst undef) (w.setRow g l.toArray)) : o.wp P a w K Q :=
  wp_store_row ty x y ho g l.toArray hx hy t old.toArray hB (by simpa using hi) (by simpa using hl) (by rw [Array.all_eq_true']; intro v hv; exact h1 v (by simpa using hv)) h
/-- what Node keeps: its two digests, its result's block, a table -/
structure NS (w : World) (l r : Dg) (tab : Nat) (w' : World) : Prop where
  l' : Blk w' w.heap.size (l.map byt) 24
  r' : Blk w' (w.heap.size + 1) (r.map byt) 24
  z' : ∃ z : List Value, z.length = 32 ∧ Blk w' (w.heap.size + 1 + 1) z 24
  b' : Below w.heap.size w w'
  t' : TabB w' tab
theorem NS.below {w : World} {l r : Dg} {tab : Nat} {a b : World} (h : NS w l r tab a) (hb : Below a.heap.size a b) : NS w l r tab b :=
  ⟨h.l'.below hb, h.r'.below hb, (by obtain ⟨z, h1, h2⟩ := h.z'; exact ⟨z, h1, h2.below hb⟩), h.b'.trans (hb.mono h.b'.size), h.t'.below hb⟩
theorem NS.drew {w : World} {l r : Dg} {tab : Nat} {a : World} (h : NS w l r tab a) : NS w l r tab a.drew :=
  ⟨h.l', h.r', h.z', ⟨h.b'.os, h.b'.tape, h.b'.output, h.b'.size, h.b'.block⟩, h.t'⟩
theorem NS.store {w : World} {l r m : Dg} {tab : Nat} {a : World} (h : NS w l r tab a) (hm : m.length = 32) (ht : tab < w.heap.size) : NS w l r tab (a.setRow (w.heap.size + 1 + 1) (m.map byt).toArray) ∧ Blk (a.setRow (w.heap.size + 1 + 1) (m.map byt).toArray) (w.heap.size + 1 + 1) (m.map byt) 24 := by
  obtain ⟨z, h1, h2⟩ := h.z'
  have hf : Fr (fun k => k = w.heap.size + 1 + 1) a (a.setRow (w.heap.size + 1 + 1) (m.map byt).toArray) := (Fr.refl (fun k => k = w.heap.size + 1 + 1) a).setRow (.inr rfl) _
  exact ⟨⟨h.l'.fr hf (by omega), h.r'.fr hf (by omega), ⟨_, by simp [hm], h2.row _⟩, below_setRow h.b' (by omega) _, h.t'.fr hf (by omega)⟩, h2.row _⟩
theorem NS.alloc {w : World} {l r : Dg} {tab : Nat} {a : World} (h : NS w l r tab a) (o : Obj) : NS w l r tab (a.alloc o) := h.below ((Below.refl _ _).alloc (Nat.le_refl _) _)
theorem NS.start (w : World) (l r : Dg) (tab : Nat) (hT : TabB w tab) : ∃ W, ((w.alloc (.cells (l.map byt).toArray 24)).alloc (.cells (r.map byt).toArray 24)).alloc (.cells #[.int .u8 0, .int .u8 0, .int .u8 0, .int .u8 0, .int .u8 0, .int .u8 0, .int .u8 0, .int .u8 0, .int .u8 0, .int .u8 0, .int .u8 0, .int .u8 0, .int .u8 0, .int .u8 0, .int .u8 0, .int .u8 0, .int .u8 0, .int .u8 0, .int .u8 0, .int .u8 0, .int .u8 0, .int .u8 0, .int .u8 0, .int .u8 0, .int .u8 0, .int .u8 0, .int .u8 0, .int .u8 0, .int .u8 0, .int .u8 0, .int .u8 0, .int .u8 0] 24) = W ∧ Hid (NS w l r tab W) := by
  refine ⟨_, rfl, Lib.hid ⟨((Blk.new w _ _ _ rfl).alloc _).alloc _, ?_, ?_, ?_, ?_⟩⟩
  · have := (Blk.new (w.alloc (.cells (l.map byt).toArray 24)) (r.map byt).toArray 24 _ rfl)
    rw [World.size_alloc] at this
    exact this.alloc _
  · have := new32 ((w.alloc (.cells (l.map byt).toArray 24)).alloc (.cells (r.map byt).toArray 24))
    rw [World.size_alloc, World.size_alloc] at this
    exact ⟨_, rfl, this⟩
  · exact (((Below.refl _ _).alloc (Nat.le_refl _) _).alloc (by simp) _).alloc (by simp; omega) _
  · exact hT.below ((((Below.refl _ _).alloc (Nat.le_refl _) _).alloc (by simp) _).alloc (by simp; omega) _)

theorem blk_range {w : World} {b : Nat} {l : List Value} {e : TypeId} (h : Blk w b l e) : w.rangeAt b 0 l := fun j v hv => by rw [Nat.zero_add]; exact h.cell hv
set_option maxHeartbeats 4000000 in
set_option maxRecDepth 100000 in
theorem node_calls (w : World) (l r : Dg) (hl : l.length = 32) (hr : r.length = 32) (hT : TabB w 1) :
    Calls Tryz.prog 75 #[dv l, dv r] w fun e w' => e = .returned (dv (nodeD l r)) ∧ Below w.heap.size w w' := by
  obtain ⟨W, hW, HN⟩ := NS.start w l r 1 hT
  have HTL := Lib.hid (show 1 < w.heap.size from (Array.getElem?_eq_some_iff.1 hT.choose_spec.choose_spec).1)
  have HL := Lib.hid hl
  have HR := Lib.hid hr
  clear hT
  obtain ⟨m, hm⟩ : ∃ m, nodeD l r = m := ⟨_, rfl⟩
  have HML := Lib.hid (show m.length = 32 by rw [← hm]; exact nodeD_length l r)
  have HM := Lib.hid hm
  have HONE := Lib.hid (one_cells m)
  clear hm hl hr
  go_enter Tryz.func75, Tryz.ntmps75
  go_upto_region 1 with fail
  clear hW
  refine wp_region_held_drew (S := (fun w' => NS w l r 1 w')) (by kernel_rfl) HN.out.drew (fun hHeld => ?_)
  refine wpAnyH_take (i := 0) (oi := ⟨_, _, _, _, _, _⟩) (v := ?_) rfl (by kernel_rfl) (by kernel_rfl) (by kernel_rfl) (fun _ _ _ h => h) (Or.inl ⟨by rfl, ?_⟩) (by assumption) ?_
  rotate_left
  · intro w hSw; go_simp; try (with_reducible rfl)
  try simp only [Act.put, List.setIfInBounds_toArray, List.set_cons_zero, List.set_cons_succ]
  refine wpAnyH_take (i := 1) (oi := ⟨_, _, _, _, _, _⟩) (v := ?_) rfl (by kernel_rfl) (by kernel_rfl) (by kernel_rfl) (fun _ _ _ h => h) (Or.inl ⟨by rfl, ?_⟩) (by assumption) ?_
  rotate_left
  · intro w hSw; go_simp; try (with_reducible rfl)
  try simp only [Act.put, List.setIfInBounds_toArray, List.set_cons_zero, List.set_cons_succ]
  have hA : Byt Any _ (.slice (some ⟨w.heap.size, 0, none⟩) 32 32) l := hHeld.l'.byt HL.out (by unfold maxLen; omega) trivial
  have hB : Byt Any _ (.slice (some ⟨w.heap.size + 1, 0, none⟩) 32 32) r := hHeld.r'.byt HR.out (by unfold maxLen; omega) trivial
  have HBB := Lib.hid (byts_two _ _ _ l r 25 hA hB)
  clear hA hB
  refine wpAnyH_ready (rs := [2]) (by kernel_rfl) (by simp) ?_
  refine AllReadyH.cons (o := ⟨_, _, _, _, _, _⟩) rfl (fun K hK => ?_) AllReadyH.nil
  go_simp
  refine hK.out _ _ (by exact (NS.alloc hHeld _)) (fun hHeld => ?_)
  clear hK
  try simp only [Act.put, List.setIfInBounds_toArray, List.set_cons_zero, List.set_cons_succ]
  refine wpAnyH_ready (rs := [3]) (by kernel_rfl) (by simp) ?_
  refine AllReadyH.cons (o := ⟨_, _, _, _, _, _⟩) rfl (fun K hK => ?_) AllReadyH.nil
  go_simp
  refine (tagged_calls _ _ _ [l, r] HBB.out (by decide) (by simp [HL.out, HR.out]) (by simp) hHeld.t').mono ?_
  rintro e w2 ⟨rfl, g⟩
  rw [show tagged _ [l, r] = nodeD l r from rfl, HM.out]
  refine hK.out _ _ (by exact hHeld.below g) (fun hHeld => ?_)
  clear hK
  try simp only [Act.put, List.setIfInBounds_toArray, List.set_cons_zero, List.set_cons_succ]
  refine wpAnyH_ready (rs := [4]) (by kernel_rfl) (by simp) ?_
  refine AllReadyH.cons (o := ⟨_, _, _, _, _, _⟩) rfl (fun K hK => ?_) AllReadyH.nil
  obtain ⟨z, hz1, hz2⟩ := hHeld.z'
  rw [if_pos (by rfl)]
  refine wp_store_blk _ _ _ rfl (w.heap.size + 1 + 1) (m.map byt) z rfl rfl hz2 (szD' HML.out) (by rw [List.length_map, HML.out]; exact hz1) HONE.out ?_
  have hfin := (hHeld.store HML.out HTL.out).2
  refine hK.out _ _ (hHeld.store HML.out HTL.out).1 (fun hHeld => ?_)
  clear hK
  refine wpAnyH_done (by kernel_rfl) ?_ _
  go_wp2
  exact bodyPost_ret (v := dv m) (results_cell_row Tryz.results75 _ _ (w.heap.size + 1 + 1) 24 _ (0, 0) _ rfl hfin Tryz.underlying24 rfl (szD'' HML.out)) rfl ⟨by rw [HM.out], hHeld.b'⟩
set_option maxHeartbeats 4000000 in
set_option maxRecDepth 100000 in
theorem ref_node_calls (w : World) (l r : Dg) (hl : l.length = 32) (hr : r.length = 32) (hT : TabB w 0) :
    Calls Tryz.prog 40 #[dv l, dv r] w fun e w' => e = .returned (dv (nodeD l r)) ∧ Below w.heap.size w w' := by
  obtain ⟨W, hW, HN⟩ := NS.start w l r 0 hT
  have HTL := Lib.hid (show 0 < w.heap.size from (Array.getElem?_eq_some_iff.1 hT.choose_spec.choose_spec).1)
  have HL := Lib.hid hl
  have HR := Lib.hid hr
  clear hT
  obtain ⟨m, hm⟩ : ∃ m, nodeD l r = m := ⟨_, rfl⟩
  have HML := Lib.hid (show m.length = 32 by rw [← hm]; exact nodeD_length l r)
  have HM := Lib.hid hm
  have HONE := Lib.hid (one_cells m)
  clear hm hl hr
  go_enter Tryz.func40, Tryz.ntmps40
  go_upto_region 1 with fail
  clear hW
  refine wp_region_held_drew (S := (fun w' => NS w l r 0 w')) (by kernel_rfl) HN.out.drew (fun hHeld => ?_)
  refine wpAnyH_take (i := 0) (oi := ⟨_, _, _, _, _, _⟩) rfl (by kernel_rfl) (by kernel_rfl) (by kernel_rfl) (fun _ _ _ h => h) (yieldsIf_load_mid (by rfl) _ _ rfl (w.heap.size) 0 rfl (l.map byt) _ (fun _ h => blk_range h.l') Tryz.underlying24 rfl (szD' HL.out)) (by assumption) ?_
  try simp only [Act.put, List.setIfInBounds_toArray, List.set_cons_zero, List.set_cons_succ]
  refine wpAnyH_take (i := 2) (oi := ⟨_, _, _, _, _, _⟩) rfl (by kernel_rfl) (by kernel_rfl) (by kernel_rfl) (fun _ _ _ h => h) (yieldsIf_load_mid (by rfl) _ _ rfl (w.heap.size + 1) 0 rfl (r.map byt) _ (fun _ h => blk_range h.r') Tryz.underlying24 rfl (szD' HR.out)) (by assumption) ?_
  try simp only [Act.put, List.setIfInBounds_toArray, List.set_cons_zero, List.set_cons_succ]
  refine wpAnyH_ready (rs := [1]) (by kernel_rfl) (by simp) ?_
  refine AllReadyH.cons (o := ⟨_, _, _, _, _, _⟩) rfl (fun K hK => ?_) AllReadyH.nil
  go_simp
  refine (text_calls _ l HL.out).mono ?_
  rintro e w2 ⟨xa, xc, rfl, hO, g⟩
  refine hK.out _ _ (by exact hHeld.below g) (fun hHeld => ?_)
  clear hK
  try simp only [Act.put, List.setIfInBounds_toArray, List.set_cons_zero, List.set_cons_succ]
  have hA := hO.byt.any
  clear hO g
  refine wpAnyH_ready (rs := [3]) (by kernel_rfl) (by simp) ?_
  refine AllReadyH.cons (o := ⟨_, _, _, _, _, _⟩) rfl (fun K hK => ?_) AllReadyH.nil
  go_simp
  refine (text_calls _ r HR.out).mono ?_
  rintro e w3 ⟨ya, yc, rfl, hO, g⟩
  refine hK.out _ _ (by exact hHeld.below g) (fun hHeld => ?_)
  clear hK
  try simp only [Act.put, List.setIfInBounds_toArray, List.set_cons_zero, List.set_cons_succ]
  have HBB := Lib.hid (byts_two _ _ _ l r 25 (hA.below g) hO.byt.any)
  clear hA hO g
  refine wpAnyH_ready (rs := [4]) (by kernel_rfl) (by simp) ?_
  refine AllReadyH.cons (o := ⟨_, _, _, _, _, _⟩) rfl (fun K hK => ?_) AllReadyH.nil
  go_simp
  refine hK.out _ _ (by exact (NS.alloc hHeld _)) (fun hHeld => ?_)
  clear hK
  try simp only [Act.put, List.setIfInBounds_toArray, List.set_cons_zero, List.set_cons_succ]
  refine wpAnyH_ready (rs := [5]) (by kernel_rfl) (by simp) ?_
  refine AllReadyH.cons (o := ⟨_, _, _, _, _, _⟩) rfl (fun K hK => ?_) AllReadyH.nil
  go_simp
  refine (ref_tagged_calls _ _ _ [l, r] HBB.out (by decide) (by simp [HL.out, HR.out]) (by simp) hHeld.t').mono ?_
  rintro e w2 ⟨rfl, g⟩
  rw [show tagged _ [l, r] = nodeD l r from rfl, HM.out]
  refine hK.out _ _ (by exact hHeld.below g) (fun hHeld => ?_)
  clear hK
  try simp only [Act.put, List.setIfInBounds_toArray, List.set_cons_zero, List.set_cons_succ]
  refine wpAnyH_ready (rs := [6]) (by kernel_rfl) (by simp) ?_
  refine AllReadyH.cons (o := ⟨_, _, _, _, _, _⟩) rfl (fun K hK => ?_) AllReadyH.nil
  obtain ⟨z, hz1, hz2⟩ := hHeld.z'
  rw [if_pos (by rfl)]
  refine wp_store_blk _ _ _ rfl (w.heap.size + 1 + 1) (m.map byt) z rfl rfl hz2 (szD' HML.out) (by rw [List.length_map, HML.out]; exact hz1) HONE.out ?_
  have hfin := (hHeld.store HML.out HTL.out).2
  refine hK.out _ _ (hHeld.store HML.out HTL.out).1 (fun hHeld => ?_)
  clear hK
  refine wpAnyH_done (by kernel_rfl) ?_ _
  go_wp2
  exact bodyPost_ret (v := dv m) (results_cell_row Tryz.results40 _ _ (w.heap.size + 1 + 1) 24 _ (0, 0) _ rfl hfin Tryz.underlying24 rfl (szD'' HML.out)) rfl ⟨by rw [HM.out], hHeld.b'⟩
end Go.Proofs.YtmenchnjajpkmaaGreatDoor.MkW
end

section
namespace Go.Proofs.YtmenchnjajpkmaaGreatDoor.Shelf
open Go Go.Proofs Go.Shelf
def lays128_ren : Go.Shelf.Ren := ⟨fun | 128 => 117 | n => n, fun | 51 => 26 | 3 => 3 | 4 => 4 | 46 => 149 | 5 => 5 | 9 => 9 | n => n, fun | n => n⟩
theorem lays128 : Go.Proofs.Lays.n128 Tryz.prog lays128_ren := {
  mixed := by kernel_rfl
  f128 := Tryz.func117.trans (congrArg some (by kernel_rfl))
  t3 := Tryz.underlying3
  a3 := Tryz.isAgg3
  z3 := Tryz.sizeOf3
  v3 := Tryz.zeroValue3
  t4 := Tryz.underlying4
  a4 := Tryz.isAgg4
  z4 := Tryz.sizeOf4
  v4 := Tryz.zeroValue4
  t5 := Tryz.underlying5
  a5 := Tryz.isAgg5
  z5 := Tryz.sizeOf5
  v5 := Tryz.zeroValue5
  t9 := Tryz.underlying9
  a9 := Tryz.isAgg9
  z9 := Tryz.sizeOf9
  v9 := Tryz.zeroValue9
  t46 := Tryz.underlying149
  a46 := Tryz.isAgg149
  z46 := Tryz.sizeOf149
  v46 := Tryz.zeroValue149
  t51 := Tryz.underlying26
  a51 := Tryz.isAgg26
  z51 := Tryz.sizeOf26
  v51 := Tryz.zeroValue26 }
theorem bits_Len32 (x : Int) (w : World) (h0 : 0 ≤ x) (h1 : x ≤ 4294967295) :
    Calls Tryz.prog 117 #[.int .u32 x] w fun e w' => e = .returned (.int .i64 (Lib.bitLen x.toNat)) ∧ w' = w := Any.bits_Len32 lays128 x w h0 h1
def lays125_ren : Go.Shelf.Ren := ⟨fun | 125 => 110 | 128 => 117 | 129 => 118 | n => n, fun | 46 => 149 | 3 => 3 | 51 => 26 | 53 => 32 | 4 => 4 | 5 => 5 | 9 => 9 | n => n, fun | n => n⟩
theorem lays125 : Go.Proofs.Lays.n125 Tryz.prog lays125_ren := {
  mixed := by kernel_rfl
  f125 := Tryz.func110.trans (congrArg some (by kernel_rfl))
  f128 := Tryz.func117.trans (congrArg some (by kernel_rfl))
  f129 := Tryz.func118.trans (congrArg some (by kernel_rfl))
  t3 := Tryz.underlying3
  a3 := Tryz.isAgg3
  z3 := Tryz.sizeOf3
  v3 := Tryz.zeroValue3
  t4 := Tryz.underlying4
  a4 := Tryz.isAgg4
  z4 := Tryz.sizeOf4
  v4 := Tryz.zeroValue4
  t5 := Tryz.underlying5
  a5 := Tryz.isAgg5
  z5 := Tryz.sizeOf5
  v5 := Tryz.zeroValue5
  t9 := Tryz.underlying9
  a9 := Tryz.isAgg9
  z9 := Tryz.sizeOf9
  v9 := Tryz.zeroValue9
  t46 := Tryz.underlying149
  a46 := Tryz.isAgg149
  z46 := Tryz.sizeOf149
  v46 := Tryz.zeroValue149
  t51 := Tryz.underlying26
  a51 := Tryz.isAgg26
  z51 := Tryz.sizeOf26
  v51 := Tryz.zeroValue26
  t53 := Tryz.underlying32
  a53 := Tryz.isAgg32
  z53 := Tryz.sizeOf32
  v53 := Tryz.zeroValue32 }
theorem bits_Len (x : Int) (w : World) (h0 : 0 ≤ x) (h1 : x ≤ 18446744073709551615) :
    Calls Tryz.prog 110 #[.int .u64 x] w fun e w' => e = .returned (.int .i64 (Lib.bitLen x.toNat)) ∧ w' = w := Any.bits_Len lays125 x w h0 h1
def lays129_ren : Go.Shelf.Ren := ⟨fun | 129 => 118 | n => n, fun | 53 => 32 | 3 => 3 | 4 => 4 | 46 => 149 | 5 => 5 | 9 => 9 | n => n, fun | n => n⟩
theorem lays129 : Go.Proofs.Lays.n129 Tryz.prog lays129_ren := {
  mixed := by kernel_rfl
  f129 := Tryz.func118.trans (congrArg some (by kernel_rfl))
  t3 := Tryz.underlying3
  a3 := Tryz.isAgg3
  z3 := Tryz.sizeOf3
  v3 := Tryz.zeroValue3
  t4 := Tryz.underlying4
  a4 := Tryz.isAgg4
  z4 := Tryz.sizeOf4
  v4 := Tryz.zeroValue4
  t5 := Tryz.underlying5
  a5 := Tryz.isAgg5
  z5 := Tryz.sizeOf5
  v5 := Tryz.zeroValue5
  t9 := Tryz.underlying9
  a9 := Tryz.isAgg9
  z9 := Tryz.sizeOf9
  v9 := Tryz.zeroValue9
  t46 := Tryz.underlying149
  a46 := Tryz.isAgg149
  z46 := Tryz.sizeOf149
  v46 := Tryz.zeroValue149
  t53 := Tryz.underlying32
  a53 := Tryz.isAgg32
  z53 := Tryz.sizeOf32
  v53 := Tryz.zeroValue32 }
theorem bits_Len64 (x : Int) (w : World) (h0 : 0 ≤ x) (h1 : x ≤ 18446744073709551615) :
    Calls Tryz.prog 118 #[.int .u64 x] w fun e w' => e = .returned (.int .i64 (Lib.bitLen x.toNat)) ∧ w' = w := Any.bits_Len64 lays129 x w h0 h1
end Go.Proofs.YtmenchnjajpkmaaGreatDoor.Shelf
end

section
namespace Go.Proofs.YtmenchnjajpkmaaGreatDoor.MkW
open Go Go.RowKit Mem Sha ShaW Mk Arr
set_option linter.unusedVariables false

set_option maxHeartbeats 4000000 in
theorem cut_calls (n : Nat) (w : World) (h : 2 ≤ n) (h2 : n < 9223372036854775808) :
    Calls Tryz.prog 99 #[.int .i64 (n : Int)] w fun e w' => e = .returned (.int .i64 (cutN n : Int)) ∧ w = w' := by
  have hcv : IntKind.u64.wrap ((n : Int) - 1) = (n : Int) - 1 := by rw [IntKind.wrap_u64]; omega
  obtain ⟨b1, b2, b3⟩ := bitLenAux_bounds 64 (n - 1) (by omega) (by omega)
  have e0 : ((n : Int) - 1).toNat = n - 1 := by omega
  have hcut : cutN n = 2 ^ (Lib.bitLen (n - 1) - 1) := rfl
  have HC := Lib.hid hcut
  clear hcut
  go_enter Tryz.func99, Tryz.ntmps99
  go_wp2_with fail
  refine (Shelf.bits_Len _ w (by omega) (by omega)).mono ?_
  rintro e w' ⟨rfl, rfl⟩
  rw [e0]
  have hb : Lib.bitLenAux 64 (n - 1) = Lib.bitLen (n - 1) := rfl
  rw [hb] at b1 b2 b3
  obtain ⟨c, hc⟩ : ∃ c, Lib.bitLen (n - 1) = c + 1 := ⟨Lib.bitLen (n - 1) - 1, by omega⟩
  rw [hc] at b2 b3 HC ⊢
  have hc63 : c < 63 := by
    rcases Nat.lt_or_ge c 63 with h | h
    · exact h
    · have := Nat.pow_le_pow_right (n := 2) (by omega) h
      rw [show c + 1 - 1 = c from rfl] at b2; omega
  clear hc e0 hb hcv b1
  go_wp2
  go_ret
  rw [show c + 1 - 1 = c from rfl] at b2
  refine ⟨ret_int ?_, rfl⟩
  rw [HC.out, show c + 1 - 1 = c from rfl, Int.natCast_pow]
  refine IntWalk.wrap64_in _ ⟨?_, ?_⟩
  · exact Int.le_trans (by decide) (Int.le_of_lt (Int.pow_pos (by decide)))
  · have hp : (2 : Nat) ^ c ≤ 9223372036854775807 := by omega
    have hp2 : (((2 : Nat) ^ c : Nat) : Int) ≤ 9223372036854775807 := by omega
    rw [Int.natCast_pow] at hp2
    exact hp2
theorem pow_unique {a b n : Nat} (h1 : 2 ^ a < n) (h2 : n ≤ 2 * 2 ^ a) (h3 : 2 ^ b < n) (h4 : n ≤ 2 * 2 ^ b) : a = b := by
  rcases Nat.lt_trichotomy a b with h | h | h
  · have := Nat.pow_le_pow_right (n := 2) (by omega) h
    rw [Nat.pow_succ] at this; omega
  · exact h
  · have := Nat.pow_le_pow_right (n := 2) (by omega) h
    rw [Nat.pow_succ] at this; omega
set_option maxHeartbeats 4000000 in
theorem ref_cut_calls (n : Nat) (w : World) (h : 2 ≤ n) (h2 : n < 4611686018427387904) :
    Calls Tryz.prog 39 #[.int .i64 (n : Int)] w fun e w' => e = .returned (.int .i64 (cutN n : Int)) ∧ w = w' := by
  obtain ⟨c1, c2, c3⟩ := cutN_bounds h (by omega)
  have hcut : cutN n = 2 ^ (Lib.bitLen (n - 1) - 1) := rfl
  have HC := Lib.hid hcut
  clear hcut
  go_enter Tryz.func39, Tryz.ntmps39
  go_wp2
  go_loop [3] (fun v => ∃ k j : Nat, v = .int .i64 (k : Int) ∧ k = 2 ^ j ∧ k < n) (fun v => n - (intOf v).toNat)
  case atStart => exact ⟨1, 0, rfl, rfl, by omega⟩
  case round =>
    obtain ⟨k, j, rfl, hk, hkn⟩ := hrel
    have hk1 : 1 ≤ k := by rw [hk]; exact Nat.one_le_two_pow
    have HK := Lib.hid hk
    clear hk
    by_cases hlt : 2 * k < n
    · have hI : 2 * (k : Int) < (n : Int) := by omega
      go_wp2
      go_round
      case rel => exact ⟨2 * k, j + 1, by go_num, by rw [HK.out, Nat.pow_succ]; omega, hlt⟩
      case measure => simp [intOf]; omega
    · have hI : ¬ 2 * (k : Int) < (n : Int) := by omega
      go_wp2
      go_ret
      have hj := HK.out
      have hC := HC.out
      have : j = Lib.bitLen (n - 1) - 1 := pow_unique (n := n) (by omega) (by omega) (by omega) (by omega)
      exact ⟨ret_int (by rw [hC, ← this, ← hj]), rfl⟩
end Go.Proofs.YtmenchnjajpkmaaGreatDoor.MkW
end

section
namespace Go.Proofs.YtmenchnjajpkmaaGreatDoor.MkW
open Go Go.RowKit Mem Sha ShaW Mk Arr
set_option linter.unusedVariables false

set_option maxRecDepth 100000 in
theorem elemD : ElemT Tryz.prog 27 24 (.agg #[.int .u8 0, .int .u8 0, .int .u8 0, .int .u8 0, .int .u8 0, .int .u8 0, .int .u8 0, .int .u8 0, .int .u8 0, .int .u8 0, .int .u8 0, .int .u8 0, .int .u8 0, .int .u8 0, .int .u8 0, .int .u8 0, .int .u8 0, .int .u8 0, .int .u8 0, .int .u8 0, .int .u8 0, .int .u8 0, .int .u8 0, .int .u8 0, .int .u8 0, .int .u8 0, .int .u8 0, .int .u8 0, .int .u8 0, .int .u8 0, .int .u8 0, .int .u8 0]) 32 32 :=
  ⟨Tryz.underlying27, ⟨_, rfl, rfl, rfl, rfl⟩, rfl, by omega⟩
/-- digests as cells -/
abbrev dcs (ds : List Dg) : List (List Value) := ds.map (fun d => d.map byt)
theorem dcs_len {ds : List Dg} (h : ∀ d ∈ ds, d.length = 32) : ∀ x ∈ dcs ds, x.length = 32 := by
  intro x hx; obtain ⟨d, hd, rfl⟩ := List.mem_map.1 hx; rw [List.length_map]; exact h d hd
/-- what Root keeps: its digests, its result's block, a table -/
structure RS (w : World) (v : Value) (ds : List Dg) (tab : Nat) (w' : World) : Prop where
  a' : Arr 32 (fun b => b < w.heap.size) w' v (dcs ds)
  z' : ∃ z : List Value, z.length = 32 ∧ Blk w' w.heap.size z 24
  b' : Below w.heap.size w w'
  t' : TabB w' tab
theorem RS.below {w : World} {v : Value} {ds : List Dg} {tab : Nat} {a b : World} (h : RS w v ds tab a) (hb : Below a.heap.size a b) : RS w v ds tab b :=
  ⟨h.a'.below (by omega) hb, (by obtain ⟨z, h1, h2⟩ := h.z'; exact ⟨z, h1, h2.below hb⟩), h.b'.trans (hb.mono h.b'.size), h.t'.below hb⟩
theorem RS.drew {w : World} {v : Value} {ds : List Dg} {tab : Nat} {a : World} (h : RS w v ds tab a) : RS w v ds tab a.drew := ⟨h.a', h.z', ⟨h.b'.os, h.b'.tape, h.b'.output, h.b'.size, h.b'.block⟩, h.t'⟩
theorem RS.start {w : World} {v : Value} {ds : List Dg} {tab : Nat} (hA : Arr 32 Any w v (dcs ds)) (hT : TabB w tab) : ∃ W, w.alloc (.cells #[.int .u8 0, .int .u8 0, .int .u8 0, .int .u8 0, .int .u8 0, .int .u8 0, .int .u8 0, .int .u8 0, .int .u8 0, .int .u8 0, .int .u8 0, .int .u8 0, .int .u8 0, .int .u8 0, .int .u8 0, .int .u8 0, .int .u8 0, .int .u8 0, .int .u8 0, .int .u8 0, .int .u8 0, .int .u8 0, .int .u8 0, .int .u8 0, .int .u8 0, .int .u8 0, .int .u8 0, .int .u8 0, .int .u8 0, .int .u8 0, .int .u8 0, .int .u8 0] 24) = W ∧ Hid (RS w v ds tab W) :=
  ⟨_, rfl, Lib.hid ⟨(hA.mono (by omega) (fun b h _ => h)).below (by omega) ((Below.refl _ _).alloc (Nat.le_refl _) _), ⟨_, rfl, new32 w⟩, (Below.refl _ _).alloc (Nat.le_refl _) _, hT.below ((Below.refl _ _).alloc (Nat.le_refl _) _)⟩⟩
theorem RS.store {w : World} {v : Value} {ds : List Dg} {m : Dg} {tab : Nat} {a : World} (h : RS w v ds tab a) (hm : m.length = 32) (ht : tab < w.heap.size) : RS w v ds tab (a.setRow w.heap.size (m.map byt).toArray) := by
  obtain ⟨z, h1, h2⟩ := h.z'
  have hf : Fr (fun k => k = w.heap.size) a (a.setRow w.heap.size (m.map byt).toArray) := (Fr.refl (fun k => k = w.heap.size) a).setRow (.inr rfl) _
  exact ⟨h.a'.fr (by omega) hf (fun b _ h e => by omega), ⟨_, by simp [hm], h2.row _⟩, below_setRow h.b' (Nat.le_refl _) _, h.t'.fr hf (by omega)⟩
theorem dcs_take (ds : List Dg) (k : Nat) : dcs (ds.take k) = (dcs ds).take k := by simp [dcs, List.map_take]
theorem dcs_drop (ds : List Dg) (k : Nat) : dcs (ds.drop k) = (dcs ds).drop k := by simp [dcs, List.map_drop]

set_option maxHeartbeats 8000000 in
set_option maxRecDepth 100000 in
theorem ref_root_calls (n : Nat) : ∀ (w : World) (v : Value) (ds : List Dg), ds.length = n → Arr 32 Any w v (dcs ds) → (∀ d ∈ ds, d.length = 32) → TabB w 0 → ds.length ≤ 4398046511104 →
    Calls Tryz.prog 14 #[v] w fun e w' => e = .returned (dv (root ds)) ∧ Below w.heap.size w w' := by
  induction n using Nat.strongRecOn with
  | ind n ih =>
  intro w v ds hn hA hD hT hbd
  subst hn
  obtain ⟨a, c, rfl, hk1, hk2, hk3⟩ := hA.form
  simp only [List.length_map] at hA hk1 ⊢
  have HTL := Lib.hid (show 0 < w.heap.size from (Array.getElem?_eq_some_iff.1 hT.choose_spec.choose_spec).1)
  obtain ⟨W, hW, HN⟩ := RS.start hA hT
  obtain ⟨m, hm⟩ : ∃ m, root ds = m := ⟨_, rfl⟩
  have HML := Lib.hid (show m.length = 32 by rw [← hm]; exact root_length _ ds rfl hD)
  have HM := Lib.hid hm
  have HONE := Lib.hid (one_cells m)
  have HD := Lib.hid hD
  clear hT hA hm hD
  by_cases h0 : ds = []
  · subst h0
    clear ih
    simp only [List.length_nil] at HN ⊢
    go_enter Tryz.func14, Tryz.ntmps14
    go_wp2_with fail
    clear hW
    refine (ref_tagged_calls _ _ _ [] ⟨none, 0, rfl, ⟨Nat.le_refl _, Nat.zero_le _, fun _ => rfl⟩, .inl rfl⟩ (by decide) (by simp) (by simp) HN.out.t').mono ?_
    rintro e w2 ⟨rfl, g⟩
    have HN2 := Lib.hid (HN.out.below g)
    rw [show tagged _ [] = root [] from root_nil.symm, HM.out]
    obtain ⟨z, hz1, hz2⟩ := HN2.out.z'
    have HZ := Lib.hid hz2
    have HZ1 := Lib.hid hz1
    clear hz1 hz2 g
    go_wp2_with (with_reducible refine wpList_store_blk rfl _ _ _ rfl w.heap.size (m.map byt) _ rfl _ rfl rfl HZ.out (szD' HML.out) (by simp [HML.out, HZ1.out]) HONE.out ?_)
    exact bodyPost_ret (v := dv m) (results_cell_row Tryz.results14 _ _ w.heap.size 24 _ (0, 0) _ rfl (HZ.out.row _) Tryz.underlying24 rfl (szD'' HML.out)) rfl ⟨by rw [HM.out], below_setRow HN2.out.b' (Nat.le_refl _) _⟩
  · by_cases h1 : ds.length = 1
    · obtain ⟨d, rfl⟩ : ∃ d, ds = [d] := List.length_eq_one_iff.1 h1
      clear ih
      have hd : m = d := by rw [← HM.out, root_one]
      subst hd
      obtain ⟨b, off, cap, he, _, hr⟩ := HN.out.a'.at 0 (by simp)
      simp only [List.length_map, Value.slice.injEq] at he
      obtain ⟨rfl, _, rfl⟩ := he
      simp only [Nat.zero_mul, Nat.add_zero, List.map_cons, List.getElem_cons_zero] at hr
      have HRG := Lib.hid hr
      obtain ⟨z, hz1, hz2⟩ := HN.out.z'
      have HZ := Lib.hid hz2
      have HZ1 := Lib.hid hz1
      have HSZ := Lib.hid (szD' HML.out)
      clear hr hz1 hz2 h0 h1
      simp only [List.length_singleton] at HN ⊢
      go_enter Tryz.func14, Tryz.ntmps14
      go_wp2_with (first
        | (with_reducible refine wpList_load_mid rfl _ _ rfl b off rfl (m.map byt) _ HRG.out Tryz.underlying24 rfl HSZ.out ?_)
        | (with_reducible refine wpList_store_blk rfl _ _ _ rfl w.heap.size (m.map byt) _ rfl _ rfl rfl HZ.out HSZ.out (by simp [HML.out, HZ1.out]) HONE.out ?_))
      exact bodyPost_ret (v := dv m) (results_cell_row Tryz.results14 _ _ w.heap.size 24 _ (0, 0) _ rfl (HZ.out.row _) Tryz.underlying24 rfl (szD'' HML.out)) rfl ⟨by rw [HM.out], below_setRow HN.out.b' (Nat.le_refl _) _⟩
    · have h2 : 2 ≤ ds.length := by
        rcases ds with _ | ⟨x, _ | ⟨y, r⟩⟩
        · exact absurd rfl h0
        · exact absurd rfl h1
        · simp
      have hcb := cutN_bounds h2 (by omega)
      have hce := cutAt_eq h2 (by omega)
      have HRT := Lib.hid (root_many h2)
      rw [hce] at HRT
      have HD1 := Lib.hid (fun d hd => HD.out d (List.mem_of_mem_take hd) : ∀ d ∈ ds.take (cutN ds.length), d.length = 32)
      have HD2 := Lib.hid (fun d hd => HD.out d (List.mem_of_mem_drop hd) : ∀ d ∈ ds.drop (cutN ds.length), d.length = 32)
      have HR1 := Lib.hid (root_length _ _ rfl HD1.out)
      have HR2 := Lib.hid (root_length _ _ rfl HD2.out)
      obtain ⟨sa, sc, _, hs1, _, ha1⟩ := run_slice_arr elemD HN.out.a' 0 (cutN ds.length) (Nat.zero_le _) (by simp; omega)
      have hs1 := hs1 rfl
      rw [List.drop_zero] at ha1
      simp only [Nat.sub_zero] at hs1 ha1
      obtain ⟨sb, sd, _, _, hs2, ha2⟩ := run_slice_arr elemD HN.out.a' (cutN ds.length) (dcs ds).length (by simp; omega) (Nat.le_refl _)
      have hs2 := hs2 rfl
      rw [List.take_length] at ha2
      simp only [List.length_map] at hs2 ha2
      
      have HA1 := Lib.hid (show Arr 32 Any W (.slice sa (cutN ds.length) sc) (dcs (ds.take (cutN ds.length))) by rw [dcs_take]; exact ha1.any)
      have HA2 := Lib.hid (show Arr 32 Any W (.slice sb (ds.length - cutN ds.length) sd) (dcs (ds.drop (cutN ds.length))) by rw [dcs_drop]; exact ha2.any)
      have hcI : (0 : Int) ≤ (cutN ds.length : Int) := by omega
      have HI := Lib.hid ih
      have hl0 : ((ds.length : Int) == 0) = false := by simp; omega
      have hl1 : ((ds.length : Int) == 1) = false := by simp; omega
      clear ha1 ha2 hce h0 h1 ih
      go_enter Tryz.func14, Tryz.ntmps14
      go_wp2_with fail
      refine (ref_cut_calls _ _ h2 (by omega)).mono ?_
      rintro e w2 ⟨rfl, rfl⟩
      have ih := HI.out
      clear hW HI
      go_upto_region 6 with fail
      refine wp_region_held_drew (S := (fun w' => RS w (.slice a ds.length c) ds 0 w')) (by kernel_rfl) HN.out.drew (fun hHeld => ?_)
      refine wpAnyH_take (i := 0) (oi := ⟨_, _, _, _, _, _⟩) (v := ?_) rfl (by kernel_rfl) (by kernel_rfl) (by kernel_rfl) (fun _ _ _ h => h) (Or.inl ⟨by rfl, ?_⟩) (by assumption) ?_
      rotate_left
      · intro w hSw; go_simp; try (with_reducible rfl)
      try simp only [Act.put, List.setIfInBounds_toArray, List.set_cons_zero, List.set_cons_succ]
      refine wpAnyH_take (i := 1) (oi := ⟨_, _, _, _, _, _⟩) (v := ?_) rfl (by kernel_rfl) (by kernel_rfl) (by kernel_rfl) (fun _ _ _ h => h) (Or.inl ⟨by rfl, ?_⟩) (by assumption) ?_
      rotate_left
      · intro w hSw; go_simp; try (with_reducible rfl)
      try simp only [Act.put, List.setIfInBounds_toArray, List.set_cons_zero, List.set_cons_succ]
      refine wpAnyH_take (i := 2) (oi := ⟨_, _, _, _, _, _⟩) (v := ?_) rfl (by kernel_rfl) (by kernel_rfl) (by kernel_rfl) (fun _ _ _ h => h) (Or.inl ⟨by rfl, ?_⟩) (by assumption) ?_
      rotate_left
      · intro w hSw; go_simp; try (with_reducible rfl)
      try simp only [Act.put, List.setIfInBounds_toArray, List.set_cons_zero, List.set_cons_succ]
      refine wpAnyH_take (i := 4) (oi := ⟨_, _, _, _, _, _⟩) (v := ?_) rfl (by kernel_rfl) (by kernel_rfl) (by kernel_rfl) (fun _ _ _ h => h) (Or.inl ⟨by rfl, ?_⟩) (by assumption) ?_
      rotate_left
      · intro w hSw; go_simp; try (with_reducible rfl)
      try simp only [Act.put, List.setIfInBounds_toArray, List.set_cons_zero, List.set_cons_succ]
      refine wpAnyH_take (i := 5) (oi := ⟨_, _, _, _, _, _⟩) (v := ?_) rfl (by kernel_rfl) (by kernel_rfl) (by kernel_rfl) (fun _ _ _ h => h) (Or.inl ⟨by rfl, ?_⟩) (by assumption) ?_
      rotate_left
      · intro w hSw; go_simp; try (with_reducible rfl)
      try simp only [Act.put, List.setIfInBounds_toArray, List.set_cons_zero, List.set_cons_succ]
      refine wpAnyH_take (i := 6) (oi := ⟨_, _, _, _, _, _⟩) (v := ?_) rfl (by kernel_rfl) (by kernel_rfl) (by kernel_rfl) (fun _ _ _ h => h) (Or.inl ⟨by rfl, ?_⟩) (by assumption) ?_
      rotate_left
      · intro w hSw; go_simp; try (with_reducible rfl)
      try simp only [Act.put, List.setIfInBounds_toArray, List.set_cons_zero, List.set_cons_succ]
      have hBW : Below W.heap.size W W.drew := (Below.refl _ _).drew
      refine wpAnyH_ready (rs := [3]) (by kernel_rfl) (by simp) ?_
      refine AllReadyH.cons (o := ⟨_, _, _, _, _, _⟩) rfl (fun K hK => ?_) AllReadyH.nil
      go_simp
      refine (ih _ (by simp; omega) _ _ (ds.take (cutN ds.length)) rfl (HA1.out.below (by omega) hBW) HD1.out hHeld.t' (by simp; omega)).mono ?_
      rintro e w2 ⟨rfl, g⟩
      refine hK.out _ _ (by exact hHeld.below g) (fun hHeld => ?_)
      clear hK
      try simp only [Act.put, List.setIfInBounds_toArray, List.set_cons_zero, List.set_cons_succ]
      replace hBW := hBW.trans (g.mono hBW.size)
      clear g
      refine wpAnyH_ready (rs := [7]) (by kernel_rfl) (by simp) ?_
      refine AllReadyH.cons (o := ⟨_, _, _, _, _, _⟩) rfl (fun K hK => ?_) AllReadyH.nil
      go_simp
      refine (ih _ (by simp; omega) _ _ (ds.drop (cutN ds.length)) rfl (HA2.out.below (by omega) hBW) HD2.out hHeld.t' (by simp; omega)).mono ?_
      rintro e w2 ⟨rfl, g⟩
      refine hK.out _ _ (by exact hHeld.below g) (fun hHeld => ?_)
      clear hK
      try simp only [Act.put, List.setIfInBounds_toArray, List.set_cons_zero, List.set_cons_succ]
      clear g
      refine wpAnyH_ready (rs := [8]) (by kernel_rfl) (by simp) ?_
      refine AllReadyH.cons (o := ⟨_, _, _, _, _, _⟩) rfl (fun K hK => ?_) AllReadyH.nil
      go_simp
      refine (ref_node_calls _ (root (ds.take (cutN ds.length))) (root (ds.drop (cutN ds.length))) HR1.out HR2.out hHeld.t').mono ?_
      rintro e w2 ⟨rfl, g⟩
      rw [← HRT.out, HM.out]
      refine hK.out _ _ (by exact hHeld.below g) (fun hHeld => ?_)
      clear hK
      try simp only [Act.put, List.setIfInBounds_toArray, List.set_cons_zero, List.set_cons_succ]
      refine wpAnyH_ready (rs := [9]) (by kernel_rfl) (by simp) ?_
      refine AllReadyH.cons (o := ⟨_, _, _, _, _, _⟩) rfl (fun K hK => ?_) AllReadyH.nil
      obtain ⟨z, hz1, hz2⟩ := hHeld.z'
      rw [if_pos (by rfl)]
      refine wp_store_blk _ _ _ rfl w.heap.size (m.map byt) z rfl rfl hz2 (szD' HML.out) (by rw [List.length_map, HML.out]; exact hz1) HONE.out ?_
      have hfin : Blk _ w.heap.size (m.map byt) 24 := hz2.row (m.map byt)
      have hbl := below_setRow hHeld.b' (Nat.le_refl w.heap.size) (m.map byt).toArray
      refine hK.out _ _ (hHeld.store HML.out HTL.out) (fun hHeld => ?_)
      clear hK
      refine wpAnyH_done (by kernel_rfl) ?_ _
      go_wp2
      exact bodyPost_ret (v := dv m) (results_cell_row Tryz.results14 _ _ w.heap.size 24 _ (0, 0) _ rfl hfin Tryz.underlying24 rfl (szD'' HML.out)) rfl ⟨by rw [HM.out], hbl⟩
end Go.Proofs.YtmenchnjajpkmaaGreatDoor.MkW
end

section
namespace Go.Proofs.YtmenchnjajpkmaaGreatDoor.MkW
open Go Go.RowKit Mem Sha ShaW Mk Arr
set_option linter.unusedVariables false

end Go.Proofs.YtmenchnjajpkmaaGreatDoor.MkW
end

section
namespace Go.Proofs.YtmenchnjajpkmaaGreatDoor.MkW
open Go Go.RowKit Mem Sha ShaW Mk Arr Row
set_option linter.unusedVariables false

/-- what Path keeps from round to round -/
structure PR (w : World) (ds0 : List Dg) (p0 : Nat) (tab : Nat) (v : Value) (ls : List Dg) (p : Nat) (dv' : Value) (down : List Dg) (wx : World) : Prop where
  a' : Arr 32 (fun b => b < w.heap.size) wx v (dcs ls)
  l' : ∀ d ∈ ls, d.length = 32
  o' : OwnA 32 w.heap.size 24 wx dv' (dcs down)
  d' : ∀ d ∈ down, d.length = 32
  p' : p < ls.length
  n' : ls.length + down.length ≤ ds0.length
  e' : path ds0 p0 = path ls p ++ down.reverse
  b' : Below w.heap.size w wx
  t' : TabB wx tab
  h' : tab < w.heap.size
def sliceLen : Value → Nat
  | .slice _ n _ => n
  | _ => 0
theorem dcs_one {ds : List Dg} : ∀ x ∈ dcs ds, ∀ c ∈ x, c.oneCell' = true := by
  intro x hx c hc
  obtain ⟨d, _, rfl⟩ := List.mem_map.1 hx
  obtain ⟨b, _, rfl⟩ := List.mem_map.1 hc
  rfl

set_option maxHeartbeats 4000000 in
set_option maxRecDepth 100000 in
theorem ref_path_none (w : World) (v : Value) (ds : List Dg) (hA : Arr 32 Any w v (dcs ds)) (hn : ds.length ≤ 4398046511104) (p : Int) (hp : p < 0 ∨ (ds.length : Int) ≤ p) :
    Calls Tryz.prog 17 #[v, .int .i64 p] w fun e w' => e = .returned (.tuple #[.slice none 0 0, .bool false]) ∧ w = w' := by
  obtain ⟨a, c, rfl, hk1, hk2, hk3⟩ := hA.form
  simp only [List.length_map] at hA hk1 ⊢
  clear hA
  by_cases h0 : p < 0
  · go_enter Tryz.func17, Tryz.ntmps17
    go_wp2
    go_ret2
    exact ⟨rfl, rfl⟩
  · have h1 : (ds.length : Int) ≤ p := by omega
    go_enter Tryz.func17, Tryz.ntmps17
    go_wp2
    go_ret2
    exact ⟨rfl, rfl⟩
end Go.Proofs.YtmenchnjajpkmaaGreatDoor.MkW
end

section
namespace Go.Proofs.YtmenchnjajpkmaaGreatDoor.MkW
open Go Go.RowKit Mem Sha ShaW Mk Arr Row
set_option linter.unusedVariables false

theorem path_le : ∀ (ds : List Dg) (p : Nat), (path ds p).length ≤ ds.length := by
  have key : ∀ (n : Nat) (ds : List Dg) (p : Nat), ds.length = n → (path ds p).length ≤ n - 1 := by
    intro n
    induction n using Nat.strongRecOn with
    | ind n ih =>
      intro ds p hn
      by_cases h : ds.length ≤ 1
      · rw [path_one h]; simp
      · have hc := cutAt_lt (n := n) (by omega)
        by_cases hp : p < cutAt ds.length
        · rw [path_left (by omega) hp, List.length_append, List.length_singleton, hn]
          have := ih (cutAt n) hc.2 (ds.take (cutAt n)) p (by simp; omega)
          omega
        · rw [path_right (by omega) hp, List.length_append, List.length_singleton, hn]
          have := ih (n - cutAt n) (by omega) (ds.drop (cutAt n)) (p - cutAt n) (by simp; omega)
          omega
  intro ds p
  have := key _ ds p rfl
  omega

set_option maxHeartbeats 8000000 in
set_option maxRecDepth 100000 in
theorem ref_path_calls (n : Nat) : ∀ (w : World) (v : Value) (ds : List Dg), ds.length = n → Arr 32 Any w v (dcs ds) → (∀ d ∈ ds, d.length = 32) → TabB w 0 → ds.length ≤ 4398046511104 → ∀ p : Nat, p < ds.length →
    Calls Tryz.prog 17 #[v, .int .i64 (p : Int)] w fun e w' => ∃ v', e = .returned (.tuple #[v', .bool true]) ∧ Arr 32 (fun b => w.heap.size ≤ b) w' v' (dcs (path ds p)) ∧ Below w.heap.size w w' := by
  induction n using Nat.strongRecOn with
  | ind n ih0 =>
  intro w v ds hn hA hD hT hbd p hp
  subst hn
  obtain ⟨a, c, rfl, hk1, hk2, hk3⟩ := hA.form
  simp only [List.length_map] at hA hk1 ⊢
  have HT := Lib.hid hT
  have h0 : ((p : Int) < 0) = False := by simp
  have hpI : (p : Int) < (ds.length : Int) := by omega
  by_cases h1 : ds.length = 1
  · have HE := Lib.hid (show path ds p = [] from path_one (by omega))
    have hl1 : (ds.length : Int) = 1 := by omega
    clear hA hD hT ih0 h1
    go_enter Tryz.func17, Tryz.ntmps17
    go_wp2
    go_ret2
    exact ⟨_, rfl, by rw [HE.out]; exact Arr.nil _ _ _, Below.refl _ _⟩
  · have h2 : 2 ≤ ds.length := by omega
    have hcb := cutN_bounds h2 (by omega)
    have hce := cutAt_eq h2 (by omega)
    have HD1 := Lib.hid (fun d hd => hD d (List.mem_of_mem_take hd) : ∀ d ∈ ds.take (cutN ds.length), d.length = 32)
    have HD2 := Lib.hid (fun d hd => hD d (List.mem_of_mem_drop hd) : ∀ d ∈ ds.drop (cutN ds.length), d.length = 32)
    obtain ⟨sa, sc, _, hs1, _, ha1⟩ := run_slice_arr elemD hA 0 (cutN ds.length) (Nat.zero_le _) (by simp; omega)
    have hs1 := hs1 rfl
    rw [List.drop_zero, ← dcs_take] at ha1
    simp only [Nat.sub_zero] at hs1 ha1
    obtain ⟨sb, sd, _, _, hs2, ha2⟩ := run_slice_arr elemD hA (cutN ds.length) (dcs ds).length (by simp; omega) (Nat.le_refl _)
    have hs2 := hs2 rfl
    rw [List.take_length, ← dcs_drop] at ha2
    simp only [List.length_map] at hs2 ha2
    have HA1 := Lib.hid ha1
    have HA2 := Lib.hid ha2
    have hcI : (0 : Int) ≤ (cutN ds.length : Int) := by omega
    have hcL : (cutN ds.length : Int) ≤ (ds.length : Int) := by omega
    have hl1 : ((ds.length : Int) == 1) = false := by simp; omega
    have HI := Lib.hid ih0
    clear ha1 ha2 hA hD hT ih0
    go_enter Tryz.func17, Tryz.ntmps17
    go_wp2_with fail
    refine (ref_cut_calls _ _ h2 (by omega)).mono ?_
    rintro e wz ⟨rfl, rfl⟩
    have ih := HI.out
    clear HI
    by_cases hq : p < cutN ds.length
    · have hqI : (p : Int) < (cutN ds.length : Int) := by omega
      have HPE := Lib.hid (show path ds p = path (ds.take (cutN ds.length)) p ++ [root (ds.drop (cutN ds.length))] by rw [path_left h2 (by rw [hce]; exact hq), hce])
      have HPL := Lib.hid (show (path (ds.take (cutN ds.length)) p).length ≤ 4398046511103 by
        have h3 := path_le (ds.take (cutN ds.length)) p
        have h4 : (ds.take (cutN ds.length)).length ≤ ds.length - 1 := by simp <;> omega
        omega)
      clear hce
      go_wp2_with fail
      refine (ih _ (by simp; omega) w _ (ds.take (cutN ds.length)) rfl HA1.out.any HD1.out HT.out (by simp; omega) p (by simp; omega)).mono ?_
      rintro e w1 ⟨v1, rfl, g1, g2⟩
      obtain ⟨a1, n1, rfl, _⟩ := g1.form
      have hs1 := g2.size
      have HV1 := Lib.hid g1
      have HB1 := Lib.hid g2
      have HAB := Lib.hid (HA2.out.any.below (by omega) g2)
      have HT1 := Lib.hid (HT.out.below g2)
      have HPD := Lib.hid (dcs_one (ds := path (ds.take (cutN ds.length)) p))
      obtain ⟨pp, hpp⟩ : ∃ pp, path (ds.take (cutN ds.length)) p = pp := ⟨_, rfl⟩
      rw [hpp] at HV1 HPD HPL HPE ⊢
      simp only [List.length_map] at HV1 ⊢
      clear hpp g1 g2
      go_wp2_with (at_builtin; refine wpList_append_arr _ rfl (.tmp 37) (.tmp 38) 27 rfl w1.heap.size 24 elemD _ [] rfl (OwnA.nil _ _ _ _) _ (dcs pp) rfl HV1.out HPD.out (by have := HPL.out; simp; unfold maxLen; omega) (by have := HPL.out; simp; omega) (Nat.le_refl _) pp.length (by simp) ?_)
      intro a2 c2 w2 q1 q2 q3
      have hb12 : Below w1.heap.size w1 w2 := (Below.refl _ _).grown q2 (Nat.le_refl _) (fun k hk => by cases hk)
      have hs2 := hb12.size
      have HO2 := Lib.hid q1
      have HAB2 := Lib.hid (HAB.out.below (by omega) hb12)
      have HB2 := Lib.hid (HB1.out.trans (hb12.mono hs1))
      have HT2 := Lib.hid (HT1.out.below hb12)
      clear q1 q2 q3 hb12
      go_wp2_with fail
      refine (ref_root_calls _ w2 _ (ds.drop (cutN ds.length)) rfl HAB2.out HD2.out HT2.out (by simp; omega)).mono ?_
      rintro e w3 ⟨rfl, g⟩
      have hs3 := g.size
      obtain ⟨m, hm⟩ : ∃ m, root (ds.drop (cutN ds.length)) = m := ⟨_, rfl⟩
      have HML := Lib.hid (show m.length = 32 by rw [← hm]; exact root_length _ _ rfl HD2.out)
      have HSM := Lib.hid (show ((m.map byt).toArray).size = 32 by rw [List.size_toArray, List.length_map]; exact HML.out)
      rw [hm] at HPE ⊢
      have HO3 := Lib.hid ((HO2.out.below g).alloc (.cells (m.map byt).toArray 24))
      have HB3 := Lib.hid ((HB2.out.trans (g.mono (by omega))).alloc (by omega) (.cells (m.map byt).toArray 24))
      have HAM := Lib.hid (arr_one (k := 32) (D := Any) w3 (m.map byt).toArray 24 (0, 0) (m.map byt) (by rw [List.length_map]; exact HML.out) rfl trivial)
      have HMO := Lib.hid (dcs_one (ds := [m]))
      have hpl := HPL.out
      clear hm g
      go_wp2_with (first | (with_reducible refine wpList_buildSlice1 _ rfl elemD _ rfl _ rfl HSM.out (by decide) ?_) | (at_builtin; refine wpList_append_arr _ rfl (.tmp 40) (.tmp 45) 27 rfl w1.heap.size 24 elemD _ (dcs pp) rfl HO3.out _ [m.map byt] rfl HAM.out HMO.out (by simp; unfold maxLen; omega) (by simp; omega) (by simp; omega) (pp.length + 1) (by simp) ?_))
      intro a4 c4 w4 q1 q2 q3
      have hlo := HO3.out.lt
      have HB4 := Lib.hid (HB3.out.grown q2 (by simp; omega) (fun k hk => by have := (hlo k hk).1; omega))
      have HR := Lib.hid (show Arr 32 (fun b => w.heap.size ≤ b) w4 (.slice a4 (pp.length + 1) c4) (dcs (path ds p)) by
        rw [HPE.out, show dcs (pp ++ [m]) = dcs pp ++ [m.map byt] by simp [dcs]]
        exact q1.arr.mono (by omega) (fun b _ h => by omega))
      clear q1 q2 q3 hlo hpl
      go_wp2
      go_ret2
      exact ⟨_, rfl, HR.out, HB4.out⟩
    · have hqI : ¬ (p : Int) < (cutN ds.length : Int) := by omega
      have HPE := Lib.hid (show path ds p = path (ds.drop (cutN ds.length)) (p - cutN ds.length) ++ [root (ds.take (cutN ds.length))] by rw [path_right h2 (by rw [hce]; exact hq), hce])
      have HPL := Lib.hid (show (path (ds.drop (cutN ds.length)) (p - cutN ds.length)).length ≤ 4398046511103 by
        have h3 := path_le (ds.drop (cutN ds.length)) (p - cutN ds.length)
        have h4 : (ds.drop (cutN ds.length)).length ≤ ds.length - 1 := by simp <;> omega
        omega)
      clear hce
      go_wp2_with fail
      rw [show ((p : Int) - (cutN ds.length : Int)) = ((p - cutN ds.length : Nat) : Int) from by omega]
      refine (ih _ (by simp; omega) w _ (ds.drop (cutN ds.length)) rfl HA2.out.any HD2.out HT.out (by simp; omega) (p - cutN ds.length) (by simp; omega)).mono ?_
      rintro e w1 ⟨v1, rfl, g1, g2⟩
      obtain ⟨a1, n1, rfl, _⟩ := g1.form
      have hs1 := g2.size
      have HV1 := Lib.hid g1
      have HB1 := Lib.hid g2
      have HAB := Lib.hid (HA1.out.any.below (by omega) g2)
      have HT1 := Lib.hid (HT.out.below g2)
      have HPD := Lib.hid (dcs_one (ds := path (ds.drop (cutN ds.length)) (p - cutN ds.length)))
      obtain ⟨pp, hpp⟩ : ∃ pp, path (ds.drop (cutN ds.length)) (p - cutN ds.length) = pp := ⟨_, rfl⟩
      rw [hpp] at HV1 HPD HPL HPE ⊢
      simp only [List.length_map] at HV1 ⊢
      clear hpp g1 g2
      go_wp2_with (at_builtin; refine wpList_append_arr _ rfl (.tmp 57) (.tmp 58) 27 rfl w1.heap.size 24 elemD _ [] rfl (OwnA.nil _ _ _ _) _ (dcs pp) rfl HV1.out HPD.out (by have := HPL.out; simp; unfold maxLen; omega) (by have := HPL.out; simp; omega) (Nat.le_refl _) pp.length (by simp) ?_)
      intro a2 c2 w2 q1 q2 q3
      have hb12 : Below w1.heap.size w1 w2 := (Below.refl _ _).grown q2 (Nat.le_refl _) (fun k hk => by cases hk)
      have hs2 := hb12.size
      have HO2 := Lib.hid q1
      have HAB2 := Lib.hid (HAB.out.below (by omega) hb12)
      have HB2 := Lib.hid (HB1.out.trans (hb12.mono hs1))
      have HT2 := Lib.hid (HT1.out.below hb12)
      clear q1 q2 q3 hb12
      go_wp2_with fail
      refine (ref_root_calls _ w2 _ (ds.take (cutN ds.length)) rfl HAB2.out HD1.out HT2.out (by simp; omega)).mono ?_
      rintro e w3 ⟨rfl, g⟩
      have hs3 := g.size
      obtain ⟨m, hm⟩ : ∃ m, root (ds.take (cutN ds.length)) = m := ⟨_, rfl⟩
      have HML := Lib.hid (show m.length = 32 by rw [← hm]; exact root_length _ _ rfl HD1.out)
      have HSM := Lib.hid (show ((m.map byt).toArray).size = 32 by rw [List.size_toArray, List.length_map]; exact HML.out)
      rw [hm] at HPE ⊢
      have HO3 := Lib.hid ((HO2.out.below g).alloc (.cells (m.map byt).toArray 24))
      have HB3 := Lib.hid ((HB2.out.trans (g.mono (by omega))).alloc (by omega) (.cells (m.map byt).toArray 24))
      have HAM := Lib.hid (arr_one (k := 32) (D := Any) w3 (m.map byt).toArray 24 (0, 0) (m.map byt) (by rw [List.length_map]; exact HML.out) rfl trivial)
      have HMO := Lib.hid (dcs_one (ds := [m]))
      have hpl := HPL.out
      clear hm g
      go_wp2_with (first | (with_reducible refine wpList_buildSlice1 _ rfl elemD _ rfl _ rfl HSM.out (by decide) ?_) | (at_builtin; refine wpList_append_arr _ rfl (.tmp 60) (.tmp 65) 27 rfl w1.heap.size 24 elemD _ (dcs pp) rfl HO3.out _ [m.map byt] rfl HAM.out HMO.out (by simp; unfold maxLen; omega) (by simp; omega) (by simp; omega) (pp.length + 1) (by simp) ?_))
      intro a4 c4 w4 q1 q2 q3
      have hlo := HO3.out.lt
      have HB4 := Lib.hid (HB3.out.grown q2 (by simp; omega) (fun k hk => by have := (hlo k hk).1; omega))
      have HR := Lib.hid (show Arr 32 (fun b => w.heap.size ≤ b) w4 (.slice a4 (pp.length + 1) c4) (dcs (path ds p)) by
        rw [HPE.out, show dcs (pp ++ [m]) = dcs pp ++ [m.map byt] by simp [dcs]]
        exact q1.arr.mono (by omega) (fun b _ h => by omega))
      clear q1 q2 q3 hlo hpl
      go_wp2
      go_ret2
      exact ⟨_, rfl, HR.out, HB4.out⟩
end Go.Proofs.YtmenchnjajpkmaaGreatDoor.MkW
end

section
namespace Go.Proofs.YtmenchnjajpkmaaGreatDoor.MkW
open Go Go.RowKit Mem Sha ShaW Mk Arr Row
set_option linter.unusedVariables false

theorem below_drew {B : Nat} {w w' : World} (h : Below B w w') : Below B w w'.drew := ⟨h.os, h.tape, h.output, h.size, h.block⟩
end Go.Proofs.YtmenchnjajpkmaaGreatDoor.MkW
end

section
namespace Go.Proofs.YtmenchnjajpkmaaGreatDoor.MkW
open Go Go.RowKit Mem Sha ShaW Mk Arr Row
set_option linter.unusedVariables false

set_option maxRecDepth 100000 in
theorem elemB : ElemT Tryz.prog 136 4 (.bool false) 1 1 := ⟨Tryz.underlying136, ⟨_, rfl, rfl, rfl, rfl⟩, rfl, by omega⟩
abbrev bcs (l : List Bool) : List (List Value) := l.map (fun b => [.bool b])
theorem sides_le : ∀ (n p : Nat), (sides p n).length ≤ n - 1 := by
  intro n
  induction n using Nat.strongRecOn with
  | ind n ih =>
    intro p
    unfold sides
    split
    · simp
    · have hc := cutAt_lt (n := n) (by omega)
      split
      · have := ih (cutAt n) hc.2 p; simp; omega
      · have := ih (n - cutAt n) (by omega) (p - cutAt n); simp; omega
theorem bcs_one {l : List Bool} : ∀ x ∈ bcs l, ∀ c ∈ x, c.oneCell' = true := by
  intro x hx c hc
  obtain ⟨b, _, rfl⟩ := List.mem_map.1 hx
  rw [List.mem_singleton.1 hc]; rfl

set_option maxHeartbeats 8000000 in
set_option maxRecDepth 100000 in
theorem sides_calls (w : World) (p n : Nat) (hn : n < 4294967296) (hp : p < n) :
    Calls Tryz.prog 74 #[.int .i64 (p : Int), .int .i64 (n : Int)] w fun e w' => ∃ v, e = .returned v ∧ Arr 1 (fun b => w.heap.size ≤ b) w' v (bcs (sides p n)) ∧ Below w.heap.size w w' := by
  go_enter Tryz.func74, Tryz.ntmps74
  go_wp2
  go_loopw [0, 1, 5] (fun s0 s1 s5 wx => ∃ (q m : Nat) (acc : List Bool), s0 = .int .i64 (q : Int) ∧ s1 = .int .i64 (m : Int) ∧ q < m ∧ m ≤ n ∧ acc.length + m ≤ n ∧ sides p n = acc ++ sides q m ∧ OwnA 1 w.heap.size 4 wx s5 (bcs acc) ∧ Below w.heap.size w wx) (fun _ s1 _ _ => (intOf s1).toNat)
  case atStart => exact ⟨p, n, [], rfl, rfl, hp, Nat.le_refl _, by simp, rfl, OwnA.nil _ _ _ _, Below.refl _ _⟩
  case round =>
    obtain ⟨q, m, acc, rfl, rfl, hqm, hmn, hal, hE, hO, hB⟩ := hrel
    obtain ⟨oa, oc, rfl, _⟩ := hO.form
    simp only [List.length_map] at hO ⊢
    have hsw := hB.size
    have HE := Lib.hid hE
    have HO := Lib.hid hO
    have HB := Lib.hid hB
    clear hE hO hB
    by_cases hlt : 1 < m
    · have hltI : (1 : Int) < (m : Int) := by omega
      have hcb := cutN_bounds (n := m) (by omega) (by omega)
      have hce := cutAt_eq (n := m) (by omega) (by omega)
      have HL := Lib.hid (show q < cutN m → sides p n = (acc ++ [false]) ++ sides q (cutN m) from fun h => by rw [HE.out, sides, if_neg (by omega), if_pos (by omega), hce]; simp)
      have HR := Lib.hid (show ¬ q < cutN m → sides p n = (acc ++ [true]) ++ sides (q - cutN m) (m - cutN m) from fun h => by rw [HE.out, sides, if_neg (by omega), if_neg (by omega), hce]; simp)
      clear hce
      go_wp2_with fail
      refine (cut_calls _ _ (by omega) (by omega)).mono ?_
      rintro e wz ⟨rfl, rfl⟩
      have key : ∀ b : Bool, ∃ W, wr.alloc (.cells #[.bool b] 4) = W ∧ Hid (OwnA 1 w.heap.size 4 W (.slice oa acc.length oc) (bcs acc)) ∧ Hid (Arr 1 Any W (.slice (some ⟨wr.heap.size, 0, none⟩) 1 1) [[.bool b]]) ∧ Hid (Below w.heap.size w W) ∧ w.heap.size ≤ W.heap.size := fun b =>
        ⟨_, rfl, Lib.hid (HO.out.alloc _), Lib.hid (arr_one (k := 1) wr _ _ _ [.bool b] rfl rfl trivial), Lib.hid (HB.out.alloc hsw _), by simp; omega⟩
      have HN := Lib.hid (bcs_one (l := [true]))
      have HN2 := Lib.hid (bcs_one (l := [false]))
      by_cases hq : q < cutN m
      · have hqI : ¬ ((cutN m : Int) ≤ (q : Int)) := by omega
        have hE2 := HL.out hq
        have HE2 := Lib.hid hE2
        obtain ⟨W, hW, h1, h2, h3, h4⟩ := key false
        have hB : decide (cutN m ≤ q) = false := by simp; omega
        clear key hE2 HL HR
        go_wp2_with (at_builtin; refine wpList_append_arr _ rfl (.tmp 15) (.tmp 17) 136 rfl w.heap.size 4 elemB _ (bcs acc) rfl h1.out _ [[.bool false]] rfl h2.out HN2.out (by simp; unfold maxLen; omega) (by simp; omega) h4 (acc.length + 1) (by simp) ?_)
        intro a2 c2 w2 q1 q2 q3
        have hlo := h1.out.lt
        have HO2 := Lib.hid (show OwnA 1 w.heap.size 4 w2 (.slice a2 (acc.length + 1) c2) (bcs (acc ++ [false])) by rw [show bcs (acc ++ [false]) = bcs acc ++ [[.bool false]] by simp [bcs]]; exact q1)
        have HB2 := Lib.hid (h3.out.grown q2 h4 (fun k hk => (hlo k hk).1))
        clear q1 q2 q3 hlo hW
        go_wp2
        go_roundw
        case rel => exact ⟨q, cutN m, acc ++ [false], rfl, rfl, hq, by omega, by simp; omega, HE2.out, HO2.out, HB2.out⟩
        case measure => simp [intOf]; omega
      · have hqI : ((cutN m : Int) ≤ (q : Int)) := by omega
        have hE2 := HR.out hq
        have HE2 := Lib.hid hE2
        obtain ⟨W, hW, h1, h2, h3, h4⟩ := key true
        have hB : decide (cutN m ≤ q) = true := by simp; omega
        clear key hE2 HL HR
        go_wp2_with (at_builtin; refine wpList_append_arr _ rfl (.tmp 15) (.tmp 17) 136 rfl w.heap.size 4 elemB _ (bcs acc) rfl h1.out _ [[.bool true]] rfl h2.out HN.out (by simp; unfold maxLen; omega) (by simp; omega) h4 (acc.length + 1) (by simp) ?_)
        intro a2 c2 w2 q1 q2 q3
        have hlo := h1.out.lt
        have HO2 := Lib.hid (show OwnA 1 w.heap.size 4 w2 (.slice a2 (acc.length + 1) c2) (bcs (acc ++ [true])) by rw [show bcs (acc ++ [true]) = bcs acc ++ [[.bool true]] by simp [bcs]]; exact q1)
        have HB2 := Lib.hid (h3.out.grown q2 h4 (fun k hk => (hlo k hk).1))
        clear q1 q2 q3 hlo hW
        go_wp2
        go_roundw
        case rel => exact ⟨q - cutN m, m - cutN m, acc ++ [true], by rw [show ((q : Int) - (cutN m : Int)) = ((q - cutN m : Nat) : Int) from by omega], by rw [show ((m : Int) - (cutN m : Int)) = ((m - cutN m : Nat) : Int) from by omega], by omega, by omega, by simp; omega, HE2.out, HO2.out, HB2.out⟩
        case measure => simp [intOf]; omega
    · have hltI : ¬ (1 : Int) < (m : Int) := by omega
      have HE2 := Lib.hid (show sides p n = acc by rw [HE.out, sides, if_pos (by omega)]; simp)
      go_wp2
      go_ret
      exact ⟨_, rfl, by rw [HE2.out]; exact HO.out.arr.mono (by omega) (fun b _ h => h.2), HB.out⟩
end Go.Proofs.YtmenchnjajpkmaaGreatDoor.MkW
end

section
namespace Go.Proofs.YtmenchnjajpkmaaGreatDoor.MkW
open Go Go.RowKit Mem Sha ShaW Mk Arr Row
set_option linter.unusedVariables false

set_option maxRecDepth 100000 in
theorem elemP : ElemT Tryz.prog 107 139 (.agg #[.int .u8 0, .int .u8 0, .int .u8 0, .int .u8 0, .int .u8 0, .int .u8 0, .int .u8 0, .int .u8 0, .int .u8 0, .int .u8 0, .int .u8 0, .int .u8 0, .int .u8 0, .int .u8 0, .int .u8 0, .int .u8 0, .int .u8 0, .int .u8 0, .int .u8 0, .int .u8 0, .int .u8 0, .int .u8 0, .int .u8 0, .int .u8 0, .int .u8 0, .int .u8 0, .int .u8 0, .int .u8 0, .int .u8 0, .int .u8 0, .int .u8 0, .int .u8 0, .int .u8 0, .int .u8 0, .int .u8 0, .int .u8 0, .int .u8 0, .int .u8 0, .int .u8 0, .int .u8 0, .int .u8 0, .int .u8 0, .int .u8 0, .int .u8 0, .int .u8 0, .int .u8 0, .int .u8 0, .int .u8 0, .int .u8 0, .int .u8 0, .int .u8 0, .int .u8 0, .int .u8 0, .int .u8 0, .int .u8 0, .int .u8 0, .int .u8 0, .int .u8 0, .int .u8 0, .int .u8 0, .int .u8 0, .int .u8 0, .int .u8 0, .int .u8 0]) 64 64 := ⟨Tryz.underlying107, ⟨_, rfl, rfl, rfl, rfl⟩, rfl, by omega⟩
set_option maxRecDepth 100000 in
theorem strP : StructT Tryz.prog 139 [32, 32] := ⟨_, _, _, rfl, Tryz.underlying139, rfl, by kernel_rfl, by kernel_rfl⟩
theorem szP : (Tryz.prog.info? 139).map (·.size) = some 64 := by kernel_rfl
abbrev pcs (l : List (Dg × Dg)) : List (List Value) := l.map (fun x => x.1.map byt ++ x.2.map byt)
theorem topOf_take (leaf : Dg) (ss : List Bool) (ds : List Dg) (k : Nat) (h1 : k < ss.length) (h2 : k < ds.length) : topOf leaf (ss.take (k + 1)) (ds.take (k + 1)) = nodeP (pairOf (topOf leaf (ss.take k) (ds.take k)) (ds[k]'h2) (ss[k]'h1)) := by
  rw [List.take_add_one, List.take_add_one, List.getElem?_eq_getElem h1, List.getElem?_eq_getElem h2]
  exact topOf_snoc leaf _ _ _ _ (by simp; omega)
theorem ups_snoc : ∀ (leaf : Dg) (ss : List Bool) (ds : List Dg) (s : Bool) (d : Dg), ss.length = ds.length → ups leaf (ss ++ [s]) (ds ++ [d]) = ups leaf ss ds ++ [pairOf (topOf leaf ss ds) d s]
  | leaf, [], [], s, d, _ => rfl
  | leaf, a :: ss, b :: ds, s, d, h => by
    simp only [List.cons_append, topOf, ups]
    rw [ups_snoc _ ss ds s d (by simpa using h)]
  | _, [], _ :: _, _, _, h => by simp at h
  | _, _ :: _, [], _, _, h => by simp at h
theorem ups_take (leaf : Dg) (ss : List Bool) (ds : List Dg) (k : Nat) (h1 : k < ss.length) (h2 : k < ds.length) : ups leaf (ss.take (k + 1)) (ds.take (k + 1)) = ups leaf (ss.take k) (ds.take k) ++ [pairOf (topOf leaf (ss.take k) (ds.take k)) (ds[k]'h2) (ss[k]'h1)] := by
  rw [List.take_add_one, List.take_add_one, List.getElem?_eq_getElem h1, List.getElem?_eq_getElem h2]
  exact ups_snoc leaf _ _ _ _ (by simp; omega)
theorem ups_length : ∀ (leaf : Dg) (ss : List Bool) (ds : List Dg), (ups leaf ss ds).length ≤ ds.length
  | _, [], _ => by simp [ups]
  | _, _ :: _, [] => by simp [ups]
  | leaf, s :: ss, d :: ds => by simp only [ups, List.length_cons]; have := ups_length (nodeP (pairOf leaf d s)) ss ds; omega
theorem results_tct {P : Program} {fn : Func} {p u v : Tmp} {ty : TypeId} (h : fn.results = #[.tmp u, .cell p ty, .tmp v]) (tmps : Array Value) (w : World) (g : Nat) (t : TypeId) (l : List Value) (d : TypeDesc)
    (hp : tmps.getD p undef = .pointer (some ⟨g, 0, none⟩)) (hB : Blk w g l t) (hu : P.underlying ty = some d) (hd : (match d with | .struct _ | .array _ _ => true | _ => false) = true) (hi : (P.info? ty).map (·.size) = some l.length) :
    (results fn tmps).run P w = .ok (.tuple #[tmps.getD u undef, .agg l.toArray, tmps.getD v undef]) w := by
  have hl := run_loadVar_row (P := P) w g t ty l.toArray (0, 0) d hB hu hd (by simpa using hi)
  have hp' : tmps[p]?.getD undef = .pointer (some ⟨g, 0, none⟩) := by simpa using hp
  simp only [results, h]
  simp [asAddr, hp', hl, Result.andThen]
/-- what the way up keeps from round to round -/
structure RI (w : World) (B2 : Nat) (tab : Nat) (va : Option Addr) (n1 : Nat) (ds : List Dg) (vs : Option Addr) (n2 : Nat) (ssr : List Bool) (cur : Dg) (vu : Value) (upl : List (Dg × Dg)) (wx : World) : Prop where
  g4 : Blk wx w.heap.size (cur.map byt) 24
  g9 : Blk wx (w.heap.size + 1) (List.replicate 32 (.int .u8 0)) 24
  o : OwnA 64 B2 139 wx vu (pcs upl)
  ap : Arr 32 (fun b => b < w.heap.size) wx (.slice va ds.length n1) (dcs ds)
  as' : Arr 1 (fun b => w.heap.size + 2 ≤ b ∧ b < B2) wx (.slice vs ssr.length n2) (bcs ssr)
  b : Below w.heap.size w wx
  t : TabB wx tab
  h : tab < w.heap.size
  hB : w.heap.size + 2 ≤ B2 ∧ B2 ≤ wx.heap.size
  hc : cur.length = 32
theorem new64 (w : World) : Blk (w.alloc (.cells #[.int .u8 0, .int .u8 0, .int .u8 0, .int .u8 0, .int .u8 0, .int .u8 0, .int .u8 0, .int .u8 0, .int .u8 0, .int .u8 0, .int .u8 0, .int .u8 0, .int .u8 0, .int .u8 0, .int .u8 0, .int .u8 0, .int .u8 0, .int .u8 0, .int .u8 0, .int .u8 0, .int .u8 0, .int .u8 0, .int .u8 0, .int .u8 0, .int .u8 0, .int .u8 0, .int .u8 0, .int .u8 0, .int .u8 0, .int .u8 0, .int .u8 0, .int .u8 0, .int .u8 0, .int .u8 0, .int .u8 0, .int .u8 0, .int .u8 0, .int .u8 0, .int .u8 0, .int .u8 0, .int .u8 0, .int .u8 0, .int .u8 0, .int .u8 0, .int .u8 0, .int .u8 0, .int .u8 0, .int .u8 0, .int .u8 0, .int .u8 0, .int .u8 0, .int .u8 0, .int .u8 0, .int .u8 0, .int .u8 0, .int .u8 0, .int .u8 0, .int .u8 0, .int .u8 0, .int .u8 0, .int .u8 0, .int .u8 0, .int .u8 0, .int .u8 0] 139)) w.heap.size (List.replicate 64 (.int .u8 0)) 139 := Blk.new w _ _ _ rfl

set_option maxHeartbeats 16000000 in
set_option maxRecDepth 100000 in
theorem rise_calls (w : World) (leaf : Dg) (p n : Nat) (vp : Value) (ds : List Dg) (hA : Arr 32 Any w vp (dcs ds)) (hD : ∀ d ∈ ds, d.length = 32) (hl : leaf.length = 32) (hT : TabB w 1) (hn : n < 4294967296) (hp : p < n) (hlen : (sides p n).length = ds.length) :
    Calls Tryz.prog 49 #[dv leaf, .int .u32 (p : Int), .int .u32 (n : Int), vp] w fun e w' => ∃ v, e = .returned (.tuple #[v, dv (topOf leaf (sides p n).reverse ds), .bool true]) ∧ Arr 64 (fun b => w.heap.size ≤ b) w' v (pcs (ups leaf (sides p n).reverse ds)) ∧ Below w.heap.size w w' := by
  obtain ⟨va, n1, rfl, hk1, hk2, hk3⟩ := hA.form
  simp only [List.length_map] at hA hk1 ⊢
  have hdl : ds.length ≤ 4294967296 := by have := sides_le n p; omega
  have HTL := Lib.hid (show 1 < w.heap.size from (Array.getElem?_eq_some_iff.1 hT.choose_spec.choose_spec).1)
  obtain ⟨W, hW, k4, k9, kb, ks⟩ : ∃ W, (w.alloc (.cells (leaf.map byt).toArray 24)).alloc (.cells #[.int .u8 0, .int .u8 0, .int .u8 0, .int .u8 0, .int .u8 0, .int .u8 0, .int .u8 0, .int .u8 0, .int .u8 0, .int .u8 0, .int .u8 0, .int .u8 0, .int .u8 0, .int .u8 0, .int .u8 0, .int .u8 0, .int .u8 0, .int .u8 0, .int .u8 0, .int .u8 0, .int .u8 0, .int .u8 0, .int .u8 0, .int .u8 0, .int .u8 0, .int .u8 0, .int .u8 0, .int .u8 0, .int .u8 0, .int .u8 0, .int .u8 0, .int .u8 0] 24) = W ∧ Hid (Blk W w.heap.size (leaf.map byt) 24) ∧ Hid (Blk W (w.heap.size + 1) (List.replicate 32 (.int .u8 0)) 24) ∧ Hid (Below w.heap.size w W) ∧ w.heap.size + 2 ≤ W.heap.size := by
    refine ⟨_, rfl, Lib.hid ((Blk.new w _ _ _ rfl).alloc _), Lib.hid ?_, Lib.hid (((Below.refl _ _).alloc (Nat.le_refl _) _).alloc (by simp) _), by simp⟩
    have := new32 (w.alloc (.cells (leaf.map byt).toArray 24))
    rwa [World.size_alloc] at this
  have HA := Lib.hid ((hA.mono (E := fun b => b < w.heap.size) (by omega) (fun b h _ => h)).below (by omega) kb.out)
  have HT := Lib.hid (hT.below kb.out)
  have HD := Lib.hid hD
  have HLF := Lib.hid hl
  have hpI : (p : Int) < (n : Int) := by omega
  have hpB : decide (n ≤ p) = false := by simp; omega
  have hw1 : IntKind.i64.wrap (p : Int) = (p : Int) := IntWalk.i64_in _ (by omega)
  have hw2 : IntKind.i64.wrap (n : Int) = (n : Int) := IntWalk.i64_in _ (by omega)
  have HLEN := Lib.hid hlen
  clear hA hT hD hl hlen
  go_enter Tryz.func49, Tryz.ntmps49
  go_wp2_with fail
  clear hW
  refine (sides_calls W p n hn hp).mono ?_
  rintro e w3 ⟨vs0, rfl, g1, g2⟩
  obtain ⟨vs, n2, rfl, _⟩ := g1.form
  obtain ⟨ssr, hss⟩ : ∃ l, sides p n = l := ⟨_, rfl⟩
  rw [hss] at g1 HLEN ⊢
  simp only [List.length_map] at g1 ⊢
  have hs3 := g2.size
  obtain ⟨B2, hB2⟩ : ∃ B, w3.heap.size = B := ⟨_, rfl⟩
  have HI0 := Lib.hid (show RI w B2 1 va n1 ds vs n2 ssr leaf (.slice none 0 0) [] w3 from
    ⟨k4.out.below g2, k9.out.below g2, OwnA.nil _ _ _ _, HA.out.below (by omega) g2, g1.mono (by omega) (fun b h1 h2 => ⟨by omega, by omega⟩), kb.out.trans (g2.mono (by omega)), HT.out.below g2, HTL.out, ⟨by omega, by omega⟩, HLF.out⟩)
  have HSS := Lib.hid hss
  have hle := Nat.le_of_eq HLEN.out
  have hge := Nat.le_of_eq HLEN.out.symm
  have hlB : ((ssr.length : Int) != (ds.length : Int)) = false := by have := HLEN.out; simp; omega
  clear hss g1 g2 hw1 hw2 HLEN hB2
  go_wp2
  go_loopw [12, 33] (fun s12 s33 wx => ∃ (k : Nat) (cur : Dg) (upl : List (Dg × Dg)), k ≤ ds.length ∧ s33 = .int .i64 (k : Int) ∧ topOf leaf (ssr.reverse.take k) (ds.take k) = cur ∧ ups leaf (ssr.reverse.take k) (ds.take k) = upl ∧ RI w B2 1 va n1 ds vs n2 ssr cur s12 upl wx) (fun _ s33 _ => ds.length - (intOf s33).toNat)
  case atStart => exact ⟨0, leaf, [], Nat.zero_le _, rfl, by simp [topOf], by simp [ups], HI0.out⟩
  case round =>
    obtain ⟨k, cur, upl, hk, rfl, hcur, hupl, hI⟩ := hrel
    obtain ⟨ua, uc, rfl, _⟩ := hI.o.form
    simp only [List.length_map] at hI ⊢
    have hul : upl.length ≤ ds.length := by rw [← hupl]; exact Nat.le_trans (ups_length _ _ _) (by simp; omega)
    have HI := Lib.hid hI
    have HCUR := Lib.hid hcur
    have HUPL := Lib.hid hupl
    have hsr := hI.hB
    have HCL := Lib.hid hI.hc
    by_cases hlt : k < ds.length
    · have hltI : (k : Int) < (ds.length : Int) := by omega
      have h0I : (0 : Int) ≤ (k : Int) := by omega
      have hks : k < ssr.reverse.length := by simp; omega
      have hkd : k < ds.length := hlt
      obtain ⟨b1, o1, q1, e1, hb1, r1⟩ := hI.ap.at k (by simp; omega)
      simp only [List.length_map, Value.slice.injEq] at e1
      obtain ⟨rfl, _, rfl⟩ := e1
      obtain ⟨d, hd⟩ : ∃ x, ds[k]'hkd = x := ⟨_, rfl⟩
      simp only [List.getElem_map, hd] at r1
      have HDK := Lib.hid hd
      have HDL := Lib.hid (show d.length = 32 by rw [← hd]; exact HD.out _ (List.getElem_mem _))
      have HR1 := Lib.hid r1
      obtain ⟨W1, hW1, N1, NB1, ns1⟩ := start32 wr
      have HOD := Lib.hid (one_cells d)
      clear hI hcur hupl hd r1
      go_upto_region 10 with (first
        | (with_reducible refine wpList_load_mid rfl _ _ rfl b1 (o1 + k * 32) rfl (d.map byt) _ HR1.out Tryz.underlying24 rfl (szD' HDL.out) ?_)
        | (with_reducible refine wpList_store_blk rfl _ _ _ rfl wr.heap.size (d.map byt) _ rfl _ rfl rfl N1.out (szD' HDL.out) (by simp [HDL.out]) HOD.out ?_))
      clear hW1
      have N2 := Lib.hid (N1.out.row (d.map byt))
      have NB2 := Lib.hid (below_setRow NB1.out (Nat.le_refl _) (d.map byt).toArray)
      obtain ⟨w1, hw1⟩ : ∃ x, W1.setRow wr.heap.size (d.map byt).toArray = x := ⟨_, rfl⟩
      rw [hw1] at N2 NB2 ⊢
      have ns2 : wr.heap.size + 1 ≤ w1.heap.size := by rw [← hw1]; simp; omega
      clear hw1 N1 NB1 HR1
      generalize hg14 : wr.heap.size = g14 at *
      have HG14 := Lib.hid hg14
      have HB1 := Lib.hid (show Below wr.heap.size wr w1 by rw [hg14]; exact NB2.out)
      clear hg14 NB2
      have H4a := Lib.hid (HI.out.g4.below HB1.out)
      have N64 := Lib.hid (new64 w1)
      obtain ⟨W2, hW2⟩ : ∃ x, w1.alloc (.cells #[.int .u8 0, .int .u8 0, .int .u8 0, .int .u8 0, .int .u8 0, .int .u8 0, .int .u8 0, .int .u8 0, .int .u8 0, .int .u8 0, .int .u8 0, .int .u8 0, .int .u8 0, .int .u8 0, .int .u8 0, .int .u8 0, .int .u8 0, .int .u8 0, .int .u8 0, .int .u8 0, .int .u8 0, .int .u8 0, .int .u8 0, .int .u8 0, .int .u8 0, .int .u8 0, .int .u8 0, .int .u8 0, .int .u8 0, .int .u8 0, .int .u8 0, .int .u8 0, .int .u8 0, .int .u8 0, .int .u8 0, .int .u8 0, .int .u8 0, .int .u8 0, .int .u8 0, .int .u8 0, .int .u8 0, .int .u8 0, .int .u8 0, .int .u8 0, .int .u8 0, .int .u8 0, .int .u8 0, .int .u8 0, .int .u8 0, .int .u8 0, .int .u8 0, .int .u8 0, .int .u8 0, .int .u8 0, .int .u8 0, .int .u8 0, .int .u8 0, .int .u8 0, .int .u8 0, .int .u8 0, .int .u8 0, .int .u8 0, .int .u8 0, .int .u8 0] 139) = x := ⟨_, rfl⟩
      rw [hW2] at N64
      have HW2 := Lib.hid (show Below w1.heap.size w1 W2 by rw [← hW2]; exact (Below.refl _ _).alloc (Nat.le_refl _) _)
      have hs2 : w1.heap.size + 1 ≤ W2.heap.size := by rw [← hW2]; simp
      obtain ⟨cs0, hcs0⟩ : ∃ c, cur.map byt ++ d.map byt = c := ⟨_, rfl⟩
      have HC0 := Lib.hid hcs0
      have HCL0 := Lib.hid (show cs0.length = 64 by rw [← hcs0]; simp [HCL.out, HDL.out])
      have HCO0 := Lib.hid (show ∀ v ∈ cs0, v.oneCell' = true by rw [← hcs0]; intro v hv; rcases List.mem_append.1 hv with hv | hv <;> (obtain ⟨u, _, rfl⟩ := List.mem_map.1 hv; rfl))
      have HSC0 := Lib.hid (show (Tryz.prog.info? 139).map (·.size) = some cs0.length from szP.trans (by rw [HCL0.out]))
      have HLM := Lib.hid (show (cur.map byt).length = 32 by rw [List.length_map]; exact HCL.out)
      have HLD := Lib.hid (show (d.map byt).length = 32 by rw [List.length_map]; exact HDL.out)
      go_upto_region 11 with (first
        | (with_reducible refine wpList_load_cs (by with_unfolding_all rfl) _ _ rfl w.heap.size _ rfl H4a.out _ Tryz.underlying24 rfl (szD' HCL.out) _ rfl ?_)
        | (with_reducible refine wpList_load_cs (by with_unfolding_all rfl) _ _ rfl g14 _ rfl N2.out _ Tryz.underlying24 rfl (szD' HDL.out) _ rfl ?_)
        | (with_reducible refine wpList_build2 _ rfl strP _ _ rfl (cur.map byt) (d.map byt) rfl rfl HLM.out HLD.out ?_)
        | (with_reducible refine wpList_store_blk rfl _ _ _ rfl w1.heap.size cs0 _ rfl _ rfl rfl N64.out HSC0.out (by simp [HCL0.out]) HCO0.out ?_))
      have hf2 := (Fr.refl (fun b => b = w1.heap.size) W2).setRow (.inr rfl) cs0.toArray
      obtain ⟨w2, hw2⟩ : ∃ x, W2.setRow w1.heap.size cs0.toArray = x := ⟨_, rfl⟩
      have P2 := Lib.hid (show Blk w2 w1.heap.size cs0 139 by rw [← hw2]; exact N64.out.row cs0)
      have HB2' := Lib.hid (show Below w1.heap.size w1 w2 by rw [← hw2]; exact below_setRow HW2.out (Nat.le_refl _) _)
      have hs2' : w1.heap.size + 1 ≤ w2.heap.size := by rw [← hw2]; simp; omega
      have hsw1 : wr.heap.size ≤ w1.heap.size := HB1.out.size
      rw [hw2]
      clear hW2 hw2 hf2 N64 HW2 hcs0
      have HBr2 := Lib.hid (HB1.out.trans (HB2'.out.mono hsw1))
      obtain ⟨g15, hg15⟩ : ∃ g, w1.heap.size = g := ⟨_, rfl⟩
      rw [hg15] at P2 hs2' hsw1 ⊢
      have HG15 := Lib.hid hg15
      have N2' := Lib.hid (N2.out.below (by rw [hg15]; rw [hg15] at HB2'; exact HB2'.out))
      have hlt14 : g14 < g15 := by omega
      clear hg15 HB2'
      obtain ⟨sb, so, sq, e2, hsb, r2⟩ := HI.out.as'.at (ssr.length - 1 - k) (by simp; omega)
      simp only [List.length_map, Value.slice.injEq] at e2
      obtain ⟨rfl, _, rfl⟩ := e2
      have hkr : ssr.length - 1 - k < ssr.length := by omega
      have hbb : ssr.reverse[k]'hks = ssr[ssr.length - 1 - k]'hkr := by rw [List.getElem_reverse]
      have hcell := (rangeAt_fr r2 (Fr.ofBelow HBr2.out) (by have := HG14.out; omega)) 0 (.bool (ssr[ssr.length - 1 - k]'hkr)) (by simp)
      rw [Nat.add_zero, Nat.mul_one] at hcell
      obtain ⟨j, hj⟩ : ∃ j, ssr.length - 1 - k = j := ⟨_, rfl⟩
      have hjI : (ssr.length : Int) - 1 - (k : Int) = (j : Int) := by omega
      have hjn : (j : Int) < (ssr.length : Int) := by omega
      have hj0 : (0 : Int) ≤ (j : Int) := by omega
      obtain ⟨bv, hbv⟩ : ∃ b, ssr[ssr.length - 1 - k]'hkr = b := ⟨_, rfl⟩
      rw [hbv, hj] at hcell
      rw [hbv] at hbb
      clear hbv r2 hj
      by_cases hbt : bv = true
      · have hside : ssr.reverse[k]'hks = true := by rw [hbb]; exact hbt
        rw [hbt] at hcell
        clear hbb hbt
        have HLM2 := HLM
        obtain ⟨cs, hcs⟩ : ∃ c, d.map byt ++ cur.map byt = c := ⟨_, rfl⟩
        have HCC := Lib.hid hcs
        have HCL1 := Lib.hid (show cs.length = 64 by rw [← hcs]; simp [HCL.out, HDL.out])
        have HCO1 := Lib.hid (show ∀ v ∈ cs, v.oneCell' = true by rw [← hcs]; intro v hv; rcases List.mem_append.1 hv with hv | hv <;> (obtain ⟨u, _, rfl⟩ := List.mem_map.1 hv; rfl))
        have HSC1 := Lib.hid (show (Tryz.prog.info? 139).map (·.size) = some cs.length from szP.trans (by rw [HCL1.out]))
        have H4b := Lib.hid (HI.out.g4.below HBr2.out)
        have HCE := Lib.hid (show (d.map byt ++ cur.map byt).toArray = cs.toArray by rw [HCC.out])
        have HLL := Lib.hid (show cs0.length = cs.length by rw [HCL0.out, HCL1.out])
        have hfr := (Fr.refl (fun b => b = g15) w2).setRow (.inr rfl) cs.toArray
        obtain ⟨w3, hw3⟩ : ∃ x, w2.setRow g15 cs.toArray = x := ⟨_, rfl⟩
        have HP3 := Lib.hid (show Blk w3 g15 cs 139 by rw [← hw3]; exact P2.out.row cs)
        have HB3 := Lib.hid (show Below wr.heap.size wr w3 by rw [← hw3]; exact below_setRow HBr2.out (by have := HG14.out; omega) _)
        have hs3' : g15 + 1 ≤ w3.heap.size := by rw [← hw3]; simp; omega
        clear hfr
        go_upto_region 13 with (first
          | (with_reducible refine wpList_load_cs (by with_unfolding_all rfl) _ _ rfl w.heap.size _ rfl H4b.out _ Tryz.underlying24 rfl (szD' HCL.out) _ rfl ?_)
          | (with_reducible refine wpList_load_cs (by with_unfolding_all rfl) _ _ rfl g14 _ rfl N2'.out _ Tryz.underlying24 rfl (szD' HDL.out) _ rfl ?_)
          | (with_reducible refine wpList_build2 _ rfl strP _ _ rfl (d.map byt) (cur.map byt) rfl rfl HLD.out HLM.out ?_)
          | (with_reducible refine wpList_store_blk rfl _ _ _ rfl g15 cs _ rfl _ rfl HCE.out P2.out HSC1.out HLL.out HCO1.out ?_))
        rw [hw3]
        clear hcs hw3
        have HPR := Lib.hid (show pairOf cur d (ssr.reverse[k]'hks) = (d, cur) by rw [hside]; rfl)
        have HCS := Lib.hid (show cs.length = 64 by rw [← HCC.out]; simp [HCL.out, HDL.out])
        have HSC := Lib.hid (show (Tryz.prog.info? 139).map (·.size) = some cs.length from szP.trans (by rw [HCS.out]))
        have HSA := Lib.hid (show cs.toArray.size = 64 by rw [List.size_toArray]; exact HCS.out)
        have HO4 := Lib.hid ((HI.out.o.below HB3.out).alloc (.cells cs.toArray 139))
        have HAM := Lib.hid (arr_one (k := 64) (D := Any) w3 cs.toArray 139 (0, 0) cs HCS.out rfl trivial)
        have HC1 := Lib.hid (show ∀ x ∈ [cs], ∀ c ∈ x, c.oneCell' = true by
          intro x hx c hc
          rw [List.mem_singleton.1 hx, ← HCC.out] at hc
          rcases List.mem_append.1 hc with hc | hc <;> (obtain ⟨u, _, rfl⟩ := List.mem_map.1 hc; rfl))
        clear hside
        go_wp2_with (first
          | (with_reducible refine wpList_load_cs (by with_unfolding_all rfl) _ _ rfl g15 _ rfl HP3.out _ Tryz.underlying139 rfl HSC.out _ rfl ?_)
          | (with_reducible refine wpList_buildSlice1 _ rfl elemP _ rfl _ rfl HSA.out (by decide) ?_)
          | (at_builtin; refine wpList_append_arr _ rfl (.tmp 52) (.tmp 54) 107 rfl B2 139 elemP _ (pcs upl) rfl HO4.out _ [cs] rfl HAM.out HC1.out (by simp; unfold maxLen; omega) (by simp; omega) (by simp; omega) (upl.length + 1) (by simp) ?_))
        intro a5 c5 w5 q1 q2 q3
        have hlo := HI.out.o.lt
        have hf5 : Fr (fun b => (Value.slice ua upl.length uc).ownBlock = some b) w3 w5 := ((Fr.refl _ w3).alloc _).trans (Fr.ofGrown q2)
        have HO5 := Lib.hid (show OwnA 64 B2 139 w5 (.slice a5 (upl.length + 1) c5) (pcs (upl ++ [(d, cur)])) by rw [show pcs (upl ++ [(d, cur)]) = pcs upl ++ [cs] by rw [← HCC.out]; simp [pcs]]; exact q1)
        have HF5 := Lib.hid (show Fr (fun b => (Value.slice ua upl.length uc).ownBlock = some b) wr w5 from (Fr.ofBelowAll HB3.out (Nat.le_refl _)).trans hf5)
        have hs5 := hf5.size
        have HLO := Lib.hid (show ∀ b, (Value.slice ua upl.length uc).ownBlock = some b → B2 ≤ b ∧ b < wr.heap.size from hlo)
        have hp5 : Blk w5 g15 cs 139 := HP3.out.fr hf5 (fun h => by have := hlo _ h; omega)
        have hR := blk_range hp5
        rw [← HCC.out] at hR
        have HR1 := Lib.hid (show w5.rangeAt g15 0 (d.map byt) from fun j v hv => hR j v (by rw [List.getElem?_append_left (by have := (List.getElem?_eq_some_iff.1 hv).1; exact this)]; exact hv))
        have HR2 := Lib.hid (show w5.rangeAt g15 32 (cur.map byt) from fun j v hv => by
          have := hR (32 + j) v (by rw [List.getElem?_append_right (by simp [HDL.out])]; simpa [HDL.out] using hv)
          rwa [Nat.zero_add] at this)
        have H4 := Lib.hid (HI.out.g4.fr HF5.out (fun h => by have := hlo _ h; omega))
        have HT5 := Lib.hid (HI.out.t.fr HF5.out (fun h => by have := hlo _ h; have := HI.out.h; omega))
        clear q1 q2 q3 hlo hf5 hp5 hR
        go_wp2_with (first
          | (with_reducible refine wpList_load_mid rfl _ _ rfl g15 0 rfl (d.map byt) _ HR1.out Tryz.underlying24 rfl (szD' HDL.out) ?_)
          | (with_reducible refine wpList_load_mid rfl _ _ rfl g15 32 rfl (cur.map byt) _ HR2.out Tryz.underlying24 rfl (szD' HCL.out) ?_)
          | fail)
        refine (node_calls w5 d cur HDL.out HCL.out HT5.out).mono ?_
        rintro e w6 ⟨rfl, g⟩
        obtain ⟨m, hm⟩ : ∃ m, nodeD d cur = m := ⟨_, rfl⟩
        have HML := Lib.hid (show m.length = 32 by rw [← hm]; exact nodeD_length _ _)
        have HMO := Lib.hid (one_cells m)
        rw [hm]
        have H46 := Lib.hid (H4.out.below g)
        have hf6 : Fr (fun b => b = w.heap.size) w6 (w6.setRow w.heap.size (m.map byt).toArray) := (Fr.refl (fun b => b = w.heap.size) w6).setRow (.inr rfl) _
        have hf : Fr (fun b => (Value.slice ua upl.length uc).ownBlock = some b ∨ b = w.heap.size) wr (w6.setRow w.heap.size (m.map byt).toArray) :=
          ((HF5.out.mono (fun k _ h => .inl h)).trans (Fr.ofBelowAll g (Nat.le_refl _) |>.mono (fun k hk h => h)) |>.trans' hf6 (fun k hk h => .inr h))
        have hlo := HLO.out
        have HI2 := Lib.hid (show RI w B2 1 (some ⟨b1, o1, none⟩) n1 ds (some ⟨sb, so, none⟩) n2 ssr m (.slice a5 (upl.length + 1) c5) (upl ++ [(d, cur)]) (w6.setRow w.heap.size (m.map byt).toArray) from
          ⟨H46.out.row _, HI.out.g9.fr hf (fun h => by rcases h with h | h; have := hlo _ h; omega; omega), (HO5.out.below g).fr hf6 (fun b hb h => by have := (HO5.out.lt b hb).1; omega),
            HI.out.ap.fr (by omega) hf (fun b _ hb h => by rcases h with h | h; have := hlo _ h; omega; omega), HI.out.as'.fr (by omega) hf (fun b _ hb h => by rcases h with h | h; have := hlo _ h; omega; omega),
            HI.out.b.trans (hf.below HI.out.b.size (fun b h => by rcases h with h | h; have := hlo _ h; omega; omega)), HI.out.t.fr hf (fun h => by rcases h with h | h; have := hlo _ h; have := HI.out.h; omega; have := HI.out.h; omega), HI.out.h, ⟨HI.out.hB.1, Nat.le_trans HI.out.hB.2 hf.size⟩, HML.out⟩)
        have HTOP := Lib.hid (show topOf leaf (ssr.reverse.take (k + 1)) (ds.take (k + 1)) = m by rw [topOf_take leaf ssr.reverse ds k hks hkd, HCUR.out, HDK.out, HPR.out]; exact hm)
        have HUPS := Lib.hid (show ups leaf (ssr.reverse.take (k + 1)) (ds.take (k + 1)) = upl ++ [(d, cur)] by rw [ups_take leaf ssr.reverse ds k hks hkd, HUPL.out, HCUR.out, HDK.out, HPR.out])
        clear hm g hf6 hf hlo
        go_wp2_with (with_reducible refine wpList_store_blk rfl _ _ _ rfl w.heap.size (m.map byt) _ rfl _ rfl rfl H46.out (szD' HML.out) (by simp [HML.out, HCL.out]) HMO.out ?_)
        go_roundw
        case rel => exact ⟨k + 1, m, upl ++ [(d, cur)], by omega, by go_num, HTOP.out, HUPS.out, HI2.out⟩
        case measure => simp [intOf]; omega
      · replace hbt : bv = false := by simpa using hbt
        have hside : ssr.reverse[k]'hks = false := by rw [hbb]; exact hbt
        rw [hbt] at hcell
        clear hbb hbt
        go_upto_region 13 with (fail)
        have HCC := HC0
        have HP3 := P2
        have HB3 := HBr2
        have hs3' := hs2'
        have HPR := Lib.hid (show pairOf cur d (ssr.reverse[k]'hks) = (cur, d) by rw [hside]; rfl)
        have HCS := Lib.hid (show cs0.length = 64 by rw [← HCC.out]; simp [HCL.out, HDL.out])
        have HSC := Lib.hid (show (Tryz.prog.info? 139).map (·.size) = some cs0.length from szP.trans (by rw [HCS.out]))
        have HSA := Lib.hid (show cs0.toArray.size = 64 by rw [List.size_toArray]; exact HCS.out)
        have HO4 := Lib.hid ((HI.out.o.below HB3.out).alloc (.cells cs0.toArray 139))
        have HAM := Lib.hid (arr_one (k := 64) (D := Any) w2 cs0.toArray 139 (0, 0) cs0 HCS.out rfl trivial)
        have HC1 := Lib.hid (show ∀ x ∈ [cs0], ∀ c ∈ x, c.oneCell' = true by
          intro x hx c hc
          rw [List.mem_singleton.1 hx, ← HCC.out] at hc
          rcases List.mem_append.1 hc with hc | hc <;> (obtain ⟨u, _, rfl⟩ := List.mem_map.1 hc; rfl))
        clear hside
        go_wp2_with (first
          | (with_reducible refine wpList_load_cs (by with_unfolding_all rfl) _ _ rfl g15 _ rfl HP3.out _ Tryz.underlying139 rfl HSC.out _ rfl ?_)
          | (with_reducible refine wpList_buildSlice1 _ rfl elemP _ rfl _ rfl HSA.out (by decide) ?_)
          | (at_builtin; refine wpList_append_arr _ rfl (.tmp 52) (.tmp 54) 107 rfl B2 139 elemP _ (pcs upl) rfl HO4.out _ [cs0] rfl HAM.out HC1.out (by simp; unfold maxLen; omega) (by simp; omega) (by simp; omega) (upl.length + 1) (by simp) ?_))
        intro a5 c5 w5 q1 q2 q3
        have hlo := HI.out.o.lt
        have hf5 : Fr (fun b => (Value.slice ua upl.length uc).ownBlock = some b) w2 w5 := ((Fr.refl _ w2).alloc _).trans (Fr.ofGrown q2)
        have HO5 := Lib.hid (show OwnA 64 B2 139 w5 (.slice a5 (upl.length + 1) c5) (pcs (upl ++ [(cur, d)])) by rw [show pcs (upl ++ [(cur, d)]) = pcs upl ++ [cs0] by rw [← HCC.out]; simp [pcs]]; exact q1)
        have HF5 := Lib.hid (show Fr (fun b => (Value.slice ua upl.length uc).ownBlock = some b) wr w5 from (Fr.ofBelowAll HB3.out (Nat.le_refl _)).trans hf5)
        have hs5 := hf5.size
        have HLO := Lib.hid (show ∀ b, (Value.slice ua upl.length uc).ownBlock = some b → B2 ≤ b ∧ b < wr.heap.size from hlo)
        have hp5 : Blk w5 g15 cs0 139 := HP3.out.fr hf5 (fun h => by have := hlo _ h; omega)
        have hR := blk_range hp5
        rw [← HCC.out] at hR
        have HR1 := Lib.hid (show w5.rangeAt g15 0 (cur.map byt) from fun j v hv => hR j v (by rw [List.getElem?_append_left (by have := (List.getElem?_eq_some_iff.1 hv).1; exact this)]; exact hv))
        have HR2 := Lib.hid (show w5.rangeAt g15 32 (d.map byt) from fun j v hv => by
          have := hR (32 + j) v (by rw [List.getElem?_append_right (by simp [HCL.out])]; simpa [HCL.out] using hv)
          rwa [Nat.zero_add] at this)
        have H4 := Lib.hid (HI.out.g4.fr HF5.out (fun h => by have := hlo _ h; omega))
        have HT5 := Lib.hid (HI.out.t.fr HF5.out (fun h => by have := hlo _ h; have := HI.out.h; omega))
        clear q1 q2 q3 hlo hf5 hp5 hR
        go_wp2_with (first
          | (with_reducible refine wpList_load_mid rfl _ _ rfl g15 0 rfl (cur.map byt) _ HR1.out Tryz.underlying24 rfl (szD' HCL.out) ?_)
          | (with_reducible refine wpList_load_mid rfl _ _ rfl g15 32 rfl (d.map byt) _ HR2.out Tryz.underlying24 rfl (szD' HDL.out) ?_)
          | fail)
        refine (node_calls w5 cur d HCL.out HDL.out HT5.out).mono ?_
        rintro e w6 ⟨rfl, g⟩
        obtain ⟨m, hm⟩ : ∃ m, nodeD cur d = m := ⟨_, rfl⟩
        have HML := Lib.hid (show m.length = 32 by rw [← hm]; exact nodeD_length _ _)
        have HMO := Lib.hid (one_cells m)
        rw [hm]
        have H46 := Lib.hid (H4.out.below g)
        have hf6 : Fr (fun b => b = w.heap.size) w6 (w6.setRow w.heap.size (m.map byt).toArray) := (Fr.refl (fun b => b = w.heap.size) w6).setRow (.inr rfl) _
        have hf : Fr (fun b => (Value.slice ua upl.length uc).ownBlock = some b ∨ b = w.heap.size) wr (w6.setRow w.heap.size (m.map byt).toArray) :=
          ((HF5.out.mono (fun k _ h => .inl h)).trans (Fr.ofBelowAll g (Nat.le_refl _) |>.mono (fun k hk h => h)) |>.trans' hf6 (fun k hk h => .inr h))
        have hlo := HLO.out
        have HI2 := Lib.hid (show RI w B2 1 (some ⟨b1, o1, none⟩) n1 ds (some ⟨sb, so, none⟩) n2 ssr m (.slice a5 (upl.length + 1) c5) (upl ++ [(cur, d)]) (w6.setRow w.heap.size (m.map byt).toArray) from
          ⟨H46.out.row _, HI.out.g9.fr hf (fun h => by rcases h with h | h; have := hlo _ h; omega; omega), (HO5.out.below g).fr hf6 (fun b hb h => by have := (HO5.out.lt b hb).1; omega),
            HI.out.ap.fr (by omega) hf (fun b _ hb h => by rcases h with h | h; have := hlo _ h; omega; omega), HI.out.as'.fr (by omega) hf (fun b _ hb h => by rcases h with h | h; have := hlo _ h; omega; omega),
            HI.out.b.trans (hf.below HI.out.b.size (fun b h => by rcases h with h | h; have := hlo _ h; omega; omega)), HI.out.t.fr hf (fun h => by rcases h with h | h; have := hlo _ h; have := HI.out.h; omega; have := HI.out.h; omega), HI.out.h, ⟨HI.out.hB.1, Nat.le_trans HI.out.hB.2 hf.size⟩, HML.out⟩)
        have HTOP := Lib.hid (show topOf leaf (ssr.reverse.take (k + 1)) (ds.take (k + 1)) = m by rw [topOf_take leaf ssr.reverse ds k hks hkd, HCUR.out, HDK.out, HPR.out]; exact hm)
        have HUPS := Lib.hid (show ups leaf (ssr.reverse.take (k + 1)) (ds.take (k + 1)) = upl ++ [(cur, d)] by rw [ups_take leaf ssr.reverse ds k hks hkd, HUPL.out, HCUR.out, HDK.out, HPR.out])
        clear hm g hf6 hf hlo
        go_wp2_with (with_reducible refine wpList_store_blk rfl _ _ _ rfl w.heap.size (m.map byt) _ rfl _ rfl rfl H46.out (szD' HML.out) (by simp [HML.out, HCL.out]) HMO.out ?_)
        go_roundw
        case rel => exact ⟨k + 1, m, upl ++ [(cur, d)], by omega, by go_num, HTOP.out, HUPS.out, HI2.out⟩
        case measure => simp [intOf]; omega
    · obtain rfl : k = ds.length := by omega
      have hr1 : ssr.reverse.take ds.length = ssr.reverse := List.take_of_length_le (by simp; omega)
      have hr2 : ds.take ds.length = ds := List.take_of_length_le (Nat.le_refl _)
      rw [hr1, hr2] at HCUR HUPL
      have H4 := Lib.hid hI.g4
      have H9 := Lib.hid hI.g9
      have h4d := (World.rangeAt_drew _ _ _ _).2 (blk_range hI.g4)
      have hf : Fr (fun b => b = w.heap.size + 1) wr (wr.drew.setRow (w.heap.size + 1) (cur.map byt).toArray) := ((Fr.refl (fun b => b = w.heap.size + 1) wr).drew).setRow (.inr rfl) _
      have HLW := Lib.hid (show ∀ w', (w' = wr.drew ∨ w' = wr.drew.setRow (w.heap.size + 1) (cur.map byt).toArray) → w'.rangeAt w.heap.size 0 (cur.map byt) from fun w' h => by
        rcases h with rfl | rfl
        · exact h4d
        · exact rangeAt_fr (blk_range hI.g4) hf (by omega))
      have HCO := Lib.hid (one_cells cur)
      have HO := Lib.hid (hI.o.arr)
      have HBF := Lib.hid (hI.b.trans (hf.below hI.b.size (fun b h => by omega)))
      have HOF := Lib.hid (show Arr 64 (fun b => w.heap.size ≤ b) (wr.drew.setRow (w.heap.size + 1) (cur.map byt).toArray) (.slice ua upl.length uc) (pcs upl) by
        have := hI.o.arr.fr (by omega) hf (fun b _ h1 h2 => by have := h1.2; omega)
        exact this.mono (by omega) (fun b _ h => by have := h.2; omega))
      have HRB := Lib.hid (show Blk (wr.drew.setRow (w.heap.size + 1) (cur.map byt).toArray) (w.heap.size + 1) (cur.map byt) 24 from H9.out.drew.row _)
      clear hI hcur hupl hr1 hr2 hf h4d
      go_wp2
      refine wp_region_held_drew (S := (fun w' => w' = wr.drew ∨ w' = wr.drew.setRow (w.heap.size + 1) (cur.map byt).toArray)) (by kernel_rfl) (.inl rfl) (fun hHeld => ?_)
      refine wpAnyH_take (i := 0) (oi := ⟨_, _, _, _, _, _⟩) (v := ?_) rfl (by kernel_rfl) (by kernel_rfl) (by kernel_rfl) (fun _ _ _ h => h) (Or.inl ⟨by rfl, ?_⟩) (by assumption) ?_
      rotate_left
      · intro w hSw; go_simp; try (with_reducible rfl)
      try simp only [Act.put, List.setIfInBounds_toArray, List.set_cons_zero, List.set_cons_succ]
      refine wpAnyH_take (i := 1) (oi := ⟨_, _, _, _, _, _⟩) rfl (by kernel_rfl) (by kernel_rfl) (by kernel_rfl) (fun _ _ _ h => h) (yieldsIf_load_mid (by rfl) _ _ rfl w.heap.size 0 rfl (cur.map byt) _ HLW.out Tryz.underlying24 rfl (szD' HCL.out)) (by assumption) ?_
      try simp only [Act.put, List.setIfInBounds_toArray, List.set_cons_zero, List.set_cons_succ]
      refine wpAnyH_ready (rs := [2]) (by kernel_rfl) (by simp) ?_
      refine AllReadyH.cons (o := ⟨_, _, _, _, _, _⟩) rfl (fun K hK => ?_) AllReadyH.nil
      go_simp
      refine hK.out _ _ (by exact .inl rfl) (fun hHeld => ?_)
      clear hK
      try simp only [Act.put, List.setIfInBounds_toArray, List.set_cons_zero, List.set_cons_succ]
      refine wpAnyH_ready (rs := [3]) (by kernel_rfl) (by simp) ?_
      refine AllReadyH.cons (o := ⟨_, _, _, _, _, _⟩) rfl (fun K hK => ?_) AllReadyH.nil
      rw [if_pos (by rfl)]
      refine wp_store_blk _ _ _ rfl (w.heap.size + 1) (cur.map byt) _ rfl rfl H9.out.drew (szD' HCL.out) (by simp [HCL.out]) HCO.out ?_
      refine hK.out _ _ (.inr rfl) (fun hHeld => ?_)
      clear hK
      refine wpAnyH_ready (rs := [4]) (by kernel_rfl) (by simp) ?_
      refine AllReadyH.cons (o := ⟨_, _, _, _, _, _⟩) rfl (fun K hK => ?_) AllReadyH.nil
      go_simp
      refine hK.out _ _ (by exact .inr rfl) (fun hHeld => ?_)
      clear hK
      try simp only [Act.put, List.setIfInBounds_toArray, List.set_cons_zero, List.set_cons_succ]
      refine wpAnyH_done (by kernel_rfl) ?_ _
      go_wp2
      have HX := HCUR.out
      have HY := HUPL.out
      rw [HSS.out]
      refine bodyPost_ret (results_tct Tryz.results49 _ _ (w.heap.size + 1) 24 _ _ rfl HRB.out Tryz.underlying24 rfl (szD' HCL.out)) rfl ⟨_, by rw [HX]; rfl, by rw [HY]; exact HOF.out, HBF.out⟩
end Go.Proofs.YtmenchnjajpkmaaGreatDoor.MkW
end
