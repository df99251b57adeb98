/- Walks of the program's Track: New, Add, Get, Best, Len, Depth. Conditions: a track as it is; the tables are laid. -/
import Derived.Test.YtmenchnjajpkmaaGreatDoorPrvf
import Derived.Test.YtmenchnjajpkmaaGreatDoorPrvi
import Derived.DeepKeys4
import Derived.Deep.RegionHeld3
import Derived.WalkMore
import Derived.ScopeJumps
import Derived.ChangeKeysEq
section
namespace Go.Proofs.YtmenchnjajpkmaaGreatDoor.Tk
open Go Go.RowKit Mem Codec Mh Maps Ops Wh Ww ShaW Arr
open Go.Maps (Keyed)
set_option linter.unusedVariables false

theorem laidOut : laidOutB Tryz.prog = true := by kernel_rfl
theorem keyed : Keyed Tryz.prog 24 := Keyed.of_law (deep_law_laid laidOut (m := 2) (by omega) (of_decide_eq_true (by kernel_rfl)) (by kernel_rfl) (by kernel_rfl))
theorem keyD (d : Dg) (hd : d.length = 32) : ∃ kl, keyOf Tryz.prog 24 (dv d) = some kl := keyOf_bytes Tryz.underlying24 Tryz.underlying5 (by kernel_rfl) (by kernel_rfl) (by kernel_rfl) (of_decide_eq_true (by kernel_rfl)) d hd
def zeroH : Hd := ⟨List.replicate 32 0, List.replicate 32 0, 0, 0⟩
theorem zeroH_len : zeroH.cells.length = 66 := by simp [Hd.cells, zeroH]
theorem szz : (Tryz.prog.info? 41).map (·.size) = some 66 := by kernel_rfl
theorem zeroV (w : World) : (zeroValue 41).run Tryz.prog w = .ok (hv zeroH) w := by kernel_rfl
theorem zeroD (w : World) : (zeroValue 24).run Tryz.prog w = .ok (dv (List.replicate 32 0)) w := by kernel_rfl
theorem map_byt_inj : ∀ {d e : Dg}, d.map byt = e.map byt → d = e
  | [], [], _ => rfl
  | [], _ :: _, h => by cases h
  | _ :: _, [], h => by cases h
  | x :: d, y :: e, h => by
    simp only [List.map_cons, List.cons.injEq, Value.int.injEq, true_and] at h
    rw [map_byt_inj h.2, show x = y from UInt8.toNat_inj.1 (by omega)]
theorem dv_inj {d e : Dg} (h : dv d = dv e) : d = e := map_byt_inj (by simpa using h)
def pairs (hs : List Hd) : List (Value × Value) := hs.map fun h => (dv (mainId h), hv h)
theorem at_known {hs : List Hd} {k : Nat} {g : Hd} (hg : hs[k]? = some g) : AtKey (pairs hs) (dv (mainId g)) (some (hv g)) :=
  .inr ⟨_, rfl, List.mem_map.2 ⟨g, List.mem_of_getElem? hg, rfl⟩⟩
theorem not_known {hs : List Hd} {id : Dg} (h : Mh.find hs id = none) : ∀ p ∈ pairs hs, p.1 ≠ dv id := by
  intro p hp e
  obtain ⟨g, hg, rfl⟩ := List.mem_map.1 hp
  exact find_none h g hg (dv_inj e)
theorem at_none {hs : List Hd} {id : Dg} (h : Mh.find hs id = none) : AtKey (pairs hs) (dv id) none := .inl ⟨rfl, not_known h⟩
theorem pairs_snoc (hs : List Hd) (h : Hd) : pairs (hs ++ [h]) = pairs hs ++ [(dv (mainId h), hv h)] := by simp [pairs]
/-- the cells of a track -/
def tkC (b : Nat) (f g : Dg) : List Value := .map (some b) :: (f.map byt ++ g.map byt)
/-- the program's track at block t, its map at block b -/
def TrkIs (w : World) (t b : Nat) (hs : List Hd) : Prop :=
  ∃ f g, hs[0]? = some f ∧ hs[best hs]? = some g ∧ Blk w t (tkC b (mainId f) (mainId g)) 82 ∧ MapIs Tryz.prog 24 w b (pairs hs) ∧ t ≠ b
theorem TrkIs.fr {S : Nat → Prop} {w w' : World} {t b : Nat} {hs : List Hd} (h : TrkIs w t b hs) (hf : Fr S w w') (h1 : ¬ S t) (h2 : ¬ S b) : TrkIs w' t b hs := by
  obtain ⟨f, g, e1, e2, e3, e4, e5⟩ := h
  exact ⟨f, g, e1, e2, e3.fr hf h1, e4.fr hf h2, e5⟩
theorem TrkIs.lt {w : World} {t b : Nat} {hs : List Hd} (h : TrkIs w t b hs) : t < w.heap.size ∧ b < w.heap.size := by
  obtain ⟨f, g, e1, e2, e3, e4, e5⟩ := h
  exact ⟨e3.lt, e4.lt⟩
theorem TrkIs.below {w w' : World} {t b : Nat} {hs : List Hd} (h : TrkIs w t b hs) (hb : Below w.heap.size w w') : TrkIs w' t b hs := h.fr (Fr.ofBelow hb) (by have := h.lt; omega) (by have := h.lt; omega)
theorem TrkIs.drew {w : World} {t b : Nat} {hs : List Hd} (h : TrkIs w t b hs) : TrkIs w.drew t b hs := h
theorem szT {b : Nat} {f g : Dg} (hf : f.length = 32) (hg : g.length = 32) : (Tryz.prog.info? 82).map (·.size) = some (tkC b f g).length := by
  rw [show (tkC b f g).length = 65 by simp [tkC, hf, hg]]; kernel_rfl
theorem one_dig (d : Dg) : ∀ v ∈ d.map byt, v.oneCell' = true := fun v hv => by obtain ⟨_, _, rfl⟩ := List.mem_map.1 hv; rfl
theorem first_range {w : World} {t b : Nat} {f g : Dg} (hf : f.length = 32) (h : Blk w t (tkC b f g) 82) : w.rangeAt t 1 (f.map byt) := blk_part h [.map (some b)] _ (g.map byt) (by simp [tkC]) 1 rfl
theorem best_range {w : World} {t b : Nat} {f g : Dg} (hf : f.length = 32) (h : Blk w t (tkC b f g) 82) : w.rangeAt t 33 (g.map byt) := blk_part h (.map (some b) :: f.map byt) _ [] (by simp [tkC]) 33 (by simp [hf])
set_option maxRecDepth 100000 in
theorem structT : StructT Tryz.prog 82 [1, 32, 32] := ⟨_, _, _, rfl, Tryz.underlying82, rfl, by kernel_rfl, by kernel_rfl⟩
/-- a new track is handed back -/
def NewT (w : World) (h : Hd) (e : Ending) (w' : World) : Prop := ∃ t b, e = .returned (.pointer (some ⟨t, 0, none⟩)) ∧ w.heap.size ≤ t ∧ w.heap.size ≤ b ∧ TrkIs w' t b [h] ∧ Below w.heap.size w w'

set_option maxHeartbeats 8000000 in
set_option maxRecDepth 100000 in
theorem new_calls (w : World) (h : Hd) (ok : h.Ok) (hT : TabB w 1) :
    Calls Tryz.prog 35 #[hv h] w (NewT w h) := by
  obtain ⟨cs, hcs⟩ : ∃ cs, h.cells.toArray = cs := ⟨_, rfl⟩
  show Calls _ _ #[.agg h.cells.toArray] _ _
  obtain ⟨w1, hw1⟩ : ∃ w1, w.alloc (.cells cs 41) = w1 := ⟨_, rfl⟩
  have HB := Lib.hid (show Blk w1 w.heap.size h.cells 41 from by rw [← hw1]; exact Blk.new w _ _ _ hcs.symm)
  have B1 := Lib.hid (show Below w.heap.size w w1 from by rw [← hw1]; exact (Below.refl _ _).alloc (Nat.le_refl _) _)
  have hz : w.heap.size + 1 = w1.heap.size := by rw [← hw1]; simp
  have HT := Lib.hid (hT.below B1.out)
  have HZ := Lib.hid (szH ok)
  rw [hcs]
  have HC := Lib.hid hcs
  clear hcs hT
  go_enter Tryz.func35, Tryz.ntmps35
  go_upto_region 1 with fail
  clear hw1
  go_wp2_with (first | (with_reducible refine wpList_load_blk rfl _ _ rfl w.heap.size h.cells rfl HB.out _ Tryz.underlying41 rfl HZ.out ?_))
  rw [← HC.out]
  refine (mainId_calls w1 h ok HT.out).mono ?_
  rintro e w2 ⟨rfl, g2⟩
  have HB2 := Lib.hid (HB.out.below g2)
  have B2 := Lib.hid (B1.out.trans (g2.mono (by omega)))
  have hs2 := g2.size
  have HML := Lib.hid (mainId_length h)
  have HONE := Lib.hid (one_dig (mainId h))
  obtain ⟨m, hm⟩ : ∃ m, mainId h = m := ⟨_, rfl⟩
  rw [hm] at HML HONE ⊢
  have HM := Lib.hid hm
  clear g2 HB B1 hm
  obtain ⟨w4, hw4, N4, NB4, ns4⟩ := start32 w2
  have hb5 : Below w2.heap.size w2 (w4.setRow w2.heap.size (m.map byt).toArray) := below_setRow NB4.out (Nat.le_refl _) _
  have N5 := Lib.hid (N4.out.row (m.map byt))
  have HB5 := Lib.hid (HB2.out.below hb5)
  have B5 := Lib.hid (B2.out.trans (hb5.mono (by omega)))
  obtain ⟨w5, hw5⟩ : ∃ x, w4.setRow w2.heap.size (m.map byt).toArray = x := ⟨_, rfl⟩
  rw [hw5] at N5 HB5 B5
  clear hb5
  go_upto_region 2 with (first
    | (with_reducible refine wpList_store_blk rfl _ _ _ rfl w2.heap.size (m.map byt) _ rfl _ rfl rfl N4.out (szD HML.out) (by simp [HML.out]) HONE.out ?_; rw [hw5]))
  clear hw4 hw5 N4 NB4 ns4 HB2 B2
  have hg3 : w.heap.size < w2.heap.size := by omega
  generalize w2.heap.size = g3 at *
  refine wp_region_held_drew (S := (fun w' => Blk w' g3 (m.map byt) 24 ∧ Blk w' w.heap.size h.cells 41 ∧ Below w.heap.size w w')) (by kernel_rfl) ⟨N5.out, HB5.out, below_drew B5.out⟩ (fun hHeld => ?_)
  refine wpAnyH_take (i := 1) (oi := ⟨_, _, _, _, _, _⟩) rfl (by kernel_rfl) (by kernel_rfl) (by kernel_rfl) (fun _ _ _ h => h) (yieldsIf_load_mid (by rfl) _ _ rfl g3 0 rfl (m.map byt) _ (fun _ h => blk_range h.1) Tryz.underlying24 rfl (szD HML.out)) (by assumption) ?_
  try simp only [Act.put, List.setIfInBounds_toArray, List.set_cons_zero, List.set_cons_succ]
  refine wpAnyH_take (i := 2) (oi := ⟨_, _, _, _, _, _⟩) rfl (by kernel_rfl) (by kernel_rfl) (by kernel_rfl) (fun _ _ _ h => h) (yieldsIf_load_mid (by rfl) _ _ rfl w.heap.size 0 rfl h.cells _ (fun _ h => blk_range h.2.1) Tryz.underlying41 rfl HZ.out) (by assumption) ?_
  try simp only [Act.put, List.setIfInBounds_toArray, List.set_cons_zero, List.set_cons_succ]
  refine wpAnyH_take (i := 5) (oi := ⟨_, _, _, _, _, _⟩) rfl (by kernel_rfl) (by kernel_rfl) (by kernel_rfl) (fun _ _ _ h => h) (yieldsIf_load_mid (by rfl) _ _ rfl g3 0 rfl (m.map byt) _ (fun _ h => blk_range h.1) Tryz.underlying24 rfl (szD HML.out)) (by assumption) ?_
  try simp only [Act.put, List.setIfInBounds_toArray, List.set_cons_zero, List.set_cons_succ]
  refine wpAnyH_take (i := 6) (oi := ⟨_, _, _, _, _, _⟩) rfl (by kernel_rfl) (by kernel_rfl) (by kernel_rfl) (fun _ _ _ h => h) (yieldsIf_load_mid (by rfl) _ _ rfl g3 0 rfl (m.map byt) _ (fun _ h => blk_range h.1) Tryz.underlying24 rfl (szD HML.out)) (by assumption) ?_
  try simp only [Act.put, List.setIfInBounds_toArray, List.set_cons_zero, List.set_cons_succ]
  refine wpAnyH_ready (rs := [0]) (by kernel_rfl) (by simp) ?_
  refine AllReadyH.cons (o := ⟨_, _, _, _, _, _⟩) rfl (fun K hK => ?_) AllReadyH.nil
  have l1 := hHeld.1.lt
  have l2 := hHeld.2.1.lt
  have l3 := hHeld.2.2.size
  rw [if_pos (by rfl)]
  refine wp_makeMap (P := Tryz.prog) (k := 24) _ rfl (fun w7 m1 b7 z7 => ?_)
  refine hK.out _ _ (by exact ⟨hHeld.1.below b7, hHeld.2.1.below b7, hHeld.2.2.trans (b7.mono hHeld.2.2.size)⟩) (fun hHeld => ?_)
  generalize w5.drew.heap.size = g6 at *
  have M1 := Lib.hid m1
  have B7 := Lib.hid b7
  clear m1 b7
  clear hK
  refine wpAnyH_ready (rs := [3]) (by kernel_rfl) (by simp) ?_
  refine AllReadyH.cons (o := ⟨_, _, _, _, _, _⟩) rfl (fun K hK => ?_) AllReadyH.nil
  rw [if_pos (by rfl)]
  obtain ⟨kl, hkl⟩ := keyD m HML.out
  refine wp_lay _ _ _ _ (.inr rfl) 41 keyed Tryz.underlying80 rfl M1.out _ _ kl rfl rfl hkl (by simp) (fun w8 m2 f8 => ?_)
  refine hK.out _ _ (by exact ⟨hHeld.1.fr f8 (by omega), hHeld.2.1.fr f8 (by omega), hHeld.2.2.trans (f8.below (by omega) (fun k hk => by omega))⟩) (fun hHeld => ?_)
  have M2 := Lib.hid m2
  have F8 := Lib.hid f8
  clear m2 f8 M1 hkl
  clear hK
  refine wpAnyH_take (i := 4) (oi := ⟨_, _, _, _, _, _⟩) (v := ?_) rfl (by kernel_rfl) (by kernel_rfl) (by kernel_rfl) (fun _ _ _ h => h) (Or.inl ⟨by rfl, ?_⟩) (by assumption) ?_
  rotate_left
  · intro w hSw; go_simp; try (with_reducible rfl)
  try simp only [Act.put, List.setIfInBounds_toArray, List.set_cons_zero, List.set_cons_succ]
  refine wpAnyH_take (i := 7) (oi := ⟨_, _, _, _, _, _⟩) rfl (by kernel_rfl) (by kernel_rfl) (by kernel_rfl) (fun _ _ _ h => h) (yieldsIf_build (by rfl) structT [(0, _), (1, _), (2, _)] rfl [.map (some g6), dv m, dv m] rfl (by simp [Value.cells, HML.out]) (tkC g6 m m).toArray (by simp [Value.cells, tkC])) (by assumption) ?_
  try simp only [Act.put, List.setIfInBounds_toArray, List.set_cons_zero, List.set_cons_succ]
  refine wpAnyH_ready (rs := [8]) (by kernel_rfl) (by simp) ?_
  refine AllReadyH.cons (o := ⟨_, _, _, _, _, _⟩) rfl (fun K hK => ?_) AllReadyH.nil
  rw [if_pos (by rfl)]
  refine wp_box _ _ rfl (tkC g6 m m) rfl (fun w9 k9 b9 z9 => ?_)
  refine hK.out _ _ (by exact ⟨hHeld.1.below b9, hHeld.2.1.below b9, hHeld.2.2.trans (b9.mono hHeld.2.2.size)⟩) (fun hHeld => ?_)
  have K9 := Lib.hid k9
  have M9 := Lib.hid (M2.out.below b9)
  have hne : g6 < w8.heap.size := M2.out.lt
  clear k9 b9 M2
  clear hK
  refine wpAnyH_take (i := 9) (oi := ⟨_, _, _, _, _, _⟩) (v := ?_) rfl (by kernel_rfl) (by kernel_rfl) (by kernel_rfl) (fun _ _ _ h => h) (Or.inl ⟨by rfl, ?_⟩) (by assumption) ?_
  rotate_left
  · intro w hSw; go_simp; try (with_reducible rfl)
  try simp only [Act.put, List.setIfInBounds_toArray, List.set_cons_zero, List.set_cons_succ]
  refine wpAnyH_done (by kernel_rfl) ?_ _
  go_wp2
  go_ret
  refine ⟨w8.heap.size, g6, rfl, by have := hHeld.2.2.size; omega, by omega, ⟨h, h, rfl, by simp [best, bestN], ?_, ?_, by omega⟩, hHeld.2.2⟩
  · rw [HM.out]; exact K9.out
  · rw [show pairs [h] = [] ++ [(dv m, hv h)] by rw [← HM.out]; rfl]; exact M9.out

/-- the header of an id, if it is known -/
def look (hs : List Hd) (id : Dg) : Option Hd := (Mh.find hs id).bind (hs[·]?)
theorem at_look (hs : List Hd) (id : Dg) : AtKey (pairs hs) (dv id) ((look hs id).map hv) := by
  unfold look
  cases h : Mh.find hs id with
  | none => exact at_none h
  | some k =>
    obtain ⟨g, hg, hi, _⟩ := find_some h
    simp only [Option.bind_some, hg, Option.map_some]
    rw [← hi]
    exact at_known hg
theorem look_ok {hs : List Hd} (T : Trk hs) (id : Dg) : ((look hs id).getD zeroH).Ok := by
  unfold look
  cases h : Mh.find hs id with
  | none => simp [zeroH, Hd.Ok]
  | some k =>
    obtain ⟨g, hg, hi, _⟩ := find_some h
    simp only [Option.bind_some, hg, Option.getD_some]
    exact T.ok g (List.mem_of_getElem? hg)
theorem look_cases (hs : List Hd) (id : Dg) : (Mh.find hs id = none ∧ look hs id = none) ∨ ∃ (k : Nat) (h : Hd), Mh.find hs id = some k ∧ hs[k]? = some h ∧ mainId h = id ∧ look hs id = some h := by
  unfold look
  cases h : Mh.find hs id with
  | none => exact .inl ⟨rfl, rfl⟩
  | some k =>
    obtain ⟨g, hg, hi, _⟩ := find_some h
    exact .inr ⟨k, g, rfl, hg, hi, by simpa using hg⟩
theorem look_val (r : Option Hd) : (r.map hv).getD (hv zeroH) = hv (r.getD zeroH) := by cases r <;> rfl
theorem look_tup (r : Option Hd) : (if true = true then Value.tuple #[(r.map hv).getD (hv zeroH), .bool (r.map hv).isSome] else (r.map hv).getD (hv zeroH)) = .tuple #[hv (r.getD zeroH), .bool r.isSome] := by cases r <;> rfl
theorem look_one (r : Option Hd) : (if false = true then Value.tuple #[(r.map hv).getD (hv zeroH), .bool (r.map hv).isSome] else (r.map hv).getD (hv zeroH)) = hv (r.getD zeroH) := by cases r <;> rfl

/-- the id of the best one -/
def bestId (hs : List Hd) : Dg := mainId ((hs[best hs]?).getD zeroH)
theorem bestId_length (hs : List Hd) : (bestId hs).length = 32 := mainId_length _
set_option maxHeartbeats 8000000 in
set_option maxRecDepth 100000 in
theorem best_calls (w : World) (t b : Nat) (hs : List Hd) (H : TrkIs w t b hs) :
    Calls Tryz.prog 20 #[.pointer (some ⟨t, 0, none⟩)] w fun e w' => e = .returned (dv (bestId hs)) ∧ Below w.heap.size w w' := by
  obtain ⟨f0', g0', e1, e2, k0, m0, hne⟩ := _root_.id H
  have HF0 := Lib.hid (mainId_length f0')
  have HG0 := Lib.hid (mainId_length g0')
  obtain ⟨f0, hf0⟩ : ∃ x, mainId f0' = x := ⟨_, rfl⟩
  obtain ⟨g0, hg0⟩ : ∃ x, mainId g0' = x := ⟨_, rfl⟩
  rw [hf0, hg0] at k0
  rw [hf0] at HF0
  rw [hg0] at HG0
  have lt0 := k0.lt
  have mt0 := m0.lt
  have K0 := Lib.hid k0
  have M0 := Lib.hid m0
  have E1 := Lib.hid e1
  have E2 := Lib.hid e2
  have HFE := Lib.hid hf0
  have HGE := Lib.hid hg0
  have HID := Lib.hid (show bestId hs = g0 by unfold bestId; rw [e2]; exact hg0)
  clear e1 e2 hf0 hg0 k0 m0 H
  rw [HID.out]
  go_enter Tryz.func20, Tryz.ntmps20
  go_upto_region 1 with (first
    | (with_reducible refine wpList_alloc rfl _ rfl _ (zeroD _) (fun w1 k1 b1 z1 => ?_); have K1 := Lib.hid k1; have B1 := Lib.hid b1; clear k1 b1))
  have KK := Lib.hid (K0.out.below B1.out)
  go_wp2_with (first
    | (with_reducible refine wpList_load_mid rfl _ _ rfl t 33 rfl (g0.map byt) _ (best_range HF0.out KK.out) Tryz.underlying24 rfl (szD HG0.out) ?_)
    | (with_reducible refine wpList_put rfl _ _ _ rfl w.heap.size (g0.map byt) _ rfl rfl K1.out (szD HG0.out) (by simp [HG0.out]) (one_dig g0) (fun wc kc fc zc => ?_); have KC := Lib.hid kc; have BC := Lib.hid (B1.out.trans (fc.below (by omega) (fun k hk => by omega))); clear kc fc))
  exact bodyPost_ret (v := dv g0) (results_row1 Tryz.results20 _ _ w.heap.size (g0.map byt) _ rfl KC.out Tryz.underlying24 rfl (szD HG0.out)) rfl ⟨rfl, BC.out⟩
theorem len_calls (w : World) (t b : Nat) (hs : List Hd) (H : TrkIs w t b hs) :
    Calls Tryz.prog 24 #[.pointer (some ⟨t, 0, none⟩)] w fun e w' => e = .returned (.int .i64 (hs.length : Int)) ∧ w = w' := by
  obtain ⟨f0', g0', e1, e2, k0, m0, hne⟩ := _root_.id H
  have HF0 := Lib.hid (mainId_length f0')
  have HG0 := Lib.hid (mainId_length g0')
  obtain ⟨f0, hf0⟩ : ∃ x, mainId f0' = x := ⟨_, rfl⟩
  obtain ⟨g0, hg0⟩ : ∃ x, mainId g0' = x := ⟨_, rfl⟩
  rw [hf0, hg0] at k0
  rw [hf0] at HF0
  rw [hg0] at HG0
  have lt0 := k0.lt
  have mt0 := m0.lt
  have K0 := Lib.hid k0
  have M0 := Lib.hid m0
  have E1 := Lib.hid e1
  have E2 := Lib.hid e2
  have HFE := Lib.hid hf0
  have HGE := Lib.hid hg0
  have c0 : w.cell? ⟨t, 0, none⟩ = some (.map (some b)) := k0.cell (i := 0) rfl
  have hlen := Lib.hid (show (pairs hs).length = hs.length by simp [pairs])
  clear e1 e2 hf0 hg0 k0 m0 H
  go_enter Tryz.func24, Tryz.ntmps24
  go_wp2_with (first
    | (with_reducible refine wpList_maplen rfl _ _ rfl _ Tryz.underlying80 rfl M0.out ?_))
  go_ret
  exact ⟨by rw [hlen.out]; rfl, rfl⟩

/-- the slots at the label -/
def DepthJ (w : World) (t b : Nat) (f0 g0 id over : Dg) (hs : List Hd) (d0 : Option Nat) (gov gh : Nat) (a' : Act) (w' : World) : Prop :=
  ∃ (n k : Nat) (h : Hd) (u10 u11 u12 u13 u14 u15 u16 u17 u18 u19 u20 u21 u22 u23 u24 u25 u26 u27 u28 u29 u30 u31 u32 u33 u34 u35 u36 u37 u38 u39 u40 u41 : Value), hs[k]? = some h ∧ d0 = (dep hs id (k + 1) k).map (n + ·) ∧ n + k ≤ hs.length ∧
    a' = { tmps := (.pointer (some ⟨t, 0, none⟩) :: dv id :: dv over :: undef :: .pointer (some ⟨w.heap.size, 0, none⟩) :: .pointer (some ⟨gov, 0, none⟩) :: .int .u64 0 :: .bool false :: .int .u64 (n : Int) :: .pointer (some ⟨gh, 0, none⟩) :: u10 :: u11 :: u12 :: u13 :: u14 :: u15 :: u16 :: u17 :: u18 :: u19 :: u20 :: u21 :: u22 :: u23 :: u24 :: u25 :: u26 :: u27 :: u28 :: u29 :: u30 :: u31 :: u32 :: u33 :: u34 :: u35 :: u36 :: u37 :: u38 :: u39 :: u40 :: u41 :: []).toArray, defers := [] } ∧
    Blk w' t (tkC b f0 g0) 82 ∧ MapIs Tryz.prog 24 w' b (pairs hs) ∧ Blk w' w.heap.size (id.map byt) 24 ∧ Blk w' gov ((mainId h).map byt) 24 ∧ Blk w' gh h.cells 41 ∧ Below w.heap.size w w'
def DepthM (a' : Act) (w' : World) : Nat := 4611686018427387904 - (intOf (a'.tmps.getD 8 undef)).toNat
set_option maxHeartbeats 8000000 in
set_option maxRecDepth 100000 in
theorem depth_calls (w : World) (t b : Nat) (hs : List Hd) (T : Trk hs) (hn : hs.length ≤ 4611686018427387904) (id over : Dg) (hid : id.length = 32) (hov : over.length = 32) (H : TrkIs w t b hs) :
    Calls Tryz.prog 25 #[.pointer (some ⟨t, 0, none⟩), dv id, dv over] w fun e w' => e = .returned (.tuple #[.int .u64 (((depth hs id over).getD 0 : Nat) : Int), .bool (depth hs id over).isSome]) ∧ Below w.heap.size w w' := by
  obtain ⟨kl, hkl⟩ := keyD over hov
  have HKL := Lib.hid hkl
  have HAT := Lib.hid (at_look hs over)
  have HRES := Lib.hid (look_tup (look hs over))
  have OKG := Lib.hid (look_ok T over)
  obtain ⟨g, hg⟩ : ∃ g, (look hs over).getD zeroH = g := ⟨_, rfl⟩
  obtain ⟨is, his⟩ : ∃ is, (look hs over).isSome = is := ⟨_, rfl⟩
  have HG := Lib.hid hg
  have HIS := Lib.hid his
  rw [hg, his] at HRES
  rw [hg] at OKG
  have ok_len := Lib.hid OKG.out.len
  have HIL := Lib.hid hid
  have HOL := Lib.hid hov
  obtain ⟨d0, hd0⟩ : ∃ d, depth hs id over = d := ⟨_, rfl⟩
  rw [hd0]
  have HD0 := Lib.hid hd0
  have HT := Lib.hid T
  obtain ⟨f0', g0', e1, e2, k0, m0, hne⟩ := _root_.id H
  have HF0 := Lib.hid (mainId_length f0')
  have HG0 := Lib.hid (mainId_length g0')
  obtain ⟨f0, hf0⟩ : ∃ x, mainId f0' = x := ⟨_, rfl⟩
  obtain ⟨g0, hg0⟩ : ∃ x, mainId g0' = x := ⟨_, rfl⟩
  rw [hf0, hg0] at k0
  rw [hf0] at HF0
  rw [hg0] at HG0
  have lt0 := k0.lt
  have mt0 := m0.lt
  have K0 := Lib.hid k0
  have M0 := Lib.hid m0
  have E1 := Lib.hid e1
  have E2 := Lib.hid e2
  have HFE := Lib.hid hf0
  have HGE := Lib.hid hg0
  clear hkl hid hov e1 e2 hf0 hg0 k0 m0 hg his T hd0 H
  obtain ⟨w1, hw1⟩ : ∃ x, w.alloc (.cells (id.map byt).toArray 24) = x := ⟨_, rfl⟩
  obtain ⟨w2, hw2⟩ : ∃ x, w1.alloc (.cells (over.map byt).toArray 24) = x := ⟨_, rfl⟩
  have K1 := Lib.hid (show Blk w1 w.heap.size (id.map byt) 24 from by rw [← hw1]; exact Blk.new w _ _ _ rfl)
  have K2 := Lib.hid (show Blk w2 w1.heap.size (over.map byt) 24 from by rw [← hw2]; exact Blk.new w1 _ _ _ rfl)
  have B1 := Lib.hid (show Below w.heap.size w w1 from by rw [← hw1]; exact below_alloc _ _)
  have B2 := Lib.hid (show Below w1.heap.size w1 w2 from by rw [← hw2]; exact below_alloc _ _)
  have z1 : w.heap.size + 1 = w1.heap.size := by rw [← hw1]; simp
  have z2 : w1.heap.size + 1 = w2.heap.size := by rw [← hw2]; simp
  have kk0 := Lib.hid ((K0.out.below B1.out).below B2.out)
  have mm0 := Lib.hid ((M0.out.below B1.out).below B2.out)
  have ii0 := Lib.hid (K1.out.below B2.out)
  have BB := Lib.hid (B1.out.trans (B2.out.mono (by omega)))
  clear K0 M0 K1 B1 B2
  go_enter Tryz.func25, Tryz.ntmps25
  go_wp2
  clear hw1 hw2
  have hg1 : w.heap.size < w1.heap.size := by omega
  have hge : w.heap.size ≤ w1.heap.size := by omega
  generalize w1.heap.size = gov at *
  obtain ⟨gh, hgh⟩ : ∃ gh, w2.heap.size = gh := ⟨_, rfl⟩
  have hgh1 : gov < gh := by omega
  have HGH := Lib.hid hgh
  clear hgh
  refine wp_scope_jumps 0 (DepthJ w t b f0 g0 id over hs d0 gov gh) DepthM rfl ?_ ?_
  · go_wp2
    refine wp_region_held_drew (S := (fun w' => Blk w' t (tkC b f0 g0) 82 ∧ MapIs Tryz.prog 24 w' b (pairs hs) ∧ Blk w' w.heap.size (id.map byt) 24 ∧ Blk w' gov (over.map byt) 24 ∧ Below w.heap.size w w')) (by kernel_rfl) ⟨kk0.out.drew, mm0.out.drew, ii0.out.drew, K2.out.drew, below_drew BB.out⟩ (fun hHeld => ?_)
    refine wpAnyH_take (i := 0) (oi := ⟨_, _, _, _, _, _⟩) (v := ?_) rfl (by kernel_rfl) (by kernel_rfl) (by kernel_rfl) (fun _ _ _ h => h) (Or.inl ⟨by rfl, ?_⟩) (by assumption) ?_
    rotate_left
    · intro w hSw; go_simp; try (with_reducible rfl)
    try simp only [Act.put, List.setIfInBounds_toArray, List.set_cons_zero, List.set_cons_succ]
    refine wpAnyH_take (i := 1) (oi := ⟨_, _, _, _, _, _⟩) (v := ?_) rfl (by kernel_rfl) (by kernel_rfl) (by kernel_rfl) (fun _ _ _ h => h) (Or.inl ⟨by rfl, ?_⟩) (by assumption) ?_
    rotate_left
    · intro w hSw; go_simp; try (with_reducible rfl)
    try simp only [Act.put, List.setIfInBounds_toArray, List.set_cons_zero, List.set_cons_succ]
    refine wpAnyH_take (i := 2) (oi := ⟨_, _, _, _, _, _⟩) (v := ?_) rfl (by kernel_rfl) (by kernel_rfl) (by kernel_rfl) (fun _ _ _ h => h) (Or.inl ⟨by rfl, ?_⟩) (by assumption) ?_
    rotate_left
    · intro w hSw; go_simp; try (with_reducible rfl)
    try simp only [Act.put, List.setIfInBounds_toArray, List.set_cons_zero, List.set_cons_succ]
    refine wpAnyH_take (i := 3) (oi := ⟨_, _, _, _, _, _⟩) (v := .map (some b)) rfl (by kernel_rfl) (by kernel_rfl) (by kernel_rfl) (fun _ _ _ h => h) (Or.inl ⟨by rfl, fun w hSw => (by have c := hSw.1.cell (i := 0) rfl; go_simp; try (with_reducible rfl))⟩) (by assumption) ?_
    try simp only [Act.put, List.setIfInBounds_toArray, List.set_cons_zero, List.set_cons_succ]
    refine wpAnyH_take (i := 4) (oi := ⟨_, _, _, _, _, _⟩) rfl (by kernel_rfl) (by kernel_rfl) (by kernel_rfl) (fun _ _ _ h => h) (yieldsIf_load_mid (by rfl) _ _ rfl gov 0 rfl (over.map byt) _ (fun _ h => blk_range h.2.2.2.1) Tryz.underlying24 rfl (szD HOL.out)) (by assumption) ?_
    try simp only [Act.put, List.setIfInBounds_toArray, List.set_cons_zero, List.set_cons_succ]
    refine wpAnyH_take (i := 5) (oi := ⟨_, _, _, _, _, _⟩) rfl (by kernel_rfl) (by kernel_rfl) (by kernel_rfl) (fun _ _ _ h => h) (yieldsIf_look (by rfl) _ _ _ true rfl 41 keyed Tryz.underlying80 zeroV rfl (fun _ h => h.2.1) (dv over) kl rfl HKL.out _ HAT.out (.tuple #[hv g, .bool is]) HRES.out) (by assumption) ?_
    try simp only [Act.put, List.setIfInBounds_toArray, List.set_cons_zero, List.set_cons_succ]
    refine wpAnyH_take (i := 6) (oi := ⟨_, _, _, _, _, _⟩) (v := ?_) rfl (by kernel_rfl) (by kernel_rfl) (by kernel_rfl) (fun _ _ _ h => h) (Or.inl ⟨by rfl, ?_⟩) (by assumption) ?_
    rotate_left
    · intro w hSw; go_simp; try (with_reducible rfl)
    try simp only [Act.put, List.setIfInBounds_toArray, List.set_cons_zero, List.set_cons_succ]
    refine wpAnyH_take (i := 7) (oi := ⟨_, _, _, _, _, _⟩) (v := ?_) rfl (by kernel_rfl) (by kernel_rfl) (by kernel_rfl) (fun _ _ _ h => h) (Or.inl ⟨by rfl, ?_⟩) (by assumption) ?_
    rotate_left
    · intro w hSw; go_simp; try (with_reducible rfl)
    try simp only [Act.put, List.setIfInBounds_toArray, List.set_cons_zero, List.set_cons_succ]
    refine wpAnyH_take (i := 8) (oi := ⟨_, _, _, _, _, _⟩) (v := ?_) rfl (by kernel_rfl) (by kernel_rfl) (by kernel_rfl) (fun _ _ _ h => h) (Or.inl ⟨by rfl, ?_⟩) (by assumption) ?_
    rotate_left
    · intro w hSw; go_simp; try (with_reducible rfl)
    try simp only [Act.put, List.setIfInBounds_toArray, List.set_cons_zero, List.set_cons_succ]
    refine wpAnyH_ready (rs := [9]) (by kernel_rfl) (by simp) ?_
    refine AllReadyH.cons (o := ⟨_, _, _, _, _, _⟩) rfl (fun K hK => ?_) AllReadyH.nil
    rw [if_pos (by rfl)]
    have l0 := hHeld.1.lt
    have l2 := hHeld.2.2.1.lt
    have l3 := hHeld.2.2.2.1.lt
    have m1 := hHeld.2.1.lt
    have s4 := hHeld.2.2.2.2.size
    refine wp_alloc _ rfl _ (zeroV _) (fun wa ka ba za => ?_)
    refine hK.out _ _ (by exact ⟨hHeld.1.below ba, hHeld.2.1.below ba, hHeld.2.2.1.below ba, hHeld.2.2.2.1.below ba, hHeld.2.2.2.2.trans (ba.mono hHeld.2.2.2.2.size)⟩) (fun hHeld => ?_)
    have KA := Lib.hid ka
    clear ka
    clear hK
    refine wpAnyH_ready (rs := [10]) (by kernel_rfl) (by simp) ?_
    refine AllReadyH.cons (o := ⟨_, _, _, _, _, _⟩) rfl (fun K hK => ?_) AllReadyH.nil
    rw [if_pos (by rfl)]
    refine wp_put _ _ _ rfl _ g.cells _ rfl rfl KA.out (szH OKG.out) (by rw [zeroH_len, ok_len.out]) g.one (fun wb kb fb zb => ?_)
    refine hK.out _ _ (by exact ⟨hHeld.1.fr fb (by omega), hHeld.2.1.fr fb (by omega), hHeld.2.2.1.fr fb (by omega), hHeld.2.2.2.1.fr fb (by omega), hHeld.2.2.2.2.trans (fb.below (by omega) (fun k hk => by omega))⟩) (fun hHeld => ?_)
    have KB := Lib.hid kb
    clear kb KA
    clear hK
    refine wpAnyH_take (i := 11) (oi := ⟨_, _, _, _, _, _⟩) (v := ?_) rfl (by kernel_rfl) (by kernel_rfl) (by kernel_rfl) (fun _ _ _ h => h) (Or.inl ⟨by rfl, ?_⟩) (by assumption) ?_
    rotate_left
    · intro w hSw; go_simp; try (with_reducible rfl)
    try simp only [Act.put, List.setIfInBounds_toArray, List.set_cons_zero, List.set_cons_succ]
    refine wpAnyH_done (by kernel_rfl) ?_ _
    have e0 : w2.drew.heap.size = gh := HGH.out
    have K9 := Lib.hid (show Blk wb gh g.cells 41 from e0 ▸ KB.out)
    rw [e0]
    clear KB kk0 mm0 ii0 K2
    have HK0 := Lib.hid hHeld
    clear hHeld
    rcases look_cases hs over with ⟨c1, c2⟩ | ⟨k, h, c1, c2, c3, c4⟩
    · obtain rfl : is = false := by rw [← HIS.out, c2]; rfl
      have HR := Lib.hid (show d0 = none by rw [← HD0.out]; unfold depth; rw [c1])
      clear c1 c2
      go_wp2
      try simp only [Exit.jump]
      go_ret2
      exact ⟨by rw [HR.out]; rfl, HK0.out.2.2.2.2⟩
    · obtain rfl : is = true := by rw [← HIS.out, c4]; rfl
      obtain rfl : g = h := by rw [← HG.out, c4]; rfl
      have HDD := Lib.hid (show d0 = (dep hs id (k + 1) k).map (0 + ·) by rw [← HD0.out]; unfold depth; rw [c1]; simp)
      have HK := Lib.hid c2
      have KK := Lib.hid HK0.out.1
      have MM := Lib.hid HK0.out.2.1
      have ID := Lib.hid HK0.out.2.2.1
      have OV := Lib.hid (show Blk wb gov ((mainId g).map byt) 24 from by rw [c3]; exact HK0.out.2.2.2.1)
      have HH := Lib.hid K9.out
      have BB := Lib.hid HK0.out.2.2.2.2
      have hkl : k < hs.length := (List.getElem?_eq_some_iff.1 c2).1
      clear c1 c2 c3 c4 HK0 K9
      go_wp2
      go_step3
      obtain ⟨h, hgh9⟩ : ∃ h, g = h := ⟨_, rfl⟩
      subst hgh9
      obtain ⟨m, hm⟩ : ∃ m, mainId g = m := ⟨_, rfl⟩
      rw [hm] at OV
      have HM := Lib.hid hm
      have HML := Lib.hid (show m.length = 32 by rw [← hm]; exact mainId_length _)
      have OKH := Lib.hid (HT.out.ok g (List.mem_of_getElem? HK.out))
      have HDE := Lib.hid (HT.out.dep_eq id HK.out)
      clear hm
      by_cases heq : m = id
      · have hq : ∀ w, (Op.equalIn 10000 24 (.agg (m.map byt).toArray) (.agg (id.map byt).toArray)).run Tryz.prog w = .ok true w := fun w => by rw [run_equal_u8 Tryz.underlying24 (i := _) rfl (by kernel_rfl) Tryz.underlying5 w m id HML.out HIL.out]; simp [heq]
        have HR := Lib.hid (show d0 = some 0 by rw [HDD.out, HDE.out, if_pos (by rw [HM.out]; exact heq)]; rfl)
        clear heq
        go_wp2_with (first
          | (with_reducible refine wpList_load_blk rfl _ _ rfl gov (m.map byt) rfl OV.out _ Tryz.underlying24 rfl (szD HML.out) ?_)
          | (with_reducible refine wpList_load_blk rfl _ _ rfl w.heap.size (id.map byt) rfl ID.out _ Tryz.underlying24 rfl (szD HIL.out) ?_))
        try simp only [Exit.jump]
        go_ret2
        exact ⟨by rw [HR.out]; rfl, BB.out⟩
      · have hq : ∀ w, (Op.equalIn 10000 24 (.agg (m.map byt).toArray) (.agg (id.map byt).toArray)).run Tryz.prog w = .ok false w := fun w => by rw [run_equal_u8 Tryz.underlying24 (i := _) rfl (by kernel_rfl) Tryz.underlying5 w m id HML.out HIL.out]; simp [heq]
        have HNE := Lib.hid heq
        clear heq
        by_cases hk0 : k = 0
        · have HR := Lib.hid (show d0 = none by rw [HDD.out, HDE.out, if_neg (by rw [HM.out]; exact HNE.out), if_pos hk0]; rfl)
          have HMF := Lib.hid (show m = f0 by rw [← HM.out, ← HFE.out]; have e := HK.out; rw [hk0, E1.out] at e; cases e; rfl)
          have hq2 : ∀ w, (Op.equalIn 10000 24 (.agg (m.map byt).toArray) (.agg (f0.map byt).toArray)).run Tryz.prog w = .ok true w := fun w => by rw [run_equal_u8 Tryz.underlying24 (i := _) rfl (by kernel_rfl) Tryz.underlying5 w m f0 HML.out HF0.out]; simp [HMF.out]
          clear hk0
          go_wp2_with (first
            | (with_reducible refine wpList_load_blk rfl _ _ rfl gov (m.map byt) rfl OV.out _ Tryz.underlying24 rfl (szD HML.out) ?_)
            | (with_reducible refine wpList_load_blk rfl _ _ rfl w.heap.size (id.map byt) rfl ID.out _ Tryz.underlying24 rfl (szD HIL.out) ?_))
          refine wp_region_held_drew (S := (fun w' => Blk w' t (tkC b f0 g0) 82 ∧ MapIs Tryz.prog 24 w' b (pairs hs) ∧ Blk w' w.heap.size (id.map byt) 24 ∧ Blk w' gov (m.map byt) 24 ∧ Blk w' gh g.cells 41 ∧ Below w.heap.size w w')) (by kernel_rfl) ⟨KK.out.drew, MM.out.drew, ID.out.drew, OV.out.drew, HH.out.drew, below_drew BB.out⟩ (fun hHeld => ?_)
          refine wpAnyH_take (i := 0) (oi := ⟨_, _, _, _, _, _⟩) rfl (by kernel_rfl) (by kernel_rfl) (by kernel_rfl) (fun _ _ _ h => h) (yieldsIf_load_mid (by rfl) _ _ rfl gov 0 rfl (m.map byt) _ (fun _ h => blk_range h.2.2.2.1) Tryz.underlying24 rfl (szD HML.out)) (by assumption) ?_
          try simp only [Act.put, List.setIfInBounds_toArray, List.set_cons_zero, List.set_cons_succ]
          refine wpAnyH_take (i := 1) (oi := ⟨_, _, _, _, _, _⟩) (v := ?_) rfl (by kernel_rfl) (by kernel_rfl) (by kernel_rfl) (fun _ _ _ h => h) (Or.inl ⟨by rfl, ?_⟩) (by assumption) ?_
          rotate_left
          · intro w hSw; go_simp; try (with_reducible rfl)
          try simp only [Act.put, List.setIfInBounds_toArray, List.set_cons_zero, List.set_cons_succ]
          refine wpAnyH_take (i := 2) (oi := ⟨_, _, _, _, _, _⟩) (v := ?_) rfl (by kernel_rfl) (by kernel_rfl) (by kernel_rfl) (fun _ _ _ h => h) (Or.inl ⟨by rfl, ?_⟩) (by assumption) ?_
          rotate_left
          · intro w hSw; go_simp; try (with_reducible rfl)
          try simp only [Act.put, List.setIfInBounds_toArray, List.set_cons_zero, List.set_cons_succ]
          refine wpAnyH_take (i := 3) (oi := ⟨_, _, _, _, _, _⟩) (v := ?_) rfl (by kernel_rfl) (by kernel_rfl) (by kernel_rfl) (fun _ _ _ h => h) (Or.inl ⟨by rfl, ?_⟩) (by assumption) ?_
          rotate_left
          · intro w hSw; go_simp; try (with_reducible rfl)
          try simp only [Act.put, List.setIfInBounds_toArray, List.set_cons_zero, List.set_cons_succ]
          refine wpAnyH_take (i := 4) (oi := ⟨_, _, _, _, _, _⟩) rfl (by kernel_rfl) (by kernel_rfl) (by kernel_rfl) (fun _ _ _ h => h) (yieldsIf_load_mid (by rfl) _ _ rfl t 1 rfl (f0.map byt) _ (fun _ h => first_range HF0.out h.1) Tryz.underlying24 rfl (szD HF0.out)) (by assumption) ?_
          try simp only [Act.put, List.setIfInBounds_toArray, List.set_cons_zero, List.set_cons_succ]
          refine wpAnyH_take (i := 5) (oi := ⟨_, _, _, _, _, _⟩) (v := ?_) rfl (by kernel_rfl) (by kernel_rfl) (by kernel_rfl) (fun _ _ _ h => h) (Or.inl ⟨by rfl, ?_⟩) (by assumption) ?_
          rotate_left
          · intro w hSw; go_simp; try (with_reducible rfl)
          try simp only [Act.put, List.setIfInBounds_toArray, List.set_cons_zero, List.set_cons_succ]
          refine wpAnyH_done (by kernel_rfl) ?_ _
          go_wp2
          try simp only [Exit.jump]
          go_ret2
          exact ⟨by rw [HR.out]; rfl, hHeld.2.2.2.2.2⟩
        · obtain ⟨j, g2, q1, q2, q3, q4⟩ := HT.out.prev HK.out (by omega)
          have HR := Lib.hid (show d0 = (dep hs id (j + 1) j).map (0 + 1 + ·) by rw [HDD.out, HDE.out, if_neg (by rw [HM.out]; exact HNE.out), if_neg hk0]; unfold depth; rw [q1]; simp only [Option.map_map]; congr 1; funext x; simp only [Function.comp]; omega)
          have HMF := Lib.hid (show ¬ m = f0 by intro e; rw [← HM.out, ← HFE.out] at e; exact hk0 (HT.out.nd k 0 g f0' HK.out E1.out e))
          have hq2 : ∀ w, (Op.equalIn 10000 24 (.agg (m.map byt).toArray) (.agg (f0.map byt).toArray)).run Tryz.prog w = .ok false w := fun w => by rw [run_equal_u8 Tryz.underlying24 (i := _) rfl (by kernel_rfl) Tryz.underlying5 w m f0 HML.out HF0.out]; simp [HMF.out]
          obtain ⟨pv, hpv⟩ : ∃ pv, g.prev = pv := ⟨_, rfl⟩
          have HPV := Lib.hid hpv
          have HPL := Lib.hid (show pv.length = 32 by rw [← hpv]; exact OKH.out.1)
          obtain ⟨kl2, hkl2⟩ := keyD pv HPL.out
          have HKL := Lib.hid hkl2
          have HAT := Lib.hid (show AtKey (pairs hs) (dv pv) (some (hv g2)) by rw [← hpv, ← q3]; exact at_known q2)
          have HG2 := Lib.hid (show mainId g2 = pv by rw [q3, hpv])
          have OKG2 := Lib.hid (HT.out.ok g2 (List.mem_of_getElem? q2))
          have HQ2 := Lib.hid q2
          have HCL := Lib.hid OKH.out.len
          clear q1 q2 q3 hpv hkl2 hk0
          go_wp2_with (first
            | (with_reducible refine wpList_load_blk rfl _ _ rfl gov (m.map byt) rfl OV.out _ Tryz.underlying24 rfl (szD HML.out) ?_)
            | (with_reducible refine wpList_load_blk rfl _ _ rfl w.heap.size (id.map byt) rfl ID.out _ Tryz.underlying24 rfl (szD HIL.out) ?_))
          refine wp_region_held_drew (S := (fun w' => Blk w' t (tkC b f0 g0) 82 ∧ MapIs Tryz.prog 24 w' b (pairs hs) ∧ Blk w' w.heap.size (id.map byt) 24 ∧ Blk w' gov (m.map byt) 24 ∧ Blk w' gh g.cells 41 ∧ Below w.heap.size w w')) (by kernel_rfl) ⟨KK.out.drew, MM.out.drew, ID.out.drew, OV.out.drew, HH.out.drew, below_drew BB.out⟩ (fun hHeld => ?_)
          refine wpAnyH_take (i := 0) (oi := ⟨_, _, _, _, _, _⟩) rfl (by kernel_rfl) (by kernel_rfl) (by kernel_rfl) (fun _ _ _ h => h) (yieldsIf_load_mid (by rfl) _ _ rfl gov 0 rfl (m.map byt) _ (fun _ h => blk_range h.2.2.2.1) Tryz.underlying24 rfl (szD HML.out)) (by assumption) ?_
          try simp only [Act.put, List.setIfInBounds_toArray, List.set_cons_zero, List.set_cons_succ]
          refine wpAnyH_take (i := 1) (oi := ⟨_, _, _, _, _, _⟩) (v := ?_) rfl (by kernel_rfl) (by kernel_rfl) (by kernel_rfl) (fun _ _ _ h => h) (Or.inl ⟨by rfl, ?_⟩) (by assumption) ?_
          rotate_left
          · intro w hSw; go_simp; try (with_reducible rfl)
          try simp only [Act.put, List.setIfInBounds_toArray, List.set_cons_zero, List.set_cons_succ]
          refine wpAnyH_take (i := 2) (oi := ⟨_, _, _, _, _, _⟩) (v := ?_) rfl (by kernel_rfl) (by kernel_rfl) (by kernel_rfl) (fun _ _ _ h => h) (Or.inl ⟨by rfl, ?_⟩) (by assumption) ?_
          rotate_left
          · intro w hSw; go_simp; try (with_reducible rfl)
          try simp only [Act.put, List.setIfInBounds_toArray, List.set_cons_zero, List.set_cons_succ]
          refine wpAnyH_take (i := 3) (oi := ⟨_, _, _, _, _, _⟩) (v := ?_) rfl (by kernel_rfl) (by kernel_rfl) (by kernel_rfl) (fun _ _ _ h => h) (Or.inl ⟨by rfl, ?_⟩) (by assumption) ?_
          rotate_left
          · intro w hSw; go_simp; try (with_reducible rfl)
          try simp only [Act.put, List.setIfInBounds_toArray, List.set_cons_zero, List.set_cons_succ]
          refine wpAnyH_take (i := 4) (oi := ⟨_, _, _, _, _, _⟩) rfl (by kernel_rfl) (by kernel_rfl) (by kernel_rfl) (fun _ _ _ h => h) (yieldsIf_load_mid (by rfl) _ _ rfl t 1 rfl (f0.map byt) _ (fun _ h => first_range HF0.out h.1) Tryz.underlying24 rfl (szD HF0.out)) (by assumption) ?_
          try simp only [Act.put, List.setIfInBounds_toArray, List.set_cons_zero, List.set_cons_succ]
          refine wpAnyH_take (i := 5) (oi := ⟨_, _, _, _, _, _⟩) (v := ?_) rfl (by kernel_rfl) (by kernel_rfl) (by kernel_rfl) (fun _ _ _ h => h) (Or.inl ⟨by rfl, ?_⟩) (by assumption) ?_
          rotate_left
          · intro w hSw; go_simp; try (with_reducible rfl)
          try simp only [Act.put, List.setIfInBounds_toArray, List.set_cons_zero, List.set_cons_succ]
          refine wpAnyH_done (by kernel_rfl) ?_ _
          have HPR := Lib.hid (show World.rangeAt _ gh 0 (pv.map byt) from by rw [← HPV.out]; exact range_prev hHeld.2.2.2.2.1)
          have HOV := Lib.hid hHeld.2.2.2.1
          have hbs := hHeld.2.2.2.2.2.size
          go_upto_region 9 with (first
            | (with_reducible refine wpList_load_mid rfl _ _ rfl gh 0 rfl (pv.map byt) _ HPR.out Tryz.underlying24 rfl (szD HPL.out) ?_)
            | (with_reducible refine wpList_put rfl _ _ _ rfl gov (pv.map byt) _ rfl rfl HOV.out (szD HPL.out) (by simp [HML.out, HPL.out]) (one_dig pv) (fun wc kc fc zc => ?_); have KC := Lib.hid kc; have KT := Lib.hid (hHeld.1.fr fc (by omega)); have KM := Lib.hid (hHeld.2.1.fr fc (by omega)); have KI := Lib.hid (hHeld.2.2.1.fr fc (by omega)); have KH := Lib.hid (hHeld.2.2.2.2.1.fr fc (by omega)); have KW := Lib.hid (hHeld.2.2.2.2.2.trans (fc.below (by omega) (fun k hk => by omega))); clear kc fc))
          refine wp_region_held_drew (S := (fun w' => Blk w' t (tkC b f0 g0) 82 ∧ MapIs Tryz.prog 24 w' b (pairs hs) ∧ Blk w' w.heap.size (id.map byt) 24 ∧ Blk w' gov (pv.map byt) 24 ∧ (∃ old : List Value, old.length = 66 ∧ Blk w' gh old 41) ∧ Below w.heap.size w w')) (by kernel_rfl) ⟨KT.out.drew, KM.out.drew, KI.out.drew, KC.out.drew, ⟨g.cells, HCL.out, KH.out.drew⟩, below_drew KW.out⟩ (fun hHeld => ?_)
          refine wpAnyH_take (i := 0) (oi := ⟨_, _, _, _, _, _⟩) (v := ?_) rfl (by kernel_rfl) (by kernel_rfl) (by kernel_rfl) (fun _ _ _ h => h) (Or.inl ⟨by rfl, ?_⟩) (by assumption) ?_
          rotate_left
          · intro w hSw; go_simp; try (with_reducible rfl)
          try simp only [Act.put, List.setIfInBounds_toArray, List.set_cons_zero, List.set_cons_succ]
          refine wpAnyH_take (i := 1) (oi := ⟨_, _, _, _, _, _⟩) (v := ?_) rfl (by kernel_rfl) (by kernel_rfl) (by kernel_rfl) (fun _ _ _ h => h) (Or.inl ⟨by rfl, ?_⟩) (by assumption) ?_
          rotate_left
          · intro w hSw; go_simp; try (with_reducible rfl)
          try simp only [Act.put, List.setIfInBounds_toArray, List.set_cons_zero, List.set_cons_succ]
          refine wpAnyH_take (i := 2) (oi := ⟨_, _, _, _, _, _⟩) (v := ?_) rfl (by kernel_rfl) (by kernel_rfl) (by kernel_rfl) (fun _ _ _ h => h) (Or.inl ⟨by rfl, ?_⟩) (by assumption) ?_
          rotate_left
          · intro w hSw; go_simp; try (with_reducible rfl)
          try simp only [Act.put, List.setIfInBounds_toArray, List.set_cons_zero, List.set_cons_succ]
          refine wpAnyH_take (i := 3) (oi := ⟨_, _, _, _, _, _⟩) (v := .map (some b)) rfl (by kernel_rfl) (by kernel_rfl) (by kernel_rfl) (fun _ _ _ h => h) (Or.inl ⟨by rfl, fun w hSw => (by have c := hSw.1.cell (i := 0) rfl; go_simp; try (with_reducible rfl))⟩) (by assumption) ?_
          try simp only [Act.put, List.setIfInBounds_toArray, List.set_cons_zero, List.set_cons_succ]
          refine wpAnyH_take (i := 4) (oi := ⟨_, _, _, _, _, _⟩) rfl (by kernel_rfl) (by kernel_rfl) (by kernel_rfl) (fun _ _ _ h => h) (yieldsIf_load_mid (by rfl) _ _ rfl gov 0 rfl (pv.map byt) _ (fun _ h => blk_range h.2.2.2.1) Tryz.underlying24 rfl (szD HPL.out)) (by assumption) ?_
          try simp only [Act.put, List.setIfInBounds_toArray, List.set_cons_zero, List.set_cons_succ]
          refine wpAnyH_take (i := 5) (oi := ⟨_, _, _, _, _, _⟩) rfl (by kernel_rfl) (by kernel_rfl) (by kernel_rfl) (fun _ _ _ h => h) (yieldsIf_look (by rfl) _ _ _ false rfl 41 keyed Tryz.underlying80 zeroV rfl (fun _ h => h.2.1) (dv pv) kl2 rfl HKL.out _ HAT.out (hv g2) rfl) (by assumption) ?_
          try simp only [Act.put, List.setIfInBounds_toArray, List.set_cons_zero, List.set_cons_succ]
          refine wpAnyH_ready (rs := [6]) (by kernel_rfl) (by simp) ?_
          refine AllReadyH.cons (o := ⟨_, _, _, _, _, _⟩) rfl (fun K hK => ?_) AllReadyH.nil
          rw [if_pos (by rfl)]
          obtain ⟨old, hol, hx⟩ := hHeld.2.2.2.2.1
          have hbt := hHeld.2.2.2.2.2.size
          refine wp_put _ _ _ rfl gh g2.cells _ rfl rfl hx (szH OKG2.out) (by rw [hol, OKG2.out.len]) g2.one (fun wb kb fb zb => ?_)
          refine hK.out _ _ (by exact ⟨hHeld.1.fr fb (by omega), hHeld.2.1.fr fb (by omega), hHeld.2.2.1.fr fb (by omega), hHeld.2.2.2.1.fr fb (by omega), ⟨g2.cells, OKG2.out.len, kb⟩, hHeld.2.2.2.2.2.trans (fb.below (by omega) (fun k hk => by omega))⟩) (fun hHeld => ?_)
          have KB := Lib.hid kb
          clear kb fb hx
          clear hK
          refine wpAnyH_done (by kernel_rfl) ?_ _
          go_wp2
          go_step3
          exact ⟨rfl, 1, j, g2, _, _, _, _, _, _, _, _, _, _, _, _, _, _, _, _, _, _, _, _, _, _, _, _, _, _, _, _, _, _, _, _, HQ2.out, HR.out, by omega, rfl, hHeld.1, hHeld.2.1, hHeld.2.2.1, by rw [HG2.out]; exact hHeld.2.2.2.1, KB.out, hHeld.2.2.2.2.2⟩
  · rintro a'  wx ⟨n, k, h, u10, u11, u12, u13, u14, u15, u16, u17, u18, u19, u20, u21, u22, u23, u24, u25, u26, u27, u28, u29, u30, u31, u32, u33, u34, u35, u36, u37, u38, u39, u40, u41, hk, hdd, hnk, rfl, j1, j2, j3, j4, j5, j6⟩
    have KK := Lib.hid j1
    have MM := Lib.hid j2
    have ID := Lib.hid j3
    have OV := Lib.hid j4
    have HH := Lib.hid j5
    have BB := Lib.hid j6
    have HK := Lib.hid hk
    have HDD := Lib.hid hdd
    clear j1 j2 j3 j4 j5 j6 hk hdd ii0 K2 kk0 mm0
    obtain ⟨m, hm⟩ : ∃ m, mainId h = m := ⟨_, rfl⟩
    rw [hm] at OV
    have HM := Lib.hid hm
    have HML := Lib.hid (show m.length = 32 by rw [← hm]; exact mainId_length _)
    have OKH := Lib.hid (HT.out.ok h (List.mem_of_getElem? HK.out))
    have HDE := Lib.hid (HT.out.dep_eq id HK.out)
    clear hm
    by_cases heq : m = id
    · have hq : ∀ w, (Op.equalIn 10000 24 (.agg (m.map byt).toArray) (.agg (id.map byt).toArray)).run Tryz.prog w = .ok true w := fun w => by rw [run_equal_u8 Tryz.underlying24 (i := _) rfl (by kernel_rfl) Tryz.underlying5 w m id HML.out HIL.out]; simp [heq]
      have HR := Lib.hid (show d0 = some n by rw [HDD.out, HDE.out, if_pos (by rw [HM.out]; exact heq)]; rfl)
      clear heq
      go_wp2_with (first
        | (with_reducible refine wpList_load_blk rfl _ _ rfl gov (m.map byt) rfl OV.out _ Tryz.underlying24 rfl (szD HML.out) ?_)
        | (with_reducible refine wpList_load_blk rfl _ _ rfl w.heap.size (id.map byt) rfl ID.out _ Tryz.underlying24 rfl (szD HIL.out) ?_))
      try simp only [Exit.jump]
      go_ret2
      exact ⟨by rw [HR.out]; rfl, BB.out⟩
    · have hq : ∀ w, (Op.equalIn 10000 24 (.agg (m.map byt).toArray) (.agg (id.map byt).toArray)).run Tryz.prog w = .ok false w := fun w => by rw [run_equal_u8 Tryz.underlying24 (i := _) rfl (by kernel_rfl) Tryz.underlying5 w m id HML.out HIL.out]; simp [heq]
      have HNE := Lib.hid heq
      clear heq
      by_cases hk0 : k = 0
      · have HR := Lib.hid (show d0 = none by rw [HDD.out, HDE.out, if_neg (by rw [HM.out]; exact HNE.out), if_pos hk0]; rfl)
        have HMF := Lib.hid (show m = f0 by rw [← HM.out, ← HFE.out]; have e := HK.out; rw [hk0, E1.out] at e; cases e; rfl)
        have hq2 : ∀ w, (Op.equalIn 10000 24 (.agg (m.map byt).toArray) (.agg (f0.map byt).toArray)).run Tryz.prog w = .ok true w := fun w => by rw [run_equal_u8 Tryz.underlying24 (i := _) rfl (by kernel_rfl) Tryz.underlying5 w m f0 HML.out HF0.out]; simp [HMF.out]
        clear hk0
        go_wp2_with (first
          | (with_reducible refine wpList_load_blk rfl _ _ rfl gov (m.map byt) rfl OV.out _ Tryz.underlying24 rfl (szD HML.out) ?_)
          | (with_reducible refine wpList_load_blk rfl _ _ rfl w.heap.size (id.map byt) rfl ID.out _ Tryz.underlying24 rfl (szD HIL.out) ?_))
        refine wp_region_held_drew (S := (fun w' => Blk w' t (tkC b f0 g0) 82 ∧ MapIs Tryz.prog 24 w' b (pairs hs) ∧ Blk w' w.heap.size (id.map byt) 24 ∧ Blk w' gov (m.map byt) 24 ∧ Blk w' gh h.cells 41 ∧ Below w.heap.size w w')) (by kernel_rfl) ⟨KK.out.drew, MM.out.drew, ID.out.drew, OV.out.drew, HH.out.drew, below_drew BB.out⟩ (fun hHeld => ?_)
        refine wpAnyH_take (i := 0) (oi := ⟨_, _, _, _, _, _⟩) rfl (by kernel_rfl) (by kernel_rfl) (by kernel_rfl) (fun _ _ _ h => h) (yieldsIf_load_mid (by rfl) _ _ rfl gov 0 rfl (m.map byt) _ (fun _ h => blk_range h.2.2.2.1) Tryz.underlying24 rfl (szD HML.out)) (by assumption) ?_
        try simp only [Act.put, List.setIfInBounds_toArray, List.set_cons_zero, List.set_cons_succ]
        refine wpAnyH_take (i := 1) (oi := ⟨_, _, _, _, _, _⟩) (v := ?_) rfl (by kernel_rfl) (by kernel_rfl) (by kernel_rfl) (fun _ _ _ h => h) (Or.inl ⟨by rfl, ?_⟩) (by assumption) ?_
        rotate_left
        · intro w hSw; go_simp; try (with_reducible rfl)
        try simp only [Act.put, List.setIfInBounds_toArray, List.set_cons_zero, List.set_cons_succ]
        refine wpAnyH_take (i := 2) (oi := ⟨_, _, _, _, _, _⟩) (v := ?_) rfl (by kernel_rfl) (by kernel_rfl) (by kernel_rfl) (fun _ _ _ h => h) (Or.inl ⟨by rfl, ?_⟩) (by assumption) ?_
        rotate_left
        · intro w hSw; go_simp; try (with_reducible rfl)
        try simp only [Act.put, List.setIfInBounds_toArray, List.set_cons_zero, List.set_cons_succ]
        refine wpAnyH_take (i := 3) (oi := ⟨_, _, _, _, _, _⟩) (v := ?_) rfl (by kernel_rfl) (by kernel_rfl) (by kernel_rfl) (fun _ _ _ h => h) (Or.inl ⟨by rfl, ?_⟩) (by assumption) ?_
        rotate_left
        · intro w hSw; go_simp; try (with_reducible rfl)
        try simp only [Act.put, List.setIfInBounds_toArray, List.set_cons_zero, List.set_cons_succ]
        refine wpAnyH_take (i := 4) (oi := ⟨_, _, _, _, _, _⟩) rfl (by kernel_rfl) (by kernel_rfl) (by kernel_rfl) (fun _ _ _ h => h) (yieldsIf_load_mid (by rfl) _ _ rfl t 1 rfl (f0.map byt) _ (fun _ h => first_range HF0.out h.1) Tryz.underlying24 rfl (szD HF0.out)) (by assumption) ?_
        try simp only [Act.put, List.setIfInBounds_toArray, List.set_cons_zero, List.set_cons_succ]
        refine wpAnyH_take (i := 5) (oi := ⟨_, _, _, _, _, _⟩) (v := ?_) rfl (by kernel_rfl) (by kernel_rfl) (by kernel_rfl) (fun _ _ _ h => h) (Or.inl ⟨by rfl, ?_⟩) (by assumption) ?_
        rotate_left
        · intro w hSw; go_simp; try (with_reducible rfl)
        try simp only [Act.put, List.setIfInBounds_toArray, List.set_cons_zero, List.set_cons_succ]
        refine wpAnyH_done (by kernel_rfl) ?_ _
        go_wp2
        try simp only [Exit.jump]
        go_ret2
        exact ⟨by rw [HR.out]; rfl, hHeld.2.2.2.2.2⟩
      · obtain ⟨j, g2, q1, q2, q3, q4⟩ := HT.out.prev HK.out (by omega)
        have HR := Lib.hid (show d0 = (dep hs id (j + 1) j).map (n + 1 + ·) by rw [HDD.out, HDE.out, if_neg (by rw [HM.out]; exact HNE.out), if_neg hk0]; unfold depth; rw [q1]; simp only [Option.map_map]; congr 1; funext x; simp only [Function.comp]; omega)
        have HMF := Lib.hid (show ¬ m = f0 by intro e; rw [← HM.out, ← HFE.out] at e; exact hk0 (HT.out.nd k 0 h f0' HK.out E1.out e))
        have hq2 : ∀ w, (Op.equalIn 10000 24 (.agg (m.map byt).toArray) (.agg (f0.map byt).toArray)).run Tryz.prog w = .ok false w := fun w => by rw [run_equal_u8 Tryz.underlying24 (i := _) rfl (by kernel_rfl) Tryz.underlying5 w m f0 HML.out HF0.out]; simp [HMF.out]
        obtain ⟨pv, hpv⟩ : ∃ pv, h.prev = pv := ⟨_, rfl⟩
        have HPV := Lib.hid hpv
        have HPL := Lib.hid (show pv.length = 32 by rw [← hpv]; exact OKH.out.1)
        obtain ⟨kl2, hkl2⟩ := keyD pv HPL.out
        have HKL := Lib.hid hkl2
        have HAT := Lib.hid (show AtKey (pairs hs) (dv pv) (some (hv g2)) by rw [← hpv, ← q3]; exact at_known q2)
        have HG2 := Lib.hid (show mainId g2 = pv by rw [q3, hpv])
        have OKG2 := Lib.hid (HT.out.ok g2 (List.mem_of_getElem? q2))
        have HQ2 := Lib.hid q2
        have HCL := Lib.hid OKH.out.len
        clear q1 q2 q3 hpv hkl2 hk0
        go_wp2_with (first
          | (with_reducible refine wpList_load_blk rfl _ _ rfl gov (m.map byt) rfl OV.out _ Tryz.underlying24 rfl (szD HML.out) ?_)
          | (with_reducible refine wpList_load_blk rfl _ _ rfl w.heap.size (id.map byt) rfl ID.out _ Tryz.underlying24 rfl (szD HIL.out) ?_))
        refine wp_region_held_drew (S := (fun w' => Blk w' t (tkC b f0 g0) 82 ∧ MapIs Tryz.prog 24 w' b (pairs hs) ∧ Blk w' w.heap.size (id.map byt) 24 ∧ Blk w' gov (m.map byt) 24 ∧ Blk w' gh h.cells 41 ∧ Below w.heap.size w w')) (by kernel_rfl) ⟨KK.out.drew, MM.out.drew, ID.out.drew, OV.out.drew, HH.out.drew, below_drew BB.out⟩ (fun hHeld => ?_)
        refine wpAnyH_take (i := 0) (oi := ⟨_, _, _, _, _, _⟩) rfl (by kernel_rfl) (by kernel_rfl) (by kernel_rfl) (fun _ _ _ h => h) (yieldsIf_load_mid (by rfl) _ _ rfl gov 0 rfl (m.map byt) _ (fun _ h => blk_range h.2.2.2.1) Tryz.underlying24 rfl (szD HML.out)) (by assumption) ?_
        try simp only [Act.put, List.setIfInBounds_toArray, List.set_cons_zero, List.set_cons_succ]
        refine wpAnyH_take (i := 1) (oi := ⟨_, _, _, _, _, _⟩) (v := ?_) rfl (by kernel_rfl) (by kernel_rfl) (by kernel_rfl) (fun _ _ _ h => h) (Or.inl ⟨by rfl, ?_⟩) (by assumption) ?_
        rotate_left
        · intro w hSw; go_simp; try (with_reducible rfl)
        try simp only [Act.put, List.setIfInBounds_toArray, List.set_cons_zero, List.set_cons_succ]
        refine wpAnyH_take (i := 2) (oi := ⟨_, _, _, _, _, _⟩) (v := ?_) rfl (by kernel_rfl) (by kernel_rfl) (by kernel_rfl) (fun _ _ _ h => h) (Or.inl ⟨by rfl, ?_⟩) (by assumption) ?_
        rotate_left
        · intro w hSw; go_simp; try (with_reducible rfl)
        try simp only [Act.put, List.setIfInBounds_toArray, List.set_cons_zero, List.set_cons_succ]
        refine wpAnyH_take (i := 3) (oi := ⟨_, _, _, _, _, _⟩) (v := ?_) rfl (by kernel_rfl) (by kernel_rfl) (by kernel_rfl) (fun _ _ _ h => h) (Or.inl ⟨by rfl, ?_⟩) (by assumption) ?_
        rotate_left
        · intro w hSw; go_simp; try (with_reducible rfl)
        try simp only [Act.put, List.setIfInBounds_toArray, List.set_cons_zero, List.set_cons_succ]
        refine wpAnyH_take (i := 4) (oi := ⟨_, _, _, _, _, _⟩) rfl (by kernel_rfl) (by kernel_rfl) (by kernel_rfl) (fun _ _ _ h => h) (yieldsIf_load_mid (by rfl) _ _ rfl t 1 rfl (f0.map byt) _ (fun _ h => first_range HF0.out h.1) Tryz.underlying24 rfl (szD HF0.out)) (by assumption) ?_
        try simp only [Act.put, List.setIfInBounds_toArray, List.set_cons_zero, List.set_cons_succ]
        refine wpAnyH_take (i := 5) (oi := ⟨_, _, _, _, _, _⟩) (v := ?_) rfl (by kernel_rfl) (by kernel_rfl) (by kernel_rfl) (fun _ _ _ h => h) (Or.inl ⟨by rfl, ?_⟩) (by assumption) ?_
        rotate_left
        · intro w hSw; go_simp; try (with_reducible rfl)
        try simp only [Act.put, List.setIfInBounds_toArray, List.set_cons_zero, List.set_cons_succ]
        refine wpAnyH_done (by kernel_rfl) ?_ _
        have HPR := Lib.hid (show World.rangeAt _ gh 0 (pv.map byt) from by rw [← HPV.out]; exact range_prev hHeld.2.2.2.2.1)
        have HOV := Lib.hid hHeld.2.2.2.1
        have hbs := hHeld.2.2.2.2.2.size
        go_upto_region 9 with (first
          | (with_reducible refine wpList_load_mid rfl _ _ rfl gh 0 rfl (pv.map byt) _ HPR.out Tryz.underlying24 rfl (szD HPL.out) ?_)
          | (with_reducible refine wpList_put rfl _ _ _ rfl gov (pv.map byt) _ rfl rfl HOV.out (szD HPL.out) (by simp [HML.out, HPL.out]) (one_dig pv) (fun wc kc fc zc => ?_); have KC := Lib.hid kc; have KT := Lib.hid (hHeld.1.fr fc (by omega)); have KM := Lib.hid (hHeld.2.1.fr fc (by omega)); have KI := Lib.hid (hHeld.2.2.1.fr fc (by omega)); have KH := Lib.hid (hHeld.2.2.2.2.1.fr fc (by omega)); have KW := Lib.hid (hHeld.2.2.2.2.2.trans (fc.below (by omega) (fun k hk => by omega))); clear kc fc))
        refine wp_region_held_drew (S := (fun w' => Blk w' t (tkC b f0 g0) 82 ∧ MapIs Tryz.prog 24 w' b (pairs hs) ∧ Blk w' w.heap.size (id.map byt) 24 ∧ Blk w' gov (pv.map byt) 24 ∧ (∃ old : List Value, old.length = 66 ∧ Blk w' gh old 41) ∧ Below w.heap.size w w')) (by kernel_rfl) ⟨KT.out.drew, KM.out.drew, KI.out.drew, KC.out.drew, ⟨h.cells, HCL.out, KH.out.drew⟩, below_drew KW.out⟩ (fun hHeld => ?_)
        refine wpAnyH_take (i := 0) (oi := ⟨_, _, _, _, _, _⟩) (v := ?_) rfl (by kernel_rfl) (by kernel_rfl) (by kernel_rfl) (fun _ _ _ h => h) (Or.inl ⟨by rfl, ?_⟩) (by assumption) ?_
        rotate_left
        · intro w hSw; go_simp; try (with_reducible rfl)
        try simp only [Act.put, List.setIfInBounds_toArray, List.set_cons_zero, List.set_cons_succ]
        refine wpAnyH_take (i := 1) (oi := ⟨_, _, _, _, _, _⟩) (v := ?_) rfl (by kernel_rfl) (by kernel_rfl) (by kernel_rfl) (fun _ _ _ h => h) (Or.inl ⟨by rfl, ?_⟩) (by assumption) ?_
        rotate_left
        · intro w hSw; go_simp; try (with_reducible rfl)
        try simp only [Act.put, List.setIfInBounds_toArray, List.set_cons_zero, List.set_cons_succ]
        refine wpAnyH_take (i := 2) (oi := ⟨_, _, _, _, _, _⟩) (v := ?_) rfl (by kernel_rfl) (by kernel_rfl) (by kernel_rfl) (fun _ _ _ h => h) (Or.inl ⟨by rfl, ?_⟩) (by assumption) ?_
        rotate_left
        · intro w hSw; go_simp; try (with_reducible rfl)
        try simp only [Act.put, List.setIfInBounds_toArray, List.set_cons_zero, List.set_cons_succ]
        refine wpAnyH_take (i := 3) (oi := ⟨_, _, _, _, _, _⟩) (v := .map (some b)) rfl (by kernel_rfl) (by kernel_rfl) (by kernel_rfl) (fun _ _ _ h => h) (Or.inl ⟨by rfl, fun w hSw => (by have c := hSw.1.cell (i := 0) rfl; go_simp; try (with_reducible rfl))⟩) (by assumption) ?_
        try simp only [Act.put, List.setIfInBounds_toArray, List.set_cons_zero, List.set_cons_succ]
        refine wpAnyH_take (i := 4) (oi := ⟨_, _, _, _, _, _⟩) rfl (by kernel_rfl) (by kernel_rfl) (by kernel_rfl) (fun _ _ _ h => h) (yieldsIf_load_mid (by rfl) _ _ rfl gov 0 rfl (pv.map byt) _ (fun _ h => blk_range h.2.2.2.1) Tryz.underlying24 rfl (szD HPL.out)) (by assumption) ?_
        try simp only [Act.put, List.setIfInBounds_toArray, List.set_cons_zero, List.set_cons_succ]
        refine wpAnyH_take (i := 5) (oi := ⟨_, _, _, _, _, _⟩) rfl (by kernel_rfl) (by kernel_rfl) (by kernel_rfl) (fun _ _ _ h => h) (yieldsIf_look (by rfl) _ _ _ false rfl 41 keyed Tryz.underlying80 zeroV rfl (fun _ h => h.2.1) (dv pv) kl2 rfl HKL.out _ HAT.out (hv g2) rfl) (by assumption) ?_
        try simp only [Act.put, List.setIfInBounds_toArray, List.set_cons_zero, List.set_cons_succ]
        refine wpAnyH_ready (rs := [6]) (by kernel_rfl) (by simp) ?_
        refine AllReadyH.cons (o := ⟨_, _, _, _, _, _⟩) rfl (fun K hK => ?_) AllReadyH.nil
        rw [if_pos (by rfl)]
        obtain ⟨old, hol, hx⟩ := hHeld.2.2.2.2.1
        have hbt := hHeld.2.2.2.2.2.size
        refine wp_put _ _ _ rfl gh g2.cells _ rfl rfl hx (szH OKG2.out) (by rw [hol, OKG2.out.len]) g2.one (fun wb kb fb zb => ?_)
        refine hK.out _ _ (by exact ⟨hHeld.1.fr fb (by omega), hHeld.2.1.fr fb (by omega), hHeld.2.2.1.fr fb (by omega), hHeld.2.2.2.1.fr fb (by omega), ⟨g2.cells, OKG2.out.len, kb⟩, hHeld.2.2.2.2.2.trans (fb.below (by omega) (fun k hk => by omega))⟩) (fun hHeld => ?_)
        have KB := Lib.hid kb
        clear kb fb hx
        clear hK
        refine wpAnyH_done (by kernel_rfl) ?_ _
        go_wp2
        go_step3
        refine ⟨rfl, ⟨n + 1, j, g2, _, _, _, _, _, _, _, _, _, _, _, _, _, _, _, _, _, _, _, _, _, _, _, _, _, _, _, _, _, _, _, _, HQ2.out, HR.out, by omega, rfl, hHeld.1, hHeld.2.1, hHeld.2.2.1, by rw [HG2.out]; exact hHeld.2.2.2.1, KB.out, hHeld.2.2.2.2.2⟩, ?_⟩
        simp [DepthM, intOf]
        omega
end Go.Proofs.YtmenchnjajpkmaaGreatDoor.Tk
end
