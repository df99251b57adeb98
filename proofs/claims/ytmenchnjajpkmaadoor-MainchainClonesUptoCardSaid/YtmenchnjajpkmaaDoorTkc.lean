/- Walks of maps.Clone at the track's map, and of the track's Clone. Conditions: a track as it is. -/
import Derived.Test.YtmenchnjajpkmaaDoorTk
import Derived.Shelf.SlMaps.Clone
namespace Go.Proofs.YtmenchnjajpkmaaDoor.Tk
open Go Go.RowKit Mem Codec Mh Maps Ops Wh Ww ShaW Arr
open Go.Maps (Keyed)
set_option linter.unusedVariables false

theorem MapIs.clone {w : World} {b : Nat} {es : Array MapEntry} {clock : Nat} {l : List (Value × Value)} (h : MapIs Tryd.prog 24 w b l) (hb : w.heap[b]? = some (.map es clock)) : MapIs Tryd.prog 24 (w.alloc (.map es clock)) w.heap.size l := by
  obtain ⟨es', clock', h1, h2⟩ := h
  rw [hb] at h1
  cases h1
  exact ⟨es, clock, by rw [World.alloc]; simp, h2⟩

set_option maxHeartbeats 4000000 in
set_option maxRecDepth 100000 in
theorem mapclone_calls (w : World) (b : Nat) (l : List (Value × Value)) (h : MapIs Tryd.prog 24 w b l) :
    Calls Tryd.prog 24 #[.map (some b)] w fun e w' => e = .returned (.map (some w.heap.size)) ∧ MapIs Tryd.prog 24 w' w.heap.size l ∧ Below w.heap.size w w' ∧ w.heap.size + 1 = w'.heap.size := by
  obtain ⟨es, clock, hb, hrest⟩ := _root_.id h
  have hq := fun w => run_eql_map_nil_sl (P := Tryd.prog) w 59 _ _ (some b) Tryd.underlying59
  have hex := run_maps_clone_sl (P := Tryd.prog) w 59 hb
  go_enter Tryd.func24, Tryd.ntmps24
  go_wp2
  rw [run_callFunc_extern Tryd.func29 (by kernel_rfl) (by kernel_rfl) (by kernel_rfl) (e := Extern.MapsClone.clone) (by kernel_rfl), hex]
  simp only [Result.andThen]
  rw [Oper.upon_value]
  go_wp2
  rw [run_typeAssert_map_sl _ 59 _ _ _ _ Tryd.underlying59]
  simp only [Result.andThen]
  rw [Oper.upon_value]
  go_wp2
  go_ret
  exact ⟨rfl, MapIs.clone h hb, (Below.refl _ _).alloc (Nat.le_refl _) _, by simp⟩

/-- a track goes its own way -/
def CloneT (w : World) (hs : List Hd) (e : Ending) (w' : World) : Prop := ∃ t b, e = .returned (.pointer (some ⟨t, 0, none⟩)) ∧ w.heap.size ≤ t ∧ w.heap.size ≤ b ∧ TrkIs w' t b hs ∧ Below w.heap.size w w'

set_option maxHeartbeats 8000000 in
set_option maxRecDepth 100000 in
theorem clone_calls (w : World) (t b : Nat) (hs : List Hd) (H : TrkIs w t b hs) :
    Calls Tryd.prog 13 #[.pointer (some ⟨t, 0, none⟩)] w (CloneT w hs) := by
  obtain ⟨f0', g0', e1, e2, k0, m0, hne⟩ := _root_.id H
  have HF0 := Lib.hid (mainId_length f0')
  have HG0 := Lib.hid (mainId_length g0')
  obtain ⟨f0, hf0⟩ : ∃ x, mainId f0' = x := ⟨_, rfl⟩
  obtain ⟨g0, hg0⟩ : ∃ x, mainId g0' = x := ⟨_, rfl⟩
  rw [hf0, hg0] at k0
  rw [hf0] at HF0
  rw [hg0] at HG0
  have HFE := Lib.hid hf0
  have HGE := Lib.hid hg0
  have E1 := Lib.hid e1
  have E2 := Lib.hid e2
  have K0 := Lib.hid k0
  have M0 := Lib.hid m0
  clear H e1 e2 k0 m0 hf0 hg0
  go_enter Tryd.func13, Tryd.ntmps13
  go_wp2
  refine wp_region_held_drew (S := (fun w' => Blk w' t (tkC b f0 g0) 61 ∧ MapIs Tryd.prog 24 w' b (pairs hs) ∧ Below w.heap.size w w')) (by kernel_rfl) ⟨K0.out.drew, M0.out.drew, below_drew (Below.refl _ _)⟩ (fun hHeld => ?_)
  refine wpAnyH_take (i := 0) (oi := ⟨_, _, _, _, _, _⟩) (v := ?_) rfl (by kernel_rfl) (by kernel_rfl) (by kernel_rfl) (fun _ _ _ h => h) (Or.inl ⟨by rfl, ?_⟩) (by assumption) ?_
  rotate_left
  · intro w hSw; go_simp; try (with_reducible rfl)
  try simp only [Act.put, List.setIfInBounds_toArray, List.set_cons_zero, List.set_cons_succ]
  refine wpAnyH_take (i := 1) (oi := ⟨_, _, _, _, _, _⟩) (v := ?_) rfl (by kernel_rfl) (by kernel_rfl) (by kernel_rfl) (fun _ _ _ h => h) (Or.inl ⟨by rfl, ?_⟩) (by assumption) ?_
  rotate_left
  · intro w hSw; go_simp; try (with_reducible rfl)
  try simp only [Act.put, List.setIfInBounds_toArray, List.set_cons_zero, List.set_cons_succ]
  refine wpAnyH_take (i := 2) (oi := ⟨_, _, _, _, _, _⟩) (v := ?_) rfl (by kernel_rfl) (by kernel_rfl) (by kernel_rfl) (fun _ _ _ h => h) (Or.inl ⟨by rfl, ?_⟩) (by assumption) ?_
  rotate_left
  · intro w hSw; go_simp; try (with_reducible rfl)
  try simp only [Act.put, List.setIfInBounds_toArray, List.set_cons_zero, List.set_cons_succ]
  refine wpAnyH_take (i := 3) (oi := ⟨_, _, _, _, _, _⟩) (v := .map (some b)) rfl (by kernel_rfl) (by kernel_rfl) (by kernel_rfl) (fun _ _ _ h => h) (Or.inl ⟨by rfl, fun w hSw => (by have c := hSw.1.cell (i := 0) rfl; go_simp; try (with_reducible rfl))⟩) (by assumption) ?_
  try simp only [Act.put, List.setIfInBounds_toArray, List.set_cons_zero, List.set_cons_succ]
  refine wpAnyH_take (i := 5) (oi := ⟨_, _, _, _, _, _⟩) (v := ?_) rfl (by kernel_rfl) (by kernel_rfl) (by kernel_rfl) (fun _ _ _ h => h) (Or.inl ⟨by rfl, ?_⟩) (by assumption) ?_
  rotate_left
  · intro w hSw; go_simp; try (with_reducible rfl)
  try simp only [Act.put, List.setIfInBounds_toArray, List.set_cons_zero, List.set_cons_succ]
  refine wpAnyH_take (i := 6) (oi := ⟨_, _, _, _, _, _⟩) (v := ?_) rfl (by kernel_rfl) (by kernel_rfl) (by kernel_rfl) (fun _ _ _ h => h) (Or.inl ⟨by rfl, ?_⟩) (by assumption) ?_
  rotate_left
  · intro w hSw; go_simp; try (with_reducible rfl)
  try simp only [Act.put, List.setIfInBounds_toArray, List.set_cons_zero, List.set_cons_succ]
  refine wpAnyH_take (i := 7) (oi := ⟨_, _, _, _, _, _⟩) (v := ?_) rfl (by kernel_rfl) (by kernel_rfl) (by kernel_rfl) (fun _ _ _ h => h) (Or.inl ⟨by rfl, ?_⟩) (by assumption) ?_
  rotate_left
  · intro w hSw; go_simp; try (with_reducible rfl)
  try simp only [Act.put, List.setIfInBounds_toArray, List.set_cons_zero, List.set_cons_succ]
  refine wpAnyH_take (i := 8) (oi := ⟨_, _, _, _, _, _⟩) rfl (by kernel_rfl) (by kernel_rfl) (by kernel_rfl) (fun _ _ _ h => h) (yieldsIf_load_mid (by rfl) _ _ rfl t 1 rfl (f0.map byt) _ (fun _ h => first_range HF0.out h.1) Tryd.underlying24 rfl (szD HF0.out)) (by assumption) ?_
  try simp only [Act.put, List.setIfInBounds_toArray, List.set_cons_zero, List.set_cons_succ]
  refine wpAnyH_take (i := 9) (oi := ⟨_, _, _, _, _, _⟩) (v := ?_) rfl (by kernel_rfl) (by kernel_rfl) (by kernel_rfl) (fun _ _ _ h => h) (Or.inl ⟨by rfl, ?_⟩) (by assumption) ?_
  rotate_left
  · intro w hSw; go_simp; try (with_reducible rfl)
  try simp only [Act.put, List.setIfInBounds_toArray, List.set_cons_zero, List.set_cons_succ]
  refine wpAnyH_take (i := 10) (oi := ⟨_, _, _, _, _, _⟩) (v := ?_) rfl (by kernel_rfl) (by kernel_rfl) (by kernel_rfl) (fun _ _ _ h => h) (Or.inl ⟨by rfl, ?_⟩) (by assumption) ?_
  rotate_left
  · intro w hSw; go_simp; try (with_reducible rfl)
  try simp only [Act.put, List.setIfInBounds_toArray, List.set_cons_zero, List.set_cons_succ]
  refine wpAnyH_take (i := 11) (oi := ⟨_, _, _, _, _, _⟩) (v := ?_) rfl (by kernel_rfl) (by kernel_rfl) (by kernel_rfl) (fun _ _ _ h => h) (Or.inl ⟨by rfl, ?_⟩) (by assumption) ?_
  rotate_left
  · intro w hSw; go_simp; try (with_reducible rfl)
  try simp only [Act.put, List.setIfInBounds_toArray, List.set_cons_zero, List.set_cons_succ]
  refine wpAnyH_take (i := 12) (oi := ⟨_, _, _, _, _, _⟩) rfl (by kernel_rfl) (by kernel_rfl) (by kernel_rfl) (fun _ _ _ h => h) (yieldsIf_load_mid (by rfl) _ _ rfl t 33 rfl (g0.map byt) _ (fun _ h => best_range HF0.out h.1) Tryd.underlying24 rfl (szD HG0.out)) (by assumption) ?_
  try simp only [Act.put, List.setIfInBounds_toArray, List.set_cons_zero, List.set_cons_succ]
  refine wpAnyH_ready (rs := [4]) (by kernel_rfl) (by simp) ?_
  refine AllReadyH.cons (o := ⟨_, _, _, _, _, _⟩) rfl (fun K hK => ?_) AllReadyH.nil
  go_simp
  have hk1 := hHeld.1.lt
  have hk2 := hHeld.2.1.lt
  have hk3 := hHeld.2.2.size
  refine (mapclone_calls _ b _ hHeld.2.1).mono ?_
  rintro e wz ⟨rfl, mz, gz, sz⟩
  refine hK.out _ _ (by exact ⟨hHeld.1.below gz, hHeld.2.1.below gz, hHeld.2.2.trans (gz.mono hHeld.2.2.size)⟩) (fun hHeld => ?_)
  have MZ := Lib.hid mz
  clear mz gz
  have hg6 : w.heap.size ≤ w.drew.heap.size := Nat.le_refl _
  generalize w.drew.heap.size = g6 at *
  clear hK
  refine wpAnyH_take (i := 13) (oi := ⟨_, _, _, _, _, _⟩) rfl (by kernel_rfl) (by kernel_rfl) (by kernel_rfl) (fun _ _ _ h => h) (yieldsIf_build (by rfl) structT [(0, _), (1, _), (2, _)] rfl [.map (some g6), dv f0, dv g0] rfl (by simp [Value.cells, HF0.out, HG0.out]) (tkC g6 f0 g0).toArray (by simp [Value.cells, tkC])) (by assumption) ?_
  try simp only [Act.put, List.setIfInBounds_toArray, List.set_cons_zero, List.set_cons_succ]
  refine wpAnyH_ready (rs := [14]) (by kernel_rfl) (by simp) ?_
  refine AllReadyH.cons (o := ⟨_, _, _, _, _, _⟩) rfl (fun K hK => ?_) AllReadyH.nil
  rw [if_pos (by rfl)]
  refine wp_box _ _ rfl (tkC g6 f0 g0) rfl (fun w9 k9 b9 z9 => ?_)
  refine hK.out _ _ (by exact ⟨hHeld.1.below b9, hHeld.2.1.below b9, hHeld.2.2.trans (b9.mono hHeld.2.2.size)⟩) (fun hHeld => ?_)
  have K9 := Lib.hid k9
  have M9 := Lib.hid (MZ.out.below b9)
  have hne9 : g6 < wz.heap.size := MZ.out.lt
  clear k9 b9 MZ
  clear hK
  refine wpAnyH_take (i := 15) (oi := ⟨_, _, _, _, _, _⟩) (v := ?_) rfl (by kernel_rfl) (by kernel_rfl) (by kernel_rfl) (fun _ _ _ h => h) (Or.inl ⟨by rfl, ?_⟩) (by assumption) ?_
  rotate_left
  · intro w hSw; go_simp; try (with_reducible rfl)
  try simp only [Act.put, List.setIfInBounds_toArray, List.set_cons_zero, List.set_cons_succ]
  refine wpAnyH_done (by kernel_rfl) ?_ _
  go_wp2
  go_ret
  exact ⟨wz.heap.size, g6, rfl, by omega, hg6, ⟨f0', g0', E1.out, E2.out, by rw [HFE.out, HGE.out]; exact K9.out, M9.out, by omega⟩, hHeld.2.2⟩
end Go.Proofs.YtmenchnjajpkmaaDoor.Tk
