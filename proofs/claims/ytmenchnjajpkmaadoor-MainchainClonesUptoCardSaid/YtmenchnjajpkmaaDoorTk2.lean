/- The walk of the program's Track.Add. Conditions: a track as it is; the tables are laid. -/
import Derived.Test.YtmenchnjajpkmaaDoorTk
namespace Go.Proofs.YtmenchnjajpkmaaDoor.Tk
open Go Go.RowKit Mem Codec Mh Maps Ops Wh Ww ShaW Arr
open Go.Maps (Keyed)
set_option linter.unusedVariables false

section
variable {t b g : Nat} {w a c : World}
theorem fr_new (h : Fr (fun k => k = t ∨ k = b) w a) (f : Fr (fun k => k = g) a c) (hg : w.heap.size ≤ g) : Fr (fun k => k = t ∨ k = b) w c := h.trans' f (fun i hi e => absurd hi (by have : i = g := e; omega))
theorem fr_b (h : Fr (fun k => k = t ∨ k = b) w a) (f : Fr (fun k => k = b) a c) : Fr (fun k => k = t ∨ k = b) w c := h.trans' f (fun i hi e => .inr e)
theorem fr_t (h : Fr (fun k => k = t ∨ k = b) w a) (f : Fr (fun k => k = t) a c) : Fr (fun k => k = t ∨ k = b) w c := h.trans' f (fun i hi e => .inl e)
theorem fr_alloc (h : Fr (fun k => k = t ∨ k = b) w a) (f : Below a.heap.size a c) : Fr (fun k => k = t ∨ k = b) w c := h.trans (Fr.ofBelowAll f (Nat.le_refl _))
end
theorem isAgg_u64 (w : World) : (isAgg 30).run Tryd.prog w = .ok false w := by kernel_rfl
theorem run_field_height (h : Hd) (ok : h.Ok) (w : World) : (Instr.field 32 (hv h) 2).run Tryd.prog w = .ok (.int .u64 (h.height : Int)) w :=
  run_field_cell Tryd.underlying32 rfl (isAgg_u64 w) (Hd.cell_height ok)
/-- what Add leaves -/
def AddT (w : World) (t b : Nat) (hs : List Hd) (h : Hd) (e : Ending) (w' : World) : Prop := e = .returned (.int .i64 (addE hs h)) ∧ TrkIs w' t b (addL hs h) ∧ Fr (fun k => k = t ∨ k = b) w w'
theorem AddT.same {w : World} {t b : Nat} {hs : List Hd} {h : Hd} {w' : World} {f g : Hd} {f0 g0 : Dg} (n : Int) (hn : addE hs h = n) (h0 : n ≠ 0) (e1 : hs[0]? = some f) (e2 : hs[best hs]? = some g) (e3 : mainId f = f0) (e4 : mainId g = g0)
    (k : Blk w' t (tkC b f0 g0) 61) (m : MapIs Tryd.prog 24 w' b (pairs hs)) (hne : t ≠ b) (hf : Fr (fun k => k = t ∨ k = b) w w') : AddT w t b hs h (.returned (.int .i64 n)) w' := by
  refine ⟨by rw [hn], ?_, hf⟩
  unfold addL
  rw [if_neg (by rw [hn]; exact h0)]
  exact ⟨f, g, e1, e2, by rw [e3, e4]; exact k, m, hne⟩

set_option maxHeartbeats 16000000 in
set_option maxRecDepth 100000 in
theorem add_calls (w : World) (t b : Nat) (hs : List Hd) (T : Trk hs) (h : Hd) (ok : h.Ok) (H : TrkIs w t b hs) (hT : TabB w 1) :
    Calls Tryd.prog 15 #[.pointer (some ⟨t, 0, none⟩), hv h] w (AddT w t b hs h) := by
  obtain ⟨cs, hcs⟩ : ∃ cs, h.cells.toArray = cs := ⟨_, rfl⟩
  show Calls _ _ #[_, .agg h.cells.toArray] _ _
  obtain ⟨f0', g0', e1, e2, k0, m0, hne⟩ := _root_.id H
  have HF0 := Lib.hid (mainId_length f0')
  have HG0 := Lib.hid (mainId_length g0')
  obtain ⟨f0, hf0⟩ : ∃ x, mainId f0' = x := ⟨_, rfl⟩
  obtain ⟨g0, hg0⟩ : ∃ x, mainId g0' = x := ⟨_, rfl⟩
  rw [hf0, hg0] at k0
  rw [hf0] at HF0
  rw [hg0] at HG0
  have lt0 := k0.lt
  have mt0 := m0.lt
  have K0 := Lib.hid k0
  have M0 := Lib.hid m0
  have E1 := Lib.hid e1
  have E2 := Lib.hid e2
  have HFE := Lib.hid hf0
  have HGE := Lib.hid hg0
  obtain ⟨w1, hw1⟩ : ∃ w1, w.alloc (.cells cs 32) = w1 := ⟨_, rfl⟩
  have HB := Lib.hid (show Blk w1 w.heap.size h.cells 32 from by rw [← hw1]; exact Blk.new w _ _ _ hcs.symm)
  have B1 := Lib.hid (show Below w.heap.size w w1 from by rw [← hw1]; exact below_alloc _ _)
  have hz : w.heap.size + 1 = w1.heap.size := by rw [← hw1]; simp
  have HTB := Lib.hid (hT.below B1.out)
  have OK := Lib.hid ok
  have HT := Lib.hid T
  rw [hcs]
  have HC := Lib.hid hcs
  clear hcs hT e1 e2 hf0 hg0 k0 m0 H ok T
  go_enter Tryd.func15, Tryd.ntmps15
  go_upto_region 1 with fail
  clear hw1
  go_wp2_with (first | (with_reducible refine wpList_load_blk rfl _ _ rfl w.heap.size h.cells rfl HB.out _ Tryd.underlying32 rfl (szH OK.out) ?_))
  rw [← HC.out]
  refine (mainId_calls w1 h OK.out HTB.out).mono ?_
  rintro e w2 ⟨rfl, g2⟩
  have hs2 := g2.size
  have B2 := Lib.hid (B1.out.trans (g2.mono (by omega)))
  have X2 := Lib.hid (HB.out.below g2)
  obtain ⟨m, hm⟩ : ∃ m, mainId h = m := ⟨_, rfl⟩
  have HML := Lib.hid (show m.length = 32 by rw [← hm]; exact mainId_length h)
  rw [hm]
  have HM := Lib.hid hm
  clear g2 HB B1 hm HTB
  go_upto_region 2 with (first
    | (with_reducible refine wpList_alloc rfl _ rfl _ (zeroD _) (fun w4 k4 b4 z4 => ?_); have K4 := Lib.hid k4; have B4 := Lib.hid (B2.out.trans (b4.mono (by omega))); have X4 := Lib.hid (X2.out.below b4); clear k4 b4)
    | (with_reducible refine wpList_put rfl _ _ _ rfl w2.heap.size (m.map byt) _ rfl rfl K4.out (szD HML.out) (by simp [HML.out]) (one_dig m) (fun w5 k5 f5 z5 => ?_); have K5 := Lib.hid k5; have B5 := Lib.hid (B4.out.trans (f5.below (by omega) (fun k hk => by omega))); have X5 := Lib.hid (X4.out.fr f5 (by omega)); clear k5 f5))
  have hgi : w.heap.size < w2.heap.size := by omega
  have KK := Lib.hid (K0.out.keep B5.out lt0)
  have MM := Lib.hid (M0.out.fr (Fr.ofBelow B5.out) (by omega))
  clear K0 M0 K4 B4 X4 B2 X2
  generalize w2.heap.size = gi at *
  obtain ⟨kl, hkl⟩ := keyD m HML.out
  have HKL := Lib.hid hkl
  have HAT := Lib.hid (at_look hs m)
  have HRES := Lib.hid (look_tup (look hs m))
  have OKG := Lib.hid (look_ok HT.out m)
  obtain ⟨g, hg⟩ : ∃ g, (look hs m).getD zeroH = g := ⟨_, rfl⟩
  obtain ⟨is, his⟩ : ∃ is, (look hs m).isSome = is := ⟨_, rfl⟩
  have HIS := Lib.hid his
  rw [hg, his] at HRES
  rw [hg] at OKG
  have ok_len := Lib.hid OKG.out.len
  clear hkl hg his
  refine wp_region_held_drew (S := (fun w' => Blk w' t (tkC b f0 g0) 61 ∧ MapIs Tryd.prog 24 w' b (pairs hs) ∧ Blk w' w.heap.size h.cells 32 ∧ Blk w' gi (m.map byt) 24 ∧ Fr (fun k => k = t ∨ k = b) w w')) (by kernel_rfl) ⟨KK.out.drew, MM.out.drew, X5.out.drew, K5.out.drew, (Fr.ofBelowAll B5.out (Nat.le_refl _)).drew⟩ (fun hHeld => ?_)
  refine wpAnyH_take (i := 0) (oi := ⟨_, _, _, _, _, _⟩) (v := ?_) rfl (by kernel_rfl) (by kernel_rfl) (by kernel_rfl) (fun _ _ _ h => h) (Or.inl ⟨by rfl, ?_⟩) (by assumption) ?_
  rotate_left
  · intro w hSw; go_simp; try (with_reducible rfl)
  try simp only [Act.put, List.setIfInBounds_toArray, List.set_cons_zero, List.set_cons_succ]
  refine wpAnyH_take (i := 1) (oi := ⟨_, _, _, _, _, _⟩) (v := ?_) rfl (by kernel_rfl) (by kernel_rfl) (by kernel_rfl) (fun _ _ _ h => h) (Or.inl ⟨by rfl, ?_⟩) (by assumption) ?_
  rotate_left
  · intro w hSw; go_simp; try (with_reducible rfl)
  try simp only [Act.put, List.setIfInBounds_toArray, List.set_cons_zero, List.set_cons_succ]
  refine wpAnyH_take (i := 2) (oi := ⟨_, _, _, _, _, _⟩) (v := ?_) rfl (by kernel_rfl) (by kernel_rfl) (by kernel_rfl) (fun _ _ _ h => h) (Or.inl ⟨by rfl, ?_⟩) (by assumption) ?_
  rotate_left
  · intro w hSw; go_simp; try (with_reducible rfl)
  try simp only [Act.put, List.setIfInBounds_toArray, List.set_cons_zero, List.set_cons_succ]
  refine wpAnyH_take (i := 3) (oi := ⟨_, _, _, _, _, _⟩) (v := .map (some b)) rfl (by kernel_rfl) (by kernel_rfl) (by kernel_rfl) (fun _ _ _ h => h) (Or.inl ⟨by rfl, fun w hSw => (by have c := hSw.1.cell (i := 0) rfl; go_simp; try (with_reducible rfl))⟩) (by assumption) ?_
  try simp only [Act.put, List.setIfInBounds_toArray, List.set_cons_zero, List.set_cons_succ]
  refine wpAnyH_take (i := 4) (oi := ⟨_, _, _, _, _, _⟩) rfl (by kernel_rfl) (by kernel_rfl) (by kernel_rfl) (fun _ _ _ h => h) (yieldsIf_load_mid (by rfl) _ _ rfl gi 0 rfl (m.map byt) _ (fun _ h => blk_range h.2.2.2.1) Tryd.underlying24 rfl (szD HML.out)) (by assumption) ?_
  try simp only [Act.put, List.setIfInBounds_toArray, List.set_cons_zero, List.set_cons_succ]
  refine wpAnyH_take (i := 5) (oi := ⟨_, _, _, _, _, _⟩) rfl (by kernel_rfl) (by kernel_rfl) (by kernel_rfl) (fun _ _ _ h => h) (yieldsIf_look (by rfl) _ _ _ true rfl 32 keyed Tryd.underlying59 zeroV rfl (fun _ h => h.2.1) (dv m) kl rfl HKL.out _ HAT.out (.tuple #[hv g, .bool is]) HRES.out) (by assumption) ?_
  try simp only [Act.put, List.setIfInBounds_toArray, List.set_cons_zero, List.set_cons_succ]
  refine wpAnyH_take (i := 6) (oi := ⟨_, _, _, _, _, _⟩) (v := ?_) rfl (by kernel_rfl) (by kernel_rfl) (by kernel_rfl) (fun _ _ _ h => h) (Or.inl ⟨by rfl, ?_⟩) (by assumption) ?_
  rotate_left
  · intro w hSw; go_simp; try (with_reducible rfl)
  try simp only [Act.put, List.setIfInBounds_toArray, List.set_cons_zero, List.set_cons_succ]
  refine wpAnyH_take (i := 7) (oi := ⟨_, _, _, _, _, _⟩) (v := ?_) rfl (by kernel_rfl) (by kernel_rfl) (by kernel_rfl) (fun _ _ _ h => h) (Or.inl ⟨by rfl, ?_⟩) (by assumption) ?_
  rotate_left
  · intro w hSw; go_simp; try (with_reducible rfl)
  try simp only [Act.put, List.setIfInBounds_toArray, List.set_cons_zero, List.set_cons_succ]
  refine wpAnyH_take (i := 8) (oi := ⟨_, _, _, _, _, _⟩) (v := ?_) rfl (by kernel_rfl) (by kernel_rfl) (by kernel_rfl) (fun _ _ _ h => h) (Or.inl ⟨by rfl, ?_⟩) (by assumption) ?_
  rotate_left
  · intro w hSw; go_simp; try (with_reducible rfl)
  try simp only [Act.put, List.setIfInBounds_toArray, List.set_cons_zero, List.set_cons_succ]
  refine wpAnyH_ready (rs := [9]) (by kernel_rfl) (by simp) ?_
  refine AllReadyH.cons (o := ⟨_, _, _, _, _, _⟩) rfl (fun K hK => ?_) AllReadyH.nil
  rw [if_pos (by rfl)]
  have la0 := hHeld.1.lt
  have la1 := hHeld.2.1.lt
  have la2 := hHeld.2.2.1.lt
  have la3 := hHeld.2.2.2.1.lt
  have sa := hHeld.2.2.2.2.size
  refine wp_alloc _ rfl _ (zeroV _) (fun waa ka ba za => ?_)
  refine hK.out _ _ (by exact ⟨hHeld.1.below ba, hHeld.2.1.below ba, hHeld.2.2.1.below ba, hHeld.2.2.2.1.below ba, fr_alloc hHeld.2.2.2.2 ba⟩) (fun hHeld => ?_)
  have KA := Lib.hid ka
  clear ka
  clear hK
  refine wpAnyH_ready (rs := [10]) (by kernel_rfl) (by simp) ?_
  refine AllReadyH.cons (o := ⟨_, _, _, _, _, _⟩) rfl (fun K hK => ?_) AllReadyH.nil
  rw [if_pos (by rfl)]
  refine wp_put _ _ _ rfl _ g.cells _ rfl rfl KA.out (szH OKG.out) (by rw [zeroH_len, ok_len.out]) (Hd.one _) (fun wba kb fb zb => ?_)
  refine hK.out _ _ (by exact ⟨hHeld.1.fr fb (by omega), hHeld.2.1.fr fb (by omega), hHeld.2.2.1.fr fb (by omega), hHeld.2.2.2.1.fr fb (by omega), fr_new hHeld.2.2.2.2 fb (by omega)⟩) (fun hHeld => ?_)
  have KB := Lib.hid kb
  clear kb KA
  clear hK
  refine wpAnyH_take (i := 11) (oi := ⟨_, _, _, _, _, _⟩) (v := ?_) rfl (by kernel_rfl) (by kernel_rfl) (by kernel_rfl) (fun _ _ _ h => h) (Or.inl ⟨by rfl, ?_⟩) (by assumption) ?_
  rotate_left
  · intro w hSw; go_simp; try (with_reducible rfl)
  try simp only [Act.put, List.setIfInBounds_toArray, List.set_cons_zero, List.set_cons_succ]
  refine wpAnyH_done (by kernel_rfl) ?_ _
  clear KK MM X5 K5 B5 HRES HAT OKG ok_len KB
  rcases look_cases hs m with ⟨c1, c2⟩ | ⟨k, h', c1, c2, c3, c4⟩
  rotate_left
  · obtain rfl : is = true := by rw [← HIS.out, c4]; rfl
    have HR := Lib.hid (show addE hs h = 170 by unfold addE; rw [HM.out, c1]; rfl)
    clear c1 c2 c3 c4
    go_wp2
    go_ret
    exact AddT.same 170 HR.out (by decide) E1.out E2.out HFE.out HGE.out hHeld.1 hHeld.2.1 hne hHeld.2.2.2.2
  obtain rfl : is = false := by rw [← HIS.out, c2]; rfl
  have C1 := Lib.hid c1
  have HNK := Lib.hid (not_known c1)
  have KK := Lib.hid hHeld.1
  have MM := Lib.hid hHeld.2.1
  have XX := Lib.hid hHeld.2.2.1
  have II := Lib.hid hHeld.2.2.2.1
  have FF := Lib.hid hHeld.2.2.2.2
  clear c1 c2 hHeld
  obtain ⟨pv, hpv⟩ : ∃ pv, h.prev = pv := ⟨_, rfl⟩
  have HPV := Lib.hid hpv
  have HPL := Lib.hid (show pv.length = 32 by rw [← hpv]; exact OK.out.1)
  obtain ⟨kl2, hkl⟩ := keyD pv HPL.out
  have HKL2 := Lib.hid hkl
  have HAT2 := Lib.hid (at_look hs pv)
  have HRES2 := Lib.hid (look_tup (look hs pv))
  have OKO := Lib.hid (look_ok HT.out pv)
  obtain ⟨on, hg⟩ : ∃ g, (look hs pv).getD zeroH = g := ⟨_, rfl⟩
  obtain ⟨is2, his⟩ : ∃ is, (look hs pv).isSome = is := ⟨_, rfl⟩
  have HIS2 := Lib.hid his
  have HON := Lib.hid hg
  rw [hg, his] at HRES2
  rw [hg] at OKO
  have ok_len2 := Lib.hid OKO.out.len
  clear hkl hg his hpv
  go_wp2
  refine wp_region_held_drew (S := (fun w' => Blk w' t (tkC b f0 g0) 61 ∧ MapIs Tryd.prog 24 w' b (pairs hs) ∧ Blk w' w.heap.size h.cells 32 ∧ Blk w' gi (m.map byt) 24 ∧ Fr (fun k => k = t ∨ k = b) w w')) (by kernel_rfl) ⟨KK.out.drew, MM.out.drew, XX.out.drew, II.out.drew, FF.out.drew⟩ (fun hHeld => ?_)
  refine wpAnyH_take (i := 0) (oi := ⟨_, _, _, _, _, _⟩) (v := ?_) rfl (by kernel_rfl) (by kernel_rfl) (by kernel_rfl) (fun _ _ _ h => h) (Or.inl ⟨by rfl, ?_⟩) (by assumption) ?_
  rotate_left
  · intro w hSw; go_simp; try (with_reducible rfl)
  try simp only [Act.put, List.setIfInBounds_toArray, List.set_cons_zero, List.set_cons_succ]
  refine wpAnyH_take (i := 1) (oi := ⟨_, _, _, _, _, _⟩) (v := ?_) rfl (by kernel_rfl) (by kernel_rfl) (by kernel_rfl) (fun _ _ _ h => h) (Or.inl ⟨by rfl, ?_⟩) (by assumption) ?_
  rotate_left
  · intro w hSw; go_simp; try (with_reducible rfl)
  try simp only [Act.put, List.setIfInBounds_toArray, List.set_cons_zero, List.set_cons_succ]
  refine wpAnyH_take (i := 2) (oi := ⟨_, _, _, _, _, _⟩) (v := ?_) rfl (by kernel_rfl) (by kernel_rfl) (by kernel_rfl) (fun _ _ _ h => h) (Or.inl ⟨by rfl, ?_⟩) (by assumption) ?_
  rotate_left
  · intro w hSw; go_simp; try (with_reducible rfl)
  try simp only [Act.put, List.setIfInBounds_toArray, List.set_cons_zero, List.set_cons_succ]
  refine wpAnyH_take (i := 3) (oi := ⟨_, _, _, _, _, _⟩) (v := .map (some b)) rfl (by kernel_rfl) (by kernel_rfl) (by kernel_rfl) (fun _ _ _ h => h) (Or.inl ⟨by rfl, fun w hSw => (by have c := hSw.1.cell (i := 0) rfl; go_simp; try (with_reducible rfl))⟩) (by assumption) ?_
  try simp only [Act.put, List.setIfInBounds_toArray, List.set_cons_zero, List.set_cons_succ]
  refine wpAnyH_take (i := 4) (oi := ⟨_, _, _, _, _, _⟩) (v := ?_) rfl (by kernel_rfl) (by kernel_rfl) (by kernel_rfl) (fun _ _ _ h => h) (Or.inl ⟨by rfl, ?_⟩) (by assumption) ?_
  rotate_left
  · intro w hSw; go_simp; try (with_reducible rfl)
  try simp only [Act.put, List.setIfInBounds_toArray, List.set_cons_zero, List.set_cons_succ]
  refine wpAnyH_take (i := 5) (oi := ⟨_, _, _, _, _, _⟩) rfl (by kernel_rfl) (by kernel_rfl) (by kernel_rfl) (fun _ _ _ h => h) (yieldsIf_load_mid (by rfl) _ _ rfl w.heap.size 0 rfl (pv.map byt) _ (fun _ h => HPV.out ▸ range_prev h.2.2.1) Tryd.underlying24 rfl (szD HPL.out)) (by assumption) ?_
  try simp only [Act.put, List.setIfInBounds_toArray, List.set_cons_zero, List.set_cons_succ]
  refine wpAnyH_take (i := 6) (oi := ⟨_, _, _, _, _, _⟩) rfl (by kernel_rfl) (by kernel_rfl) (by kernel_rfl) (fun _ _ _ h => h) (yieldsIf_look (by rfl) _ _ _ true rfl 32 keyed Tryd.underlying59 zeroV rfl (fun _ h => h.2.1) (dv pv) kl2 rfl HKL2.out _ HAT2.out (.tuple #[hv on, .bool is2]) HRES2.out) (by assumption) ?_
  try simp only [Act.put, List.setIfInBounds_toArray, List.set_cons_zero, List.set_cons_succ]
  refine wpAnyH_take (i := 7) (oi := ⟨_, _, _, _, _, _⟩) (v := ?_) rfl (by kernel_rfl) (by kernel_rfl) (by kernel_rfl) (fun _ _ _ h => h) (Or.inl ⟨by rfl, ?_⟩) (by assumption) ?_
  rotate_left
  · intro w hSw; go_simp; try (with_reducible rfl)
  try simp only [Act.put, List.setIfInBounds_toArray, List.set_cons_zero, List.set_cons_succ]
  refine wpAnyH_take (i := 8) (oi := ⟨_, _, _, _, _, _⟩) (v := ?_) rfl (by kernel_rfl) (by kernel_rfl) (by kernel_rfl) (fun _ _ _ h => h) (Or.inl ⟨by rfl, ?_⟩) (by assumption) ?_
  rotate_left
  · intro w hSw; go_simp; try (with_reducible rfl)
  try simp only [Act.put, List.setIfInBounds_toArray, List.set_cons_zero, List.set_cons_succ]
  refine wpAnyH_take (i := 9) (oi := ⟨_, _, _, _, _, _⟩) (v := ?_) rfl (by kernel_rfl) (by kernel_rfl) (by kernel_rfl) (fun _ _ _ h => h) (Or.inl ⟨by rfl, ?_⟩) (by assumption) ?_
  rotate_left
  · intro w hSw; go_simp; try (with_reducible rfl)
  try simp only [Act.put, List.setIfInBounds_toArray, List.set_cons_zero, List.set_cons_succ]
  refine wpAnyH_ready (rs := [10]) (by kernel_rfl) (by simp) ?_
  refine AllReadyH.cons (o := ⟨_, _, _, _, _, _⟩) rfl (fun K hK => ?_) AllReadyH.nil
  rw [if_pos (by rfl)]
  have lb0 := hHeld.1.lt
  have lb1 := hHeld.2.1.lt
  have lb2 := hHeld.2.2.1.lt
  have lb3 := hHeld.2.2.2.1.lt
  have sb := hHeld.2.2.2.2.size
  refine wp_alloc _ rfl _ (zeroV _) (fun wab ka ba za => ?_)
  refine hK.out _ _ (by exact ⟨hHeld.1.below ba, hHeld.2.1.below ba, hHeld.2.2.1.below ba, hHeld.2.2.2.1.below ba, fr_alloc hHeld.2.2.2.2 ba⟩) (fun hHeld => ?_)
  have KA := Lib.hid ka
  clear ka
  clear hK
  refine wpAnyH_ready (rs := [11]) (by kernel_rfl) (by simp) ?_
  refine AllReadyH.cons (o := ⟨_, _, _, _, _, _⟩) rfl (fun K hK => ?_) AllReadyH.nil
  rw [if_pos (by rfl)]
  refine wp_put _ _ _ rfl _ on.cells _ rfl rfl KA.out (szH OKO.out) (by rw [zeroH_len, ok_len2.out]) (Hd.one _) (fun wbb kb fb zb => ?_)
  refine hK.out _ _ (by exact ⟨hHeld.1.fr fb (by omega), hHeld.2.1.fr fb (by omega), hHeld.2.2.1.fr fb (by omega), hHeld.2.2.2.1.fr fb (by omega), fr_new hHeld.2.2.2.2 fb (by omega)⟩) (fun hHeld => ?_)
  have KB := Lib.hid kb
  clear kb KA
  clear hK
  refine wpAnyH_take (i := 12) (oi := ⟨_, _, _, _, _, _⟩) (v := ?_) rfl (by kernel_rfl) (by kernel_rfl) (by kernel_rfl) (fun _ _ _ h => h) (Or.inl ⟨by rfl, ?_⟩) (by assumption) ?_
  rotate_left
  · intro w hSw; go_simp; try (with_reducible rfl)
  try simp only [Act.put, List.setIfInBounds_toArray, List.set_cons_zero, List.set_cons_succ]
  refine wpAnyH_done (by kernel_rfl) ?_ _
  clear KK MM XX II FF HRES2 HAT2
  rcases look_cases hs pv with ⟨c1, c2⟩ | ⟨k, h', c1, c2, c3, c4⟩
  · obtain rfl : is2 = false := by rw [← HIS2.out, c2]; rfl
    have HR := Lib.hid (show addE hs h = 171 by unfold addE; rw [HM.out, C1.out, HPV.out, c1]; rfl)
    clear c1 c2
    go_wp2
    go_ret
    exact AddT.same 171 HR.out (by decide) E1.out E2.out HFE.out HGE.out hHeld.1 hHeld.2.1 hne hHeld.2.2.2.2
  obtain rfl : is2 = true := by rw [← HIS2.out, c4]; rfl
  obtain rfl : on = h' := by rw [← HON.out, c4]; rfl
  have HR0 := Lib.hid (show addE hs h = if h.height = 0 ∨ on.height + 1 ≠ h.height then 172 else 0 by unfold addE; rw [HM.out, C1.out, HPV.out]; simp [c1, c2])
  have OKO2 := Lib.hid OKO.out.2.2.1
  have OKH2 := Lib.hid OK.out.2.2.1
  have hno := OKO.out.2.2.1
  have hnh := OK.out.2.2.1
  clear c1 c2 c3 c4
  have HMAP := Lib.hid hHeld.2.1.drew
  have KK := Lib.hid hHeld.1
  have XX := Lib.hid hHeld.2.2.1
  have II := Lib.hid hHeld.2.2.2.1
  have FF := Lib.hid hHeld.2.2.2.2
  have MM := Lib.hid hHeld.2.1
  have d0 : wbb.cell? ⟨w.heap.size, 64, none⟩ = some (.int .u64 (h.height : Int)) := XX.out.cell (Hd.cell_height OK.out)
  have d1 := Lib.hid (KB.out.cell (Hd.cell_height OKO.out))
  generalize wba.drew.heap.size = g8 at *
  have d2 : wbb.cell? ⟨g8, 64, none⟩ = some (.int .u64 (on.height : Int)) := d1.out
  clear d1 KB hHeld
  by_cases hh0 : h.height = 0
  · have HR := Lib.hid (show addE hs h = 172 by rw [HR0.out, if_pos (.inl hh0)])
    have hb0 : ((h.height : Int) == 0) = true := by simp [hh0]
    have hb1 : ((h.height : Int) != 0) = false := by simp [hh0]
    clear hh0
    go_wp2
    go_ret
    exact AddT.same 172 HR.out (by decide) E1.out E2.out HFE.out HGE.out KK.out MM.out hne FF.out
  have hh1 : (1 : Int) ≤ (h.height : Int) := by omega
  have hb0 : ((h.height : Int) == 0) = false := by simp; omega
  by_cases hq : on.height + 1 = h.height
  rotate_left
  · have HR := Lib.hid (show addE hs h = 172 by rw [HR0.out, if_pos (.inr hq)])
    have hb1 : ((on.height : Int) != (h.height : Int) - 1) = true := by simp; omega
    clear hq
    go_wp2
    go_ret
    exact AddT.same 172 HR.out (by decide) E1.out E2.out HFE.out HGE.out KK.out MM.out hne FF.out
  have HR := Lib.hid (show addE hs h = 0 by rw [HR0.out, if_neg (by omega)])
  have hb1 : ((on.height : Int) != (h.height : Int) - 1) = false := by simp; omega
  clear hq hh0
  go_wp2
  refine wp_region_held_drew (S := (fun w' => Blk w' t (tkC b f0 g0) 61 ∧ Blk w' w.heap.size h.cells 32 ∧ Blk w' gi (m.map byt) 24 ∧ Fr (fun k => k = t ∨ k = b) w w')) (by kernel_rfl) ⟨KK.out.drew, XX.out.drew, II.out.drew, FF.out.drew⟩ (fun hHeld => ?_)
  refine wpAnyH_take (i := 0) (oi := ⟨_, _, _, _, _, _⟩) (v := ?_) rfl (by kernel_rfl) (by kernel_rfl) (by kernel_rfl) (fun _ _ _ h => h) (Or.inl ⟨by rfl, ?_⟩) (by assumption) ?_
  rotate_left
  · intro w hSw; go_simp; try (with_reducible rfl)
  try simp only [Act.put, List.setIfInBounds_toArray, List.set_cons_zero, List.set_cons_succ]
  refine wpAnyH_take (i := 1) (oi := ⟨_, _, _, _, _, _⟩) (v := ?_) rfl (by kernel_rfl) (by kernel_rfl) (by kernel_rfl) (fun _ _ _ h => h) (Or.inl ⟨by rfl, ?_⟩) (by assumption) ?_
  rotate_left
  · intro w hSw; go_simp; try (with_reducible rfl)
  try simp only [Act.put, List.setIfInBounds_toArray, List.set_cons_zero, List.set_cons_succ]
  refine wpAnyH_take (i := 2) (oi := ⟨_, _, _, _, _, _⟩) (v := ?_) rfl (by kernel_rfl) (by kernel_rfl) (by kernel_rfl) (fun _ _ _ h => h) (Or.inl ⟨by rfl, ?_⟩) (by assumption) ?_
  rotate_left
  · intro w hSw; go_simp; try (with_reducible rfl)
  try simp only [Act.put, List.setIfInBounds_toArray, List.set_cons_zero, List.set_cons_succ]
  refine wpAnyH_take (i := 3) (oi := ⟨_, _, _, _, _, _⟩) (v := .map (some b)) rfl (by kernel_rfl) (by kernel_rfl) (by kernel_rfl) (fun _ _ _ h => h) (Or.inl ⟨by rfl, fun w hSw => (by have c := hSw.1.cell (i := 0) rfl; go_simp; try (with_reducible rfl))⟩) (by assumption) ?_
  try simp only [Act.put, List.setIfInBounds_toArray, List.set_cons_zero, List.set_cons_succ]
  refine wpAnyH_take (i := 4) (oi := ⟨_, _, _, _, _, _⟩) rfl (by kernel_rfl) (by kernel_rfl) (by kernel_rfl) (fun _ _ _ h => h) (yieldsIf_load_mid (by rfl) _ _ rfl gi 0 rfl (m.map byt) _ (fun _ h => blk_range h.2.2.1) Tryd.underlying24 rfl (szD HML.out)) (by assumption) ?_
  try simp only [Act.put, List.setIfInBounds_toArray, List.set_cons_zero, List.set_cons_succ]
  refine wpAnyH_take (i := 5) (oi := ⟨_, _, _, _, _, _⟩) rfl (by kernel_rfl) (by kernel_rfl) (by kernel_rfl) (fun _ _ _ h => h) (yieldsIf_load_mid (by rfl) _ _ rfl w.heap.size 0 rfl h.cells _ (fun _ h => blk_range h.2.1) Tryd.underlying32 rfl (szH OK.out)) (by assumption) ?_
  try simp only [Act.put, List.setIfInBounds_toArray, List.set_cons_zero, List.set_cons_succ]
  refine wpAnyH_ready (rs := [6]) (by kernel_rfl) (by simp) ?_
  refine AllReadyH.cons (o := ⟨_, _, _, _, _, _⟩) rfl (fun K hK => ?_) AllReadyH.nil
  rw [if_pos (by rfl)]
  refine wp_lay _ _ _ _ (.inl rfl) 32 keyed Tryd.underlying59 rfl HMAP.out _ _ kl rfl rfl HKL.out HNK.out (fun w8 m2 f8 => ?_)
  refine hK.out _ _ (by exact ⟨hHeld.1.fr f8 (by omega), hHeld.2.1.fr f8 (by omega), hHeld.2.2.1.fr f8 (by omega), fr_b hHeld.2.2.2 f8⟩) (fun hHeld => ?_)
  have M2 := Lib.hid m2
  clear m2 f8
  clear hK
  refine wpAnyH_done (by kernel_rfl) ?_ _
  have KK2 := Lib.hid hHeld.1
  have XX2 := Lib.hid hHeld.2.1
  have II2 := Lib.hid hHeld.2.2.1
  have FF2 := Lib.hid hHeld.2.2.2
  clear hHeld KK XX II FF HMAP MM d0 d2
  obtain ⟨kl3, hkl⟩ := keyD g0 HG0.out
  have HKL3 := Lib.hid hkl
  have HAT3 := Lib.hid (show AtKey (pairs hs ++ [(dv m, hv h)]) (dv g0) (some (hv g0')) by
    rw [← HM.out, ← pairs_snoc, ← HGE.out]
    exact at_known (k := best hs) (by rw [List.getElem?_append_left (best_lt HT.out.ne)]; exact E2.out))
  have OKB := Lib.hid (HT.out.ok g0' (List.mem_of_getElem? E2.out))
  have hngb := OKB.out.2.2.1
  clear hkl
  go_wp2
  refine wp_region_held_drew (S := (fun w' => Blk w' t (tkC b f0 g0) 61 ∧ MapIs Tryd.prog 24 w' b (pairs hs ++ [(dv m, hv h)]) ∧ Blk w' w.heap.size h.cells 32 ∧ Blk w' gi (m.map byt) 24 ∧ Fr (fun k => k = t ∨ k = b) w w')) (by kernel_rfl) ⟨KK2.out.drew, M2.out.drew, XX2.out.drew, II2.out.drew, FF2.out.drew⟩ (fun hHeld => ?_)
  refine wpAnyH_take (i := 0) (oi := ⟨_, _, _, _, _, _⟩) (v := ?_) rfl (by kernel_rfl) (by kernel_rfl) (by kernel_rfl) (fun _ _ _ h => h) (Or.inl ⟨by rfl, ?_⟩) (by assumption) ?_
  rotate_left
  · intro w hSw; go_simp; try (with_reducible rfl)
  try simp only [Act.put, List.setIfInBounds_toArray, List.set_cons_zero, List.set_cons_succ]
  refine wpAnyH_take (i := 1) (oi := ⟨_, _, _, _, _, _⟩) (v := .int .u64 (h.height : Int)) rfl (by kernel_rfl) (by kernel_rfl) (by kernel_rfl) (fun _ _ _ h => h) (Or.inl ⟨by rfl, fun w hSw => (by have c := hSw.2.2.1.cell (Hd.cell_height OK.out); go_simp; try (with_reducible rfl))⟩) (by assumption) ?_
  try simp only [Act.put, List.setIfInBounds_toArray, List.set_cons_zero, List.set_cons_succ]
  refine wpAnyH_take (i := 2) (oi := ⟨_, _, _, _, _, _⟩) (v := ?_) rfl (by kernel_rfl) (by kernel_rfl) (by kernel_rfl) (fun _ _ _ h => h) (Or.inl ⟨by rfl, ?_⟩) (by assumption) ?_
  rotate_left
  · intro w hSw; go_simp; try (with_reducible rfl)
  try simp only [Act.put, List.setIfInBounds_toArray, List.set_cons_zero, List.set_cons_succ]
  refine wpAnyH_take (i := 3) (oi := ⟨_, _, _, _, _, _⟩) (v := ?_) rfl (by kernel_rfl) (by kernel_rfl) (by kernel_rfl) (fun _ _ _ h => h) (Or.inl ⟨by rfl, ?_⟩) (by assumption) ?_
  rotate_left
  · intro w hSw; go_simp; try (with_reducible rfl)
  try simp only [Act.put, List.setIfInBounds_toArray, List.set_cons_zero, List.set_cons_succ]
  refine wpAnyH_take (i := 4) (oi := ⟨_, _, _, _, _, _⟩) (v := ?_) rfl (by kernel_rfl) (by kernel_rfl) (by kernel_rfl) (fun _ _ _ h => h) (Or.inl ⟨by rfl, ?_⟩) (by assumption) ?_
  rotate_left
  · intro w hSw; go_simp; try (with_reducible rfl)
  try simp only [Act.put, List.setIfInBounds_toArray, List.set_cons_zero, List.set_cons_succ]
  refine wpAnyH_take (i := 5) (oi := ⟨_, _, _, _, _, _⟩) (v := .map (some b)) rfl (by kernel_rfl) (by kernel_rfl) (by kernel_rfl) (fun _ _ _ h => h) (Or.inl ⟨by rfl, fun w hSw => (by have c := hSw.1.cell (i := 0) rfl; go_simp; try (with_reducible rfl))⟩) (by assumption) ?_
  try simp only [Act.put, List.setIfInBounds_toArray, List.set_cons_zero, List.set_cons_succ]
  refine wpAnyH_take (i := 6) (oi := ⟨_, _, _, _, _, _⟩) (v := ?_) rfl (by kernel_rfl) (by kernel_rfl) (by kernel_rfl) (fun _ _ _ h => h) (Or.inl ⟨by rfl, ?_⟩) (by assumption) ?_
  rotate_left
  · intro w hSw; go_simp; try (with_reducible rfl)
  try simp only [Act.put, List.setIfInBounds_toArray, List.set_cons_zero, List.set_cons_succ]
  refine wpAnyH_take (i := 7) (oi := ⟨_, _, _, _, _, _⟩) (v := ?_) rfl (by kernel_rfl) (by kernel_rfl) (by kernel_rfl) (fun _ _ _ h => h) (Or.inl ⟨by rfl, ?_⟩) (by assumption) ?_
  rotate_left
  · intro w hSw; go_simp; try (with_reducible rfl)
  try simp only [Act.put, List.setIfInBounds_toArray, List.set_cons_zero, List.set_cons_succ]
  refine wpAnyH_take (i := 8) (oi := ⟨_, _, _, _, _, _⟩) (v := ?_) rfl (by kernel_rfl) (by kernel_rfl) (by kernel_rfl) (fun _ _ _ h => h) (Or.inl ⟨by rfl, ?_⟩) (by assumption) ?_
  rotate_left
  · intro w hSw; go_simp; try (with_reducible rfl)
  try simp only [Act.put, List.setIfInBounds_toArray, List.set_cons_zero, List.set_cons_succ]
  refine wpAnyH_take (i := 9) (oi := ⟨_, _, _, _, _, _⟩) rfl (by kernel_rfl) (by kernel_rfl) (by kernel_rfl) (fun _ _ _ h => h) (yieldsIf_load_mid (by rfl) _ _ rfl t 33 rfl (g0.map byt) _ (fun _ h => best_range HF0.out h.1) Tryd.underlying24 rfl (szD HG0.out)) (by assumption) ?_
  try simp only [Act.put, List.setIfInBounds_toArray, List.set_cons_zero, List.set_cons_succ]
  refine wpAnyH_take (i := 10) (oi := ⟨_, _, _, _, _, _⟩) rfl (by kernel_rfl) (by kernel_rfl) (by kernel_rfl) (fun _ _ _ h => h) (yieldsIf_look (by rfl) _ _ _ false rfl 32 keyed Tryd.underlying59 zeroV rfl (fun _ h => h.2.1) (dv g0) kl3 rfl HKL3.out _ HAT3.out (hv g0') rfl) (by assumption) ?_
  try simp only [Act.put, List.setIfInBounds_toArray, List.set_cons_zero, List.set_cons_succ]
  refine wpAnyH_take (i := 11) (oi := ⟨_, _, _, _, _, _⟩) rfl (by kernel_rfl) (by kernel_rfl) (by kernel_rfl) (fun _ _ _ h => h) (yieldsIf_run (by rfl) (.int .u64 (g0'.height : Int)) (fun _ _ => exec_field rfl rfl (run_field_height g0' OKB.out _))) (by assumption) ?_
  try simp only [Act.put, List.setIfInBounds_toArray, List.set_cons_zero, List.set_cons_succ]
  refine wpAnyH_take (i := 12) (oi := ⟨_, _, _, _, _, _⟩) (v := ?_) rfl (by kernel_rfl) (by kernel_rfl) (by kernel_rfl) (fun _ _ _ h => h) (Or.inl ⟨by rfl, ?_⟩) (by assumption) ?_
  rotate_left
  · intro w hSw; go_simp; try (with_reducible rfl)
  try simp only [Act.put, List.setIfInBounds_toArray, List.set_cons_zero, List.set_cons_succ]
  refine wpAnyH_done (by kernel_rfl) ?_ _
  have KK3 := Lib.hid hHeld.1
  have MM3 := Lib.hid hHeld.2.1
  have II3 := Lib.hid hHeld.2.2.2.1
  have FF3 := Lib.hid hHeld.2.2.2.2
  have e3 := Lib.hid (show (hs ++ [h])[0]? = some f0' by rw [List.getElem?_append_left HT.out.ne]; exact E1.out)
  have HAL := Lib.hid (show addL hs h = hs ++ [h] by unfold addL; rw [if_pos HR.out])
  have HHT := Lib.hid (show ht hs (best hs) = g0'.height by unfold ht; rw [E2.out]; rfl)
  clear hHeld KK2 XX2 II2 FF2 M2
  by_cases hgt : g0'.height < h.height
  · have hgtI : (g0'.height : Int) < (h.height : Int) := by omega
    have HBE := Lib.hid (show (hs ++ [h])[best (hs ++ [h])]? = some h by rw [best_snoc hs h HT.out.ne, if_pos (by rw [HHT.out]; exact hgt)]; simp)
    have HN33 := Lib.hid (show (Value.map (some b) :: f0.map byt).length = 33 by simp [HF0.out])
    have HN32 := Lib.hid (show (g0.map byt).length = (m.map byt).length by simp [HML.out, HG0.out])
    have KS := Lib.hid (show Blk _ t ((Value.map (some b) :: f0.map byt) ++ (g0.map byt ++ [])) 61 from by have := KK3.out; simpa [tkC] using this)
    go_wp2_with (first
      | (with_reducible refine wpList_load_blk rfl _ _ rfl gi (m.map byt) rfl II3.out _ Tryd.underlying24 rfl (szD HML.out) ?_)
      | (with_reducible refine wpList_putMid rfl _ _ _ rfl t (Value.map (some b) :: f0.map byt) (g0.map byt) [] (m.map byt) 33 HN33.out rfl rfl KS.out (szD HML.out) HN32.out (one_dig m) (fun wc kc fc zc => ?_); have KC := Lib.hid kc; have MC := Lib.hid (MM3.out.fr fc (Ne.symm hne)); have FC := Lib.hid (fr_t FF3.out fc); clear kc fc))
    go_ret
    refine ⟨by rw [HR.out]; rfl, ?_, FC.out⟩
    rw [HAL.out]
    refine ⟨f0', h, e3.out, HBE.out, ?_, by rw [pairs_snoc, HM.out]; exact MC.out, hne⟩
    rw [HFE.out, HM.out]
    have := KC.out
    simpa [tkC] using this
  · have hgtI : ¬ (g0'.height : Int) < (h.height : Int) := by omega
    have HBE := Lib.hid (show (hs ++ [h])[best (hs ++ [h])]? = some g0' by rw [best_snoc hs h HT.out.ne, if_neg (by rw [HHT.out]; exact hgt), List.getElem?_append_left (best_lt HT.out.ne)]; exact E2.out)
    go_wp2
    go_ret
    refine ⟨by rw [HR.out]; rfl, ?_, FF3.out⟩
    rw [HAL.out]
    exact ⟨f0', g0', e3.out, HBE.out, by rw [HFE.out, HGE.out]; exact KK3.out, by rw [pairs_snoc, HM.out]; exact MM3.out, hne⟩
end Go.Proofs.YtmenchnjajpkmaaDoor.Tk
