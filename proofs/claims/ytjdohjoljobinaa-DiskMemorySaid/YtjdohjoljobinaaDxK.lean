/- What the iterator over a disk's names promises. Condition: at most 2^40 files. -/
import Derived.Test.YtjdohjoljobinaaSk
import Derived.Test.YtjdohjoljobinaaIter
import Derived.Test.YtjdohjoljobinaaRow
import Derived.Shelf.Abstract
import Derived.Shelf.RegionOpen
import Derived.OwnWalkIn
import Derived.TacticsInMore
import Derived.LoopNIn
import Derived.LoopIn
namespace Go.Proofs.Ytjdohjoljobinaa.Dx
open Go Go.RowKit Mem Maps Ops Reps Iter Row
open Go.Maps (Keyed string_keyed)
set_option linter.unusedVariables false
set_option linter.unusedSimpArgs false

section
variable {w w' : World} {B : Nat} {v : Value} {N : List Nm}
theorem own_row (h : w.ownsRow B 9 1 v N.length (N.map nmV)) : ∃ a cap, v = .slice a N.length cap ∧ ∀ i n, N[i]? = some n → ∃ g, a = some ⟨g, 0, none⟩ ∧ B ≤ g ∧ w.cell? ⟨g, i, none⟩ = some (nmV n) := by
  rcases h.2 with ⟨rfl, hn⟩ | ⟨g, cap, cur, hv, hg, hh, hc, hm, hs, ht⟩
  · refine ⟨none, 0, by rw [hn], fun i n hi => ?_⟩
    have := (List.getElem?_eq_some_iff.1 hi).1
    omega
  · subst hv
    refine ⟨_, cap, rfl, fun i n hi => ⟨g, rfl, hg, ?_⟩⟩
    have hlt := (List.getElem?_eq_some_iff.1 hi).1
    have := h.cellAt i (by omega)
    rw [this]
    simp [hi]
theorem own_fr {S : Nat → Prop} (h : w.ownsRow B 9 1 v N.length (N.map nmV)) (hf : Fr S w w') (hn : ∀ k, B ≤ k → ¬ S k) : w'.ownsRow B 9 1 v N.length (N.map nmV) := by
  refine ⟨h.1, ?_⟩
  rcases h.2 with h2 | ⟨g, cap, cur, rfl, hb, hgg, rest⟩
  · exact .inl h2
  · exact .inr ⟨g, cap, cur, rfl, hb, (hf.block g (Array.getElem?_eq_some_iff.1 hgg).1 (hn g hb)).trans hgg, rest⟩
end
/-- the names' row, which nobody else may turn -/
def ItN (B : Nat) (N : List Nm) (s : Nat × Value) (A : World) : Prop := A.ownsRow B 9 1 s.2 N.length (N.map nmV)
def YN (N : List Nm) (s s' : Nat × Value) (vs : Array Value) (A0 A : World) : Prop := ∃ n, N[s.1]? = some n ∧ s'.1 = s.1 + 1 ∧ vs = #[nmV n] ∧ (s.1 ≠ 0 → s'.2 = s.2)
def EN (N : List Nm) (s : Nat × Value) (A : World) : Prop := s.1 = N.length

attribute [local go_sem] Oper.semAt_some
set_option maxHeartbeats 4000000 in
set_option maxRecDepth 100000 in
theorem names_seq (w : World) (q b g : Nat) (d : Disk) {D : Nat → Prop} (H : DkIs D w q b d) (hg : Blk w g [.pointer (some ⟨q, 0, none⟩)] 27) (hn : d.fs.length ≤ 1099511627776) :
    SeqC Try.prog 81 #[.pointer (some ⟨g, 0, none⟩)] (fun _ => False) (ItN (w.heap.size + 2) (namesF d.fs)) (YN (namesF d.fs)) (EN (namesF d.fs)) (0, undef) w := by
  intro l J Jx W hW hsW hJ hY h0
  have HD := Lib.hid (H.below hW)
  obtain ⟨ml, m1, fi⟩ := HD.out.m
  have c2 := HD.out.k.cell (i := 2) rfl
  have c1 := (hg.below hW).cell (i := 0) rfl
  have HS := Lib.hid (sorted_calls m1 fi hn)
  have hNl : (namesF d.fs).length = d.fs.length := by unfold namesF; rw [List.length_mergeSort]; simp
  generalize namesF d.fs = N at *
  have hNb : N.length ≤ 1099511627776 := by omega
  have HJ := Lib.hid hJ
  have HY := Lib.hid hY
  have H0 := Lib.hid h0
  clear hJ hY h0 m1 fi hNl hn
  refine callsIn_of_wp Try.func81 rfl trivial ?_ rfl
  simp only [Try.ntmps81, List.size_toArray, List.length_cons, List.length_nil, Nat.reduceAdd, Nat.reduceSub, Array.replicate_succ, Array.replicate_zero, List.push_toArray, List.append_toArray, List.nil_append, List.cons_append]
  gi_wp2
  refine ⟨trivial, rfl, (callsIn_wide.2 (keys_calls _ _)).mono ?_⟩
  rintro e w2 ⟨rfl, rfl⟩
  gi_wp2
  refine ⟨trivial, rfl, (callsIn_wide.2 HS.out).mono ?_⟩
  rintro e w2 ⟨v, rfl, g1, g2⟩
  have hs2 := g2.size
  have IT := Lib.hid (show ItN (w.heap.size + 2) N (0, v) w2 from ownsRow_base_a g1 (by omega))
  have HJ2 := Lib.hid (HJ.out _ _ _ H0.out (Fr.ofBelowAll g2 (Nat.le_refl _)))
  obtain ⟨a, cap, hv, _⟩ := own_row g1
  subst hv
  clear g1 g2 H0 HS
  gi_wp2
  gi_loopw [12] (fun i wr => ∃ k : Nat, i = .int .i64 (k : Int) ∧ k ≤ N.length ∧ W.heap.size ≤ wr.heap.size ∧ ItN (w.heap.size + 2) N (k, .slice a N.length cap) wr ∧ ∃ u, (k ≠ 0 → u = .slice a N.length cap) ∧ J (k, u) wr) (fun i _ => N.length - (intOf i).toNat)
  case atStart => exact ⟨0, rfl, Nat.zero_le _, hs2, IT.out, ⟨_, fun h => absurd rfl h, HJ2.out⟩⟩
  case round =>
    obtain ⟨k, rfl, hk, hsr, hit, u, hu, hj⟩ := hrel
    have HU := Lib.hid hu
    clear hu
    have HJw := Lib.hid hj
    have ITw := Lib.hid hit
    clear hj hit HJ2 IT
    by_cases hlt : k < N.length
    · have hlt2 : ((k : Int) < (N.length : Int)) := by omega
      obtain ⟨n, hnk⟩ : ∃ n, N[k]? = some n := ⟨_, List.getElem?_eq_getElem hlt⟩
      have HNK := Lib.hid hnk
      obtain ⟨a2, cap2, hv2, hcells⟩ := own_row (show World.ownsRow _ _ _ _ _ _ _ from ITw.out)
      simp only [Value.slice.injEq, true_and] at hv2
      obtain ⟨rfl, rfl⟩ := hv2
      obtain ⟨gr, rfl, hgr, hcell⟩ := hcells k n hnk
      unfold nmV at hcell
      clear hcells hnk
      obtain ⟨fn, tmps, assign, body, hy, hR⟩ := HY.out (k, u) (k + 1, .slice (some ⟨gr, 0, none⟩) N.length cap) #[nmV n] wr wr HJw.out (Fr.refl _ _) ⟨n, HNK.out, rfl, rfl, fun h => (HU.out h).symm⟩ ITw.out
      unfold nmV at hy
      have HRR := Lib.hid hR
      clear hR
      gi_wp2
      refine ⟨rfl, HRR.out.mono ?_⟩
      rintro e W' (⟨rfl, k1, k2, hs4⟩ | ⟨rfl, k1⟩)
      · have HJ4 := Lib.hid k1
        have HI4 := Lib.hid k2
        clear k1 k2
        gi_wp2
        go_roundw
        case rel => exact ⟨k + 1, by go_num, by omega, by omega, HI4.out, ⟨_, fun _ => rfl, HJ4.out⟩⟩
        case measure => simp [intOf]; omega
      · gi_wp2
        refine bodyPost_ret (results_none rfl _ _ _) rfl ?_
        exact ⟨⟨_, rfl⟩, .inr ⟨_, k1⟩⟩
    · have hlt2 : ¬ ((k : Int) < (N.length : Int)) := by omega
      gi_wp2
      go_end0
      exact ⟨⟨_, rfl⟩, .inl ⟨k, u, show k = N.length by omega, HJw.out⟩⟩
set_option maxHeartbeats 4000000 in
set_option maxRecDepth 100000 in
theorem names_calls (w : World) (q : Nat) : Calls Try.prog 56 #[.pointer (some ⟨q, 0, none⟩)] w fun e w' => e = .returned (.func (.func 81) #[] #[.pointer (some ⟨w.heap.size, 0, none⟩)]) ∧ Blk w' w.heap.size [.pointer (some ⟨q, 0, none⟩)] 27 ∧ Below w.heap.size w w' ∧ w.heap.size + 1 = w'.heap.size := by
  go_enter Try.func56, Try.ntmps56
  go_wp2
  go_ret
  exact ⟨rfl, Blk.new w _ _ _ rfl, (Below.refl _ _).alloc (Nat.le_refl _) _, by simp⟩
set_option maxRecDepth 100000 in
theorem elemS : ElemT Try.prog 37 9 (.string ByteArray.empty) 1 16 := ⟨Try.underlying37, ⟨_, rfl, by kernel_rfl, by kernel_rfl, by kernel_rfl⟩, by simp [Value.cells], by decide⟩
theorem one_val {vs : Array Value} (h : vs.size = 1) : ∃ a, vs = #[a] := ⟨vs[0], by
  apply Array.ext
  · simp [h]
  · intro i h1 h2
    simp only [List.size_toArray, List.length_cons, List.length_nil] at h2
    match i, h2 with
    | 0, _ => rfl⟩
/-- what Names keeps from round to round -/
def NI (w : World) (B : Nat) (N : List Nm) (s : Nat × Value) (A : World) : Prop :=
  ∃ v, Blk A w.heap.size [v] 37 ∧ A.ownsRow B 9 1 v s.1 ((N.take s.1).map nmV) ∧ (s.1 = 0 → v = .slice none 0 0) ∧ (s.1 ≠ 0 → ∀ k, v.ownBlock = some k → s.2.ownBlock ≠ some k) ∧ Below w.heap.size w A
def NamesT (w : World) (fs : List XF) (e : Ending) (w' : World) : Prop := ∃ v, e = .returned v ∧ w'.ownsRow w.heap.size 9 1 v (namesF fs).length ((namesF fs).map nmV) ∧ Below w.heap.size w w'
set_option maxHeartbeats 8000000 in
set_option maxRecDepth 100000 in
theorem Names_calls (w : World) (q b : Nat) (d : Disk) {D : Nat → Prop} (H : DkIs D w q b d) (hn : d.fs.length ≤ 1099511627776) :
    Calls Try.prog 16 #[.pointer (some ⟨q, 0, none⟩)] w (NamesT w d.fs) := by
  have HR := Lib.hid H
  have hlt := H.lt
  clear H
  refine (callsIn_wide (n := 0)).1 (callsIn_of_wp_marks Try.func16 rfl trivial ?_ rfl)
  simp only [Try.ntmps16, List.size_toArray, List.length_cons, List.length_nil, Nat.reduceAdd, Nat.reduceSub, Array.replicate_succ, Array.replicate_zero, List.push_toArray, List.append_toArray, List.nil_append, List.cons_append]
  gi_wp2
  refine ⟨trivial, rfl, (callsIn_wide.2 (names_calls _ q)).mono ?_⟩
  rintro e w2 ⟨rfl, g1, g2, g3⟩
  rw [World.size_alloc] at g1 g3
  have hb0 : Below w.heap.size w w2 := ((Below.refl _ w).alloc (Nat.le_refl _) _).trans (g2.mono (by simp))
  have hbk : Blk w2 w.heap.size [.slice none 0 0] 37 := (Blk.new w #[.slice none 0 0] 37 [.slice none 0 0] rfl).below g2
  have HR2 := Lib.hid (HR.out.below hb0)
  have G1 := Lib.hid g1
  have hI0 : NI w (w2.heap.size + 2) (namesF d.fs) (0, undef) w2 := ⟨_, hbk, World.ownsRow_nil _ _ _ _, fun _ => rfl, fun h => absurd rfl h, hb0⟩
  have HI0 := Lib.hid hI0
  clear g1 g2 hb0 hbk hI0
  gi_wp2
  have SQ := Lib.hid (names_seq w2 q b (w.heap.size + 1) d HR2.out G1.out hn)
  have hNl : (namesF d.fs).length = d.fs.length := by unfold namesF; rw [List.length_mergeSort]; simp
  obtain ⟨N, hN⟩ : ∃ N, namesF d.fs = N := ⟨_, rfl⟩
  rw [hN] at SQ HI0 hNl
  have HN := Lib.hid hN
  have hNb : N.length ≤ 1099511627776 := by omega
  clear hNl hn hN
  refine rangeSeq rfl (enters_of Try.func81 (by kernel_rfl) rfl)
    SQ.out
    (fun k hk => hk.elim)
    (fun s A B h hf => own_fr h hf (fun k hk e => by omega))
    (fun s s' vs A0 A B h hA hf => h)
    (fun s A B h hf => h) (fun s s' vs A0 A h => by obtain ⟨n, _, _, rfl, _⟩ := h; rfl)
    (NI w (w2.heap.size + 2) N) (fun _ _ _ => False)
    (fun s A B h hf => by
      obtain ⟨v, h3, h4, h5, h6, h7⟩ := h
      have hf2 : Fr (fun b => b = w2.heap.size + 1) A B := hf.mono (fun k _ h => by rcases h with h | h; exact h.elim; exact h)
      exact ⟨v, h3.fr hf2 (by omega), OwnV.fr h4 hf2 (fun k hk e => by have := (World.ownsRow.lt h4 k hk).1; omega), h5, h6, h7.trans (hf2.below (B := w.heap.size) h7.size (fun k hk => by omega))⟩) (fun _ _ _ _ h _ => h) HI0.out
    (fun vs => { tmps := #[.pointer (some ⟨q, 0, none⟩), undef, .slice none 0 0, .pointer (some ⟨w.heap.size, 0, none⟩), vs.getD 0 undef, .pointer (some ⟨q, 0, none⟩), .func (.func 81) #[] #[.pointer (some ⟨w.heap.size + 1, 0, none⟩)], vs.getD 0 undef, undef, undef, undef, undef, undef], defers := [] }) ?assign ?body ?done ?stop
  case assign =>
    intro l vs W K hs hK
    obtain ⟨v0, rfl⟩ := one_val hs
    gi_wp2
    exact hK
  case body =>
    rintro ⟨k, u⟩ ⟨k2, u2⟩ vs A0 A hlt ⟨v, hb, ho, hz, hne, hbel⟩ hfr ⟨n, hnk, e1, rfl, hs⟩ hit
    dsimp only at ho hz hne hnk e1 hs hit ⊢
    subst e1
    have hfr2 : Fr (fun b => b = w2.heap.size + 1) A0 A := hfr.mono (fun k _ h => by rcases h with h | h; exact h.elim; exact h)
    obtain ⟨va, vc, rfl, _⟩ := OwnV.form ho
    have hkl : k < N.length := (List.getElem?_eq_some_iff.1 hnk).1
    have hdis : ∀ g, (Value.slice va k vc).ownBlock = some g → u2.ownBlock ≠ some g := fun g hg => by
      by_cases h0 : k = 0
      · rw [hz h0] at hg; cases hg
      · rw [hs h0]; exact hne h0 g hg
    have hsA := hfr2.size
    have hoA := OwnV.fr ho hfr2 (fun k hk e => by have := (World.ownsRow.lt ho k hk).1; omega)
    have hbA := hb.fr hfr2 (by omega)
    have hbelA : Below w.heap.size w A := hbel.trans (hfr2.below (B := w.heap.size) hbel.size (fun k hk => by omega))
    have cl := hbA.cell (i := 0) rfl
    have hal : Below A.heap.size A (A.alloc (.cells #[nmV n] 9)) := (Below.refl _ _).alloc (Nat.le_refl _) _
    have hb1 := hbA.below hal
    have HO1 := Lib.hid hoA
    have HIT := Lib.hid hit
    have HBL := Lib.hid hbelA
    have HAL := Lib.hid hal
    have HD := Lib.hid hdis
    have HLB := Lib.hid (show ∀ g, (Value.slice va k vc).ownBlock = some g → w2.heap.size + 2 ≤ g ∧ g < A.heap.size from fun g hg => World.ownsRow.lt hoA g hg)
    have HNK := Lib.hid hnk
    have HTK := Lib.hid (show (N.take (k + 1)).map nmV = (N.take k).map nmV ++ [nmV n] from by rw [List.take_add_one, hnk]; simp)
    unfold nmV at HAL
    clear hb ho hz hne hbel hfr hfr2 hit hnk hs hdis hoA hbA hbelA hal
    unfold nmV at hb1 ⊢
    gi_wp2_with (gi_at_builtin; refine wpListIn_append_val _ rfl (.tmp 8) (.tmp 10) 37 rfl (w2.heap.size + 2) 9 elemS _ k ((N.take k).map nmV) rfl (OwnV.below HO1.out HAL.out) ⟨A.heap.size, 0, none⟩ 1 1 [.string ⟨n.toArray⟩] rfl rfl (cell_one_new _ _ _) (by simp [Value.oneCell']) (by unfold maxLen; omega) (by omega) (by simp; omega) ?_; intro a' cap' w3 q1 q2 q3; have hk3 := hb1.fr (Fr.ofGrown q2) (fun e => by have := HLB.out _ e; omega); have cc := hk3.cell (i := 0) rfl; have ff := hk3.free 0)
    have q2' : Fr (fun j => (Value.slice va k vc).ownBlock = some j) A w3 := ((Fr.refl _ A).alloc _).trans (Fr.ofGrown q2)
    have hF : Fr (fun j => (Value.slice va k vc).ownBlock = some j ∨ j = w.heap.size) A (w3.setCell ⟨w.heap.size, 0, none⟩ (.slice a' (k + 1) cap')) := (q2'.mono (fun k _ h => .inl h)).setCell (.inr (.inr rfl)) _
    have hll := HLB.out
    have hu2 := World.ownsRow.lt HIT.out
    have hst : Fr (fun j => j = w.heap.size) w3 (w3.setCell ⟨w.heap.size, 0, none⟩ (.slice a' (k + 1) cap')) := Fr.setCell (S := fun j => j = w.heap.size) (p := ⟨w.heap.size, 0, none⟩) (Fr.refl _ _) (.inr rfl) _
    refine ⟨Rec.fr hF (by omega) (fun h => ?_) (fun h => ?_), ⟨_, hk3.set 0 _, ?_, fun h => by omega, fun _ j hj hj2 => ?_, HBL.out.trans (hF.below (B := w.heap.size) HBL.out.size (fun j hj => ?_))⟩, ?_⟩
    · rcases h with h | h
      · have := hll _ h; omega
      · omega
    · rcases h with h | h
      · have := hll _ h; omega
      · omega
    · rw [HTK.out]
      exact OwnV.fr q1 hst (fun j hj e => by have := (World.ownsRow.lt q1 j hj).1; have e : j = w.heap.size := e; omega)
    · rcases q3 with q3 | q3
      · rw [q3] at hj
        exact HD.out j hj hj2
      · rw [q3] at hj
        have h5 := (hu2 j hj2).2
        simp only [Option.some.injEq] at hj
        have h6 : A.heap.size ≤ (A.alloc (.cells #[.string ⟨n.toArray⟩] 9)).heap.size := by simp
        omega
    · rcases hj with h | h
      · have := hll _ h; omega
      · omega
    · exact OwnV.fr HIT.out hF (fun j hj e => by
        rcases e with e | e
        · exact HD.out j e hj
        · have := (hu2 j hj).1; omega)
  case done =>
    rintro ⟨k, u⟩ W hE ⟨v, hb, ho, hz, hne, hbel⟩ hk
    have hE : k = N.length := hE
    subst hE
    dsimp only at ho ⊢
    rw [List.take_length] at ho
    have cv := hb.cell (i := 0) rfl
    have HO := Lib.hid ho
    have HB := Lib.hid hbel
    have HK := Lib.hid hk
    clear ho hz hne hbel hk
    gi_wp2
    refine ⟨by simp, .inl ⟨_, _, rfl, run_takeDeferred HK.out, ?_⟩⟩
    refine ⟨_, results_tmp rfl _ _ _, _, rfl, ?_, HB.out.trans ((Fr.putObj (S := fun j => j = w2.heap.size) W _ _ rfl).below (B := w.heap.size) HB.out.size (fun j hj => by omega))⟩
    rw [HN.out]
    exact OwnV.mono (OwnV.fr HO.out (Fr.putObj W _ _ rfl) (fun k hk e => by have := (World.ownsRow.lt HO.out k hk).1; omega)) (by omega)
  case stop =>
    intro c s W h
    exact h.elim
end Go.Proofs.Ytjdohjoljobinaa.Dx
