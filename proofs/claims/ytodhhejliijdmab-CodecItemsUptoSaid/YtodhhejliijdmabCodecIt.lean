/- The walk of the codec's Items: what its iterator promises. Condition: one thing's reader keeps its contract. -/
import Derived.Test.YtodhhejliijdmabIter
import Derived.Test.YtodhhejliijdmabCodecR
import Derived.Shelf.Abstract
import Derived.Shelf.RegionOpen
import Derived.OwnWalkIn
import Derived.TacticsInMore
import Derived.LoopNIn
import Derived.LoopIn
namespace Go.Proofs.Ytodhhejliijdmab.CodecIt
open Go Go.RowKit Mem Codec CodecR Iter
set_option linter.unusedVariables false

/-- so many things, up to the first one that fails -/
def items {α : Type} (one : Rd → Rd × α) : Nat → Rd → List α × Rd
  | 0, r => ([], r)
  | n + 1, r => if (one r).1.e ≠ 0 then ([], (one r).1) else ((one r).2 :: (items one n (one r).1).1, (items one n (one r).1).2)
section
variable {α : Type} (one : Rd → Rd × α)
/-- where one is -/
def At (n : Nat) (r1 : Rd) (s : List α × Rd) : Prop := s.1.length ≤ n ∧ items one n r1 = (s.1 ++ (items one (n - s.1.length) s.2).1, (items one (n - s.1.length) s.2).2)
theorem At.start (n : Nat) (r1 : Rd) : At one n r1 ([], r1) := ⟨Nat.zero_le _, by simp⟩
theorem At.next {n : Nat} {r1 : Rd} {pre : List α} {r : Rd} (h : At one n r1 (pre, r)) (hl : pre.length < n) (he : (one r).1.e = 0) : At one n r1 (pre ++ [(one r).2], (one r).1) := by
  obtain ⟨_, h⟩ := h
  refine ⟨by simp; omega, ?_⟩
  rw [h]
  dsimp only
  obtain ⟨k, hk⟩ : ∃ k, n - pre.length = k + 1 := ⟨n - pre.length - 1, by omega⟩
  rw [hk, items, if_neg (by simp [he]), show n - (pre ++ [(one r).2]).length = k by simp; omega]
  simp
theorem At.fails {n : Nat} {r1 : Rd} {pre : List α} {r : Rd} (h : At one n r1 (pre, r)) (hl : pre.length < n) (he : (one r).1.e ≠ 0) : items one n r1 = (pre, (one r).1) := by
  obtain ⟨_, h⟩ := h
  rw [h]
  dsimp only
  obtain ⟨k, hk⟩ : ∃ k, n - pre.length = k + 1 := ⟨n - pre.length - 1, by omega⟩
  rw [hk, items, if_pos he]
  simp
theorem At.all {n : Nat} {r1 : Rd} {pre : List α} {r : Rd} (h : At one n r1 (pre, r)) (hl : ¬ pre.length < n) : items one n r1 = (pre, r) := by
  obtain ⟨_, h⟩ := h
  rw [h, show n - pre.length = 0 by omega]
  simp [items]
/-- what a round is told: the reader behind its thing, the thing -/
def Y (n : Nat) (r1 : Rd) (V : World → World → Value → α → Prop) (s s' : List α × Rd) (vs : Array Value) (A0 A : World) : Prop :=
  ∃ v, s.1.length < n ∧ At one n r1 s ∧ s' = (s.1 ++ [(one s.2).2], (one s.2).1) ∧ (one s.2).1.e = 0 ∧ vs = #[.int .i64 (s.1.length : Int), v] ∧ V A0 A v (one s.2).2
def It (D : Nat → Prop) (q b1 b2 b3 : Nat) (most : Int) (fv : Value) (s : List α × Rd) (A : World) : Prop :=
  ReaderIs D A q s.2 ∧ A.cell? ⟨b1, 0, none⟩ = some (.pointer (some ⟨q, 0, none⟩)) ∧ A.cell? ⟨b2, 0, none⟩ = some (.int .i64 most) ∧ A.cell? ⟨b3, 0, none⟩ = some fv
def E (n : Nat) (r1 : Rd) (D : Nat → Prop) (q : Nat) (s : List α × Rd) (A : World) : Prop := ∃ r2, items one n r1 = (s.1, r2) ∧ ReaderIs D A q r2
end

attribute [local go_sem] Oper.semAt_some
set_option maxHeartbeats 4000000 in
set_option maxRecDepth 100000 in
theorem items_seq {α : Type} (one : Rd → Rd × α) (V : World → World → Value → α → Prop) (fo : Nat) (ef : ∀ args w, (callFunc fo args).run Try.prog w = .ok (.enter fo args) w) (D : Nat → Prop) (w : World) (q b1 b2 b3 : Nat) (r0 : Rd) (most : Int) (h1 : -9223372036854775808 ≤ most) (h2 : most < 9223372036854775808)
    (H : ReaderIs D w q r0) (hb1 : w.cell? ⟨b1, 0, none⟩ = some (.pointer (some ⟨q, 0, none⟩))) (hb2 : w.cell? ⟨b2, 0, none⟩ = some (.int .i64 most)) (hb3 : w.cell? ⟨b3, 0, none⟩ = some (.func (.func fo) #[] #[])) (hn1 : b1 ≠ q) (hn2 : b2 ≠ q) (hn3 : b3 ≠ q)
    (L : Nat) (hl : r0.rest.length ≤ L) (hlen : ∀ r, (one r).1.rest.length ≤ r.rest.length)
    (hone : ∀ (A : World) (r : Rd), ReaderIs D A q r → r.rest.length ≤ L → w.heap.size + 2 ≤ A.heap.size → Calls Try.prog fo #[.pointer (some ⟨q, 0, none⟩)] A fun e B => ∃ v, e = .returned v ∧ V A B v (one r).2 ∧ ReaderIs D B q (one r).1 ∧ Fr (fun k => k = q) A B) :
    SeqC Try.prog 53 #[.pointer (some ⟨b1, 0, none⟩), .pointer (some ⟨b2, 0, none⟩), .pointer (some ⟨b3, 0, none⟩)] (fun k => k = q)
      (It D q b1 b2 b3 most (.func (.func fo) #[] #[])) (Y one (r0.room most).2 (r0.room most).1 V) (E one (r0.room most).2 (r0.room most).1 D q) ([], (r0.room most).1) w := by
  intro l J Jx W hW hsW hJ hY h0
  have HR := Lib.hid (H.below hW)
  have HRM := Lib.hid (CodecR.room_calls D W q r0 most HR.out h1 h2)
  have hnb := room_le r0 most h2
  have hrl := Nat.le_trans (Rd.room_len r0 most) hl
  generalize (r0.room most).1 = r1 at *
  generalize (r0.room most).2 = n at *
  have c1 := (hW.cell (World.block_lt_of_cell? _ _ hb1)).trans hb1
  have c2 := (hW.cell (World.block_lt_of_cell? _ _ hb2)).trans hb2
  have c3 := (hW.cell (World.block_lt_of_cell? _ _ hb3)).trans hb3
  have HJ := Lib.hid hJ
  have HY := Lib.hid hY
  have H0 := Lib.hid h0
  have HO := Lib.hid hone
  clear hJ hY h0 hone HR
  refine callsIn_of_wp Try.func53 rfl trivial ?_ rfl
  simp only [Try.ntmps53, List.size_toArray, List.length_cons, List.length_nil, Nat.reduceAdd, Nat.reduceSub, Array.replicate_succ, Array.replicate_zero, List.push_toArray, List.append_toArray, List.nil_append, List.cons_append]
  gi_wp2
  refine ⟨trivial, rfl, (callsIn_wide.2 HRM.out).mono ?_⟩
  rintro e w2 ⟨rfl, g1, g2⟩
  have c1 := g2.cell c1 hn1
  have c2 := g2.cell c2 hn2
  have c3 := g2.cell c3 hn3
  have hs2 := g2.size
  have HR2 := Lib.hid g1
  have HJ2 := Lib.hid (HJ.out _ _ _ H0.out g2)
  clear g1 g2 HRM H0
  gi_wp2
  gi_loopw [6] (fun i wr => ∃ (pre : List α) (r : Rd), i = .int .i64 (pre.length : Int) ∧ At one n r1 (pre, r) ∧ r.rest.length ≤ L ∧ W.heap.size ≤ wr.heap.size ∧ It D q b1 b2 b3 most (.func (.func fo) #[] #[]) (pre, r) wr ∧ J (pre, r) wr) (fun i _ => n - (intOf i).toNat)
  case atStart => exact ⟨[], r1, rfl, At.start one n r1, hrl, hs2, ⟨HR2.out, c1, c2, c3⟩, HJ2.out⟩
  case round =>
    obtain ⟨pre, r, rfl, hA, hrL, hsr, ⟨g1, c1, c2, c3⟩, g5⟩ := hrel
    have hA1 := hA.1
    have HA := Lib.hid hA
    have HJw := Lib.hid g5
    have HRw := Lib.hid g1
    dsimp only at hA1
    have hcv : IntKind.u64.wrap (pre.length : Int) = (pre.length : Int) := by rw [IntKind.wrap_u64]; omega
    clear hA g1 g5 HJ2 HR2
    by_cases hlt : pre.length < n
    · have hlt2 : ((pre.length : Int) < (n : Int)) := by omega
      have HOw := Lib.hid (HO.out wr r HRw.out hrL (by omega))
      have HLn := Lib.hid (hlen r)
      have hcf := ef #[.pointer (some ⟨q, 0, none⟩)] wr
      gi_wp2
      refine ⟨trivial, rfl, (callsIn_wide.2 HOw.out).mono ?_⟩
      rintro e w3 ⟨v, rfl, hv, k1, k2⟩
      have HV := Lib.hid hv
      have HR3 := Lib.hid k1
      have HF3 := Lib.hid k2
      have hs3 := k2.size
      have c1 := k2.cell c1 hn1
      have c2 := k2.cell c2 hn2
      have c3 := k2.cell c3 hn3
      obtain ⟨xa, xc, x1, _, _⟩ := id k1
      have d1 := x1.cell (i := 1) rfl
      clear hv k1 k2 x1 HOw
      by_cases he : (one r).1.e = 0
      · rw [he] at d1
        obtain ⟨fn, tmps, assign, body, hy, hR⟩ := HY.out (pre, r) (pre ++ [(one r).2], (one r).1) #[.int .i64 (pre.length : Int), v] wr w3 HJw.out HF3.out ⟨v, hlt, HA.out, rfl, he, rfl, HV.out⟩ ⟨HR3.out, c1, c2, c3⟩
        have HRR := Lib.hid hR
        clear hR
        gi_wp2
        refine ⟨rfl, HRR.out.mono ?_⟩
        rintro e W' (⟨rfl, k1, k2, hs4⟩ | ⟨rfl, k1⟩)
        · have HJ4 := Lib.hid k1
          have HI4 := Lib.hid k2
          have HA4 := Lib.hid (HA.out.next one hlt he)
          clear k1 k2
          gi_wp2
          go_roundw
          case rel => exact ⟨_, _, by rw [List.length_append]; rfl, HA4.out, Nat.le_trans HLn.out hrL, by omega, HI4.out, HJ4.out⟩
          case measure => simp [intOf]; omega
        · gi_wp2
          refine bodyPost_ret (results_none rfl _ _ _) rfl ?_
          exact ⟨⟨_, rfl⟩, .inr ⟨_, k1⟩⟩
      · have he2 : ((one r).1.e != 0) = true := by simpa using he
        have HEE := Lib.hid (HA.out.fails one hlt he)
        have HJ3 := Lib.hid (HJ.out _ _ _ HJw.out HF3.out)
        gi_wp2
        refine ⟨fun _ h => (by cases h), ?_⟩
        gi_wp2
        refine bodyPost_ret (results_none rfl _ _ _) rfl ?_
        exact ⟨⟨_, rfl⟩, .inl ⟨(pre, r), ⟨_, HEE.out, HR3.out⟩, HJ3.out⟩⟩
    · have hlt2 : ¬ ((pre.length : Int) < (n : Int)) := by omega
      have HEE := Lib.hid (HA.out.all one hlt)
      gi_wp2
      go_end0
      exact ⟨⟨_, rfl⟩, .inl ⟨pre, r, ⟨r, HEE.out, HRw.out⟩, HJw.out⟩⟩
end Go.Proofs.Ytodhhejliijdmab.CodecIt
