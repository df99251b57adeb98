/- What a thing's bytes are read as, on either side. Plain. No condition. One reading behind the other. Plain. No condition. The walk of the wire's reader at an output of the main chain. Condition: the bytes are at most 2^47. Walks of the codec's List at outputs of the main chain, and of things. Condition: the bytes are at most 2^47; at most 65536 things. The walks of the wire's reader at a transaction of the main chain, and of ReadMainTx. Condition: the bytes are at most 2^47. The walk of the law's alive: what the document fixes. No condition. The walk of the reference's R.params. Condition: the bytes are at most 2^47. The walk of the reference's ReadParams; the program's ReadParams told in the same words. Condition: the bytes are at most 2^47. The walk of law12's same. No condition. What a federation's bytes are told as, over the way in which federations read. Condition: at most 2^42 keys. -/
import Derived.Test.YtmenchnjajpkmaaGreatWHef
import Derived.Test.YtmenchnjajpkmaaGreatWHed
import Derived.Lib.SlBytesConst
section
namespace Go.Proofs.YtmenchnjajpkmaaGreat.Rr
open Go Go.RowKit Mem Codec Ops Reps WtIt Arr
set_option linter.unusedVariables false

/-- the thing that bytes are, and the error -/
def got {α : Type} (rd : Rd → Rd × α) (x0 : α) (l : List UInt8) : α × Int := if (rd ⟨l, 0⟩).1.fin = 0 then ((rd ⟨l, 0⟩).2, 0) else (x0, 120)
/-- it is told so -/
def GotT {α : Type} (R : (Nat → Prop) → World → List Value → α → Prop) (w : World) (g : α × Int) (e : Ending) (w' : World) : Prop :=
  ∃ cs : List Value, e = .returned (.tuple #[.agg cs.toArray, .int .i64 g.2]) ∧ R (fun b => w.heap.size ≤ b) w' cs g.1 ∧ Below w.heap.size w w'
theorem fin_ok {r : Rd} (h : r.fin = 0) : r.e = 0 := by
  unfold Rd.fin at h
  split at h
  · omega
  · exact h
theorem got_yes {α : Type} {rd : Rd → Rd × α} {x0 : α} {l : List UInt8} (h : (rd ⟨l, 0⟩).1.fin = 0) : got rd x0 l = ((rd ⟨l, 0⟩).2, 0) := if_pos h
theorem got_no {α : Type} {rd : Rd → Rd × α} {x0 : α} {l : List UInt8} (h : ¬ (rd ⟨l, 0⟩).1.fin = 0) : got rd x0 l = (x0, 120) := if_neg h
end Go.Proofs.YtmenchnjajpkmaaGreat.Rr
end

section
namespace Go.Proofs.YtmenchnjajpkmaaGreat.Rr
open Go Go.RowKit Mem Codec Ops Reps WtIt Arr
set_option linter.unusedVariables false

/-- one reading, and another one behind it -/
def seq {α β : Type} (f : Rd → Rd × α) (g : Rd → Rd × β) (r : Rd) : Rd × (α × β) := ((g (f r).1).1, (f r).2, (g (f r).1).2)
theorem seq_rest {α β : Type} {f : Rd → Rd × α} {g : Rd → Rd × β} (hf : ∀ r, (f r).1.rest.length ≤ r.rest.length) (hg : ∀ r, (g r).1.rest.length ≤ r.rest.length) (r : Rd) : (seq f g r).1.rest.length ≤ r.rest.length := Nat.le_trans (hg _) (hf _)
theorem num_rest (r : Rd) (n : Nat) : (r.num n).1.rest.length ≤ r.rest.length := (CodecR.Rd.take_len r n).1
theorem items_rest {α : Type} {one : Rd → Rd × α} (h : ∀ r, (one r).1.rest.length ≤ r.rest.length) : ∀ (n : Nat) (r : Rd), (items one n r).2.rest.length ≤ r.rest.length
  | 0, r => Nat.le_refl _
  | n + 1, r => by
    unfold items
    split
    · exact h r
    · exact Nat.le_trans (items_rest h n _) (h r)
theorem cells_one {v : Value} (h : v.oneCell' = true) : v.cells = #[v] := by cases v <;> first | rfl | cases h
end Go.Proofs.YtmenchnjajpkmaaGreat.Rr
end

section
namespace Go.Proofs.YtmenchnjajpkmaaGreat.Rm
open Go Go.RowKit Mem Codec CodecR Ops Reps WtIt Arr Rr Wr Wm
set_option linter.unusedVariables false
set_option linter.unusedSimpArgs false

set_option maxRecDepth 100000 in
theorem structMo : StructT Tryz.prog 76 [1, 32] := ⟨_, _, _, rfl, Tryz.underlying76, rfl, by kernel_rfl, by kernel_rfl⟩
/-- an output, read -/
def RDmo (r : Rd) : Rd × (Nat × List UInt8) := seq (fun r : Rd => r.num 8) Wr.Rd.dig r
theorem rdmo_rest (r : Rd) : (RDmo r).1.rest.length ≤ r.rest.length := seq_rest (fun r => num_rest r 8) dig_rest r
set_option maxHeartbeats 8000000 in
set_option maxRecDepth 100000 in
theorem rmo_calls (D : Nat → Prop) (w : World) (q : Nat) (r : Rd) (H : ReaderIs D w q r) (hl : r.rest.length ≤ 140737488355328) :
    Calls Tryz.prog 64 #[.agg #[.pointer (some ⟨q, 0, none⟩)]] w (GotD RMo D w q (RDmo r)) := by
  have hql := H.lt
  have H0 := Lib.hid ((rd_under H).below (below_alloc w (.cells #[.pointer (some ⟨q, 0, none⟩)] 68)))
  have HB := Lib.hid (Blk.new w #[.pointer (some ⟨q, 0, none⟩)] 68 _ rfl)
  have HA := Lib.hid (below_alloc w (.cells #[.pointer (some ⟨q, 0, none⟩)] 68))
  have hz : w.heap.size + 1 = (w.alloc (.cells #[.pointer (some ⟨q, 0, none⟩)] 68)).heap.size := by simp
  have HL0 := Lib.hid hl
  obtain ⟨y1, hy1⟩ : ∃ y, ((r).num 8).2 = y := ⟨_, rfl⟩
  obtain ⟨r1, hr1⟩ : ∃ y, ((r).num 8).1 = y := ⟨_, rfl⟩
  have HC1 := Lib.hid (fun D w h => CodecR.long_calls D w q r h)
  have HW1 := Lib.hid (show y1 < 18446744073709551616 by rw [← hy1]; exact num_lt _ _)
  have HL1 := Lib.hid (show r1.rest.length ≤ 140737488355328 by rw [← hr1]; exact Nat.le_trans (num_rest _ _) HL0.out)
  rw [hr1, hy1] at HC1
  obtain ⟨y2, hy2⟩ : ∃ y, (Wr.Rd.dig r1).2 = y := ⟨_, rfl⟩
  obtain ⟨r2, hr2⟩ : ∃ y, (Wr.Rd.dig r1).1 = y := ⟨_, rfl⟩
  have HC2 := Lib.hid (fun D w h => Wr.digest_calls D w q r1 h HL1.out)
  have HW2 := Lib.hid (show y2.length = 32 by rw [← hy2]; exact Wr.Rd.dig_len r1)
  have HL2 := Lib.hid (show r2.rest.length ≤ 140737488355328 by rw [← hr2]; exact Nat.le_trans (dig_rest _) HL1.out)
  rw [hr2, hy2] at HC2
  have HRD := Lib.hid (show RDmo r = (r2, y1, y2) by simp only [RDmo, seq, hr1, hy1, hr2, hy2])
  rw [HRD.out]
  clear H hl hr1 hy1 hr2 hy2
  go_enter Tryz.func64, Tryz.ntmps64
  go_upto_region 1 with (first
    | ((with_reducible refine wpList_alloc rfl _ rfl _ (zeroMo _) (fun wb ka ca za => ?_)); have KA := Lib.hid ka; have CA := Lib.hid ca; clear ka ca))
  generalize (w.alloc (.cells #[.pointer (some ⟨q, 0, none⟩)] 68)) = wA at *
  have O0 := Lib.hid (H0.out.below CA.out)
  have HB2 := Lib.hid (HB.out.below CA.out)
  have B2 := Lib.hid (HA.out.trans (CA.out.mono (by omega)))
  have hg0 : w.heap.size < wA.heap.size := by omega
  have hg2 : wA.heap.size < wb.heap.size := by omega
  generalize wA.heap.size = g1 at *
  clear H0 HB HA CA
  refine wp_region_held_drew (S := (fun w' => Blk w' w.heap.size [.pointer (some ⟨q, 0, none⟩)] 68 ∧ (∃ l : List Value, l.length = 33 ∧ Blk w' g1 l 76) ∧ Fr (fun k => k = q) w w' ∧ wb.heap.size ≤ w'.heap.size)) (by kernel_rfl) ⟨HB2.out.drew, ⟨_, zeroMo_len, KA.out.drew⟩, (Fr.ofBelowAll B2.out (Nat.le_refl _)).drew, Nat.le_refl _⟩ (fun hHeld => ?_)
  refine wpAnyH_take (i := 0) (oi := ⟨_, _, _, _, _, _⟩) (v := ?_) rfl (by kernel_rfl) (by kernel_rfl) (by kernel_rfl) (fun _ _ _ h => h) (Or.inl ⟨by rfl, ?_⟩) (by assumption) ?_
  rotate_left
  · intro w hSw; go_simp; try (with_reducible rfl)
  try simp only [Act.put, List.setIfInBounds_toArray, List.set_cons_zero, List.set_cons_succ]
  refine wpAnyH_take (i := 1) (oi := ⟨_, _, _, _, _, _⟩) (v := .pointer (some ⟨q, 0, none⟩)) rfl (by kernel_rfl) (by kernel_rfl) (by kernel_rfl) (fun _ _ _ h => h) (Or.inl ⟨by rfl, fun wS hSw => (by have hc := hSw.1.cell (i := 0) rfl; go_simp; try (with_reducible rfl))⟩) (by assumption) ?_
  try simp only [Act.put, List.setIfInBounds_toArray, List.set_cons_zero, List.set_cons_succ]
  refine wpAnyH_take (i := 3) (oi := ⟨_, _, _, _, _, _⟩) rfl (by kernel_rfl) (by kernel_rfl) (by kernel_rfl) (fun _ _ _ h => h) (yieldsIf_load_mid (by rfl) _ _ rfl w.heap.size 0 rfl [.pointer (some ⟨q, 0, none⟩)] _ (fun _ h => blk_range h.1) Tryz.underlying68 rfl (by kernel_rfl)) (by assumption) ?_
  try simp only [Act.put, List.setIfInBounds_toArray, List.set_cons_zero, List.set_cons_succ]
  refine wpAnyH_ready (rs := [2]) (by kernel_rfl) (by simp) ?_
  refine AllReadyH.cons (o := ⟨_, _, _, _, _, _⟩) rfl (fun K hK => ?_) AllReadyH.nil
  go_simp
  have kk1 := hHeld.1.lt
  have kk2 : g1 < _ := hHeld.2.1.choose_spec.2.lt
  have HH1 := hHeld.2.2.2
  refine (HC1.out _ wb.drew O0.out).mono ?_
  rintro e x1 ⟨rfl, o1, o2⟩
  have hsx1 := o2.size
  refine hK.out _ _ (by exact ⟨hHeld.1.fr o2 (by omega), hHeld.2.1.elim fun l h => ⟨l, h.1, h.2.fr o2 (by omega)⟩, hHeld.2.2.1.trans o2, Nat.le_trans hHeld.2.2.2 o2.size⟩) (fun hHeld => ?_)
  have O1 := Lib.hid o1
  clear o1 o2
  try simp only [Act.put, List.setIfInBounds_toArray, List.set_cons_zero, List.set_cons_succ]
  clear hK
  refine wpAnyH_ready (rs := [4]) (by kernel_rfl) (by simp) ?_
  refine AllReadyH.cons (o := ⟨_, _, _, _, _, _⟩) rfl (fun K hK => ?_) AllReadyH.nil
  go_simp
  have kk1 := hHeld.1.lt
  have kk2 : g1 < _ := hHeld.2.1.choose_spec.2.lt
  have HH2 := hHeld.2.2.2
  refine (HC2.out _ x1 O1.out).mono ?_
  rintro e x2 ⟨rfl, o1, o2⟩
  have hsx2 := o2.size
  refine hK.out _ _ (by exact ⟨hHeld.1.fr o2 (by omega), hHeld.2.1.elim fun l h => ⟨l, h.1, h.2.fr o2 (by omega)⟩, hHeld.2.2.1.trans o2, Nat.le_trans hHeld.2.2.2 o2.size⟩) (fun hHeld => ?_)
  have O2 := Lib.hid o1
  clear o1 o2
  try simp only [Act.put, List.setIfInBounds_toArray, List.set_cons_zero, List.set_cons_succ]
  clear hK
  have HCE := Lib.hid (show ([Value.int .u64 (y1 : Int)] ++ (y2.map byt) : List Value).length = 33 by simp [HW2.out])
  refine wpAnyH_take (i := 5) (oi := ⟨_, _, _, _, _, _⟩) rfl (by kernel_rfl) (by kernel_rfl) (by kernel_rfl) (fun _ _ _ h => h) (yieldsIf_build (by rfl) structMo [(0, _), (1, _)] rfl [.int .u64 (y1 : Int), .agg (y2.map byt).toArray] rfl (by simp [Value.cells, HW2.out]) (([Value.int .u64 (y1 : Int)] ++ (y2.map byt)).toArray) (by simp [Value.cells])) (by assumption) ?_
  try simp only [Act.put, List.setIfInBounds_toArray, List.set_cons_zero, List.set_cons_succ]
  refine wpAnyH_ready (rs := [6]) (by kernel_rfl) (by simp) ?_
  refine AllReadyH.cons (o := ⟨_, _, _, _, _, _⟩) rfl (fun K hK => ?_) AllReadyH.nil
  rw [if_pos (by rfl)]
  obtain ⟨l0, hl0, hb0⟩ := hHeld.2.1
  have HRR := Lib.hid (show ∀ W : World,  RMo (fun b => w.heap.size ≤ b ∧ b ≠ g1) W ([Value.int .u64 (y1 : Int)] ++ (y2.map byt)) (y1, y2) from fun W => ⟨_, _, rfl, ⟨HW1.out, rfl⟩, ⟨HW2.out, rfl⟩⟩)
  have HRF := Lib.hid (HRR.out x2)
  have HSZ := Lib.hid (show (Tryz.prog.info? 76).map (·.size) = some ([Value.int .u64 (y1 : Int)] ++ (y2.map byt) : List Value).length by rw [HCE.out]; kernel_rfl)
  refine wp_put _ _ _ rfl g1 ([Value.int .u64 (y1 : Int)] ++ (y2.map byt)) l0 rfl rfl hb0 HSZ.out (hl0.trans HCE.out.symm) (rep_Mo.one HRF.out) (fun we ke fe ze => ?_)
  refine hK.out _ _ (by exact ⟨hHeld.1.fr fe (by omega), ⟨_, HCE.out, ke⟩, hHeld.2.2.1.trans' fe (fun i hi (e : i = g1) => by omega), by have := hHeld.2.2.2; omega⟩) (fun hHeld => ?_)
  have KE := Lib.hid ke
  have FE := Lib.hid fe
  clear ke fe
  clear hK
  refine wpAnyH_done (by kernel_rfl) ?_ _
  have FF := Lib.hid hHeld.2.2.1
  clear hHeld
  go_wp2
  exact bodyPost_ret (v := .agg ([Value.int .u64 (y1 : Int)] ++ (y2.map byt)).toArray) (results_row1 Tryz.results64 _ _ g1 _ _ rfl KE.out Tryz.underlying76 rfl HSZ.out) rfl ⟨_, rfl, rep_Mo.mono (rep_Mo.fr HRF.out FE.out (fun b _ h (e : b = g1) => h.2 e)) (fun b _ h => h.1), rd_back (O2.out.fr FE.out (by omega) (fun k _ h (e : k = g1) => by have := h.1; omega)) hql, FF.out⟩
end Go.Proofs.YtmenchnjajpkmaaGreat.Rm
end

section
namespace Go.Proofs.YtmenchnjajpkmaaGreat.RmT
open Go Go.RowKit Mem Codec CodecW CodecR Iter Arr Ops Wr Reps WtIt
set_option linter.unusedVariables false
open Rr Wm Rm
/-- what a round is told -/
def KV (A B : World) (v : Value) (x : (Nat × List UInt8)) : Prop := ∃ cs, v = .agg cs.toArray ∧ RMo (fun b => A.heap.size ≤ b) B cs x
theorem szT {cs : List Value} (h : cs.length = 33) : (Tryz.prog.info? 76).map (·.size) = some cs.length := by rw [h]; kernel_rfl
attribute [local go_sem] Oper.semAt_some
set_option maxHeartbeats 4000000 in
set_option maxRecDepth 100000 in
theorem items_seq (one : Rd → Rd × (Nat × List UInt8)) (fo : Nat) (fk : Value) (ef : ∀ args w, (callFunc fo args).run Tryz.prog w = .ok (.enter fo args) w) (D : Nat → Prop) (w : World) (q b1 b2 b3 d1 d2 : Nat) (r0 : Rd) (most : Int) (h1 : -9223372036854775808 ≤ most) (h2 : most < 9223372036854775808)
    (H : ReaderIs D w q r0) (hb1 : w.cell? ⟨b1, 0, none⟩ = some (.pointer (some ⟨q, 0, none⟩))) (hb2 : w.cell? ⟨b2, 0, none⟩ = some (.int .i64 most)) (hb3 : w.cell? ⟨b3, 0, none⟩ = some (.func (.func fo) #[] #[.pointer (some ⟨d1, 0, none⟩), .pointer (some ⟨d2, 0, none⟩)])) (he1 : w.cell? ⟨d1, 0, none⟩ = some fk) (he2 : w.cell? ⟨d2, 0, none⟩ = some (.pointer (some ⟨q, 0, none⟩))) (hn4 : d1 ≠ q) (hn5 : d2 ≠ q) (hn1 : b1 ≠ q) (hn2 : b2 ≠ q) (hn3 : b3 ≠ q)
    (L : Nat) (hl : r0.rest.length ≤ L) (hlen : ∀ r, (one r).1.rest.length ≤ r.rest.length)
    (hone : ∀ (A : World) (r : Rd), ReaderIs D A q r → r.rest.length ≤ L → A.cell? ⟨d1, 0, none⟩ = some fk → A.cell? ⟨d2, 0, none⟩ = some (.pointer (some ⟨q, 0, none⟩)) → Calls Tryz.prog fo #[.pointer (some ⟨q, 0, none⟩), .pointer (some ⟨d1, 0, none⟩), .pointer (some ⟨d2, 0, none⟩)] A fun e B => ∃ cs, e = .returned (.agg cs.toArray) ∧ RMo (fun b => A.heap.size ≤ b) B cs (one r).2 ∧ ReaderIs D B q (one r).1 ∧ Fr (fun k => k = q) A B) :
    SeqC Tryz.prog 126 #[.pointer (some ⟨b1, 0, none⟩), .pointer (some ⟨b2, 0, none⟩), .pointer (some ⟨b3, 0, none⟩)] (fun k => k = q)
      (It D q b1 b2 b3 d1 d2 most (.func (.func fo) #[] #[.pointer (some ⟨d1, 0, none⟩), .pointer (some ⟨d2, 0, none⟩)]) fk) (Y one (r0.room most).2 (r0.room most).1 KV) (E one (r0.room most).2 (r0.room most).1 D q) ([], (r0.room most).1) w := by
  intro l J Jx W hW hsW hJ hY h0
  have HR := Lib.hid (H.below hW)
  have HRM := Lib.hid (CodecR.room_calls D W q r0 most HR.out h1 h2)
  have hnb := room_le r0 most h2
  have hrl := Nat.le_trans (Rd.room_len r0 most) hl
  generalize (r0.room most).1 = r1 at *
  generalize (r0.room most).2 = n at *
  have c1 := (hW.cell (World.block_lt_of_cell? _ _ hb1)).trans hb1
  have c2 := (hW.cell (World.block_lt_of_cell? _ _ hb2)).trans hb2
  have c3 := (hW.cell (World.block_lt_of_cell? _ _ hb3)).trans hb3
  have c4 := (hW.cell (World.block_lt_of_cell? _ _ he1)).trans he1
  have c5 := (hW.cell (World.block_lt_of_cell? _ _ he2)).trans he2
  have HJ := Lib.hid hJ
  have HY := Lib.hid hY
  have H0 := Lib.hid h0
  have HO := Lib.hid hone
  clear hJ hY h0 hone HR
  refine callsIn_of_wp Tryz.func126 rfl trivial ?_ rfl
  simp only [Tryz.ntmps126, List.size_toArray, List.length_cons, List.length_nil, Nat.reduceAdd, Nat.reduceSub, Array.replicate_succ, Array.replicate_zero, List.push_toArray, List.append_toArray, List.nil_append, List.cons_append]
  gi_wp2
  refine ⟨trivial, rfl, (callsIn_wide.2 HRM.out).mono ?_⟩
  rintro e w2 ⟨rfl, g1, g2⟩
  have c1 := g2.cell c1 hn1
  have c2 := g2.cell c2 hn2
  have c3 := g2.cell c3 hn3
  have c4 := g2.cell c4 hn4
  have c5 := g2.cell c5 hn5
  have hs2 := g2.size
  have HR2 := Lib.hid g1
  have HJ2 := Lib.hid (HJ.out _ _ _ H0.out g2)
  clear g1 g2 HRM H0
  gi_wp2
  gi_loopw [6] (fun i wr => ∃ (pre : List (Nat × List UInt8)) (r : Rd), i = .int .i64 (pre.length : Int) ∧ At one n r1 (pre, r) ∧ r.rest.length ≤ L ∧ W.heap.size ≤ wr.heap.size ∧ It D q b1 b2 b3 d1 d2 most (.func (.func fo) #[] #[.pointer (some ⟨d1, 0, none⟩), .pointer (some ⟨d2, 0, none⟩)]) fk (pre, r) wr ∧ J (pre, r) wr) (fun i _ => n - (intOf i).toNat)
  case atStart => exact ⟨[], r1, rfl, At.start one n r1, hrl, hs2, ⟨HR2.out, c1, c2, c3, c4, c5⟩, HJ2.out⟩
  case round =>
    obtain ⟨pre, r, rfl, hA, hrL, hsr, ⟨g1, c1, c2, c3, c4, c5⟩, g5⟩ := hrel
    have hA1 := hA.1
    have HA := Lib.hid hA
    have HJw := Lib.hid g5
    have HRw := Lib.hid g1
    dsimp only at hA1
    have hcv : IntKind.u64.wrap (pre.length : Int) = (pre.length : Int) := by rw [IntKind.wrap_u64]; omega
    clear hA g1 g5 HJ2 HR2
    by_cases hlt : pre.length < n
    · have hlt2 : ((pre.length : Int) < (n : Int)) := by omega
      have HOw := Lib.hid (HO.out wr r HRw.out hrL c4 c5)
      have HLn := Lib.hid (hlen r)
      have hcf := ef #[.pointer (some ⟨q, 0, none⟩), .pointer (some ⟨d1, 0, none⟩), .pointer (some ⟨d2, 0, none⟩)] wr
      gi_wp2
      refine ⟨trivial, rfl, (callsIn_wide.2 HOw.out).mono ?_⟩
      rintro e w3 ⟨cs, rfl, hx, k1, k2⟩
      have HR3 := Lib.hid k1
      have HF3 := Lib.hid k2
      have hs3 := k2.size
      have c1 := k2.cell c1 hn1
      have c2 := k2.cell c2 hn2
      have c3 := k2.cell c3 hn3
      have c4 := k2.cell c4 hn4
      have c5 := k2.cell c5 hn5
      obtain ⟨xa, xc, x1, _, _⟩ := id k1
      have d9 := x1.cell (i := 1) rfl
      obtain ⟨x, hxe⟩ : ∃ x, (one r).2 = x := ⟨_, rfl⟩
      have HXE := Lib.hid hxe
      rw [hxe] at hx
      have HX := Lib.hid hx
      have HCL := Lib.hid (rep_Mo.len hx)
      have HC1 := Lib.hid (rep_Mo.one hx)
      clear k1 k2 x1 HOw hxe hx
      by_cases he : (one r).1.e = 0
      · rw [he] at d9
        gi_wp2_with (first
          | ((with_reducible refine wpListIn_alloc rfl _ rfl _ (zeroMo _) (fun wa ka ca za => ?_)); have KA := Lib.hid ka; have CA := Lib.hid ca; clear ka ca)
          | ((with_reducible refine wpListIn_put rfl _ _ _ rfl w3.heap.size cs _ rfl rfl KA.out (szT HCL.out) (zeroMo_len.trans HCL.out.symm) HC1.out (fun wb kb fb zb => ?_)); have KB := Lib.hid kb; have CB := CA.out.trans (fb.below CA.out.size (fun k (hk : k = _) => by omega)); have FB := Lib.hid (HF3.out.trans (Fr.ofBelowAll CB (Nat.le_refl _))); have HR4 := Lib.hid (HR3.out.below CB); have c1 := CB.cell (World.block_lt_of_cell? _ _ c1) |>.trans c1; have c2 := CB.cell (World.block_lt_of_cell? _ _ c2) |>.trans c2; have c3 := CB.cell (World.block_lt_of_cell? _ _ c3) |>.trans c3; have c4 := CB.cell (World.block_lt_of_cell? _ _ c4) |>.trans c4; have c5 := CB.cell (World.block_lt_of_cell? _ _ c5) |>.trans c5; have d9 := CB.cell (World.block_lt_of_cell? _ _ d9) |>.trans d9; have hsb := CB.size; obtain ⟨fn, tmps, assign, body, hy, hR⟩ := HY.out (pre, r) (pre ++ [(one r).2], (one r).1) #[.int .i64 (pre.length : Int), .agg cs.toArray] wr wb HJw.out FB.out ⟨_, hlt, HA.out, rfl, he, rfl, cs, rfl, by rw [HXE.out]; exact rep_Mo.below HX.out CB⟩ ⟨HR4.out, c1, c2, c3, c4, c5⟩; have HRR := Lib.hid hR; clear hR; clear kb fb CB)
          | (with_reducible refine wpListIn_load_blkw (by with_unfolding_all rfl) _ _ rfl w3.heap.size cs rfl KB.out _ Tryz.underlying76 rfl (szT HCL.out) ?_))
        refine ⟨rfl, HRR.out.mono ?_⟩
        rintro e W' (⟨rfl, k1, k2, hs4⟩ | ⟨rfl, k1⟩)
        · have HJ4 := Lib.hid k1
          have HI4 := Lib.hid k2
          have HA4 := Lib.hid (HA.out.next one hlt he)
          clear k1 k2
          gi_wp2
          go_roundw
          case rel => exact ⟨_, _, by rw [List.length_append]; rfl, HA4.out, Nat.le_trans HLn.out hrL, by omega, HI4.out, HJ4.out⟩
          case measure => simp [intOf]; omega
        · gi_wp2
          refine bodyPost_ret (results_none rfl _ _ _) rfl ?_
          exact ⟨⟨_, rfl⟩, .inr ⟨_, k1⟩⟩
      · have he2 : ((one r).1.e != 0) = true := by simpa using he
        have HEE := Lib.hid (HA.out.fails one hlt he)
        gi_wp2_with (first
          | ((with_reducible refine wpListIn_alloc rfl _ rfl _ (zeroMo _) (fun wa ka ca za => ?_)); have KA := Lib.hid ka; have CA := Lib.hid ca; clear ka ca)
          | ((with_reducible refine wpListIn_put rfl _ _ _ rfl w3.heap.size cs _ rfl rfl KA.out (szT HCL.out) (zeroMo_len.trans HCL.out.symm) HC1.out (fun wb kb fb zb => ?_)); have KB := Lib.hid kb; have CB := CA.out.trans (fb.below CA.out.size (fun k (hk : k = _) => by omega)); have FB := Lib.hid (HF3.out.trans (Fr.ofBelowAll CB (Nat.le_refl _))); have HR4 := Lib.hid (HR3.out.below CB); have c1 := CB.cell (World.block_lt_of_cell? _ _ c1) |>.trans c1; have c2 := CB.cell (World.block_lt_of_cell? _ _ c2) |>.trans c2; have c3 := CB.cell (World.block_lt_of_cell? _ _ c3) |>.trans c3; have c4 := CB.cell (World.block_lt_of_cell? _ _ c4) |>.trans c4; have c5 := CB.cell (World.block_lt_of_cell? _ _ c5) |>.trans c5; have d9 := CB.cell (World.block_lt_of_cell? _ _ d9) |>.trans d9; have hsb := CB.size; skip; clear kb fb CB)
          | (with_reducible refine wpListIn_load_blkw (by with_unfolding_all rfl) _ _ rfl w3.heap.size cs rfl KB.out _ Tryz.underlying76 rfl (szT HCL.out) ?_))
        refine ⟨fun _ h => (by cases h), ?_⟩
        gi_wp2
        refine bodyPost_ret (results_none rfl _ _ _) rfl ?_
        exact ⟨⟨_, rfl⟩, .inl ⟨(pre, r), ⟨_, HEE.out, HR4.out⟩, (HJ.out _ _ _ HJw.out FB.out)⟩⟩
    · have hlt2 : ¬ ((pre.length : Int) < (n : Int)) := by omega
      have HEE := Lib.hid (HA.out.all one hlt)
      gi_wp2
      go_end0
      exact ⟨⟨_, rfl⟩, .inl ⟨pre, r, ⟨r, HEE.out, HRw.out⟩, HJw.out⟩⟩
set_option maxHeartbeats 4000000 in
set_option maxRecDepth 100000 in
theorem thing_calls (D : Nat → Prop) (w : World) (q d1 d2 : Nat) (r : Rd) (H : ReaderIs D w q r) (hl : r.rest.length ≤ 140737488355328) (c4 : w.cell? ⟨d1, 0, none⟩ = some (.func (.func 64) #[] #[])) (c5 : w.cell? ⟨d2, 0, none⟩ = some (.pointer (some ⟨q, 0, none⟩))) :
    Calls Tryz.prog 100 #[.pointer (some ⟨q, 0, none⟩), .pointer (some ⟨d1, 0, none⟩), .pointer (some ⟨d2, 0, none⟩)] w fun e w' => ∃ cs, e = .returned (.agg cs.toArray) ∧ RMo (fun b => w.heap.size ≤ b) w' cs (RDmo r).2 ∧ ReaderIs D w' q (RDmo r).1 ∧ Fr (fun k => k = q) w w' := by
  have hql := H.lt
  have H1 := Lib.hid (rd_under H)
  clear H
  go_enter Tryz.func100, Tryz.ntmps100
  go_upto_region 1 with (first
    | ((with_reducible refine wpList_alloc rfl _ rfl _ (zeroMo _) (fun wa ka ca za => ?_)); have KA := Lib.hid ka; have CA := Lib.hid ca; clear ka ca))
  have c4 := (CA.out.cell (World.block_lt_of_cell? _ _ c4)).trans c4
  have c5 := (CA.out.cell (World.block_lt_of_cell? _ _ c5)).trans c5
  have HR5 := Lib.hid (show wa.rangeAt d2 0 [.pointer (some ⟨q, 0, none⟩)] from fun j v hv => by
    match j, hv with
    | 0, hv => cases hv; exact c5)
  have H2 := Lib.hid (H1.out.below CA.out)
  have B2 := Lib.hid CA.out
  have hg2 : w.heap.size < wa.heap.size := by omega
  clear H1 CA c5
  go_wp2_with (first | (with_reducible refine wpList_load_mid rfl _ _ rfl d2 0 rfl [.pointer (some ⟨q, 0, none⟩)] _ HR5.out Tryz.underlying68 rfl (by kernel_rfl) ?_))
  refine (rmo_calls _ wa q r H2.out hl).mono ?_
  rintro e wb ⟨cs, rfl, ox, o1, o2⟩
  have HX := Lib.hid ox
  have HCL := Lib.hid (rep_Mo.len ox)
  have HC1 := Lib.hid (rep_Mo.one ox)
  have hsa : w.heap.size ≤ wa.heap.size := by omega
  clear ox
  have O1 := Lib.hid o1
  have K1 := Lib.hid (KA.out.fr o2 (by omega))
  have FF := Lib.hid ((Fr.ofBelowAll B2.out (Nat.le_refl _) : Fr (fun k => k = q) w wa).trans o2)
  have SZ := Lib.hid (szT HCL.out)
  clear o1 o2 H2 B2 KA c4
  go_wp2_with (first
    | ((with_reducible refine wpList_put rfl _ _ _ rfl w.heap.size cs _ rfl rfl K1.out SZ.out (zeroMo_len.trans HCL.out.symm) HC1.out (fun we ke fe ze => ?_)); have KE := Lib.hid ke; have FE := Lib.hid fe; clear ke fe))
  exact bodyPost_ret (v := .agg cs.toArray) (results_row1 Tryz.results100 _ _ w.heap.size _ _ rfl KE.out Tryz.underlying76 rfl SZ.out) rfl ⟨cs, rfl, rep_Mo.mono (rep_Mo.fr HX.out FE.out (fun b _ h (e : b = w.heap.size) => by have := hg2; omega)) (fun b _ h => by omega), rd_back (O1.out.fr FE.out (by omega) (fun k _ h (e : k = w.heap.size) => by have := h.1; omega)) hql, FF.out.trans' FE.out (fun i hi (e : i = w.heap.size) => by omega)⟩
set_option maxHeartbeats 4000000 in
set_option maxRecDepth 100000 in
theorem items_calls (w : World) (q : Nat) (most : Int) (fo d1 d2 : Nat) :
    Calls Tryz.prog 119 #[.pointer (some ⟨q, 0, none⟩), .int .i64 most, .func (.func fo) #[] #[.pointer (some ⟨d1, 0, none⟩), .pointer (some ⟨d2, 0, none⟩)]] w fun e w' => e = .returned (.func (.func 126) #[] #[.pointer (some ⟨w.heap.size, 0, none⟩), .pointer (some ⟨w.heap.size + 1, 0, none⟩), .pointer (some ⟨w.heap.size + 2, 0, none⟩)]) ∧
      Below w.heap.size w w' ∧ w'.cell? ⟨w.heap.size, 0, none⟩ = some (.pointer (some ⟨q, 0, none⟩)) ∧ w'.cell? ⟨w.heap.size + 1, 0, none⟩ = some (.int .i64 most) ∧ w'.cell? ⟨w.heap.size + 2, 0, none⟩ = some (.func (.func fo) #[] #[.pointer (some ⟨d1, 0, none⟩), .pointer (some ⟨d2, 0, none⟩)]) := by
  go_enter Tryz.func119, Tryz.ntmps119
  go_wp2
  go_ret
  have a1 := (Blk.new w #[.pointer (some ⟨q, 0, none⟩)] 66 _ rfl)
  have a2 := (Blk.new (w.alloc (.cells #[.pointer (some ⟨q, 0, none⟩)] 66)) #[.int .i64 most] 3 _ rfl)
  have a3 := (Blk.new ((w.alloc (.cells #[.pointer (some ⟨q, 0, none⟩)] 66)).alloc (.cells #[.int .i64 most] 3)) #[.func (.func fo) #[] #[.pointer (some ⟨d1, 0, none⟩), .pointer (some ⟨d2, 0, none⟩)]] 154 _ rfl)
  rw [World.size_alloc] at a2
  rw [World.size_alloc, World.size_alloc] at a3
  exact ⟨rfl, (((Below.refl _ _).alloc (Nat.le_refl _) _).alloc (by simp) _).alloc (by simp; omega) _, ((a1.alloc _).alloc _).cell (i := 0) rfl, (a2.alloc _).cell (i := 0) rfl, a3.cell (i := 0) rfl⟩
set_option maxRecDepth 100000 in
theorem elemT : ElemT Tryz.prog 23 76 (.agg (Value.int .u64 0 :: List.replicate 32 (Value.int .u8 0)).toArray) 33 40 :=
  ⟨Tryz.underlying23, ⟨_, rfl, by kernel_rfl, by kernel_rfl, by kernel_rfl⟩, by simp [Value.cells], by decide⟩
/-- what List keeps from round to round -/
def LI (w : World) (q N : Nat) (s : List (Nat × List UInt8) × Rd) (A : World) : Prop :=
  ∃ v css, Blk A w.heap.size [v] 23 ∧ OwnA 33 N 76 A v css ∧ All2 (RMo (fun b => N ≤ b ∧ v.ownBlock ≠ some b) A) css s.1 ∧ Fr (fun k => k = q) w A
theorem LI.fr {w : World} {q N : Nat} {s : List (Nat × List UInt8) × Rd} {A B : World} {S : Nat → Prop} (h : LI w q N s A) (hf : Fr S A B) (h1 : ¬ S w.heap.size) (h2 : ∀ k, N ≤ k → ¬ S k) (h3 : ∀ k, k < w.heap.size → S k → k = q) : LI w q N s B := by
  obtain ⟨v, css, h4, h5, h6, h7⟩ := h
  exact ⟨v, css, h4.fr hf h1, h5.fr hf (fun k hk h => h2 k (h5.lt k hk).1 h), h6.imp fun _ _ h => rep_Mo.fr h hf (fun b _ h e => h2 b h.1 e), h7.trans' hf h3⟩
set_option maxHeartbeats 8000000 in
set_option maxRecDepth 100000 in
theorem list_calls (D : Nat → Prop) (w : World) (q d1 d2 : Nat) (r0 : Rd) (most : Int) (h1 : -9223372036854775808 ≤ most) (h2 : most ≤ 65536) (H : ReaderIs D w q r0) (hl : r0.rest.length ≤ 140737488355328)
    (he1 : w.cell? ⟨d1, 0, none⟩ = some (.func (.func 64) #[] #[])) (he2 : w.cell? ⟨d2, 0, none⟩ = some (.pointer (some ⟨q, 0, none⟩))) (hn4 : d1 ≠ q) (hn5 : d2 ≠ q) (hroom : (r0.room most).2 ≤ 65536) :
    Calls Tryz.prog 99 #[.pointer (some ⟨q, 0, none⟩), .int .i64 most, (.func (.func 100) #[] #[.pointer (some ⟨d1, 0, none⟩), .pointer (some ⟨d2, 0, none⟩)])] w fun e w' => ∃ v, e = .returned v ∧
      Sl 33 RMo (fun b => w.heap.size ≤ b) w' v (lst (items RDmo (r0.room most).2 (r0.room most).1)) ∧ ReaderIs D w' q (items RDmo (r0.room most).2 (r0.room most).1).2 ∧ Fr (fun k => k = q) w w' := by
  have hql := H.lt
  have hdl1 := World.block_lt_of_cell? _ _ he1
  have hdl2 := World.block_lt_of_cell? _ _ he2
  dsimp only at hdl1 hdl2
  have HR := Lib.hid H
  clear H
  refine (callsIn_wide (n := 0)).1 (callsIn_of_wp_marks Tryz.func99 rfl trivial ?_ rfl)
  simp only [Tryz.ntmps99, List.size_toArray, List.length_cons, List.length_nil, Nat.reduceAdd, Nat.reduceSub, Array.replicate_succ, Array.replicate_zero, List.push_toArray, List.append_toArray, List.nil_append, List.cons_append]
  gi_wp2
  refine ⟨trivial, rfl, (callsIn_wide.2 (items_calls _ q most 100 d1 d2)).mono ?_⟩
  rintro e w2 ⟨rfl, g1, c1, c2, c3⟩
  rw [World.size_alloc] at c1 c2 c3
  have hs2 := World.block_lt_of_cell? _ _ c3
  dsimp only at hs2
  have HG := Lib.hid g1
  have hb0 : Below w.heap.size w w2 := ((Below.refl _ w).alloc (Nat.le_refl _) _).trans (g1.mono (by simp))
  have c4 := (hb0.cell hdl1).trans he1
  have c5 := (hb0.cell hdl2).trans he2
  have hbk : Blk w2 w.heap.size [.slice none 0 0] 23 := (Blk.new w #[.slice none 0 0] 23 [.slice none 0 0] rfl).below g1
  have HR2 := Lib.hid ((rd_under HR.out).below hb0)
  have hI0 : LI w q (w2.heap.size + 2) ([], (r0.room most).1) w2 := ⟨_, [], hbk, OwnA.nil _ _ _ _, .nil, Fr.ofBelowAll hb0 (Nat.le_refl _)⟩
  have HI0 := Lib.hid hI0
  clear g1 hb0 hbk hI0
  gi_wp2
  refine rangeSeq2 rfl (enters_of Tryz.func126 (by kernel_rfl) rfl)
    (items_seq RDmo 100 _ (enters_of Tryz.func100 (by kernel_rfl) rfl) (fun k => k < w.heap.size ∧ D k) w2 q (w.heap.size + 1) (w.heap.size + 1 + 1) (w.heap.size + 1 + 2) d1 d2 r0 most h1 (by omega) HR2.out c1 c2 c3 c4 c5 hn4 hn5 (by omega) (by omega) (by omega) 140737488355328 hl rdmo_rest
      (fun A r hr hrl a4 a5 => thing_calls _ A q d1 d2 r hr hrl a4 a5))
    (fun k hk => by omega)
    (fun s A B h hf => ⟨h.1.fr hf (by omega) (fun k hk hd e => by have := hd.1; omega), hf.cell h.2.1 (by show w.heap.size + 1 ≠ _; omega), hf.cell h.2.2.1 (by show w.heap.size + 1 + 1 ≠ _; omega), hf.cell h.2.2.2.1 (by show w.heap.size + 1 + 2 ≠ _; omega), hf.cell h.2.2.2.2.1 (by show d1 ≠ _; omega), hf.cell h.2.2.2.2.2 (by show d2 ≠ _; omega)⟩)
    (fun s s' vs A0 A B h hA hf => by obtain ⟨v, e1, e2, e3, e4, e5, cs, e6, e7⟩ := h; exact ⟨v, e1, e2, e3, e4, e5, cs, e6, rep_Mo.fr e7 hf (fun b _ h e => by omega)⟩)
    (fun s A B h hf => by obtain ⟨r2, h3, h4⟩ := h; exact ⟨r2, h3, h4.fr hf (by omega) (fun k hk hd e => by have := hd.1; omega)⟩) (fun s s' vs A0 A h => by obtain ⟨v, _, _, _, _, rfl, _⟩ := h; rfl)
    (LI w q (w2.heap.size + 2)) (fun _ _ _ => False)
    (fun s A B h hf => h.fr hf (by omega) (fun k hk h => by omega) (fun k hk h => by omega)) (fun _ _ _ _ h _ => h) HI0.out
    (fun vs a A => ∃ (cs : List Value) (g : Nat), vs.getD 1 undef = .agg cs.toArray ∧ (cs.length = 33 ∧ ∀ v ∈ cs, v.oneCell' = true) ∧ Blk A g cs 76 ∧ w2.heap.size + 2 ≤ g ∧ a = { tmps := #[.pointer (some ⟨q, 0, none⟩), .int .i64 most, (.func (.func 100) #[] #[.pointer (some ⟨d1, 0, none⟩), .pointer (some ⟨d2, 0, none⟩)]), undef, undef, undef, .slice none 0 0, .pointer (some ⟨w.heap.size, 0, none⟩), undef, .pointer (some ⟨g, 0, none⟩), .pointer (some ⟨q, 0, none⟩), .int .i64 most, (.func (.func 100) #[] #[.pointer (some ⟨d1, 0, none⟩), .pointer (some ⟨d2, 0, none⟩)]),
      .func (.func 126) #[] #[.pointer (some ⟨w.heap.size + 1, 0, none⟩), .pointer (some ⟨w.heap.size + 1 + 1, 0, none⟩), .pointer (some ⟨w.heap.size + 1 + 2, 0, none⟩)], vs.getD 0 undef, vs.getD 1 undef, undef, undef, undef, undef, undef, undef, undef, undef, undef, undef], defers := [] })
    (fun vs a A B h hf => by obtain ⟨cs, g, e1, e2, e3, e4, e5⟩ := h; exact ⟨cs, g, e1, e2, e3.fr hf (by show ¬ g = _; omega), e4, e5⟩) ?assign ?body ?done ?stop
  case assign =>
    rintro l s s' vs W0 W K ⟨v, _, _, _, _, rfl, hv⟩ hlt hK
    obtain ⟨cs, rfl, hx⟩ := hv
    have HCL := Lib.hid (rep_Mo.len hx)
    have HC1 := Lib.hid (rep_Mo.one hx)
    clear hx
    generalize hact : (Act.mk _ []) = act0
    have hlit : act0 = { tmps := #[.pointer (some ⟨q, 0, none⟩), .int .i64 most, (.func (.func 100) #[] #[.pointer (some ⟨d1, 0, none⟩), .pointer (some ⟨d2, 0, none⟩)]), undef, undef, undef, .slice none 0 0, .pointer (some ⟨w.heap.size, 0, none⟩), undef, undef, .pointer (some ⟨q, 0, none⟩), .int .i64 most, (.func (.func 100) #[] #[.pointer (some ⟨d1, 0, none⟩), .pointer (some ⟨d2, 0, none⟩)]),
      .func (.func 126) #[] #[.pointer (some ⟨w.heap.size + 1, 0, none⟩), .pointer (some ⟨w.heap.size + 1 + 1, 0, none⟩), .pointer (some ⟨w.heap.size + 1 + 2, 0, none⟩)], .int .i64 (s.1.length : Int), .agg cs.toArray, undef, undef, undef, undef, undef, undef, undef, undef, undef, undef], defers := [] } := by rw [← hact]; simp
    subst hlit
    clear hact
    gi_wp2_with (first
      | ((with_reducible refine wpListIn_alloc rfl _ rfl _ (zeroMo _) (fun wa ka ca za => ?_)); have KA := Lib.hid ka; have CA := Lib.hid ca; clear ka ca)
      | ((with_reducible refine wpListIn_put rfl _ _ _ rfl W.heap.size cs _ rfl rfl KA.out (szT HCL.out) (zeroMo_len.trans HCL.out.symm) HC1.out (fun wb kb fb zb => ?_)); have KB := Lib.hid kb; have CB := Lib.hid (CA.out.trans (fb.below CA.out.size (fun k (hk : k = _) => by omega))); clear kb fb))
    exact hK _ _ ⟨cs, W.heap.size, rfl, ⟨HCL.out, HC1.out⟩, KB.out, by omega, rfl⟩ CB.out
  case body =>
    rintro ⟨pre, r⟩ s' vs a A0 A hlt ⟨v, css, hb, ht, hr, hf⟩ hfr ⟨vv, hlen, hat, rfl, he, rfl, cs0, hv, hx⟩ hit ⟨cs, g, e1, ⟨e2, ec⟩, e3, e4, rfl⟩
    dsimp only at hlen hat he hv hx hit ht hr ⊢
    have ecs : cs = cs0 := by subst hv; simpa using e1.symm
    subst ecs
    clear e1 hv
    have hcl : css.length = pre.length := hr.length
    obtain ⟨va, vc, hve, hc1, hc2, _⟩ := ht.form
    rw [hcl] at hve hc1
    subst hve
    have HCS := Lib.hid hcl
    clear hcl
    have hpl : pre.length ≤ 65536 := by omega
    have hsA := hfr.size
    have HR0 := Lib.hid hr
    have HFR := Lib.hid hfr
    have hlt0 : ∀ k, (Value.slice va pre.length vc).ownBlock = some k → k < A0.heap.size := fun k hk => (ht.lt k hk).2
    have HLT := Lib.hid hlt0
    have o1A := ht.fr hfr (fun k hk e => by have := (ht.lt k hk).1; omega)
    have hlb : ∀ k, (Value.slice va pre.length vc).ownBlock = some k → w2.heap.size + 2 ≤ k := fun k hk => (o1A.lt k hk).1
    have hbA := hb.fr hfr (by omega)
    have hfA : Fr (fun k => k = q) w A := hf.trans' hfr (fun k hk h => by omega)
    have cl := hbA.cell (i := 0) rfl
    have HX := Lib.hid hx
    have HCL := Lib.hid e2
    have HC1 := Lib.hid ec
    have HO1 := Lib.hid o1A
    have HIT := Lib.hid hit
    have HFA := Lib.hid hfA
    have HLB := Lib.hid hlb
    have E3 := Lib.hid e3
    have HBA := Lib.hid hbA
    clear hit hfA hf hfr hb hlb o1A ht e3 hx hbA hr hlt0 e2 ec
    gi_wp2_with (first
      | (with_reducible refine wpListIn_load_blk rfl _ _ rfl g cs rfl E3.out _ Tryz.underlying76 rfl (szT HCL.out) ?_)
      | ((with_reducible refine wpListIn_buildSlice1 rfl elemT _ rfl cs rfl HCL.out (by omega) (fun wb kb bb zb => ?_)); have KB := Lib.hid kb; have BB := Lib.hid bb; have HO2 := Lib.hid (HO1.out.below bb); have hb1 := HBA.out.below bb; clear kb bb)
      | (gi_at_builtin; refine wpListIn_append_arr rfl (.tmp 16) (.tmp 18) 23 rfl (w2.heap.size + 2) 76 elemT _ css rfl HO2.out _ [cs] rfl (arr1 KB.out HCL.out) (fun y hy u hu => by rw [List.mem_singleton.1 hy] at hu; exact HC1.out u hu) (by rw [HCS.out, List.length_singleton]; unfold maxLen; omega) (by rw [HCS.out, List.length_singleton]; omega) (by omega) (pre.length + 1) (by rw [HCS.out, List.length_singleton]) ?_; intro a' cap' w3 q1 q2 q3; have hk3 := hb1.fr (Fr.ofGrown q2) (fun e => by have := HLB.out _ e; omega); have cc := hk3.cell (i := 0) rfl; have ff := hk3.free 0))
    have q2' : Fr (fun k => (Value.slice va pre.length vc).ownBlock = some k) A w3 := (Fr.ofBelowAll BB.out (Nat.le_refl _)).trans (Fr.ofGrown q2)
    have hF : Fr (fun k => (Value.slice va pre.length vc).ownBlock = some k ∨ k = w.heap.size) A (w3.setCell ⟨w.heap.size, 0, none⟩ (.slice a' (pre.length + 1) cap')) := (q2'.mono (fun k _ h => .inl h)).setCell (.inr (.inr rfl)) _
    have hll := HLB.out
    have hI := HIT.out
    have hst : ∀ k, ((Value.slice va pre.length vc).ownBlock = some k ∨ k = w.heap.size) → w2.heap.size + 2 ≤ k ∨ k = w.heap.size := fun k h => h.imp_left (hll k)
    refine ⟨Rec.fr hF (by omega) (fun h => by have := hst _ h; omega) (fun h => by have := hst _ h; omega), ⟨_, css ++ [cs], hk3.set 0 _, q1.fr ((Fr.refl (fun k => k = w.heap.size) _).setCell (.inr rfl) _) (fun k hk h => by have := (q1.lt k hk).1; omega), push rep_Mo HR0.out HX.out HFR.out (fun k hk h => by omega) (by omega) HLT.out hF (fun k hk hN h => h.resolve_right (by omega)) (q3.imp_right fun h => ⟨_, h, BB.out.size⟩), HFA.out.trans' hF (fun k hk h => by have := hst _ h; omega)⟩, ?_⟩
    exact ⟨hI.1.fr hF (fun h => by have := hst _ h; omega) (fun k hk hd h => by have := hst _ h; have := hd.1; omega), hF.cell hI.2.1 (fun h => by have := hst _ h; dsimp only at this; omega), hF.cell hI.2.2.1 (fun h => by have := hst _ h; dsimp only at this; omega), hF.cell hI.2.2.2.1 (fun h => by have := hst _ h; dsimp only at this; omega), hF.cell hI.2.2.2.2.1 (fun h => by have := hst _ h; dsimp only at this; omega), hF.cell hI.2.2.2.2.2 (fun h => by have := hst _ h; dsimp only at this; omega)⟩
  case done =>
    rintro ⟨pre, r⟩ W ⟨r2, e1, e2⟩ ⟨v, css, hb, ht, hr, hf⟩ hk
    dsimp only at e1 e2 ht hr ⊢
    have hsl := sl_own rep_Mo ht hr
    obtain ⟨va, vc, rfl, _⟩ := hsl.form
    have HSL := Lib.hid hsl
    clear hr hsl
    have cv := hb.cell (i := 0) rfl
    obtain ⟨xa, xc, x1, x2, x3⟩ := id e2
    have d1' := x1.cell (i := 1) rfl
    have E1 := Lib.hid e1
    have E2 := Lib.hid e2
    have HT := Lib.hid ht
    have HF := Lib.hid hf
    have HK := Lib.hid hk
    clear e1 e2 ht hf hk x1 x2 x3
    by_cases he : r2.e = 0
    · rw [he] at d1'
      gi_wp2
      refine ⟨by simp, .inl ⟨_, _, rfl, run_takeDeferred HK.out, ?_⟩⟩
      exact ⟨_, results_tmp rfl _ _ _, _, rfl, by rw [lst, E1.out, if_neg (by simpa using he)]; exact (HSL.out.fr rep_Mo (Fr.putObj W _ _ rfl) (fun b _ h e => by omega)).mono rep_Mo (fun b _ h => by omega), by rw [E1.out]; exact rd_back (E2.out.fr (Fr.putObj W _ _ rfl) (by omega) (fun k _ h e => by have := h.1; omega)) hql, HF.out.trans' (Fr.putObj W _ _ rfl) (fun k hk e => by omega)⟩
    · have he2 : (r2.e != 0) = true := by simpa using he
      gi_wp2
      refine ⟨by simp, .inl ⟨_, _, rfl, run_takeDeferred HK.out, ?_⟩⟩
      exact ⟨_, results_tmp rfl _ _ _, _, rfl, by rw [lst, E1.out, if_pos (by simpa using he)]; exact Sl.nil _ _ _ _, by rw [E1.out]; exact rd_back (E2.out.fr (Fr.putObj W _ _ rfl) (by omega) (fun k _ h e => by have := h.1; omega)) hql, HF.out.trans' (Fr.putObj W _ _ rfl) (fun k hk e => by omega)⟩
  case stop =>
    intro c s W h
    exact h.elim
/-- a list, read -/
def lsts (r : Rd) (most : Int) : Rd × List (Nat × List UInt8) := ((items RDmo (r.room most).2 (r.room most).1).2, lst (items RDmo (r.room most).2 (r.room most).1))
set_option maxHeartbeats 4000000 in
set_option maxRecDepth 100000 in
theorem things_calls (D : Nat → Prop) (w : World) (q : Nat) (r : Rd) (most : Int) (h1 : -9223372036854775808 ≤ most) (h2 : most ≤ 65536) (H : ReaderIs D w q r) (hl : r.rest.length ≤ 140737488355328) :
    Calls Tryz.prog 63 #[.agg #[.pointer (some ⟨q, 0, none⟩)], .int .i64 most, .func (.func 64) #[] #[]] w fun e w' => ∃ v, e = .returned v ∧ Sl 33 RMo (fun b => w.heap.size ≤ b) w' v (lsts r most).2 ∧ ReaderIs D w' q (lsts r most).1 ∧ Fr (fun k => k = q) w w' := by
  have hql := H.lt
  have b1 := below_alloc w (.cells #[.pointer (some ⟨q, 0, none⟩)] 68)
  have b2 := b1.alloc (by simp) (.cells #[.func (.func 64) #[] #[]] 119)
  have H1 := Lib.hid ((rd_under H).below b2)
  have k1 := ((Blk.new w #[.pointer (some ⟨q, 0, none⟩)] 68 _ rfl).alloc (.cells #[.func (.func 64) #[] #[]] 119)).cell (i := 0) rfl
  have k2 := (Blk.new (w.alloc (.cells #[.pointer (some ⟨q, 0, none⟩)] 68)) #[.func (.func 64) #[] #[]] 119 _ rfl).cell (i := 0) rfl
  rw [World.size_alloc] at k2
  have BB := Lib.hid b2
  have hz : w.heap.size + 2 = ((w.alloc (.cells #[.pointer (some ⟨q, 0, none⟩)] 68)).alloc (.cells #[.func (.func 64) #[] #[]] 119)).heap.size := by simp
  have HRS := Lib.hid (room_small r most h2)
  clear H b1 b2
  go_enter Tryz.func63, Tryz.ntmps63
  go_upto_region 1 with fail
  generalize (w.alloc (.cells #[.pointer (some ⟨q, 0, none⟩)] 68)).alloc (.cells #[.func (.func 64) #[] #[]] 119) = w2 at *
  go_wp2_with fail
  refine (list_calls _ w2 q (w.heap.size + 1) w.heap.size r most h1 h2 H1.out hl k2 k1 (by omega) (by omega) HRS.out).mono ?_
  rintro e w3 ⟨v, rfl, o1, o2, o3⟩
  obtain ⟨va, vc, rfl, _⟩ := o1.form
  have O1 := Lib.hid (o1.mono rep_Mo (E := fun b => w.heap.size ≤ b) (fun b _ h => by omega))
  have O2 := Lib.hid (rd_back o2 hql)
  have O3 := Lib.hid ((Fr.ofBelowAll BB.out (Nat.le_refl _) : Fr (fun k => k = q) w w2).trans o3)
  clear o1 o2 o3 k1 k2 H1 BB
  go_wp2
  go_ret
  exact ⟨_, rfl, O1.out, O2.out, O3.out⟩
end Go.Proofs.YtmenchnjajpkmaaGreat.RmT
end

section
namespace Go.Proofs.YtmenchnjajpkmaaGreat.Rm
open Go Go.RowKit Mem Codec CodecR Ops Reps WtIt Arr Rr Wr Wm
set_option linter.unusedVariables false
set_option linter.unusedSimpArgs false

set_option maxRecDepth 100000 in
theorem structMt : StructT Tryz.prog 25 [1, 1] := ⟨_, _, _, rfl, Tryz.underlying25, rfl, by kernel_rfl, by kernel_rfl⟩
theorem zeroMt (w : World) : (zeroValue 25).run Tryz.prog w = .ok (.agg [Value.int .u64 0, .slice none 0 0].toArray) w := by kernel_rfl
theorem zeroMt_len : [Value.int .u64 0, .slice none 0 0].length = 2 := rfl
theorem zeroMt_one : ∀ v ∈ [Value.int .u64 0, .slice none 0 0], v.oneCell' = true := by
  intro u hu
  simp only [List.mem_cons, List.not_mem_nil, or_false] at hu
  rcases hu with rfl | rfl <;> rfl
theorem lsts_rest (r : Rd) (most : Int) : (RmT.lsts r most).1.rest.length ≤ r.rest.length := Nat.le_trans (items_rest rdmo_rest _ _) (Rd.room_len r most)
/-- a transaction, read -/
def RDmt (r : Rd) : Rd × XMt := seq (fun r : Rd => r.num 8) (fun r : Rd => RmT.lsts r 16) r
theorem zero_Mt (D : Nat → Prop) (w : World) : RMt D w [Value.int .u64 0, .slice none 0 0] (0, []) := ⟨[_], [_], rfl, ⟨by omega, rfl⟩, _, rfl, Sl.nil _ _ _ _⟩
set_option maxHeartbeats 8000000 in
set_option maxRecDepth 100000 in
theorem rmt_calls (D : Nat → Prop) (w : World) (q : Nat) (r : Rd) (H : ReaderIs D w q r) (hl : r.rest.length ≤ 140737488355328) :
    Calls Tryz.prog 29 #[.agg #[.pointer (some ⟨q, 0, none⟩)]] w (GotD RMt D w q (RDmt r)) := by
  have hql := H.lt
  have H0 := Lib.hid ((rd_under H).below (below_alloc w (.cells #[.pointer (some ⟨q, 0, none⟩)] 68)))
  have HB := Lib.hid (Blk.new w #[.pointer (some ⟨q, 0, none⟩)] 68 _ rfl)
  have HA := Lib.hid (below_alloc w (.cells #[.pointer (some ⟨q, 0, none⟩)] 68))
  have hz : w.heap.size + 1 = (w.alloc (.cells #[.pointer (some ⟨q, 0, none⟩)] 68)).heap.size := by simp
  have HL0 := Lib.hid hl
  obtain ⟨y1, hy1⟩ : ∃ y, ((r).num 8).2 = y := ⟨_, rfl⟩
  obtain ⟨r1, hr1⟩ : ∃ y, ((r).num 8).1 = y := ⟨_, rfl⟩
  have HC1 := Lib.hid (fun D w h => CodecR.long_calls D w q r h)
  have HW1 := Lib.hid (show y1 < 18446744073709551616 by rw [← hy1]; exact num_lt _ _)
  have HL1 := Lib.hid (show r1.rest.length ≤ 140737488355328 by rw [← hr1]; exact Nat.le_trans (num_rest _ _) HL0.out)
  rw [hr1, hy1] at HC1
  obtain ⟨y2, hy2⟩ : ∃ y, ((fun r : Rd => RmT.lsts r 16) r1).2 = y := ⟨_, rfl⟩
  obtain ⟨r2, hr2⟩ : ∃ y, ((fun r : Rd => RmT.lsts r 16) r1).1 = y := ⟨_, rfl⟩
  have HC2 := Lib.hid (fun D w h => RmT.things_calls D w q r1 16 (by omega) (by omega) h HL1.out)
  have HL2 := Lib.hid (show r2.rest.length ≤ 140737488355328 by rw [← hr2]; exact Nat.le_trans (lsts_rest _ _) HL1.out)
  rw [hr2, hy2] at HC2
  have HRD := Lib.hid (show RDmt r = (r2, y1, y2) by simp only [RDmt, seq, hr1, hy1, hr2, hy2])
  rw [HRD.out]
  clear H hl hr1 hy1 hr2 hy2
  go_enter Tryz.func29, Tryz.ntmps29
  go_upto_region 1 with (first
    | ((with_reducible refine wpList_alloc rfl _ rfl _ (zeroMt _) (fun wb ka ca za => ?_)); have KA := Lib.hid ka; have CA := Lib.hid ca; clear ka ca))
  generalize (w.alloc (.cells #[.pointer (some ⟨q, 0, none⟩)] 68)) = wA at *
  have O0 := Lib.hid (H0.out.below CA.out)
  have HB2 := Lib.hid (HB.out.below CA.out)
  have B2 := Lib.hid (HA.out.trans (CA.out.mono (by omega)))
  have hg0 : w.heap.size < wA.heap.size := by omega
  have hg2 : wA.heap.size < wb.heap.size := by omega
  generalize wA.heap.size = g1 at *
  clear H0 HB HA CA
  refine wp_region_held_drew (S := (fun w' => Blk w' w.heap.size [.pointer (some ⟨q, 0, none⟩)] 68 ∧ (∃ l : List Value, l.length = 2 ∧ Blk w' g1 l 25) ∧ Fr (fun k => k = q) w w' ∧ wb.heap.size ≤ w'.heap.size)) (by kernel_rfl) ⟨HB2.out.drew, ⟨_, zeroMt_len, KA.out.drew⟩, (Fr.ofBelowAll B2.out (Nat.le_refl _)).drew, Nat.le_refl _⟩ (fun hHeld => ?_)
  refine wpAnyH_take (i := 0) (oi := ⟨_, _, _, _, _, _⟩) (v := ?_) rfl (by kernel_rfl) (by kernel_rfl) (by kernel_rfl) (fun _ _ _ h => h) (Or.inl ⟨by rfl, ?_⟩) (by assumption) ?_
  rotate_left
  · intro w hSw; go_simp; try (with_reducible rfl)
  try simp only [Act.put, List.setIfInBounds_toArray, List.set_cons_zero, List.set_cons_succ]
  refine wpAnyH_take (i := 1) (oi := ⟨_, _, _, _, _, _⟩) (v := .pointer (some ⟨q, 0, none⟩)) rfl (by kernel_rfl) (by kernel_rfl) (by kernel_rfl) (fun _ _ _ h => h) (Or.inl ⟨by rfl, fun wS hSw => (by have hc := hSw.1.cell (i := 0) rfl; go_simp; try (with_reducible rfl))⟩) (by assumption) ?_
  try simp only [Act.put, List.setIfInBounds_toArray, List.set_cons_zero, List.set_cons_succ]
  refine wpAnyH_take (i := 3) (oi := ⟨_, _, _, _, _, _⟩) rfl (by kernel_rfl) (by kernel_rfl) (by kernel_rfl) (fun _ _ _ h => h) (yieldsIf_load_mid (by rfl) _ _ rfl w.heap.size 0 rfl [.pointer (some ⟨q, 0, none⟩)] _ (fun _ h => blk_range h.1) Tryz.underlying68 rfl (by kernel_rfl)) (by assumption) ?_
  try simp only [Act.put, List.setIfInBounds_toArray, List.set_cons_zero, List.set_cons_succ]
  refine wpAnyH_ready (rs := [2]) (by kernel_rfl) (by simp) ?_
  refine AllReadyH.cons (o := ⟨_, _, _, _, _, _⟩) rfl (fun K hK => ?_) AllReadyH.nil
  go_simp
  have kk1 := hHeld.1.lt
  have kk2 : g1 < _ := hHeld.2.1.choose_spec.2.lt
  have HH1 := hHeld.2.2.2
  refine (HC1.out _ wb.drew O0.out).mono ?_
  rintro e x1 ⟨rfl, o1, o2⟩
  have hsx1 := o2.size
  refine hK.out _ _ (by exact ⟨hHeld.1.fr o2 (by omega), hHeld.2.1.elim fun l h => ⟨l, h.1, h.2.fr o2 (by omega)⟩, hHeld.2.2.1.trans o2, Nat.le_trans hHeld.2.2.2 o2.size⟩) (fun hHeld => ?_)
  have O1 := Lib.hid o1
  clear o1 o2
  try simp only [Act.put, List.setIfInBounds_toArray, List.set_cons_zero, List.set_cons_succ]
  clear hK
  refine wpAnyH_ready (rs := [4]) (by kernel_rfl) (by simp) ?_
  refine AllReadyH.cons (o := ⟨_, _, _, _, _, _⟩) rfl (fun K hK => ?_) AllReadyH.nil
  go_simp
  have kk1 := hHeld.1.lt
  have kk2 : g1 < _ := hHeld.2.1.choose_spec.2.lt
  have HH2 := hHeld.2.2.2
  refine (HC2.out _ x1 O1.out).mono ?_
  rintro e x2 ⟨v2, rfl, ox, o1, o2⟩
  have hsx2 := o2.size
  refine hK.out _ _ (by exact ⟨hHeld.1.fr o2 (by omega), hHeld.2.1.elim fun l h => ⟨l, h.1, h.2.fr o2 (by omega)⟩, hHeld.2.2.1.trans o2, Nat.le_trans hHeld.2.2.2 o2.size⟩) (fun hHeld => ?_)
  have O2 := Lib.hid o1
  have GX2 := Lib.hid (show (RSl 33 RMo) (fun b => x1.heap.size ≤ b) x2 [v2] y2 from ⟨_, rfl, ox⟩)
  have HV2 := Lib.hid ((rep_rsl rep_Mo).one GX2.out v2 (by simp))
  clear o1 o2 ox
  try simp only [Act.put, List.setIfInBounds_toArray, List.set_cons_zero, List.set_cons_succ]
  clear hK
  have HCE := Lib.hid (show ([Value.int .u64 (y1 : Int)] ++ ([v2]) : List Value).length = 2 by rfl)
  refine wpAnyH_take (i := 5) (oi := ⟨_, _, _, _, _, _⟩) rfl (by kernel_rfl) (by kernel_rfl) (by kernel_rfl) (fun _ _ _ h => h) (yieldsIf_build (by rfl) structMt [(0, _), (1, _)] rfl [.int .u64 (y1 : Int), v2] rfl (by simp only [List.map_cons, List.map_nil, (show v2.cells = #[v2] from cells_one HV2.out)]; simp [Value.cells]) (([Value.int .u64 (y1 : Int)] ++ ([v2])).toArray) (by simp only [List.flatMap_cons, List.flatMap_nil, (show v2.cells = #[v2] from cells_one HV2.out)]; simp [Value.cells])) (by assumption) ?_
  try simp only [Act.put, List.setIfInBounds_toArray, List.set_cons_zero, List.set_cons_succ]
  refine wpAnyH_ready (rs := [6]) (by kernel_rfl) (by simp) ?_
  refine AllReadyH.cons (o := ⟨_, _, _, _, _, _⟩) rfl (fun K hK => ?_) AllReadyH.nil
  rw [if_pos (by rfl)]
  obtain ⟨l0, hl0, hb0⟩ := hHeld.2.1
  have HRR := Lib.hid (show ∀ W : World, (RSl 33 RMo) (fun b => w.heap.size ≤ b ∧ b ≠ g1) W [v2] y2 →  RMt (fun b => w.heap.size ≤ b ∧ b ≠ g1) W ([Value.int .u64 (y1 : Int)] ++ ([v2])) (y1, y2) from fun W GG2 => ⟨_, _, rfl, ⟨HW1.out, rfl⟩, GG2⟩)
  have HRF := Lib.hid (HRR.out _ ((rep_rsl rep_Mo).mono GX2.out (fun b _ h => by have := hg2; omega)))
  have HSZ := Lib.hid (show (Tryz.prog.info? 25).map (·.size) = some ([Value.int .u64 (y1 : Int)] ++ ([v2]) : List Value).length by rw [HCE.out]; kernel_rfl)
  refine wp_put _ _ _ rfl g1 ([Value.int .u64 (y1 : Int)] ++ ([v2])) l0 rfl rfl hb0 HSZ.out (hl0.trans HCE.out.symm) (rep_Mt.one HRF.out) (fun we ke fe ze => ?_)
  refine hK.out _ _ (by exact ⟨hHeld.1.fr fe (by omega), ⟨_, HCE.out, ke⟩, hHeld.2.2.1.trans' fe (fun i hi (e : i = g1) => by omega), by have := hHeld.2.2.2; omega⟩) (fun hHeld => ?_)
  have KE := Lib.hid ke
  have FE := Lib.hid fe
  clear ke fe
  clear hK
  refine wpAnyH_done (by kernel_rfl) ?_ _
  have FF := Lib.hid hHeld.2.2.1
  clear hHeld
  go_wp2
  exact bodyPost_ret (v := .agg ([Value.int .u64 (y1 : Int)] ++ ([v2])).toArray) (results_row1 Tryz.results29 _ _ g1 _ _ rfl KE.out Tryz.underlying25 rfl HSZ.out) rfl ⟨_, rfl, rep_Mt.mono (rep_Mt.fr HRF.out FE.out (fun b _ h (e : b = g1) => h.2 e)) (fun b _ h => h.1), rd_back (O2.out.fr FE.out (by omega) (fun k _ h (e : k = g1) => by have := h.1; omega)) hql, FF.out⟩
set_option maxHeartbeats 8000000 in
set_option maxRecDepth 100000 in
theorem read_mt_calls (D : Nat → Prop) (w : World) (v : Value) (l : List UInt8) (hB : Byt D w v l) (hl : l.length ≤ 140737488355328) :
    Calls Tryz.prog 28 #[v, .func (.func 29) #[] #[]] w (GotT RMt w (got RDmt ((0 : Nat), ([] : List (Nat × List UInt8))) l)) := by
  have HB := Lib.hid hB
  obtain ⟨s, hs⟩ : ∃ s, RDmt ⟨l, 0⟩ = s := ⟨_, rfl⟩
  have HG := Lib.hid (show (s.1.fin = 0 → got RDmt ((0 : Nat), ([] : List (Nat × List UInt8))) l = (s.2, 0)) ∧ (¬ s.1.fin = 0 → got RDmt ((0 : Nat), ([] : List (Nat × List UInt8))) l = (((0 : Nat), ([] : List (Nat × List UInt8))), 120)) from ⟨fun h => by rw [got_yes (by rw [hs]; exact h), hs], fun h => by rw [got_no (by rw [hs]; exact h)]⟩)
  have HC := Lib.hid (fun D' w' q' h' => rmt_calls D' w' q' ⟨l, 0⟩ h' hl)
  rw [hs] at HC
  have hszT : ∀ cs : List Value, cs.length = 2 → (Tryz.prog.info? 25).map (·.size) = some cs.length := fun cs h => by rw [h]; kernel_rfl
  clear hB hs
  go_enter Tryz.func28, Tryz.ntmps28
  go_upto_region 1 with (first
    | ((with_reducible refine wpList_alloc rfl _ rfl _ (zeroMt _) (fun wa ka ca za => ?_)); have KA := Lib.hid ka; have CA := Lib.hid ca; clear ka ca))
  go_wp2_with fail
  refine (CodecR.read_calls D wa v l (HB.out.below CA.out) hl).mono ?_
  rintro e wb ⟨q, rfl, hq, o1, o2⟩
  have hql := o1.lt
  have O1 := Lib.hid o1
  have KA1 := Lib.hid (KA.out.below o2)
  have B1 := Lib.hid (CA.out.trans (o2.mono (by omega)))
  have hsb := o2.size
  clear o1 o2 KA CA
  go_upto_region 2 with (first
    | ((with_reducible refine wpList_alloc rfl _ rfl _ (zeroR _) (fun wc kc cc zc => ?_)); have KC := Lib.hid kc; have CC := Lib.hid cc; clear kc cc)
    | ((with_reducible refine wpList_put rfl _ _ _ rfl wb.heap.size [.pointer (some ⟨q, 0, none⟩)] _ rfl rfl KC.out (by kernel_rfl) rfl (one_ptr q) (fun wd kd fd zd => ?_)); have KD := Lib.hid kd; have CD := Lib.hid (CC.out.trans (fd.below CC.out.size (fun k (hk : k = _) => by omega))); clear kd fd))
  have O2 := Lib.hid (O1.out.below CD.out)
  have KA2 := Lib.hid (KA1.out.below CD.out)
  have B2 := Lib.hid (B1.out.trans (CD.out.mono (by omega)))
  have hsd := CD.out.size
  have hgr : wb.heap.size < wd.heap.size := KD.out.lt
  clear O1 KA1 B1 KC CC CD
  generalize wb.heap.size = gr at *
  go_wp2_with (first | (with_reducible refine wpList_load_blk rfl _ _ rfl gr [.pointer (some ⟨q, 0, none⟩)] rfl KD.out _ Tryz.underlying68 rfl (by kernel_rfl) ?_))
  refine (HC.out _ wd q O2.out).mono ?_
  rintro e we ⟨cs, rfl, ox, o2, o3⟩
  have HX := Lib.hid ox
  have HCL := Lib.hid (rep_Mt.len ox)
  have HC1 := Lib.hid (rep_Mt.one ox)
  have HSZ := Lib.hid (hszT cs (rep_Mt.len ox))
  have hse := o3.size
  have O3 := Lib.hid o2
  have KA3 := Lib.hid (KA2.out.fr o3 (by omega))
  have KD3 := Lib.hid (KD.out.fr o3 (by omega))
  have B3 := Lib.hid (B2.out.trans (o3.below (by omega) (fun k (hk : k = q) => by omega)))
  clear ox o2 o3 O2 KA2 KD B2 HC
  go_upto_region 3 with (first
    | ((with_reducible refine wpList_alloc rfl _ rfl _ (zeroMt _) (fun wf kf cf zf => ?_)); have KF := Lib.hid kf; have CF := Lib.hid cf; clear kf cf)
    | ((with_reducible refine wpList_put rfl _ _ _ rfl we.heap.size cs _ rfl rfl KF.out HSZ.out (zeroMt_len.trans HCL.out.symm) HC1.out (fun wg kg fg zg => ?_)); have KG := Lib.hid kg; have CG := Lib.hid (CF.out.trans (fg.below CF.out.size (fun k (hk : k = _) => by omega))); clear kg fg))
  have O5 := Lib.hid (O3.out.below CG.out)
  have HX5 := Lib.hid (rep_Mt.below HX.out CG.out)
  have KA5 := Lib.hid (KA3.out.below CG.out)
  have KD5 := Lib.hid (KD3.out.below CG.out)
  have B5 := Lib.hid (B3.out.trans (CG.out.mono (by omega)))
  have hsg := CG.out.size
  have c0 := KD5.out.cell (i := 0) rfl
  clear O3 HX KA3 KD3 B3 KF CF CG
  go_wp2_with fail
  refine (CodecR.end_calls _ wg q _ O5.out).mono ?_
  rintro e wh ⟨rfl, rfl⟩
  clear c0 O5
  by_cases hf : s.1.fin = 0
  · have hf2 : (s.1.fin != 0) = false := by simp [hf]
    have HG2 := Lib.hid (HG.out.1 hf)
    clear hf HG
    go_wp2_with (first
      | (with_reducible refine wpList_load_blk rfl _ _ rfl we.heap.size cs rfl KG.out _ Tryz.underlying25 rfl HSZ.out ?_)
      | ((with_reducible refine wpList_put rfl _ _ _ rfl w.heap.size cs _ rfl rfl KA5.out HSZ.out (zeroMt_len.trans HCL.out.symm) HC1.out (fun wi ki fi zi => ?_)); have KI := Lib.hid ki; have FI := Lib.hid fi; clear ki fi))
    refine bodyPost_ret (v := .tuple #[.agg cs.toArray, .int .i64 0]) (results_row2 Tryz.results28 _ _ w.heap.size _ _ rfl KI.out Tryz.underlying25 rfl HSZ.out _ rfl) rfl ?_
    rw [HG2.out]
    exact ⟨cs, rfl, rep_Mt.mono (rep_Mt.fr HX5.out FI.out (fun b _ h (e : b = w.heap.size) => by omega)) (fun b _ h => by omega), B5.out.trans (FI.out.below B5.out.size (fun k (hk : k = w.heap.size) => by omega))⟩
  · have hf2 : (s.1.fin != 0) = true := by simpa using hf
    have HG2 := Lib.hid (HG.out.2 hf)
    have HZL := Lib.hid (hszT ([Value.int .u64 0, .slice none 0 0]) zeroMt_len)
    clear hf HG
    go_wp2_with (first
      | ((with_reducible refine wpList_alloc rfl _ rfl _ (zeroMt _) (fun wf' kf cf zf => ?_)); have KF := Lib.hid kf; have CF := Lib.hid cf; have KA6 := Lib.hid (KA5.out.below cf); clear kf cf)
      | (with_reducible refine wpList_load_blk rfl _ _ rfl wg.heap.size ([Value.int .u64 0, .slice none 0 0]) rfl KF.out _ Tryz.underlying25 rfl HZL.out ?_)
      | ((with_reducible refine wpList_put rfl _ _ _ rfl w.heap.size ([Value.int .u64 0, .slice none 0 0]) _ rfl rfl KA6.out HZL.out rfl zeroMt_one (fun wi ki fi zi => ?_)); have KI := Lib.hid ki; have FI := Lib.hid fi; clear ki fi))
    refine bodyPost_ret (v := .tuple #[.agg ([Value.int .u64 0, .slice none 0 0]).toArray, .int .i64 120]) (results_row2 Tryz.results28 _ _ w.heap.size _ _ rfl KI.out Tryz.underlying25 rfl HZL.out _ rfl) rfl ?_
    rw [HG2.out]
    exact ⟨_, rfl, zero_Mt _ _, (B5.out.trans (CF.out.mono B5.out.size)).trans (FI.out.below (by have := B5.out.size; have := CF.out.size; omega) (fun k (hk : k = w.heap.size) => by omega))⟩
set_option maxHeartbeats 4000000 in
set_option maxRecDepth 100000 in
theorem ReadMainTx_calls (D : Nat → Prop) (w : World) (v : Value) (l : List UInt8) (hB : Byt D w v l) (hl : l.length ≤ 140737488355328) :
    Calls Tryz.prog 8 #[v] w (GotT RMt w (got RDmt ((0 : Nat), ([] : List (Nat × List UInt8))) l)) := by
  have HB := Lib.hid hB
  clear hB
  obtain ⟨g, hg⟩ : ∃ g, got RDmt ((0 : Nat), ([] : List (Nat × List UInt8))) l = g := ⟨_, rfl⟩
  have HR := Lib.hid (fun w' h => read_mt_calls D w' v l h hl)
  rw [hg] at HR ⊢
  have hszT : ∀ cs : List Value, cs.length = 2 → (Tryz.prog.info? 25).map (·.size) = some cs.length := fun cs h => by rw [h]; kernel_rfl
  clear hg
  go_enter Tryz.func8, Tryz.ntmps8
  go_upto_region 1 with (first
    | ((with_reducible refine wpList_alloc rfl _ rfl _ (zeroMt _) (fun wa ka ca za => ?_)); have KA := Lib.hid ka; have CA := Lib.hid ca; clear ka ca))
  go_wp2_with fail
  refine (HR.out wa (HB.out.below CA.out)).mono ?_
  rintro e wb ⟨cs, rfl, ox, o2⟩
  have HX := Lib.hid ox
  have HCL := Lib.hid (rep_Mt.len ox)
  have HC1 := Lib.hid (rep_Mt.one ox)
  have HSZ := Lib.hid (hszT cs (rep_Mt.len ox))
  have B1 := Lib.hid (CA.out.trans (o2.mono (by omega)))
  have KA1 := Lib.hid (KA.out.below o2)
  clear ox o2 KA HR HB
  go_wp2_with (first
    | ((with_reducible refine wpList_put rfl _ _ _ rfl w.heap.size cs _ rfl rfl KA1.out HSZ.out (zeroMt_len.trans HCL.out.symm) HC1.out (fun wi ki fi zi => ?_)); have KI := Lib.hid ki; have FI := Lib.hid fi; clear ki fi))
  exact bodyPost_ret (v := .tuple #[.agg cs.toArray, .int .i64 g.2]) (results_row2 Tryz.results8 _ _ w.heap.size _ _ rfl KI.out Tryz.underlying25 rfl HSZ.out _ rfl) rfl ⟨cs, rfl, rep_Mt.mono (rep_Mt.fr HX.out FI.out (fun b _ h (e : b = w.heap.size) => by omega)) (fun b _ h => by omega), B1.out.trans (FI.out.below (by have := B1.out.size; omega) (fun k (hk : k = w.heap.size) => by omega))⟩
end Go.Proofs.YtmenchnjajpkmaaGreat.Rm
end

section
namespace Go.Proofs.YtmenchnjajpkmaaGreat.Wa
open Go Go.RowKit Mem Codec CodecW Ww Rw Arr Ops Wt Reps Wg Ws Wo Wm Rr Rm
set_option linter.unusedVariables false
set_option linter.unusedSimpArgs false

def mo0 : List Value := Value.int .u64 2 :: List.replicate 32 (.int .u8 0)
def ou0 : List Value := [Value.int .i64 0] ++ (([Value.bool false] ++ (List.replicate 32 (.int .u8 0) ++ zPt)) ++ (([Value.bool false] ++ ([Value.int .u64 0] ++ zPt)) ++ [Value.slice none 0 0, .slice none 0 0, .slice none 0 0, .slice none 0 0]))
def x0 : XMt := (1, [(2, List.replicate 32 0)])
def b0 : List UInt8 := encMt x0
theorem b0_len : b0.length = 49 := by decide
theorem got0 : got RDmt ((0 : Nat), ([] : List (Nat × List UInt8))) b0 = (x0, 0) := by kernel_rfl
def y0 : XOu0 := (0, List.replicate 32 0, 0, [], [], [], [])
theorem ou0_reads (w : World) : ROu0 Any w ou0 y0 :=
  ⟨_, _, rfl, ⟨by decide, rfl⟩, _, _, rfl, ⟨rfl, rfl⟩, _, _, rfl, ⟨by decide, rfl⟩, [_], [_, _, _], rfl, ⟨_, rfl, Byt.nil _ _⟩, [_], [_, _], rfl, ⟨_, rfl, Byt.nil _ _⟩, [_], [_], rfl, ⟨_, rfl, Byt.nil _ _⟩, ⟨_, rfl, Byt.nil _ _⟩⟩
theorem ou0_bad : badOu0 y0 = true := by decide
set_option maxRecDepth 100000 in
theorem elemMo : ElemT Tryz.prog 23 76 (.agg (Value.int .u64 0 :: List.replicate 32 (Value.int .u8 0)).toArray) 33 40 :=
  ⟨Tryz.underlying23, ⟨_, rfl, by kernel_rfl, by kernel_rfl, by kernel_rfl⟩, by simp [Value.cells], by decide⟩
theorem mo0_len : mo0.length = 33 := rfl
theorem mo0_reads (D : Nat → Prop) (w : World) : RMo D w mo0 (2, List.replicate 32 0) := ⟨[_], _, rfl, ⟨by decide, rfl⟩, rfl, by simp [mo0]⟩
set_option maxHeartbeats 8000000 in
set_option maxRecDepth 100000 in
theorem alive_calls (w : World) : Calls Tryz.prog 12 #[] w fun e w' => e = .returned (.bool true) ∧ Below w.heap.size w w' := by
  go_enter Tryz.func12, Tryz.ntmps12
  go_wp2_with (first
    | (with_reducible refine wpList_built rfl _ [(0, .const (.int .u64 2))] rfl mo0 (by kernel_rfl) ?_)
    | ((with_reducible refine wpList_build1 rfl elemMo _ rfl mo0 rfl mo0_len (by omega) (fun wa ka ca za => ?_)); have KA := Lib.hid ka; have CA := Lib.hid ca; clear ka ca)
    | (with_reducible refine wpList_built rfl _ [(0, .const (.int .u64 1)), (1, .tmp 9)] rfl [Value.int .u64 1, .slice (some ⟨w.heap.size, 0, none⟩) 1 1] (by kernel_rfl) ?_))
  have hb0 : badMt x0 = false := by decide
  refine (MainTx_told wa [Value.int .u64 1, .slice (some ⟨w.heap.size, 0, none⟩) 1 1] x0 ⟨[_], [_], rfl, ⟨by decide, rfl⟩, _, rfl, [mo0], WtIt.arr1 KA.out mo0_len, .cons (mo0_reads _ _) .nil⟩ (by show b0.length + 9 ≤ _; rw [b0_len]; omega)).mono ?_
  rintro e wb ⟨⟨ba, bc, rfl, g1⟩, g2⟩
  rw [hb0] at g1 ⊢
  clear hb0
  change OwnB _ _ _ (.slice ba b0.length bc) b0 at g1
  have hBy := g1.byt.mono (E := Any) (fun _ _ _ => trivial)
  have HBy := Lib.hid hBy
  have hbt : ∃ bb bo, ba = some ⟨bb, bo, none⟩ ∧ Lies wb bb bo b0 := by
    obtain ⟨a', c', he, _, h⟩ := hBy
    rcases h with h | ⟨bb, bo, rfl, _, h⟩
    · exact absurd h (by decide)
    · cases he; exact ⟨bb, bo, rfl, h⟩
  obtain ⟨bb, bo, rfl, hlies⟩ := hbt
  have e7 := hlies 7 (by decide)
  have e8 := hlies 8 (by decide)
  change wb.cell? ⟨bb, bo + 7, none⟩ = some (.int .u8 1) at e7
  change wb.cell? ⟨bb, bo + 8, none⟩ = some (.int .u8 1) at e8
  have E7 := Lib.hid e7
  have E8 := Lib.hid e8
  have B1 := Lib.hid (CA.out.trans (g2.mono (by omega)))
  clear g1 g2 hBy hlies e7 e8 KA CA
  rw [b0_len] at HBy
  rw [show (told (encMt x0) false).length = 49 from b0_len, show toldE false = 0 from rfl]
  go_wp2_with fail
  refine (ReadMainTx_calls Any wb _ b0 HBy.out (by rw [b0_len]; omega)).mono ?_
  rw [got0]
  rintro e wc ⟨cs, rfl, hR, g2⟩
  obtain ⟨a1, a2, hcs, ⟨_, h1⟩, tv, h2, hS⟩ := hR
  have hcs' : cs = [Value.int .u64 1, tv] := by rw [hcs, h1, h2]; rfl
  subst hcs'
  have HS := Lib.hid (show Sl 33 RMo (fun b => wb.heap.size ≤ b) wc tv [(2, List.replicate 32 0)] from hS)
  have E7c := Lib.hid ((g2.cell (World.block_lt_of_cell? _ _ E7.out)).trans E7.out)
  have E8c := Lib.hid ((g2.cell (World.block_lt_of_cell? _ _ E8.out)).trans E8.out)
  have B2 := Lib.hid (B1.out.trans (g2.mono B1.out.size))
  have htv : tv.oneCell' = true := by obtain ⟨_, _, rfl, _⟩ := hS.form; rfl
  clear hS g2 E7 E8 HBy B1 hcs h1 h2
  go_upto_region 3 with (first
    | ((with_reducible refine wpList_alloc rfl _ rfl _ (zeroMt _) (fun wd kd cd zd => ?_)); have KD := Lib.hid kd; have CD := Lib.hid cd; clear kd cd)
    | ((with_reducible refine wpList_put rfl _ _ _ rfl wc.heap.size [Value.int .u64 1, tv] _ rfl rfl KD.out (by kernel_rfl) rfl (WtIt.one_two rfl htv) (fun we ke fe ze => ?_)); have KE := Lib.hid ke; have CE := Lib.hid (CD.out.trans (fe.below CD.out.size (fun k (hk : k = _) => by omega))); clear ke fe))
  have E7e := Lib.hid ((CE.out.cell (World.block_lt_of_cell? _ _ E7c.out)).trans E7c.out)
  have E8e := Lib.hid ((CE.out.cell (World.block_lt_of_cell? _ _ E8c.out)).trans E8c.out)
  have HSe := Lib.hid (HS.out.below rep_Mo CE.out)
  have B3 := Lib.hid (B2.out.trans (CE.out.mono B2.out.size))
  clear KD CD CE E7c E8c HS B2
  generalize wc.heap.size = gt at *
  go_wp2_with (first
    | (with_reducible refine wpList_built rfl _ [] rfl ou0 (by kernel_rfl) ?_))
  refine (Out0_told we ou0 y0 (ou0_reads _) (by decide)).mono ?_
  rw [ou0_bad]
  rintro e wf ⟨⟨oa, oc, rfl, g1⟩, g2⟩
  rw [show (told (encOu0 y0) true).length = 0 from rfl, show toldE true = 120 from rfl]
  have c7 := (g2.cell (World.block_lt_of_cell? _ _ E7e.out)).trans E7e.out
  have c8 := (g2.cell (World.block_lt_of_cell? _ _ E8e.out)).trans E8e.out
  have hK := KE.out.below g2
  have t0 := hK.cell (i := 0) rfl
  have t1 := hK.cell (i := 1) rfl
  have hSf := HSe.out.below rep_Mo g2
  obtain ⟨vb, vo, vc, cs, rfl, _, hr, hx⟩ := hSf.at 0 (by decide)
  obtain ⟨a1, a2, rfl, ⟨_, rfl⟩, _, rfl⟩ := hx
  have v0 := hr 0 (.int .u64 2) rfl
  change wf.cell? ⟨vb, vo, none⟩ = some (.int .u64 2) at v0
  have BF := Lib.hid (B3.out.trans (g2.mono B3.out.size))
  clear g1 g2 hK hSf hr HSe KE E7e E8e B3
  go_wp2
  go_ret
  exact ⟨rfl, BF.out⟩
end Go.Proofs.YtmenchnjajpkmaaGreat.Wa
end

section
namespace Go.Proofs.YtmenchnjajpkmaaGreat.Rr
open Go Go.RowKit Mem Codec Ops Reps WtIt Arr
set_option linter.unusedVariables false

/-- a federation -/
def RPm : (Nat → Prop) → World → List Value → Int × List (List UInt8) → Prop := fun D w cs x => ∃ v, cs = [.int .i64 x.1, v] ∧ Sl 32 RDg D w v x.2
theorem rep_pm : Rep 2 RPm where
  pos := by omega
  len := by rintro D w cs x ⟨v, rfl, _⟩; rfl
  one := by
    rintro D w cs x ⟨v, rfl, h⟩ u hu
    obtain ⟨a, c, rfl, _⟩ := h.form
    simp only [List.mem_cons, List.not_mem_nil, or_false] at hu
    rcases hu with rfl | rfl <;> rfl
  fr := by rintro D S w w' cs x ⟨v, rfl, h⟩ hf hn; exact ⟨v, rfl, h.fr rep32 hf hn⟩
  mono := by rintro D E w cs x ⟨v, rfl, h⟩ hn; exact ⟨v, rfl, h.mono rep32 hn⟩
set_option maxHeartbeats 16000000 in
set_option maxRecDepth 100000 in
theorem params_calls (w : World) (q : Nat) (a : Option Addr) (c : Nat) (B : List UInt8) (r : Rd) (H : RfR w q a c B r) (hl : B.length ≤ 140737488355328) :
    Calls Tryz.prog 45 #[.pointer (some ⟨q, 0, none⟩)] w (GotR RPm w q a c B (WtIt.Rd.params r)) := by
  have hqw := H.lt
  have H0 := Lib.hid H
  have HY0 := Lib.hid H.byt
  obtain ⟨rk, hrk⟩ : ∃ x, (Wr.Rd.kind r 0 255).1 = x := ⟨_, rfl⟩
  obtain ⟨tt, htt⟩ : ∃ x, (Wr.Rd.kind r 0 255).2 = x := ⟨_, rfl⟩
  have HKK := Lib.hid (small_calls · q a c B r 0 255 · hl)
  rw [hrk, htt] at HKK
  have HP : WtIt.Rd.params r = ((Rd.keys rk 16).1, tt, (Rd.keys rk 16).2) := by unfold WtIt.Rd.params; rw [hrk, htt]
  have hroom : rk.room 16 = rk.var 16 := var_room rk 16
  obtain ⟨r1, hr1⟩ : ∃ x, (rk.var 16).1 = x := ⟨_, rfl⟩
  obtain ⟨n, hn⟩ : ∃ x, (rk.var 16).2 = x := ⟨_, rfl⟩
  have HZ := Lib.hid (show r1.e = 0 ∨ n = 0 from by rw [← hr1, ← hn]; exact var_none rk 16)
  have hn16 : n ≤ 16 := by rw [← hn]; exact var_le rk 16
  have HM := Lib.hid (many_calls · q a c B rk 16 (by omega) · hl)
  rw [hr1, hn] at HM
  have HPP := Lib.hid (show WtIt.Rd.params r = ((items Wr.Rd.dig n r1).2, tt, lst (items Wr.Rd.dig n r1)) by rw [HP]; unfold Rd.keys; rw [hroom, hr1, hn])
  clear H hrk htt HP hroom hr1 hn
  go_enter Tryz.func45, Tryz.ntmps45
  go_upto_region 1 with (first
    | ((with_reducible refine wpList_alloc rfl _ rfl _ (zeroP _) (fun wa ka ca za => ?_)); have KA := Lib.hid ka; have CA := Lib.hid ca; clear ka ca))
  go_upto_region 2 with (first
    | ((with_reducible refine wpList_alloc rfl _ rfl _ (zeroP _) (fun wb ka ca zb => ?_)); have KB := Lib.hid ka; have CB := Lib.hid ca; clear ka ca))
  have CAB := Lib.hid (CA.out.trans (CB.out.mono (by omega)))
  have KA2 := Lib.hid (KA.out.below CB.out)
  have HRB := Lib.hid (H0.out.below CAB.out)
  have hgb : wa.heap.size < wb.heap.size := KB.out.lt
  have hgw0 : w.heap.size < wa.heap.size := by omega
  clear CA CB KA
  generalize wa.heap.size = gp at *
  go_wp2_with fail
  refine (HKK.out wb HRB.out).mono ?_
  rintro e wc ⟨rfl, o1, o2⟩
  have O1 := Lib.hid o1
  have KB2 := Lib.hid (KB.out.fr o2 (by omega))
  have KA3 := Lib.hid (KA2.out.fr o2 (by omega))
  have F1 := Lib.hid ((Fr.ofBelowAll CAB.out (Nat.le_refl _) : Fr (fun k => k = q) w wb).trans o2)
  have hsc := o2.size
  clear o1 o2 HKK HRB KB KA2 CAB
  go_upto_region 3 with (first
    | ((with_reducible refine wpList_setc rfl _ _ _ rfl gp 0 rfl (.int .i64 tt) rfl rfl KB2.out (by decide) (by kernel_rfl) (fun wd kd fd zd => ?_)); have KD := Lib.hid kd; have FD := Lib.hid fd; clear kd fd))
  have HYd := Lib.hid ((HY0.out.fr F1.out (fun k _ h e => h.2 e)).fr FD.out (fun k _ h e => by have := h.1; omega))
  have HRD := Lib.hid (O1.out.frD (HY0.out.fr F1.out (fun k _ h e => h.2 e)) FD.out (by omega) (fun k h => ⟨h.2, by have := h.1; omega⟩))
  have KA4 := Lib.hid (KA3.out.fr FD.out (by omega))
  have F2 := Lib.hid (F1.out.trans' FD.out (fun k hk e => by omega))
  clear O1 KA3 KB2 F1 FD
  go_wp2_with fail
  refine (HM.out wd HRD.out).mono ?_
  rintro e we ⟨rfl, o1, o2⟩
  have RQ := Lib.hid o1
  have KP := Lib.hid (show Blk we gp [.int .i64 tt, .slice none 0 0] 44 from KD.out.fr o2 (by omega))
  have KA5 := Lib.hid (KA4.out.fr o2 (by omega))
  have HY := Lib.hid (HYd.out.fr o2 (fun k _ h e => h.2 e))
  have F3 := Lib.hid (F2.out.trans o2)
  have hse := o2.size
  have hgw : gp < we.heap.size := by omega
  have hn6 : n ≤ 65536 := by omega
  clear o1 o2 HM HRD KD KA4 HYd F2
  go_wp2
  go_loopw [5] (fun i' wx => ∃ (i : Nat) (v : Value) (css : List (List Value)) (xs : List _) (r : Rd), i' = .int .i64 (i : Int) ∧ xs.length = i ∧ i ≤ n ∧ Blk wx gp ([.int .i64 tt] ++ ([v] ++ [])) 44 ∧ OwnA 32 we.heap.size 134 wx v css ∧ All2 (RDg (fun b => we.heap.size ≤ b ∧ v.ownBlock ≠ some b) wx) css xs ∧ RfR wx q a c B r ∧ LSt Wr.Rd.dig n r1 xs r ∧ Fr (fun k => k = q ∨ k = gp) we wx) (fun i' _ => n - (intOf i').toNat)
  case atStart => exact ⟨0, _, [], [], r1, rfl, rfl, Nat.zero_le _, KP.out, OwnA.nil _ _ _ _, .nil, RQ.out, LSt.start HZ.out, Fr.refl _ _⟩
  case round =>
    obtain ⟨i, v, css, xs, rr, rfl, hxl, hin, hK, hO, hA, hR, hS, hF⟩ := hrel
    obtain ⟨va, vc, hve, hc1, hc2, _⟩ := hO.form
    have hcl : css.length = i := by rw [hA.length]; exact hxl
    rw [hcl] at hve hc1
    subst hve
    have HK := Lib.hid hK
    have HO := Lib.hid hO
    have HA := Lib.hid hA
    have HR := Lib.hid hR
    have HS := Lib.hid hS
    have HF := Lib.hid hF
    have HXL := Lib.hid hxl
    have HCS := Lib.hid hcl
    have hsr := hF.size
    have HYr := Lib.hid (HY.out.fr hF (fun k hk h e => by rcases e with e | e; exact h.2 e; omega))
    clear hK hO hA hR hS hF hxl hcl
    by_cases hgo : i < n ∧ rr.e = 0
    · obtain ⟨hlt, he⟩ := hgo
      have hltI : (i : Int) < (n : Int) := by omega
      have he2 : (rr.e == 0) = true := by simpa using he
      have HE := Lib.hid he
      have hnq : q ≠ gp := by omega
      clear he
      go_wp2_with (first
        | (refine (ok_calls wr q a c B rr HR.out).mono ?_; rintro e wo ⟨rfl, rfl⟩))
      have cl := blk_one HK.out ([.int .i64 tt]) ([]) _ rfl 1 (rfl)
      refine wp_region_held_drew (S := fun _ => True) (by kernel_rfl) trivial (fun hHeld => ?_)
      refine wpAnyH_take (i := 0) (oi := ⟨_, _, _, _, _, _⟩) (v := ?_) rfl (by kernel_rfl) (by kernel_rfl) (by kernel_rfl) (fun _ _ _ h => h) (Or.inl ⟨by rfl, ?_⟩) (by assumption) ?_
      rotate_left
      · intro w hSw; go_simp; try (with_reducible rfl)
      try simp only [Act.put, List.setIfInBounds_toArray, List.set_cons_zero, List.set_cons_succ]
      refine wpAnyH_take (i := 2) (oi := ⟨_, _, _, _, _, _⟩) (v := ?_) rfl (by kernel_rfl) (by kernel_rfl) (by kernel_rfl) (fun _ _ _ h => h) (Or.inl ⟨by rfl, ?_⟩) (by assumption) ?_
      rotate_left
      · intro w hSw; go_simp; try (with_reducible rfl)
      try simp only [Act.put, List.setIfInBounds_toArray, List.set_cons_zero, List.set_cons_succ]
      refine wpAnyH_before (i := 1) (oi := ⟨_, _, _, _, _, _⟩) (S := fun w' => w'.cell? ⟨gp, 1, none⟩ = some (.slice va i vc)) (v := .slice va i vc) rfl (by kernel_rfl) (by kernel_rfl) (by kernel_rfl) (fun _ _ _ h => h) (Or.inl ⟨by rfl, fun w hSw => (by go_simp)⟩) cl ?_
      try simp only [Act.put, List.setIfInBounds_toArray, List.set_cons_zero, List.set_cons_succ]
      refine wpAnyJ_keep (j := 3) (oj := ⟨_, _, _, _, _, _⟩) (by kernel_rfl) rfl (fun K hK => ?_)
      have HRD := Lib.hid (show RfR wr.drew q a c B rr from HR.out)
      go_simp
      refine (digest_calls wr.drew q a c B rr HRD.out hl).mono ?_
      rintro e wc ⟨rfl, o1, o2⟩
      obtain ⟨x, hx⟩ : ∃ x, (Wr.Rd.dig rr).2 = x := ⟨_, rfl⟩
      obtain ⟨cs, hcs⟩ : ∃ cs : List Value, x.map byt = cs := ⟨_, rfl⟩
      have ox : RDg (fun b => wr.heap.size ≤ b) wc cs x := ⟨by rw [← hx]; exact Wr.Rd.dig_len rr, hcs.symm⟩
      have oe : (Wr.Rd.dig rr).1.e = 0 → x = (Wr.Rd.dig rr).2 := fun _ => hx.symm
      rw [hx, hcs]
      clear hx hcs
      have HX := Lib.hid ox
      have HCL := Lib.hid (rep32.len ox)
      have HC1 := Lib.hid (rep32.one ox)
      have HXE := Lib.hid oe
      have HR2 := Lib.hid o1
      have HF2 := Lib.hid (show Fr (fun k => k = q) wr wc from ((Fr.refl _ wr).drew).trans o2)
      have hs2 : wr.heap.size ≤ wc.heap.size := o2.size
      have hgl : gp < wr.heap.size := HK.out.lt
      refine hK.out _ _ (by exact HF2.out.cell cl (fun e => hnq e.symm)) ?_
      clear ox oe o1 o2 hK HRD
      have cl := HF2.out.cell cl (fun e => hnq e.symm)
      try simp only [Act.put, List.setIfInBounds_toArray, List.set_cons_zero, List.set_cons_succ]
      have HK2 := Lib.hid (HK.out.fr HF2.out (fun e => hnq e.symm))
      have HO2 := Lib.hid (HO.out.fr HF2.out (fun k hk e => by have := (HO.out.lt k hk).1; omega))
      have HY2 := Lib.hid (HYr.out.fr HF2.out (fun k hk h e => h.2 e))
      refine wpAnyJ_keep (j := 4) (oj := ⟨_, _, _, _, _, _⟩) (by kernel_rfl) rfl (fun K hK => ?_)
      rw [if_pos (by rfl)]
      refine wp_build1 elemK _ rfl cs rfl HCL.out (by omega) (fun wj kj bj zj => ?_)
      refine hK.out _ _ (by exact (bj.cell (World.block_lt_of_cell? _ _ cl)).trans cl) ?_
      clear hK cl
      have KJ := Lib.hid kj
      have BJ := Lib.hid bj
      have HK3 := Lib.hid (HK2.out.below bj)
      have HO3 := Lib.hid (HO2.out.below bj)
      clear kj bj HK2 HO2
      try simp only [Act.put, List.setIfInBounds_toArray, List.set_cons_zero, List.set_cons_succ]
      refine wpAnyJ_free (j := 5) (oj := ⟨_, _, _, _, _, _⟩) (by kernel_rfl) (by kernel_rfl) rfl (fun K hK => ?_)
      rw [if_pos (by rfl)]
      refine wp_append_arr _ _ 42 rfl we.heap.size 134 elemK _ css rfl HO3.out _ [cs] rfl (arr1 KJ.out HCL.out) (fun y hy u hu => by rw [List.mem_singleton.1 hy] at hu; exact HC1.out u hu) (by rw [HCS.out, List.length_singleton]; unfold maxLen; omega) (by rw [HCS.out, List.length_singleton]; omega) (by omega) (i + 1) (by rw [HCS.out, List.length_singleton]) (fun a' cap' wk q1 q2 q3 => ?_)
      refine hK.out _ _ ?_
      clear hK
      have Q1 := Lib.hid q1
      have Q2 := Lib.hid (show Fr (fun k => (Value.slice va i vc).ownBlock = some k) wc wk from (Fr.ofBelowAll BJ.out (Nat.le_refl _)).trans (Fr.ofGrown q2))
      have Q3 := Lib.hid q3
      have hlow : ∀ k, (Value.slice va i vc).ownBlock = some k → we.heap.size ≤ k := fun k hk => (HO.out.lt k hk).1
      have HLOW := Lib.hid hlow
      have HK4 := Lib.hid (HK3.out.fr (Fr.ofGrown q2) (fun e => by have := hlow _ e; omega))
      have hsk : wj.heap.size ≤ wk.heap.size := (Fr.ofGrown q2).size
      clear q1 q2 q3 hlow
      try simp only [Act.put, List.setIfInBounds_toArray, List.set_cons_zero, List.set_cons_succ]
      refine wpAnyJ_free (j := 6) (oj := ⟨_, _, _, _, _, _⟩) (by kernel_rfl) (by kernel_rfl) rfl (fun K hK => ?_)
      go_simp
      refine hK.out _ _ ?_
      clear hK
      try simp only [Act.put, List.setIfInBounds_toArray, List.set_cons_zero, List.set_cons_succ]
      refine wpAnyJ_free (j := 7) (oj := ⟨_, _, _, _, _, _⟩) (by kernel_rfl) (by kernel_rfl) rfl (fun K hK => ?_)
      rw [if_pos (by rfl)]
      refine wp_putc _ _ _ rfl gp ([.int .i64 tt]) ([]) _ 1 (rfl) rfl _ rfl rfl HK4.out (by kernel_rfl) (fun wl kl fl zl => ?_)
      refine hK.out _ _ ?_
      clear hK
      have KL := Lib.hid kl
      have FL := Lib.hid fl
      clear kl fl
      refine wpAnyJ_done (by kernel_rfl) ?_ _
      have HFF := Lib.hid (show Fr (fun k => (Value.slice va i vc).ownBlock = some k ∨ k = gp) wc wl from (Q2.out.mono (fun k _ h => .inl h)).trans (FL.out.mono (fun k _ h => .inr h)))
      go_wp2
      go_roundw
      case rel =>
        have hll := HLOW.out
        exact ⟨i + 1, _, css ++ [cs], xs ++ [x], _, by go_num, by rw [List.length_append, HXL.out]; rfl, by omega, KL.out, Q1.out.fr FL.out (fun k hk e => by have := (Q1.out.lt k hk).1; omega),
          Reps.push rep32 HA.out HX.out HF2.out (fun k h e => by omega) (by omega) (fun k hk => (HO.out.lt k hk).2) HFF.out (fun k _ hN h => h.resolve_right (by omega)) (Q3.out.imp_right fun h => ⟨_, h, BJ.out.size⟩),
          HR2.out.frD HY2.out HFF.out (fun e => by rcases e with e | e; have := hll _ e; omega; omega) (fun k h => ⟨h.2, fun e => by rcases e with e | e; have := hll _ e; omega; omega⟩),
          HS.out.next HE.out (by rw [HXL.out]; exact hlt) x HXE.out,
          HF.out.trans' ((HF2.out.mono (T := fun k => k = q ∨ k = gp ∨ we.heap.size ≤ k) (fun k _ h => Or.inl h)).trans' HFF.out (fun k _ h => by rcases h with h | h; exact .inr (.inr (hll _ h)); exact .inr (.inl h))) (fun k hk h => by omega)⟩
      case measure => simp [intOf]; omega
    · have HD := Lib.hid (HS.out.done (by rw [HXL.out]; by_cases h : i < n; exact .inr (fun e => hgo ⟨h, e⟩); exact .inl h))
      have HSL := Lib.hid (sl_own rep32 HO.out HA.out)
      rcases (show (¬ (i : Int) < (n : Int)) ∨ ((i : Int) < (n : Int) ∧ (rr.e == 0) = false) by by_cases h : i < n; exact .inr ⟨by omega, by have : rr.e ≠ 0 := fun e => hgo ⟨h, e⟩; simpa using this⟩; exact .inl (by omega)) with hx | ⟨hx1, hx2⟩
      all_goals
        clear hgo HO HA HS HXL HCS
        have F4 := Lib.hid (F3.out.trans' HF.out (fun k hk e => by omega))
        have KA6 := Lib.hid (KA5.out.fr HF.out (fun e => by omega))
        have hl1 : (Value.slice va i vc).oneCell' = true := rfl
        generalize Value.slice va i vc = lv at *
        have HKx := Lib.hid (show Blk wr gp [.int .i64 tt, lv] 44 from HK.out)
        go_wp2_with (first
          | (refine (ok_calls wr q a c B rr HR.out).mono ?_; rintro e wo ⟨rfl, rfl⟩)
          | (with_reducible refine wpList_load_blk rfl _ _ rfl gp [.int .i64 tt, lv] rfl HKx.out _ Tryz.underlying44 rfl (by kernel_rfl) ?_)
          | ((with_reducible refine wpList_put rfl _ _ _ rfl w.heap.size [.int .i64 tt, lv] _ rfl rfl KA6.out (by kernel_rfl) rfl (one_two rfl hl1) (fun wz kz fz zz => ?_)); have KZ := Lib.hid kz; have FZ := Lib.hid fz; clear kz fz))
        have hxs := HD.out
        have hsz := HF.out.size
        refine bodyPost_ret (v := .agg [.int .i64 tt, lv].toArray) (results_row1 Tryz.results45 _ _ w.heap.size _ _ rfl KZ.out Tryz.underlying44 rfl (by kernel_rfl)) rfl ⟨_, (tt, xs), rfl, ⟨lv, rfl, (HSL.out.fr rep32 FZ.out (fun b _ h (e : b = w.heap.size) => by omega)).mono rep32 (fun b _ h => by omega)⟩, ?_, ?_, F4.out.trans' FZ.out (fun k hk (e : k = w.heap.size) => by omega)⟩
        · rw [HPP.out]
          exact fun h => by rw [hxs.2 (by rw [hxs.1]; exact h)]
        · rw [HPP.out, ← hxs.1]
          exact HR.out.frD HYr.out FZ.out (by omega) (fun k h => ⟨h.2, by have := h.1; omega⟩)
end Go.Proofs.YtmenchnjajpkmaaGreat.Rr
end

section
namespace Go.Proofs.YtmenchnjajpkmaaGreat.Rr
open Go Go.RowKit Mem Codec Ops Reps WtIt Arr
set_option linter.unusedVariables false

theorem zeroP_len : ([.int .i64 0, .slice none 0 0] : List Value).length = 2 := rfl
theorem zeroP_one : ∀ v ∈ ([.int .i64 0, .slice none 0 0] : List Value), v.oneCell' = true := by
  intro u hu
  simp only [List.mem_cons, List.not_mem_nil, or_false] at hu
  rcases hu with rfl | rfl <;> rfl
set_option maxHeartbeats 8000000 in
set_option maxRecDepth 100000 in
theorem readParams_ref (D : Nat → Prop) (w : World) (a : Option Addr) (c : Nat) (B : List UInt8) (hB : Byt D w (.slice a B.length c) B) (hl : B.length ≤ 140737488355328) :
    Calls Tryz.prog 19 #[.slice a B.length c] w (GotT RPm w (got WtIt.Rd.params (0, []) B)) := by
  have HB := Lib.hid hB
  obtain ⟨s, hs⟩ : ∃ s, WtIt.Rd.params ⟨B, 0⟩ = s := ⟨_, rfl⟩
  have HG := Lib.hid (show (s.1.fin = 0 → got WtIt.Rd.params (0, []) B = (s.2, 0)) ∧ (¬ s.1.fin = 0 → got WtIt.Rd.params (0, []) B = ((0, []), 120)) from ⟨fun h => by rw [got_yes (by rw [hs]; exact h), hs], fun h => by rw [got_no (by rw [hs]; exact h)]⟩)
  have HC := Lib.hid (fun w' q' h' => params_calls w' q' a c B ⟨B, 0⟩ h' hl)
  rw [hs] at HC
  have hszT : ∀ cs : List Value, cs.length = 2 → (Tryz.prog.info? 44).map (·.size) = some cs.length := fun cs h => by rw [h]; kernel_rfl
  clear hB hs
  go_enter Tryz.func19, Tryz.ntmps19
  go_upto_region 1 with (first
    | ((with_reducible refine wpList_alloc rfl _ rfl _ (zeroP _) (fun wa ka ca za => ?_)); have KA := Lib.hid ka; have CA := Lib.hid ca; clear ka ca))
  go_wp2_with fail
  refine (begin_calls _ wa a c B (HB.out.below CA.out)).mono ?_
  rintro e wb ⟨rfl, o1, o2⟩
  have O1 := Lib.hid o1
  have KA1 := Lib.hid (KA.out.below o2)
  have B1 := Lib.hid (CA.out.trans (o2.mono (by omega)))
  have hqw : w.heap.size < wa.heap.size := by omega
  have hsb := o2.size
  clear o1 o2 KA CA HB
  generalize wa.heap.size = q at *
  go_wp2_with fail
  refine (HC.out wb q O1.out).mono ?_
  rintro e wc ⟨cs, x, rfl, ox, oe, o1, o2⟩
  have HX := Lib.hid ox
  have HCL := Lib.hid (rep_pm.len ox)
  have HC1 := Lib.hid (rep_pm.one ox)
  have HSZ := Lib.hid (hszT cs (rep_pm.len ox))
  have HXE := Lib.hid oe
  have O2 := Lib.hid o1
  have KA2 := Lib.hid (KA1.out.fr o2 (by omega))
  have B2 := Lib.hid (B1.out.trans (o2.below (B := w.heap.size) B1.out.size (fun k hk => by omega)))
  have hsc := o2.size
  clear ox oe o1 o2 HC KA1 B1 O1
  go_upto_region 3 with (first
    | ((with_reducible refine wpList_alloc rfl _ rfl _ (zeroP _) (fun wd kd cd zd => ?_)); have KD := Lib.hid kd; have CD := Lib.hid cd; clear kd cd)
    | ((with_reducible refine wpList_put rfl _ _ _ rfl wc.heap.size cs _ rfl rfl KD.out HSZ.out (zeroP_len.trans HCL.out.symm) HC1.out (fun we ke fe ze => ?_)); have KE := Lib.hid ke; have CE := Lib.hid (CD.out.trans (fe.below CD.out.size (fun k (hk : k = _) => by omega))); clear ke fe))
  have O3 := Lib.hid (O2.out.below CE.out)
  have KA3 := Lib.hid (KA2.out.below CE.out)
  have B3 := Lib.hid (B2.out.trans (CE.out.mono B2.out.size))
  have HX3 := Lib.hid (rep_pm.below HX.out CE.out)
  clear O2 KA2 B2 HX KD CD CE
  go_wp2_with fail
  refine (ended_calls we q a c B _ O3.out).mono ?_
  rintro e wf ⟨rfl, o1⟩
  have KE4 := Lib.hid (KE.out.below o1)
  have KA4 := Lib.hid (KA3.out.below o1)
  have B4 := Lib.hid (B3.out.trans (o1.mono B3.out.size))
  have HX4 := Lib.hid (rep_pm.below HX3.out o1)
  have hB4 := B4.out.size
  clear o1 O3 KE KA3 B3 HX3
  by_cases hf : s.1.fin = 0
  · have hf2 : finE s.1 = 0 := if_pos hf
    have HG2 := Lib.hid (HG.out.1 hf)
    have HXX := Lib.hid (HXE.out (fin_ok hf))
    rw [hf2]
    clear hf hf2 HG
    go_wp2_with (first
      | (with_reducible refine wpList_load_blk rfl _ _ rfl wc.heap.size cs rfl KE4.out _ Tryz.underlying44 rfl HSZ.out ?_)
      | ((with_reducible refine wpList_put rfl _ _ _ rfl w.heap.size cs _ rfl rfl KA4.out HSZ.out (zeroP_len.trans HCL.out.symm) HC1.out (fun wi ki fi zi => ?_)); have KI := Lib.hid ki; have FI := Lib.hid fi; clear ki fi))
    refine bodyPost_ret (v := .tuple #[.agg cs.toArray, .int .i64 0]) (results_row2 Tryz.results19 _ _ w.heap.size _ _ rfl KI.out Tryz.underlying44 rfl HSZ.out _ rfl) rfl ?_
    rw [HG2.out, ← HXX.out]
    exact ⟨cs, rfl, rep_pm.mono (rep_pm.fr HX4.out FI.out (fun b _ h (e : b = w.heap.size) => by omega)) (fun b _ h => by omega), B4.out.trans (FI.out.below B4.out.size (fun k (hk : k = w.heap.size) => by omega))⟩
  · have hf2 : finE s.1 = 120 := if_neg hf
    have HG2 := Lib.hid (HG.out.2 hf)
    have HZL := Lib.hid (hszT ([.int .i64 0, .slice none 0 0]) zeroP_len)
    rw [hf2]
    clear hf hf2 HG
    go_wp2_with (first
      | (with_reducible refine wpList_built rfl _ [] rfl ([.int .i64 0, .slice none 0 0]) (by kernel_rfl) ?_)
      | ((with_reducible refine wpList_put rfl _ _ _ rfl w.heap.size ([.int .i64 0, .slice none 0 0]) _ rfl rfl KA4.out HZL.out rfl zeroP_one (fun wi ki fi zi => ?_)); have KI := Lib.hid ki; have FI := Lib.hid fi; clear ki fi))
    refine bodyPost_ret (v := .tuple #[.agg ([.int .i64 0, .slice none 0 0]).toArray, .int .i64 120]) (results_row2 Tryz.results19 _ _ w.heap.size _ _ rfl KI.out Tryz.underlying44 rfl HZL.out _ rfl) rfl ?_
    rw [HG2.out]
    exact ⟨_, rfl, ⟨_, rfl, Sl.nil _ _ _ _⟩, B4.out.trans (FI.out.below B4.out.size (fun k (hk : k = w.heap.size) => by omega))⟩
theorem pgot_calls (D : Nat → Prop) (w : World) (v : Value) (l : List UInt8) (hB : Byt D w v l) (hl : l.length ≤ 140737488355328) :
    Calls Tryz.prog 18 #[v] w (GotT RPm w (got WtIt.Rd.params (0, []) l)) := by
  refine (readParams_calls D w v l hB hl).mono ?_
  rintro e w' ⟨v, rfl, h1, h2⟩
  have hg : (gotP l).1 = (got WtIt.Rd.params (0, []) l).1.1 ∧ (gotP l).2.1 = (got WtIt.Rd.params (0, []) l).1.2 ∧ (gotP l).2.2 = (got WtIt.Rd.params (0, []) l).2 := by
    unfold gotP got
    split <;> exact ⟨rfl, rfl, rfl⟩
  have hlen : ∀ x ∈ (gotP l).2.1, x.length = 32 := by
    intro x hx
    have : x.map byt ∈ digs (gotP l).2.1 := List.mem_map_of_mem hx
    have := h1.2 _ this
    simpa using this
  refine ⟨[.int .i64 (gotP l).1, v], by rw [hg.1, hg.2.2], ⟨v, by rw [hg.1], digs (gotP l).2.1, h1.arr.mono (by omega) (fun b _ h => h.2), ?_⟩, h2⟩
  rw [← hg.2.1]
  have := All2.ofMap (R := RDg (fun b => w.heap.size ≤ b) w') (fun x : List UInt8 => x.map byt) id (gotP l).2.1 (fun x hx => ⟨hlen x hx, rfl⟩)
  simpa [digs] using this
end Go.Proofs.YtmenchnjajpkmaaGreat.Rr
end

section
namespace Go.Proofs.YtmenchnjajpkmaaGreat.Wt
open Go Go.RowKit Mem Codec CodecW CodecR

theorem lit_byt (w : World) (l : List UInt8) (cs : Array Value) (f : Nat × Nat) (n : Nat) (hn : n = l.length) (hcs : cs = (l.map byt).toArray) (hm : l.length ≤ 1000000) : Byt (fun k => k = w.heap.size) (w.alloc (.cells cs 5 f)) (.slice (some ⟨w.heap.size, 0, none⟩) n n) l := by
  subst hcs
  exact Byt.newBlock w _ _ _ l n n hn ⟨by omega, by unfold maxLen; omega⟩ rfl (fun i hi => by simp [hi])
theorem same_calls (D E : Nat → Prop) (w : World) (va vb : Value) (a b : List UInt8) (hA : Byt D w va a) (hB : Byt E w vb b) :
    Calls Tryz.prog 13 #[va, vb] w fun e w' => e = .returned (.bool (a == b)) ∧ w = w' := by
  have h1 := run_convert_byt (P := Tryz.prog) hA (src := 30) (dst := 9) Tryz.underlying30 Tryz.underlying5 Tryz.underlying9
  have h2 := run_convert_byt (P := Tryz.prog) hB (src := 30) (dst := 9) Tryz.underlying30 Tryz.underlying5 Tryz.underlying9
  obtain ⟨a1, a2, rfl, _⟩ := id hA
  obtain ⟨b1, b2, rfl, _⟩ := id hB
  have HI := Lib.hid (show ((str a).toList == (str b).toList) = (a == b) by rw [ByteArray.toList_eq, ByteArray.toList_eq]; rfl)
  clear hA hB
  generalize str a = sa at *
  generalize str b = sb at *
  go_enter Tryz.func13, Tryz.ntmps13
  go_wp2
  go_ret
  exact ⟨by rw [← HI.out]; rfl, rfl⟩
end Go.Proofs.YtmenchnjajpkmaaGreat.Wt
end

section
namespace Go.Proofs.YtmenchnjajpkmaaGreat.Wp
open Go Go.RowKit Mem Codec CodecW Arr Reps Rr WtIt
set_option linter.unusedVariables false

theorem sl_digs {D : Nat → Prop} {w : World} {v : Value} {l : List (List UInt8)} (h : Sl 32 RDg D w v l) : Arr 32 D w v (l.map (·.map byt)) ∧ ∀ d ∈ l, d.length = 32 := by
  obtain ⟨css, h1, h2⟩ := h
  have key : ∀ {css : List (List Value)} {l : List (List UInt8)}, All2 (RDg D w) css l → css = l.map (·.map byt) ∧ ∀ d ∈ l, d.length = 32 := by
    intro css l h
    induction h with
    | nil => exact ⟨rfl, by simp⟩
    | cons h1 _ ih => exact ⟨by rw [h1.2, ih.1]; rfl, fun d hd => by rcases List.mem_cons.1 hd with rfl | hd; exact h1.1; exact ih.2 d hd⟩
  obtain ⟨rfl, h3⟩ := key h2
  exact ⟨h1, h3⟩
def enc (x : Int × List (List UInt8)) : List UInt8 := Wt.encP x.1 x.2
def bad (x : Int × List (List UInt8)) : Bool := Wt.badP x.1 x.2
def Fits (x : Int × List (List UInt8)) : Prop := x.2.length ≤ 4398046511000
theorem told_p (w : World) (cs : List Value) (x : Int × List (List UInt8)) (hR : RPm Any w cs x) (hn : Fits x) :
    Calls Tryz.prog 16 #[.agg cs.toArray] w fun e w' => Wt.Told w.heap.size (enc x) (bad x) e w' ∧ Below w.heap.size w w' := by
  obtain ⟨v, rfl, h⟩ := hR
  obtain ⟨h1, h2⟩ := sl_digs h
  exact Wt.params_calls w x.1 v x.2 h2 h1 hn
theorem told_r (w : World) (cs : List Value) (x : Int × List (List UInt8)) (hR : RPm Any w cs x) (hn : Fits x) :
    Calls Tryz.prog 17 #[.agg cs.toArray] w fun e w' => Wt.Told 0 (enc x) (bad x) e w' ∧ Below w.heap.size w w' := by
  obtain ⟨v, rfl, h⟩ := hR
  obtain ⟨h1, h2⟩ := sl_digs h
  exact Wt.rparams_calls w x.1 v x.2 h2 h1 hn
theorem keys_len (r : Rd) (most : Nat) : (WtIt.Rd.keys r (most : Int)).2.length ≤ most := by
  have h : (r.room (most : Int)).2 ≤ most := by rw [var_room]; exact var_le r most
  unfold WtIt.Rd.keys lst
  dsimp only
  split
  · simp
  · exact Nat.le_trans (lst_len _ _ _) h
theorem got_fits (l : List UInt8) : Fits (got WtIt.Rd.params (0, []) l).1 := by
  unfold got Fits
  split
  · exact Nat.le_trans (keys_len _ 16) (by omega)
  · simp
end Go.Proofs.YtmenchnjajpkmaaGreat.Wp
end
