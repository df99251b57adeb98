/- Walks of the wire's reader at a truth, a text and a federation, and of the reference's at a text. Condition: the bytes are at most 2^47. The walk of the reference's R.text. Condition: the bytes are at most 2^47. A region that draws its order, whose calls come one behind the other while a variable may be made at any time between them. Program-independent; no condition. The walks of the wire's reader at a header, and of ReadHeader. Condition: the bytes are at most 2^47. -/
import Derived.Test.YtmenchnjajpkmaaGreatWHeg
import Derived.Test.YtmenchnjajpkmaaGreatWHed
section
namespace Go.Proofs.YtmenchnjajpkmaaGreat.Rh
open Go Go.RowKit Mem Codec CodecR Ops Reps WtIt Arr Rr Wr
set_option linter.unusedVariables false
set_option linter.unusedSimpArgs false

/-- a truth, read -/
def truth (r : Rd) : Rd × Bool := ((Wr.Rd.kind r 0 1).1, (Wr.Rd.kind r 0 1).2 == 1)
theorem truth_rest (r : Rd) : (truth r).1.rest.length ≤ r.rest.length := kind_rest r 0 1
set_option maxHeartbeats 4000000 in
theorem truth_calls (D : Nat → Prop) (w : World) (q : Nat) (r : Rd) (H : ReaderIs D w q r) :
    Calls Tryz.prog 89 #[.agg #[.pointer (some ⟨q, 0, none⟩)]] w fun e w' => e = .returned (.bool (truth r).2) ∧ ReaderIs D w' q (truth r).1 ∧ Fr (fun k => k = q) w w' := by
  have hql := H.lt
  have H1 := Lib.hid (H.below (below_alloc w (.cells #[.pointer (some ⟨q, 0, none⟩)] 68)))
  have HB := Lib.hid (Blk.new w #[.pointer (some ⟨q, 0, none⟩)] 68 _ rfl)
  have HA := Lib.hid ((Fr.refl (fun k => k = q) w).alloc (.cells #[.pointer (some ⟨q, 0, none⟩)] 68))
  unfold truth
  have HK := Lib.hid (fun w h => Wr.kind_calls D w q r 0 1 h)
  obtain ⟨r1, hr1⟩ : ∃ x, (Wr.Rd.kind r 0 1).1 = x := ⟨_, rfl⟩
  obtain ⟨n, hn⟩ : ∃ x, (Wr.Rd.kind r 0 1).2 = x := ⟨_, rfl⟩
  rw [hr1, hn] at HK ⊢
  clear H hr1 hn
  dsimp only
  go_enter Tryz.func89, Tryz.ntmps89
  go_upto_region 1 with fail
  generalize (w.alloc (.cells #[.pointer (some ⟨q, 0, none⟩)] 68)) = w1 at *
  go_wp2_with (first | (with_reducible refine wpList_load_blk rfl _ _ rfl w.heap.size [.pointer (some ⟨q, 0, none⟩)] rfl HB.out _ Tryz.underlying68 rfl (by kernel_rfl) ?_))
  refine (HK.out w1 H1.out).mono ?_
  rintro e w2 ⟨rfl, o1, o2⟩
  have O1 := Lib.hid o1
  have O2 := Lib.hid (HA.out.trans o2)
  clear o1 o2 HK H1 HB HA
  go_wp2
  go_ret
  exact ⟨rfl, O1.out, O2.out⟩
theorem text_rest (r : Rd) (most : Int) : (r.text most).1.rest.length ≤ r.rest.length := by
  unfold Rd.text
  dsimp only
  have h1 := Rd.room_len r most
  repeat' split
  all_goals first
    | exact Nat.le_refl _
    | (refine Nat.le_trans ?_ h1; first | exact (Rd.take_len _ _).1 | exact Nat.le_refl _)
theorem text_read (D : Nat → Prop) (w : World) (q : Nat) (r : Rd) (most : Int) (h1 : -9223372036854775808 ≤ most) (h2 : most < 9223372036854775808) (H : ReaderIs D w q r) (hl : r.rest.length ≤ 140737488355328) :
    Calls Tryz.prog 88 #[.pointer (some ⟨q, 0, none⟩), .int .i64 most] w fun e w' => ∃ v, e = .returned v ∧ Byt (fun b => w.heap.size ≤ b) w' v (r.text most).2 ∧ ReaderIs D w' q (r.text most).1 ∧ Fr (fun k => k = q) w w' := by
  refine (CodecR.text_r_calls D w q r most H h1 h2 hl).mono ?_
  rintro e w' ⟨a, c, rfl, k1, k2, k3⟩
  exact ⟨_, rfl, k1.byt.mono (fun b _ h => h.2), k2, k3⟩
theorem digs_all2 {D : Nat → Prop} {w : World} : ∀ (l : List (List UInt8)), (∀ x ∈ l, x.length = 32) → All2 (RDg D w) (digs l) l
  | [], _ => .nil
  | x :: r, h => .cons ⟨h x (by simp), rfl⟩ (digs_all2 r (fun y hy => h y (by simp [hy])))
theorem params_read (D : Nat → Prop) (w : World) (q : Nat) (r : Rd) (H : ReaderIs D w q r) (hl : r.rest.length ≤ 140737488355328) :
    Calls Tryz.prog 44 #[.agg #[.pointer (some ⟨q, 0, none⟩)]] w (GotD RPm D w q (WtIt.Rd.params r)) := by
  refine (WtIt.params_calls D w q r H hl).mono ?_
  rintro e w' ⟨v, rfl, k1, k2, k3⟩
  have hlen : ∀ x ∈ (WtIt.Rd.params r).2.2, x.length = 32 := by
    intro x hx
    have : x.map byt ∈ digs (WtIt.Rd.params r).2.2 := List.mem_map_of_mem hx
    simpa using k1.2 _ this
  exact ⟨[_, v], rfl, ⟨v, rfl, _, k1.arr.mono (by omega) (fun b _ h => h.2), digs_all2 _ hlen⟩, k2, k3⟩
end Go.Proofs.YtmenchnjajpkmaaGreat.Rh
end

section
namespace Go.Proofs.YtmenchnjajpkmaaGreat.Rr
open Go Go.RowKit Mem Codec Ops
set_option linter.unusedVariables false

theorem text_suf (r : Rd) (most : Int) : ∃ k, (r.text most).1.rest = r.rest.drop k := by
  unfold Rd.text
  dsimp only
  obtain ⟨k, hk⟩ := CodecRef.Rd.room_suf r most
  repeat' split
  all_goals first
    | exact CodecRef.Rd.take_suf ⟨r.rest, 110⟩ _
    | (obtain ⟨j, hj⟩ := CodecRef.Rd.take_suf (r.room most).1 (r.room most).2
       exact ⟨k + j, by rw [hj, hk, List.drop_drop]⟩)
set_option maxHeartbeats 8000000 in
set_option maxRecDepth 100000 in
theorem text_calls (w : World) (q : Nat) (a : Option Addr) (c : Nat) (B : List UInt8) (r : Rd) (most : Int) (h1m : -9223372036854775808 ≤ most) (h2m : most < 9223372036854775808) (H : RfR w q a c B r) (hl : B.length ≤ 140737488355328) :
    Calls Tryz.prog 90 #[.pointer (some ⟨q, 0, none⟩), .int .i64 most] w fun e w' => ∃ v, e = .returned v ∧ Byt (fun k => w.heap.size ≤ k) w' v (r.text most).2 ∧ RfR w' q a c B (r.text most).1 ∧ Fr (fun k => k = q) w w' := by
  obtain ⟨at', h1, h2, h3, h4, h5⟩ := H
  have hql := h4.lt
  have HB := Lib.hid h4
  have HY := Lib.hid h5
  have hr : (⟨B.drop at', r.e⟩ : Rd) = r := by rw [← h2]
  have HRW := Lib.hid (CodecRef.gettext_calls w a c B at' r.e most (h5.mono (fun _ _ _ => trivial)) h1 hl h1m h2m)
  rw [hr] at HRW
  have HSF := Lib.hid (show (r.text most).1.rest = B.drop (B.length - (r.text most).1.rest.length) ∧ B.length - (r.text most).1.rest.length ≤ B.length from by
    have hx : ∃ k, (r.text most).1.rest = (B.drop at').drop k := by
      rw [← h2]
      exact text_suf r most
    have := CodecRef.suf_at hx h1
    exact ⟨this.1, this.2.1⟩)
  obtain ⟨s, hs⟩ : ∃ s, (r.text most).1 = s := ⟨_, rfl⟩
  obtain ⟨x, hx⟩ : ∃ x, (r.text most).2 = x := ⟨_, rfl⟩
  rw [hs] at HRW HSF
  rw [hx] at HRW
  rw [hs, hx]
  clear h1 h2 h3 h4 h5 hr hs hx
  go_enter Tryz.func90, Tryz.ntmps90
  go_wp2_with (first | (with_reducible refine wpList_load_blk rfl _ _ rfl q [.slice a B.length c, .int .i64 (at' : Int), .int .i64 r.e] rfl HB.out _ Tryz.underlying122 rfl (by kernel_rfl) ?_))
  refine HRW.out.mono ?_
  rintro e w1 ⟨v, rfl, g1, g2⟩
  have G1 := Lib.hid g1
  have G2 := Lib.hid g2
  have HB1 := Lib.hid (HB.out.below g2)
  have HY1 := Lib.hid (HY.out.below g2)
  have hs1 := g2.size
  obtain ⟨va, vc, hve, _⟩ := id g1
  subst hve
  clear g1 g2 HB HY HRW
  go_upto_region 3 with (first
    | ((with_reducible refine wpList_alloc rfl _ rfl _ (zeroR11 _) (fun wa ka ca za => ?_)); have KA := Lib.hid ka; have CA := Lib.hid ca; have HB2 := Lib.hid (HB1.out.below ca); clear ka ca)
    | ((with_reducible refine wpList_put rfl _ _ _ rfl w1.heap.size [.slice a B.length c, .int .i64 ((B.length - s.rest.length : Nat) : Int), .int .i64 s.e] _ rfl rfl KA.out (by kernel_rfl) rfl (one3 rfl rfl rfl) (fun wb kb fb zb => ?_)); have KB := Lib.hid kb; have CB := Lib.hid (CA.out.trans (fb.below CA.out.size (fun k (hk : k = _) => by omega))); have HB3 := Lib.hid (HB2.out.fr fb (by omega)); clear kb fb)
    | (with_reducible refine wpList_load_blk rfl _ _ rfl w1.heap.size [.slice a B.length c, .int .i64 ((B.length - s.rest.length : Nat) : Int), .int .i64 s.e] rfl KB.out _ Tryz.underlying122 rfl (by kernel_rfl) ?_)
    | ((with_reducible refine wpList_put rfl _ _ _ rfl q [.slice a B.length c, .int .i64 ((B.length - s.rest.length : Nat) : Int), .int .i64 s.e] _ rfl rfl HB3.out (by kernel_rfl) rfl (one3 rfl rfl rfl) (fun wc kc fc zc => ?_)); have KC := Lib.hid kc; have FC := Lib.hid fc; clear kc fc))
  have F1 := Lib.hid (((Fr.ofBelowAll (G2.out.trans (CB.out.mono hs1)) (Nat.le_refl _) : Fr (fun k => k = q) w _)).trans FC.out)
  have X1 := Lib.hid (show RfR _ q a c B s from ⟨B.length - s.rest.length, HSF.out.2, HSF.out.1, rfl, KC.out, (HY1.out.below CB.out).fr FC.out (fun k _ h e => h e)⟩)
  have V1 := Lib.hid ((G1.out.below CB.out).fr FC.out (fun k _ (h : w.heap.size ≤ k) (e : k = q) => by omega))
  clear G1 G2 HB1 HY1 HB2 HB3 KA KB KC CA CB FC HSF
  go_wp2
  go_ret
  exact ⟨_, rfl, V1.out, X1.out, F1.out⟩
end Go.Proofs.YtmenchnjajpkmaaGreat.Rr
end

section
namespace Go.Proofs.YtmenchnjajpkmaaGreat.Ops
open Go Go.RowKit Mem
set_option linter.unusedVariables false

/-- the rest of the region goes well, whether the variable was made (at a block from N on) or not; x: what has been told so far, A: the frame, I: what holds of the world -/
def Both (P : Program) (md : Region.Mode) (ops : Array Oper) (Q : Exit → Act → World → Prop) (S : World → Prop) (i : Nat) (t : TypeId) (zs : List Value) (N : Nat) {X : Type} (A : X → Value → Act) (I : X → Option Nat → World → Prop) (fuel : Nat) (listed : Array Bool) : Prop :=
  (∀ x w, I x none w → N ≤ w.heap.size → wpAnyH P md ops Q S (fuel + 1) listed (A x undef) w) ∧
  (∀ x w g, I x (some g) w → N ≤ g → Blk w g zs t → wpAnyH P md ops Q S fuel (listed.setIfInBounds i true) (A x (.pointer (some ⟨g, 0, none⟩))) w)
section
variable {P : Program} {md : Region.Mode} {ops : Array Oper} {Q : Exit → Act → World → Prop} {S : World → Prop} {i j : Nat} {oi oj : Oper} {t : TypeId} {zs : List Value} {N : Nat} {X X' : Type} {A : X → Value → Act} {A' : X' → Value → Act} {I : X → Option Nat → World → Prop} {I' : X' → Option Nat → World → Prop} {fuel : Nat} {listed : Array Bool}
theorem Both.start (h : Both P md ops Q S i t zs N A I fuel listed) (x : X) {w : World} (hI : I x none w) (hN : N ≤ w.heap.size) : wpAnyH P md ops Q S (fuel + 1) listed (A x undef) w := h.1 x w hI hN
theorem alloc_step (hi : ops[i]? = some oi) (hop : oi.op = .alloc t) (hgd : oi.guard = none) (hz : ∀ w, (zeroValue t).run P w = .ok (.agg zs.toArray) w) {a : Act} {w : World} {K : Act → World → Prop}
    (h : ∀ w', Blk w' w.heap.size zs t → Below w.heap.size w w' → w.heap.size + 1 = w'.heap.size → K (a.put oi.dst (.pointer (some ⟨w.heap.size, 0, none⟩))) w') : wpOp P ops Q i K a w :=
  wpOp_step hi (fun K' hK => by
    rw [if_pos (by simp [Region.wanted, hgd])]
    exact wp_alloc t hop zs (hz w) (fun w' h1 h2 h3 => hK _ _ (h w' h1 h2 h3)))
theorem Both.last (hi : ops[i]? = some oi) (hop : oi.op = .alloc t) (hgd : oi.guard = none) (hz : ∀ w, (zeroValue t).run P w = .ok (.agg zs.toArray) w) (hA : ∀ x gv, (A x undef).put oi.dst gv = A x gv)
    (hmono : ∀ x w w', I x none w → Below w.heap.size w w' → I x (some w.heap.size) w') (hS : ∀ x go w, I x go w → S w) (r0 : Region.ready md ops listed = [i])
    (h : ∀ x w g, I x (some g) w → N ≤ g → Blk w g zs t → wpAnyH P md ops Q S fuel (listed.setIfInBounds i true) (A x (.pointer (some ⟨g, 0, none⟩))) w) : Both P md ops Q S i t zs N A I fuel listed := by
  refine ⟨fun x w hI hN => ⟨fun h0 => (by rw [r0] at h0; cases h0), fun y hy => ?_⟩, h⟩
  rw [r0] at hy
  obtain rfl := List.mem_singleton.1 hy
  refine alloc_step hi hop hgd hz (fun w' h1 h2 h3 => ?_)
  have hI' := hmono x w w' hI h2
  rw [hA]
  exact ⟨hS x _ w' hI', h x w' _ hI' hN h1⟩
theorem Both.step (hi : ops[i]? = some oi) (hop : oi.op = .alloc t) (hgd : oi.guard = none) (hz : ∀ w, (zeroValue t).run P w = .ok (.agg zs.toArray) w) (hA : ∀ x gv, (A x undef).put oi.dst gv = A x gv)
    (hmono : ∀ x w w', I x none w → Below w.heap.size w w' → I x (some w.heap.size) w') (hS : ∀ x go w, I x go w → S w) (hS' : ∀ x go w, I' x go w → S w) (hj : ops[j]? = some oj)
    (r0 : (Region.ready md ops listed == [i, j] || Region.ready md ops listed == [j, i]) = true) (r1 : Region.ready md ops (listed.setIfInBounds i true) = [j]) (hij : i ≠ j) (q : Nat) (hq : q < N)
    (hstep : ∀ x go w gv (K' : Act → World → Prop), I x go w → (∀ g, go = some g → N ≤ g ∧ g < w.heap.size) → Shut (∀ x' w', I' x' go w' → Fr (fun k => k = q) w w' → K' (A' x' gv) w') → if Region.wanted oj (yielded ops (A x gv).tmps) = true then Oper.wp P oj (A x gv) w K' Q else K' ((A x gv).put oj.dst undef) w)
    (h : Both P md ops Q S i t zs N A' I' fuel (listed.setIfInBounds j true)) : Both P md ops Q S i t zs N A I (fuel + 1) listed := by
  have p2 : ∀ x w g, I x (some g) w → N ≤ g → Blk w g zs t → wpAnyH P md ops Q S (fuel + 1) (listed.setIfInBounds i true) (A x (.pointer (some ⟨g, 0, none⟩))) w := by
    intro x w g hI hN hB
    refine ⟨fun h0 => (by rw [r1] at h0; cases h0), fun y hy => ?_⟩
    rw [r1] at hy
    obtain rfl := List.mem_singleton.1 hy
    refine wpOp_step hj (fun K' hK => hstep x (some g) w _ K' hI (fun g' e => by cases e; exact ⟨hN, hB.lt⟩) (fun x' w' hI' hf => hK _ _ ⟨hS' x' _ w' hI', ?_⟩))
    rw [Array.setIfInBounds_comm _ _ hij]
    exact h.2 x' w' g hI' hN (hB.fr hf (fun e => by omega))
  refine ⟨fun x w hI hN => ⟨fun h0 => (by simp [h0] at r0), fun y hy => ?_⟩, p2⟩
  have hne : y = i ∨ y = j := by
    simp only [Bool.or_eq_true, beq_iff_eq] at r0
    rcases r0 with r0 | r0 <;> rw [r0] at hy <;> simp at hy
    · exact hy
    · exact hy.symm
  rcases hne with rfl | rfl
  · refine alloc_step hi hop hgd hz (fun w' h1 h2 h3 => ?_)
    have hI' := hmono x w w' hI h2
    rw [hA]
    exact ⟨hS x _ w' hI', p2 x w' _ hI' hN h1⟩
  · exact wpOp_step hj (fun K' hK => hstep x none w undef K' hI (fun g' e => by cases e) (fun x' w' hI' hf => hK _ _ ⟨hS' x' _ w' hI', h.1 x' w' hI' (Nat.le_trans hN hf.size)⟩))
theorem exec_built {o : Oper} {a : Act} {w : World} {parts : Array (Nat × Operand)} (ho : o.op = .build t parts) {cs : Array Value} (hb : P.built t (parts.map fun (i, x) => (i, a.eval x)).toList = some cs) : (execOp a.eval o).run P w = .ok (.value (.agg cs)) w := by
  unfold execOp
  simp only [ho, Sem.run_bind, run_build w t _ _ hb, Result.andThen_ok, Sem.run_pure]
theorem wp_val {o : Oper} {a : Act} {w : World} {K : Act → World → Prop} {v : Value} (h : (execOp a.eval o).run P w = .ok (.value v) w) (hK : K (a.put o.dst v) w) : Oper.wp P o a w K Q := by
  unfold Oper.wp
  rw [h]
  exact hK
end
end Go.Proofs.YtmenchnjajpkmaaGreat.Ops
end

section
namespace Go.Proofs.YtmenchnjajpkmaaGreat.Rh
open Go Go.RowKit Mem Codec CodecR Ops Reps WtIt Arr Rr Wr
set_option linter.unusedVariables false
set_option linter.unusedSimpArgs false

abbrev XHe := List UInt8 × Nat × Nat × List UInt8 × List UInt8 × List UInt8 × Bool × ((Int × List (List UInt8)))
def RHe : (Nat → Prop) → World → List Value → XHe → Prop := (PairR (RDgs 32) (PairR RU64 (PairR RU64 (PairR (RDgs 32) (PairR (RDgs 32) (PairR RBy (PairR RBool RPm)))))))
theorem rep_He : Rep 102 RHe := (rep_pair (rep_dgs 32 (by omega)) (rep_pair rep_u64 (rep_pair rep_u64 (rep_pair (rep_dgs 32 (by omega)) (rep_pair (rep_dgs 32 (by omega)) (rep_pair rep_by (rep_pair rep_bool rep_pm)))))))
theorem zeroHe (w : World) : (zeroValue 50).run Tryz.prog w = .ok (.agg (List.replicate 32 (Value.int .u8 0) ++ ([Value.int .u64 0] ++ ([Value.int .u64 0] ++ (List.replicate 32 (Value.int .u8 0) ++ (List.replicate 32 (Value.int .u8 0) ++ ([Value.slice none 0 0] ++ ([Value.bool false] ++ ([Value.int .i64 0, Value.slice none 0 0])))))))).toArray) w := by kernel_rfl
theorem zeroHe_len : (List.replicate 32 (Value.int .u8 0) ++ ([Value.int .u64 0] ++ ([Value.int .u64 0] ++ (List.replicate 32 (Value.int .u8 0) ++ (List.replicate 32 (Value.int .u8 0) ++ ([Value.slice none 0 0] ++ ([Value.bool false] ++ ([Value.int .i64 0, Value.slice none 0 0])))))))).length = 102 := rfl
def x0He : XHe := (List.replicate 32 0, 0, 0, List.replicate 32 0, List.replicate 32 0, [], false, (0, []))
theorem zero_He (D : Nat → Prop) (w : World) : RHe D w (List.replicate 32 (Value.int .u8 0) ++ ([Value.int .u64 0] ++ ([Value.int .u64 0] ++ (List.replicate 32 (Value.int .u8 0) ++ (List.replicate 32 (Value.int .u8 0) ++ ([Value.slice none 0 0] ++ ([Value.bool false] ++ ([Value.int .i64 0, Value.slice none 0 0])))))))) x0He := ⟨_, _, rfl, ⟨rfl, by simp [x0He]⟩, _, _, rfl, ⟨(by show (0 : Nat) < 18446744073709551616; omega), rfl⟩, _, _, rfl, ⟨(by show (0 : Nat) < 18446744073709551616; omega), rfl⟩, _, _, rfl, ⟨rfl, by simp [x0He]⟩, _, _, rfl, ⟨rfl, by simp [x0He]⟩, [_], _, rfl, ⟨_, rfl, Byt.nil _ _⟩, [_], _, rfl, ⟨trivial, rfl⟩, _, rfl, Sl.nil _ _ _ _⟩
theorem zeroHe_one : ∀ v ∈ (List.replicate 32 (Value.int .u8 0) ++ ([Value.int .u64 0] ++ ([Value.int .u64 0] ++ (List.replicate 32 (Value.int .u8 0) ++ (List.replicate 32 (Value.int .u8 0) ++ ([Value.slice none 0 0] ++ ([Value.bool false] ++ ([Value.int .i64 0, Value.slice none 0 0]))))))) : List Value), v.oneCell' = true := rep_He.one (zero_He Any default)
/-- the fields ahead of the federation -/
def RDh7 (r : Rd) := seq Wr.Rd.dig (seq (fun r : Rd => r.num 8) (seq (fun r : Rd => r.num 8) (seq Wr.Rd.dig (seq Wr.Rd.dig (seq (fun r : Rd => r.text 256) truth))))) r
/-- a header, read: its last field where it has one -/
def hdr (s : Rd × (List UInt8 × Nat × Nat × List UInt8 × List UInt8 × List UInt8 × Bool)) : Rd × XHe :=
  if s.2.2.2.2.2.2.2 = true then ((WtIt.Rd.params s.1).1, s.2.1, s.2.2.1, s.2.2.2.1, s.2.2.2.2.1, s.2.2.2.2.2.1, s.2.2.2.2.2.2.1, s.2.2.2.2.2.2.2, (WtIt.Rd.params s.1).2)
  else (s.1, s.2.1, s.2.2.1, s.2.2.2.1, s.2.2.2.2.1, s.2.2.2.2.2.1, s.2.2.2.2.2.2.1, s.2.2.2.2.2.2.2, (0, []))
def RDhe (r : Rd) : Rd × XHe := hdr (RDh7 r)
/-- a struct some of whose first parts are told -/
theorem built_some {P : Program} {t : TypeId} {sizes : List Nat} {Z : List Value} (T : ∃ it fields z, P.info? t = some it ∧ P.underlying t = some (.struct fields) ∧ it.zero = some z ∧ fields.toList.mapM (fun f => (P.info? f.type).map fun i => (f.offset, i.size)) = some (offs 0 sizes) ∧ z.cells.toList = Z) (hZ : Z.length = sizes.sum)
    (vs : List Value) (m : Nat) (hv : vs.map (·.cells.size) = sizes.take m) : P.built t ((vs.zipIdx 0).map fun x => (x.2, x.1)) = some ((vs.flatMap fun v => v.cells.toList) ++ Z.drop ((sizes.take m).sum)).toArray := by
  obtain ⟨it, fields, z, h1, h2, h3, h4, h5⟩ := T
  have hle : (sizes.take m).sum ≤ sizes.sum := by
    conv => rhs; rw [← List.take_append_drop m sizes, List.sum_append]
    omega
  have hpre : ∀ (l : List Nat) (k o j : Nat) (p : Nat × Nat), (offs o (l.take k))[j]? = some p → (offs o l)[j]? = some p := by
    intro l
    induction l with
    | nil => intro k o j p h; simp [offs] at h
    | cons a r ih =>
      intro k o j p h
      cases k with
      | zero => simp [offs] at h
      | succ k =>
        cases j with
        | zero => simpa [offs] using h
        | succ j => simp only [List.take_succ_cons, offs, List.getElem?_cons_succ] at h ⊢; exact ih k _ j p h
  obtain ⟨r, hr, hl⟩ := fill_seq ((offs 0 sizes).toArray[·]?) vs 0 0 z.cells (fun j p hj => by rw [hv] at hj; have := hpre sizes m 0 j p hj; simpa using this) (by rw [hv, Nat.zero_add, ← Array.length_toList, h5, hZ]; exact hle)
  unfold Program.built
  simp only [h1, h2, h3, h4]
  rw [hr]
  congr 1
  apply Array.toList_inj.1
  rw [hl, hv, h5]
  simp
set_option maxRecDepth 100000 in
theorem built7 : ∃ it fields z, Tryz.prog.info? 50 = some it ∧ Tryz.prog.underlying 50 = some (.struct fields) ∧ it.zero = some z ∧ fields.toList.mapM (fun f => (Tryz.prog.info? f.type).map fun i => (f.offset, i.size)) = some (offs 0 [32, 1, 1, 32, 32, 1, 1, 2]) ∧ z.cells.toList = (List.replicate 32 (Value.int .u8 0) ++ ([Value.int .u64 0] ++ ([Value.int .u64 0] ++ (List.replicate 32 (Value.int .u8 0) ++ (List.replicate 32 (Value.int .u8 0) ++ ([Value.slice none 0 0] ++ ([Value.bool false] ++ ([Value.int .i64 0, Value.slice none 0 0])))))))) :=
  ⟨_, _, _, rfl, Tryz.underlying50, rfl, by kernel_rfl, by kernel_rfl⟩

set_option maxHeartbeats 16000000 in
set_option maxRecDepth 100000 in
theorem rhe_calls (D : Nat → Prop) (w : World) (q : Nat) (r : Rd) (H : ReaderIs D w q r) (hl : r.rest.length ≤ 140737488355328) :
    Calls Tryz.prog 50 #[.agg #[.pointer (some ⟨q, 0, none⟩)]] w (GotD RHe D w q (RDhe r)) := by
  have hql := H.lt
  have H0 := Lib.hid ((rd_under H).below (below_alloc w (.cells #[.pointer (some ⟨q, 0, none⟩)] 68)))
  have HB := Lib.hid (Blk.new w #[.pointer (some ⟨q, 0, none⟩)] 68 _ rfl)
  have HA := Lib.hid (below_alloc w (.cells #[.pointer (some ⟨q, 0, none⟩)] 68))
  have hz : w.heap.size + 1 = (w.alloc (.cells #[.pointer (some ⟨q, 0, none⟩)] 68)).heap.size := by simp
  have HL0 := Lib.hid hl
  obtain ⟨y1, hy1⟩ : ∃ y, (Wr.Rd.dig r).2 = y := ⟨_, rfl⟩
  obtain ⟨r1, hr1⟩ : ∃ y, (Wr.Rd.dig r).1 = y := ⟨_, rfl⟩
  have HC1 := Lib.hid (fun D w h => Wr.digest_calls D w q r h HL0.out)
  have HW1 := Lib.hid (show y1.length = 32 by rw [← hy1]; exact Wr.Rd.dig_len _)
  have HL1 := Lib.hid (show r1.rest.length ≤ 140737488355328 by rw [← hr1]; exact Nat.le_trans (dig_rest _) HL0.out)
  rw [hr1, hy1] at HC1
  obtain ⟨y2, hy2⟩ : ∃ y, ((r1).num 8).2 = y := ⟨_, rfl⟩
  obtain ⟨r2, hr2⟩ : ∃ y, ((r1).num 8).1 = y := ⟨_, rfl⟩
  have HC2 := Lib.hid (fun D w h => CodecR.long_calls D w q r1 h)
  have HW2 := Lib.hid (show y2 < 18446744073709551616 by rw [← hy2]; exact num_lt _ _)
  have HL2 := Lib.hid (show r2.rest.length ≤ 140737488355328 by rw [← hr2]; exact Nat.le_trans (num_rest _ _) HL1.out)
  rw [hr2, hy2] at HC2
  obtain ⟨y3, hy3⟩ : ∃ y, ((r2).num 8).2 = y := ⟨_, rfl⟩
  obtain ⟨r3, hr3⟩ : ∃ y, ((r2).num 8).1 = y := ⟨_, rfl⟩
  have HC3 := Lib.hid (fun D w h => CodecR.long_calls D w q r2 h)
  have HW3 := Lib.hid (show y3 < 18446744073709551616 by rw [← hy3]; exact num_lt _ _)
  have HL3 := Lib.hid (show r3.rest.length ≤ 140737488355328 by rw [← hr3]; exact Nat.le_trans (num_rest _ _) HL2.out)
  rw [hr3, hy3] at HC3
  obtain ⟨y4, hy4⟩ : ∃ y, (Wr.Rd.dig r3).2 = y := ⟨_, rfl⟩
  obtain ⟨r4, hr4⟩ : ∃ y, (Wr.Rd.dig r3).1 = y := ⟨_, rfl⟩
  have HC4 := Lib.hid (fun D w h => Wr.digest_calls D w q r3 h HL3.out)
  have HW4 := Lib.hid (show y4.length = 32 by rw [← hy4]; exact Wr.Rd.dig_len _)
  have HL4 := Lib.hid (show r4.rest.length ≤ 140737488355328 by rw [← hr4]; exact Nat.le_trans (dig_rest _) HL3.out)
  rw [hr4, hy4] at HC4
  obtain ⟨y5, hy5⟩ : ∃ y, (Wr.Rd.dig r4).2 = y := ⟨_, rfl⟩
  obtain ⟨r5, hr5⟩ : ∃ y, (Wr.Rd.dig r4).1 = y := ⟨_, rfl⟩
  have HC5 := Lib.hid (fun D w h => Wr.digest_calls D w q r4 h HL4.out)
  have HW5 := Lib.hid (show y5.length = 32 by rw [← hy5]; exact Wr.Rd.dig_len _)
  have HL5 := Lib.hid (show r5.rest.length ≤ 140737488355328 by rw [← hr5]; exact Nat.le_trans (dig_rest _) HL4.out)
  rw [hr5, hy5] at HC5
  obtain ⟨y6, hy6⟩ : ∃ y, ((r5).text 256).2 = y := ⟨_, rfl⟩
  obtain ⟨r6, hr6⟩ : ∃ y, ((r5).text 256).1 = y := ⟨_, rfl⟩
  have HC6 := Lib.hid (fun D w h => text_read D w q r5 256 (by omega) (by omega) h HL5.out)
  have HL6 := Lib.hid (show r6.rest.length ≤ 140737488355328 by rw [← hr6]; exact Nat.le_trans (text_rest _ _) HL5.out)
  rw [hr6, hy6] at HC6
  obtain ⟨y7, hy7⟩ : ∃ y, (truth r6).2 = y := ⟨_, rfl⟩
  obtain ⟨r7, hr7⟩ : ∃ y, (truth r6).1 = y := ⟨_, rfl⟩
  have HC7 := Lib.hid (fun D w h => truth_calls D w q r6 h)
  have HL7 := Lib.hid (show r7.rest.length ≤ 140737488355328 by rw [← hr7]; exact Nat.le_trans (truth_rest _) HL6.out)
  rw [hr7, hy7] at HC7
  have HRD := Lib.hid (show RDhe r = hdr (r7, y1, y2, y3, y4, y5, y6, y7) by unfold RDhe; congr 1; simp only [RDh7, seq, hr1, hy1, hr2, hy2, hr3, hy3, hr4, hy4, hr5, hy5, hr6, hy6, hr7, hy7])
  rw [HRD.out]
  clear H hl HRD hr1 hy1 hr2 hy2 hr3 hy3 hr4 hy4 hr5 hy5 hr6 hy6 hr7 hy7
  go_enter Tryz.func50, Tryz.ntmps50
  go_upto_region 1 with (first
    | ((with_reducible refine wpList_alloc rfl _ rfl _ (zeroHe _) (fun wb ka ca za => ?_)); have KA := Lib.hid ka; have CA := Lib.hid ca; clear ka ca))
  generalize (w.alloc (.cells #[.pointer (some ⟨q, 0, none⟩)] 68)) = wA at *
  have O0 := Lib.hid (H0.out.below CA.out)
  have HB2 := Lib.hid (HB.out.below CA.out)
  have B2 := Lib.hid (HA.out.trans (CA.out.mono (by omega)))
  have hg0 : w.heap.size < wA.heap.size := by omega
  have hg2 : wA.heap.size < wb.heap.size := by omega
  have KA0 := KA
  generalize wA.heap.size = g1 at *
  clear H0 HB HA CA KA
  refine wp_region_held_drew (S := (fun w' => Blk w' w.heap.size [.pointer (some ⟨q, 0, none⟩)] 68)) (by kernel_rfl) HB2.out.drew (fun hHeld => ?_)
  refine wpAnyH_take (i := 0) (oi := ⟨_, _, _, _, _, _⟩) rfl (by kernel_rfl) (by kernel_rfl) (by kernel_rfl) (fun _ _ _ h => h) (yieldsIf_load_mid (by rfl) _ _ rfl w.heap.size 0 rfl [.pointer (some ⟨q, 0, none⟩)] _ (fun _ h => blk_range h) Tryz.underlying68 rfl (by kernel_rfl)) (by assumption) ?_
  try simp only [Act.put, List.setIfInBounds_toArray, List.set_cons_zero, List.set_cons_succ]
  refine wpAnyH_take (i := 2) (oi := ⟨_, _, _, _, _, _⟩) (v := ?_) rfl (by kernel_rfl) (by kernel_rfl) (by kernel_rfl) (fun _ _ _ h => h) (Or.inl ⟨by rfl, ?_⟩) (by assumption) ?_
  rotate_left
  · intro w hSw; go_simp; try (with_reducible rfl)
  try simp only [Act.put, List.setIfInBounds_toArray, List.set_cons_zero, List.set_cons_succ]
  refine wpAnyH_take (i := 3) (oi := ⟨_, _, _, _, _, _⟩) (v := .pointer (some ⟨q, 0, none⟩)) rfl (by kernel_rfl) (by kernel_rfl) (by kernel_rfl) (fun _ _ _ h => h) (Or.inl ⟨by rfl, fun wS hSw => (by have hc := hSw.cell (i := 0) rfl; go_simp; try (with_reducible rfl))⟩) (by assumption) ?_
  try simp only [Act.put, List.setIfInBounds_toArray, List.set_cons_zero, List.set_cons_succ]
  refine wpAnyH_take (i := 5) (oi := ⟨_, _, _, _, _, _⟩) (v := ?_) rfl (by kernel_rfl) (by kernel_rfl) (by kernel_rfl) (fun _ _ _ h => h) (Or.inl ⟨by rfl, ?_⟩) (by assumption) ?_
  rotate_left
  · intro w hSw; go_simp; try (with_reducible rfl)
  try simp only [Act.put, List.setIfInBounds_toArray, List.set_cons_zero, List.set_cons_succ]
  refine wpAnyH_take (i := 6) (oi := ⟨_, _, _, _, _, _⟩) (v := .pointer (some ⟨q, 0, none⟩)) rfl (by kernel_rfl) (by kernel_rfl) (by kernel_rfl) (fun _ _ _ h => h) (Or.inl ⟨by rfl, fun wS hSw => (by have hc := hSw.cell (i := 0) rfl; go_simp; try (with_reducible rfl))⟩) (by assumption) ?_
  try simp only [Act.put, List.setIfInBounds_toArray, List.set_cons_zero, List.set_cons_succ]
  refine wpAnyH_take (i := 8) (oi := ⟨_, _, _, _, _, _⟩) rfl (by kernel_rfl) (by kernel_rfl) (by kernel_rfl) (fun _ _ _ h => h) (yieldsIf_load_mid (by rfl) _ _ rfl w.heap.size 0 rfl [.pointer (some ⟨q, 0, none⟩)] _ (fun _ h => blk_range h) Tryz.underlying68 rfl (by kernel_rfl)) (by assumption) ?_
  try simp only [Act.put, List.setIfInBounds_toArray, List.set_cons_zero, List.set_cons_succ]
  refine wpAnyH_take (i := 10) (oi := ⟨_, _, _, _, _, _⟩) rfl (by kernel_rfl) (by kernel_rfl) (by kernel_rfl) (fun _ _ _ h => h) (yieldsIf_load_mid (by rfl) _ _ rfl w.heap.size 0 rfl [.pointer (some ⟨q, 0, none⟩)] _ (fun _ h => blk_range h) Tryz.underlying68 rfl (by kernel_rfl)) (by assumption) ?_
  try simp only [Act.put, List.setIfInBounds_toArray, List.set_cons_zero, List.set_cons_succ]
  refine wpAnyH_take (i := 12) (oi := ⟨_, _, _, _, _, _⟩) (v := ?_) rfl (by kernel_rfl) (by kernel_rfl) (by kernel_rfl) (fun _ _ _ h => h) (Or.inl ⟨by rfl, ?_⟩) (by assumption) ?_
  rotate_left
  · intro w hSw; go_simp; try (with_reducible rfl)
  try simp only [Act.put, List.setIfInBounds_toArray, List.set_cons_zero, List.set_cons_succ]
  refine wpAnyH_take (i := 13) (oi := ⟨_, _, _, _, _, _⟩) (v := .pointer (some ⟨q, 0, none⟩)) rfl (by kernel_rfl) (by kernel_rfl) (by kernel_rfl) (fun _ _ _ h => h) (Or.inl ⟨by rfl, fun wS hSw => (by have hc := hSw.cell (i := 0) rfl; go_simp; try (with_reducible rfl))⟩) (by assumption) ?_
  try simp only [Act.put, List.setIfInBounds_toArray, List.set_cons_zero, List.set_cons_succ]
  refine wpAnyH_take (i := 15) (oi := ⟨_, _, _, _, _, _⟩) rfl (by kernel_rfl) (by kernel_rfl) (by kernel_rfl) (fun _ _ _ h => h) (yieldsIf_load_mid (by rfl) _ _ rfl w.heap.size 0 rfl [.pointer (some ⟨q, 0, none⟩)] _ (fun _ h => blk_range h) Tryz.underlying68 rfl (by kernel_rfl)) (by assumption) ?_
  try simp only [Act.put, List.setIfInBounds_toArray, List.set_cons_zero, List.set_cons_succ]
  refine Both.start (i := 18) (t := 50) (zs := List.replicate 32 (Value.int .u8 0) ++ ([Value.int .u64 0] ++ ([Value.int .u64 0] ++ (List.replicate 32 (Value.int .u8 0) ++ (List.replicate 32 (Value.int .u8 0) ++ ([Value.slice none 0 0] ++ ([Value.bool false] ++ ([Value.int .i64 0, Value.slice none 0 0])))))))) (N := wb.heap.size) (A := (fun (_ : Unit) (gv : Value) => ⟨#[.agg #[.pointer (some ⟨q, 0, none⟩)], .pointer (some ⟨w.heap.size, 0, none⟩), .pointer (some ⟨g1, 0, none⟩), gv, .agg #[.pointer (some ⟨q, 0, none⟩)], undef, .pointer (some ⟨w.heap.size, 0, none⟩), .pointer (some ⟨q, 0, none⟩), undef, .pointer (some ⟨w.heap.size, 0, none⟩), .pointer (some ⟨q, 0, none⟩), undef, .agg #[.pointer (some ⟨q, 0, none⟩)], undef, .agg #[.pointer (some ⟨q, 0, none⟩)], undef, .pointer (some ⟨w.heap.size, 0, none⟩), .pointer (some ⟨q, 0, none⟩), undef, .agg #[.pointer (some ⟨q, 0, none⟩)], undef, undef, undef, undef, undef, undef, undef, undef], []⟩)) (I := (fun (_ : Unit) (_ : Option Nat) w' => ReaderIs (fun k => k < w.heap.size ∧ D k) w' q r ∧ Blk w' w.heap.size [.pointer (some ⟨q, 0, none⟩)] 68 ∧ Blk w' g1 (List.replicate 32 (Value.int .u8 0) ++ ([Value.int .u64 0] ++ ([Value.int .u64 0] ++ (List.replicate 32 (Value.int .u8 0) ++ (List.replicate 32 (Value.int .u8 0) ++ ([Value.slice none 0 0] ++ ([Value.bool false] ++ ([Value.int .i64 0, Value.slice none 0 0])))))))) 50 ∧ Fr (fun k => k = q) w w' ∧ wb.heap.size ≤ w'.heap.size)) ?_ () (by exact ⟨O0.out, HB2.out.drew, KA0.out.drew, (Fr.ofBelowAll B2.out (Nat.le_refl _)).drew, Nat.le_refl _⟩) (Nat.le_refl _)
  refine Both.step (i := 18) (j := 1) (oi := ⟨_, _, _, _, _, _⟩) (oj := ⟨_, _, _, _, _, _⟩) (A' := (fun (_ : Unit) (gv : Value) => ⟨#[.agg #[.pointer (some ⟨q, 0, none⟩)], .pointer (some ⟨w.heap.size, 0, none⟩), .pointer (some ⟨g1, 0, none⟩), gv, .agg #[.pointer (some ⟨q, 0, none⟩)], .agg (y1.map byt).toArray, .pointer (some ⟨w.heap.size, 0, none⟩), .pointer (some ⟨q, 0, none⟩), undef, .pointer (some ⟨w.heap.size, 0, none⟩), .pointer (some ⟨q, 0, none⟩), undef, .agg #[.pointer (some ⟨q, 0, none⟩)], undef, .agg #[.pointer (some ⟨q, 0, none⟩)], undef, .pointer (some ⟨w.heap.size, 0, none⟩), .pointer (some ⟨q, 0, none⟩), undef, .agg #[.pointer (some ⟨q, 0, none⟩)], undef, undef, undef, undef, undef, undef, undef, undef], []⟩)) (I' := (fun (_ : Unit) (_ : Option Nat) w' => ReaderIs (fun k => k < w.heap.size ∧ D k) w' q r1 ∧ Blk w' w.heap.size [.pointer (some ⟨q, 0, none⟩)] 68 ∧ Blk w' g1 (List.replicate 32 (Value.int .u8 0) ++ ([Value.int .u64 0] ++ ([Value.int .u64 0] ++ (List.replicate 32 (Value.int .u8 0) ++ (List.replicate 32 (Value.int .u8 0) ++ ([Value.slice none 0 0] ++ ([Value.bool false] ++ ([Value.int .i64 0, Value.slice none 0 0])))))))) 50 ∧ Fr (fun k => k = q) w w' ∧ wb.heap.size ≤ w'.heap.size)) rfl rfl rfl (fun w => zeroHe w) (fun _ _ => rfl) (fun _ w' w'' h hb => ⟨h.1.below hb, h.2.1.below hb, h.2.2.1.below hb, h.2.2.2.1.trans (Fr.ofBelowAll hb (Nat.le_refl _)), Nat.le_trans h.2.2.2.2 hb.size⟩) (fun _ _ _ h => h.2.1) (fun _ _ _ h => h.2.1) rfl (by kernel_rfl) (by kernel_rfl) (by decide) q (by omega) ?_ ?_
  · intro _ go wx gv K hI hgo hK
    have hqx : q < wx.heap.size := hI.1.lt
    go_simp
    refine (HC1.out _ wx hI.1).mono ?_
    rintro e wy ⟨rfl, o1, o2⟩
    exact hK.out () wy (by exact ⟨o1, hI.2.1.fr o2 (by omega), hI.2.2.1.fr o2 (by omega), hI.2.2.2.1.trans o2, Nat.le_trans hI.2.2.2.2 o2.size⟩) o2
  refine Both.step (i := 18) (j := 4) (oi := ⟨_, _, _, _, _, _⟩) (oj := ⟨_, _, _, _, _, _⟩) (A' := (fun (_ : Unit) (gv : Value) => ⟨#[.agg #[.pointer (some ⟨q, 0, none⟩)], .pointer (some ⟨w.heap.size, 0, none⟩), .pointer (some ⟨g1, 0, none⟩), gv, .agg #[.pointer (some ⟨q, 0, none⟩)], .agg (y1.map byt).toArray, .pointer (some ⟨w.heap.size, 0, none⟩), .pointer (some ⟨q, 0, none⟩), .int .u64 (y2 : Int), .pointer (some ⟨w.heap.size, 0, none⟩), .pointer (some ⟨q, 0, none⟩), undef, .agg #[.pointer (some ⟨q, 0, none⟩)], undef, .agg #[.pointer (some ⟨q, 0, none⟩)], undef, .pointer (some ⟨w.heap.size, 0, none⟩), .pointer (some ⟨q, 0, none⟩), undef, .agg #[.pointer (some ⟨q, 0, none⟩)], undef, undef, undef, undef, undef, undef, undef, undef], []⟩)) (I' := (fun (_ : Unit) (_ : Option Nat) w' => ReaderIs (fun k => k < w.heap.size ∧ D k) w' q r2 ∧ Blk w' w.heap.size [.pointer (some ⟨q, 0, none⟩)] 68 ∧ Blk w' g1 (List.replicate 32 (Value.int .u8 0) ++ ([Value.int .u64 0] ++ ([Value.int .u64 0] ++ (List.replicate 32 (Value.int .u8 0) ++ (List.replicate 32 (Value.int .u8 0) ++ ([Value.slice none 0 0] ++ ([Value.bool false] ++ ([Value.int .i64 0, Value.slice none 0 0])))))))) 50 ∧ Fr (fun k => k = q) w w' ∧ wb.heap.size ≤ w'.heap.size)) rfl rfl rfl (fun w => zeroHe w) (fun _ _ => rfl) (fun _ w' w'' h hb => ⟨h.1.below hb, h.2.1.below hb, h.2.2.1.below hb, h.2.2.2.1.trans (Fr.ofBelowAll hb (Nat.le_refl _)), Nat.le_trans h.2.2.2.2 hb.size⟩) (fun _ _ _ h => h.2.1) (fun _ _ _ h => h.2.1) rfl (by kernel_rfl) (by kernel_rfl) (by decide) q (by omega) ?_ ?_
  · intro _ go wx gv K hI hgo hK
    have hqx : q < wx.heap.size := hI.1.lt
    go_simp
    refine (HC2.out _ wx hI.1).mono ?_
    rintro e wy ⟨rfl, o1, o2⟩
    exact hK.out () wy (by exact ⟨o1, hI.2.1.fr o2 (by omega), hI.2.2.1.fr o2 (by omega), hI.2.2.2.1.trans o2, Nat.le_trans hI.2.2.2.2 o2.size⟩) o2
  refine Both.step (i := 18) (j := 7) (oi := ⟨_, _, _, _, _, _⟩) (oj := ⟨_, _, _, _, _, _⟩) (A' := (fun (_ : Unit) (gv : Value) => ⟨#[.agg #[.pointer (some ⟨q, 0, none⟩)], .pointer (some ⟨w.heap.size, 0, none⟩), .pointer (some ⟨g1, 0, none⟩), gv, .agg #[.pointer (some ⟨q, 0, none⟩)], .agg (y1.map byt).toArray, .pointer (some ⟨w.heap.size, 0, none⟩), .pointer (some ⟨q, 0, none⟩), .int .u64 (y2 : Int), .pointer (some ⟨w.heap.size, 0, none⟩), .pointer (some ⟨q, 0, none⟩), .int .u64 (y3 : Int), .agg #[.pointer (some ⟨q, 0, none⟩)], undef, .agg #[.pointer (some ⟨q, 0, none⟩)], undef, .pointer (some ⟨w.heap.size, 0, none⟩), .pointer (some ⟨q, 0, none⟩), undef, .agg #[.pointer (some ⟨q, 0, none⟩)], undef, undef, undef, undef, undef, undef, undef, undef], []⟩)) (I' := (fun (_ : Unit) (_ : Option Nat) w' => ReaderIs (fun k => k < w.heap.size ∧ D k) w' q r3 ∧ Blk w' w.heap.size [.pointer (some ⟨q, 0, none⟩)] 68 ∧ Blk w' g1 (List.replicate 32 (Value.int .u8 0) ++ ([Value.int .u64 0] ++ ([Value.int .u64 0] ++ (List.replicate 32 (Value.int .u8 0) ++ (List.replicate 32 (Value.int .u8 0) ++ ([Value.slice none 0 0] ++ ([Value.bool false] ++ ([Value.int .i64 0, Value.slice none 0 0])))))))) 50 ∧ Fr (fun k => k = q) w w' ∧ wb.heap.size ≤ w'.heap.size)) rfl rfl rfl (fun w => zeroHe w) (fun _ _ => rfl) (fun _ w' w'' h hb => ⟨h.1.below hb, h.2.1.below hb, h.2.2.1.below hb, h.2.2.2.1.trans (Fr.ofBelowAll hb (Nat.le_refl _)), Nat.le_trans h.2.2.2.2 hb.size⟩) (fun _ _ _ h => h.2.1) (fun _ _ _ h => h.2.1) rfl (by kernel_rfl) (by kernel_rfl) (by decide) q (by omega) ?_ ?_
  · intro _ go wx gv K hI hgo hK
    have hqx : q < wx.heap.size := hI.1.lt
    go_simp
    refine (HC3.out _ wx hI.1).mono ?_
    rintro e wy ⟨rfl, o1, o2⟩
    exact hK.out () wy (by exact ⟨o1, hI.2.1.fr o2 (by omega), hI.2.2.1.fr o2 (by omega), hI.2.2.2.1.trans o2, Nat.le_trans hI.2.2.2.2 o2.size⟩) o2
  refine Both.step (i := 18) (j := 9) (oi := ⟨_, _, _, _, _, _⟩) (oj := ⟨_, _, _, _, _, _⟩) (A' := (fun (_ : Unit) (gv : Value) => ⟨#[.agg #[.pointer (some ⟨q, 0, none⟩)], .pointer (some ⟨w.heap.size, 0, none⟩), .pointer (some ⟨g1, 0, none⟩), gv, .agg #[.pointer (some ⟨q, 0, none⟩)], .agg (y1.map byt).toArray, .pointer (some ⟨w.heap.size, 0, none⟩), .pointer (some ⟨q, 0, none⟩), .int .u64 (y2 : Int), .pointer (some ⟨w.heap.size, 0, none⟩), .pointer (some ⟨q, 0, none⟩), .int .u64 (y3 : Int), .agg #[.pointer (some ⟨q, 0, none⟩)], .agg (y4.map byt).toArray, .agg #[.pointer (some ⟨q, 0, none⟩)], undef, .pointer (some ⟨w.heap.size, 0, none⟩), .pointer (some ⟨q, 0, none⟩), undef, .agg #[.pointer (some ⟨q, 0, none⟩)], undef, undef, undef, undef, undef, undef, undef, undef], []⟩)) (I' := (fun (_ : Unit) (_ : Option Nat) w' => ReaderIs (fun k => k < w.heap.size ∧ D k) w' q r4 ∧ Blk w' w.heap.size [.pointer (some ⟨q, 0, none⟩)] 68 ∧ Blk w' g1 (List.replicate 32 (Value.int .u8 0) ++ ([Value.int .u64 0] ++ ([Value.int .u64 0] ++ (List.replicate 32 (Value.int .u8 0) ++ (List.replicate 32 (Value.int .u8 0) ++ ([Value.slice none 0 0] ++ ([Value.bool false] ++ ([Value.int .i64 0, Value.slice none 0 0])))))))) 50 ∧ Fr (fun k => k = q) w w' ∧ wb.heap.size ≤ w'.heap.size)) rfl rfl rfl (fun w => zeroHe w) (fun _ _ => rfl) (fun _ w' w'' h hb => ⟨h.1.below hb, h.2.1.below hb, h.2.2.1.below hb, h.2.2.2.1.trans (Fr.ofBelowAll hb (Nat.le_refl _)), Nat.le_trans h.2.2.2.2 hb.size⟩) (fun _ _ _ h => h.2.1) (fun _ _ _ h => h.2.1) rfl (by kernel_rfl) (by kernel_rfl) (by decide) q (by omega) ?_ ?_
  · intro _ go wx gv K hI hgo hK
    have hqx : q < wx.heap.size := hI.1.lt
    go_simp
    refine (HC4.out _ wx hI.1).mono ?_
    rintro e wy ⟨rfl, o1, o2⟩
    exact hK.out () wy (by exact ⟨o1, hI.2.1.fr o2 (by omega), hI.2.2.1.fr o2 (by omega), hI.2.2.2.1.trans o2, Nat.le_trans hI.2.2.2.2 o2.size⟩) o2
  refine Both.step (i := 18) (j := 11) (oi := ⟨_, _, _, _, _, _⟩) (oj := ⟨_, _, _, _, _, _⟩) (A' := (fun (_ : Unit) (gv : Value) => ⟨#[.agg #[.pointer (some ⟨q, 0, none⟩)], .pointer (some ⟨w.heap.size, 0, none⟩), .pointer (some ⟨g1, 0, none⟩), gv, .agg #[.pointer (some ⟨q, 0, none⟩)], .agg (y1.map byt).toArray, .pointer (some ⟨w.heap.size, 0, none⟩), .pointer (some ⟨q, 0, none⟩), .int .u64 (y2 : Int), .pointer (some ⟨w.heap.size, 0, none⟩), .pointer (some ⟨q, 0, none⟩), .int .u64 (y3 : Int), .agg #[.pointer (some ⟨q, 0, none⟩)], .agg (y4.map byt).toArray, .agg #[.pointer (some ⟨q, 0, none⟩)], .agg (y5.map byt).toArray, .pointer (some ⟨w.heap.size, 0, none⟩), .pointer (some ⟨q, 0, none⟩), undef, .agg #[.pointer (some ⟨q, 0, none⟩)], undef, undef, undef, undef, undef, undef, undef, undef], []⟩)) (I' := (fun (_ : Unit) (_ : Option Nat) w' => ReaderIs (fun k => k < w.heap.size ∧ D k) w' q r5 ∧ Blk w' w.heap.size [.pointer (some ⟨q, 0, none⟩)] 68 ∧ Blk w' g1 (List.replicate 32 (Value.int .u8 0) ++ ([Value.int .u64 0] ++ ([Value.int .u64 0] ++ (List.replicate 32 (Value.int .u8 0) ++ (List.replicate 32 (Value.int .u8 0) ++ ([Value.slice none 0 0] ++ ([Value.bool false] ++ ([Value.int .i64 0, Value.slice none 0 0])))))))) 50 ∧ Fr (fun k => k = q) w w' ∧ wb.heap.size ≤ w'.heap.size)) rfl rfl rfl (fun w => zeroHe w) (fun _ _ => rfl) (fun _ w' w'' h hb => ⟨h.1.below hb, h.2.1.below hb, h.2.2.1.below hb, h.2.2.2.1.trans (Fr.ofBelowAll hb (Nat.le_refl _)), Nat.le_trans h.2.2.2.2 hb.size⟩) (fun _ _ _ h => h.2.1) (fun _ _ _ h => h.2.1) rfl (by kernel_rfl) (by kernel_rfl) (by decide) q (by omega) ?_ ?_
  · intro _ go wx gv K hI hgo hK
    have hqx : q < wx.heap.size := hI.1.lt
    go_simp
    refine (HC5.out _ wx hI.1).mono ?_
    rintro e wy ⟨rfl, o1, o2⟩
    exact hK.out () wy (by exact ⟨o1, hI.2.1.fr o2 (by omega), hI.2.2.1.fr o2 (by omega), hI.2.2.2.1.trans o2, Nat.le_trans hI.2.2.2.2 o2.size⟩) o2
  refine Both.step (i := 18) (j := 14) (oi := ⟨_, _, _, _, _, _⟩) (oj := ⟨_, _, _, _, _, _⟩) (A' := (fun (v : Value) (gv : Value) => ⟨#[.agg #[.pointer (some ⟨q, 0, none⟩)], .pointer (some ⟨w.heap.size, 0, none⟩), .pointer (some ⟨g1, 0, none⟩), gv, .agg #[.pointer (some ⟨q, 0, none⟩)], .agg (y1.map byt).toArray, .pointer (some ⟨w.heap.size, 0, none⟩), .pointer (some ⟨q, 0, none⟩), .int .u64 (y2 : Int), .pointer (some ⟨w.heap.size, 0, none⟩), .pointer (some ⟨q, 0, none⟩), .int .u64 (y3 : Int), .agg #[.pointer (some ⟨q, 0, none⟩)], .agg (y4.map byt).toArray, .agg #[.pointer (some ⟨q, 0, none⟩)], .agg (y5.map byt).toArray, .pointer (some ⟨w.heap.size, 0, none⟩), .pointer (some ⟨q, 0, none⟩), v, .agg #[.pointer (some ⟨q, 0, none⟩)], undef, undef, undef, undef, undef, undef, undef, undef], []⟩)) (I' := (fun (v : Value) (go : Option Nat) w' => ReaderIs (fun k => k < w.heap.size ∧ D k) w' q r6 ∧ Blk w' w.heap.size [.pointer (some ⟨q, 0, none⟩)] 68 ∧ Blk w' g1 (List.replicate 32 (Value.int .u8 0) ++ ([Value.int .u64 0] ++ ([Value.int .u64 0] ++ (List.replicate 32 (Value.int .u8 0) ++ (List.replicate 32 (Value.int .u8 0) ++ ([Value.slice none 0 0] ++ ([Value.bool false] ++ ([Value.int .i64 0, Value.slice none 0 0])))))))) 50 ∧ Fr (fun k => k = q) w w' ∧ wb.heap.size ≤ w'.heap.size ∧ Byt (fun b => g1 < b ∧ go ≠ some b) w' v y6)) rfl rfl rfl (fun w => zeroHe w) (fun _ _ => rfl) (fun _ w' w'' h hb => ⟨h.1.below hb, h.2.1.below hb, h.2.2.1.below hb, h.2.2.2.1.trans (Fr.ofBelowAll hb (Nat.le_refl _)), Nat.le_trans h.2.2.2.2 hb.size⟩) (fun _ _ _ h => h.2.1) (fun _ _ _ h => h.2.1) rfl (by kernel_rfl) (by kernel_rfl) (by decide) q (by omega) ?_ ?_
  · intro _ go wx gv K hI hgo hK
    have hqx : q < wx.heap.size := hI.1.lt
    go_simp
    refine (HC6.out _ wx hI.1).mono ?_
    rintro e wy ⟨vt, rfl, ox, o1, o2⟩
    exact hK.out vt wy (by exact ⟨o1, hI.2.1.fr o2 (by omega), hI.2.2.1.fr o2 (by omega), hI.2.2.2.1.trans o2, Nat.le_trans hI.2.2.2.2 o2.size, ox.mono (fun b _ h => ⟨by have := hI.2.2.2.2; omega, fun e => by have := (hgo b e).2; omega⟩)⟩) o2
  refine Both.step (i := 18) (j := 16) (oi := ⟨_, _, _, _, _, _⟩) (oj := ⟨_, _, _, _, _, _⟩) (A' := (fun (v : Value) (gv : Value) => ⟨#[.agg #[.pointer (some ⟨q, 0, none⟩)], .pointer (some ⟨w.heap.size, 0, none⟩), .pointer (some ⟨g1, 0, none⟩), gv, .agg #[.pointer (some ⟨q, 0, none⟩)], .agg (y1.map byt).toArray, .pointer (some ⟨w.heap.size, 0, none⟩), .pointer (some ⟨q, 0, none⟩), .int .u64 (y2 : Int), .pointer (some ⟨w.heap.size, 0, none⟩), .pointer (some ⟨q, 0, none⟩), .int .u64 (y3 : Int), .agg #[.pointer (some ⟨q, 0, none⟩)], .agg (y4.map byt).toArray, .agg #[.pointer (some ⟨q, 0, none⟩)], .agg (y5.map byt).toArray, .pointer (some ⟨w.heap.size, 0, none⟩), .pointer (some ⟨q, 0, none⟩), v, .agg #[.pointer (some ⟨q, 0, none⟩)], .bool y7, undef, undef, undef, undef, undef, undef, undef], []⟩)) (I' := (fun (v : Value) (go : Option Nat) w' => ReaderIs (fun k => k < w.heap.size ∧ D k) w' q r7 ∧ Blk w' w.heap.size [.pointer (some ⟨q, 0, none⟩)] 68 ∧ Blk w' g1 (List.replicate 32 (Value.int .u8 0) ++ ([Value.int .u64 0] ++ ([Value.int .u64 0] ++ (List.replicate 32 (Value.int .u8 0) ++ (List.replicate 32 (Value.int .u8 0) ++ ([Value.slice none 0 0] ++ ([Value.bool false] ++ ([Value.int .i64 0, Value.slice none 0 0])))))))) 50 ∧ Fr (fun k => k = q) w w' ∧ wb.heap.size ≤ w'.heap.size ∧ Byt (fun b => g1 < b ∧ go ≠ some b) w' v y6)) rfl rfl rfl (fun w => zeroHe w) (fun _ _ => rfl) (fun v w' w'' h hb => ⟨h.1.below hb, h.2.1.below hb, h.2.2.1.below hb, h.2.2.2.1.trans (Fr.ofBelowAll hb (Nat.le_refl _)), Nat.le_trans h.2.2.2.2.1 hb.size, (h.2.2.2.2.2.lt.mono (fun b _ hh => ⟨hh.2.1, fun e => by cases e; exact absurd hh.1 (Nat.lt_irrefl _)⟩)).below hb⟩) (fun _ _ _ h => h.2.1) (fun _ _ _ h => h.2.1) rfl (by kernel_rfl) (by kernel_rfl) (by decide) q (by omega) ?_ ?_
  · intro v go wx gv K hI hgo hK
    have hqx : q < wx.heap.size := hI.1.lt
    go_simp
    refine (HC7.out _ wx hI.1).mono ?_
    rintro e wy ⟨rfl, o1, o2⟩
    exact hK.out v wy (by exact ⟨o1, hI.2.1.fr o2 (by omega), hI.2.2.1.fr o2 (by omega), hI.2.2.2.1.trans o2, Nat.le_trans hI.2.2.2.2.1 o2.size, hI.2.2.2.2.2.fr o2 (fun b _ h e => by omega)⟩) o2
  refine Both.step (i := 18) (j := 17) (oi := ⟨_, _, _, _, _, _⟩) (oj := ⟨_, _, _, _, _, _⟩) (A' := (fun (v : Value) (gv : Value) => ⟨#[.agg #[.pointer (some ⟨q, 0, none⟩)], .pointer (some ⟨w.heap.size, 0, none⟩), .pointer (some ⟨g1, 0, none⟩), gv, .agg #[.pointer (some ⟨q, 0, none⟩)], .agg (y1.map byt).toArray, .pointer (some ⟨w.heap.size, 0, none⟩), .pointer (some ⟨q, 0, none⟩), .int .u64 (y2 : Int), .pointer (some ⟨w.heap.size, 0, none⟩), .pointer (some ⟨q, 0, none⟩), .int .u64 (y3 : Int), .agg #[.pointer (some ⟨q, 0, none⟩)], .agg (y4.map byt).toArray, .agg #[.pointer (some ⟨q, 0, none⟩)], .agg (y5.map byt).toArray, .pointer (some ⟨w.heap.size, 0, none⟩), .pointer (some ⟨q, 0, none⟩), v, .agg #[.pointer (some ⟨q, 0, none⟩)], .bool y7, .agg (y1.map byt ++ ([Value.int .u64 (y2 : Int)] ++ ([Value.int .u64 (y3 : Int)] ++ (y4.map byt ++ (y5.map byt ++ ([v] ++ ([Value.bool y7] ++ ([Value.int .i64 0, Value.slice none 0 0])))))))).toArray, undef, undef, undef, undef, undef, undef], []⟩)) (I' := (fun (v : Value) (go : Option Nat) w' => ReaderIs (fun k => k < w.heap.size ∧ D k) w' q r7 ∧ Blk w' w.heap.size [.pointer (some ⟨q, 0, none⟩)] 68 ∧ Blk w' g1 (List.replicate 32 (Value.int .u8 0) ++ ([Value.int .u64 0] ++ ([Value.int .u64 0] ++ (List.replicate 32 (Value.int .u8 0) ++ (List.replicate 32 (Value.int .u8 0) ++ ([Value.slice none 0 0] ++ ([Value.bool false] ++ ([Value.int .i64 0, Value.slice none 0 0])))))))) 50 ∧ Fr (fun k => k = q) w w' ∧ wb.heap.size ≤ w'.heap.size ∧ Byt (fun b => g1 < b ∧ go ≠ some b) w' v y6)) rfl rfl rfl (fun w => zeroHe w) (fun _ _ => rfl) (fun v w' w'' h hb => ⟨h.1.below hb, h.2.1.below hb, h.2.2.1.below hb, h.2.2.2.1.trans (Fr.ofBelowAll hb (Nat.le_refl _)), Nat.le_trans h.2.2.2.2.1 hb.size, (h.2.2.2.2.2.lt.mono (fun b _ hh => ⟨hh.2.1, fun e => by cases e; exact absurd hh.1 (Nat.lt_irrefl _)⟩)).below hb⟩) (fun _ _ _ h => h.2.1) (fun _ _ _ h => h.2.1) rfl (by kernel_rfl) (by kernel_rfl) (by decide) q (by omega) ?_ ?_
  · intro v go wx gv K hI hgo hK
    obtain ⟨va, vc, hve, _⟩ := id hI.2.2.2.2.2
    have hv1 : v.oneCell' = true := by rw [hve]; rfl
    clear hve
    have hbl := built_some built7 zeroHe_len [.agg (y1.map byt).toArray, .int .u64 (y2 : Int), .int .u64 (y3 : Int), .agg (y4.map byt).toArray, .agg (y5.map byt).toArray, v, .bool y7] 7 (by simp only [List.map_cons, List.map_nil, cells_one hv1]; simp [Value.cells, HW1.out, HW4.out, HW5.out])
    have HBU := (show Tryz.prog.built 50 [(0, .agg (y1.map byt).toArray), (1, .int .u64 (y2 : Int)), (2, .int .u64 (y3 : Int)), (3, .agg (y4.map byt).toArray), (4, .agg (y5.map byt).toArray), (5, v), (6, .bool y7)] = some (y1.map byt ++ ([Value.int .u64 (y2 : Int)] ++ ([Value.int .u64 (y3 : Int)] ++ (y4.map byt ++ (y5.map byt ++ ([v] ++ ([Value.bool y7] ++ ([Value.int .i64 0, Value.slice none 0 0])))))))).toArray by have h := hbl; simp only [List.flatMap_cons, List.flatMap_nil, cells_one hv1] at h; simpa [Value.cells] using h)
    rw [if_pos (by rfl)]
    refine wp_val (v := .agg (y1.map byt ++ ([Value.int .u64 (y2 : Int)] ++ ([Value.int .u64 (y3 : Int)] ++ (y4.map byt ++ (y5.map byt ++ ([v] ++ ([Value.bool y7] ++ ([Value.int .i64 0, Value.slice none 0 0])))))))).toArray) (exec_built rfl ?_) (hK.out v wx hI (Fr.refl _ _))
    simpa [Act.eval] using HBU
  refine Both.last (i := 18) (oi := ⟨_, _, _, _, _, _⟩) rfl rfl rfl (fun w => zeroHe w) (fun _ _ => rfl) (fun v w' w'' h hb => ⟨h.1.below hb, h.2.1.below hb, h.2.2.1.below hb, h.2.2.2.1.trans (Fr.ofBelowAll hb (Nat.le_refl _)), Nat.le_trans h.2.2.2.2.1 hb.size, (h.2.2.2.2.2.lt.mono (fun b _ hh => ⟨hh.2.1, fun e => by cases e; exact absurd hh.1 (Nat.lt_irrefl _)⟩)).below hb⟩) (fun _ _ _ h => h.2.1) (by kernel_rfl) ?_
  intro v wx gh hI hN hK
  obtain ⟨va, vc, hve, _⟩ := id hI.2.2.2.2.2
  have hv1 : v.oneCell' = true := by rw [hve]; rfl
  clear hve
  have hHeld := hI.2.1
  have O7 := Lib.hid hI.1
  have HB7 := Lib.hid hI.2.1
  have KA7 := Lib.hid hI.2.2.1
  have F7 := Lib.hid hI.2.2.2.1
  have GX := Lib.hid (hI.2.2.2.2.2.mono (E := fun b => g1 < b ∧ b ≠ gh) (fun b _ h => ⟨h.1, fun e => h.2 (by rw [e])⟩))
  have hsx := hI.2.2.2.2.1
  have KH := Lib.hid hK
  have hgx : gh < wx.heap.size := hK.lt
  clear hI hK
  have HCE := Lib.hid (show (y1.map byt ++ ([Value.int .u64 (y2 : Int)] ++ ([Value.int .u64 (y3 : Int)] ++ (y4.map byt ++ (y5.map byt ++ ([v] ++ ([Value.bool y7] ++ ([Value.int .i64 0, Value.slice none 0 0]))))))) : List Value).length = 102 by simp [HW1.out, HW4.out, HW5.out])
  have HSZ := Lib.hid (show (Tryz.prog.info? 50).map (·.size) = some (y1.map byt ++ ([Value.int .u64 (y2 : Int)] ++ ([Value.int .u64 (y3 : Int)] ++ (y4.map byt ++ (y5.map byt ++ ([v] ++ ([Value.bool y7] ++ ([Value.int .i64 0, Value.slice none 0 0]))))))) : List Value).length by rw [HCE.out]; kernel_rfl)
  refine wpAnyH_ready (rs := [19]) (by kernel_rfl) (by simp) ?_
  refine AllReadyH.cons (o := ⟨_, _, _, _, _, _⟩) rfl (fun K hK => ?_) AllReadyH.nil
  rw [if_pos (by rfl)]
  have HOC := Lib.hid (show ∀ u ∈ (y1.map byt ++ ([Value.int .u64 (y2 : Int)] ++ ([Value.int .u64 (y3 : Int)] ++ (y4.map byt ++ (y5.map byt ++ ([v] ++ ([Value.bool y7] ++ ([Value.int .i64 0, Value.slice none 0 0]))))))) : List Value), u.oneCell' = true from rep_He.one (D := fun b => g1 < b ∧ b ≠ gh) (w := wx) (x := (y1, y2, y3, y4, y5, y6, y7, (0, []))) ⟨_, _, rfl, ⟨HW1.out, rfl⟩, _, _, rfl, ⟨HW2.out, rfl⟩, _, _, rfl, ⟨HW3.out, rfl⟩, _, _, rfl, ⟨HW4.out, rfl⟩, _, _, rfl, ⟨HW5.out, rfl⟩, [_], _, rfl, ⟨_, rfl, GX.out⟩, [_], _, rfl, ⟨trivial, rfl⟩, _, rfl, Sl.nil _ _ _ _⟩)
  refine wp_put _ _ _ rfl gh (y1.map byt ++ ([Value.int .u64 (y2 : Int)] ++ ([Value.int .u64 (y3 : Int)] ++ (y4.map byt ++ (y5.map byt ++ ([v] ++ ([Value.bool y7] ++ ([Value.int .i64 0, Value.slice none 0 0])))))))) (List.replicate 32 (Value.int .u8 0) ++ ([Value.int .u64 0] ++ ([Value.int .u64 0] ++ (List.replicate 32 (Value.int .u8 0) ++ (List.replicate 32 (Value.int .u8 0) ++ ([Value.slice none 0 0] ++ ([Value.bool false] ++ ([Value.int .i64 0, Value.slice none 0 0])))))))) rfl rfl KH.out HSZ.out (zeroHe_len.trans HCE.out.symm) HOC.out (fun we ke fe ze => ?_)
  refine hK.out _ _ (by exact hHeld.fr fe (by omega)) (fun hHeld => ?_)
  have KE := Lib.hid ke
  have FE := Lib.hid fe
  clear ke fe hK
  refine wpAnyH_done (by kernel_rfl) ?_ _
  clear hHeld
  have O8 := Lib.hid (O7.out.fr FE.out (by omega) (fun k _ h (e : k = gh) => by have := h.1; omega))
  have HB8 := Lib.hid (HB7.out.fr FE.out (by omega))
  have KA8 := Lib.hid (KA7.out.fr FE.out (by omega))
  have F8 := Lib.hid (F7.out.trans' FE.out (fun i hi (e : i = gh) => by omega))
  clear O7 HB7 KA7 F7 KH
  have HX8 := Lib.hid (GX.out.fr FE.out (fun b _ h (e : b = gh) => h.2 e))
  have cch := blk_one KE.out (y1.map byt ++ ([Value.int .u64 (y2 : Int)] ++ ([Value.int .u64 (y3 : Int)] ++ (y4.map byt ++ (y5.map byt ++ ([v])))))) ([Value.int .i64 0, Value.slice none 0 0]) (.bool y7) (by simp) 99 (by simp [HW1.out, HW4.out, HW5.out])
  have hse : wx.heap.size ≤ we.heap.size := FE.out.size
  clear GX FE
  cases y7
  · have HRR := Lib.hid (show RHe (fun b => g1 < b ∧ b ≠ gh) we (y1.map byt ++ ([Value.int .u64 (y2 : Int)] ++ ([Value.int .u64 (y3 : Int)] ++ (y4.map byt ++ (y5.map byt ++ ([v] ++ ([Value.bool false] ++ ([Value.int .i64 0, Value.slice none 0 0])))))))) (y1, y2, y3, y4, y5, y6, false, (0, [])) from ⟨_, _, rfl, ⟨HW1.out, rfl⟩, _, _, rfl, ⟨HW2.out, rfl⟩, _, _, rfl, ⟨HW3.out, rfl⟩, _, _, rfl, ⟨HW4.out, rfl⟩, _, _, rfl, ⟨HW5.out, rfl⟩, [_], _, rfl, ⟨_, rfl, HX8.out.mono (fun b _ h => ⟨h.1, h.2⟩)⟩, [_], _, rfl, ⟨trivial, rfl⟩, ⟨_, rfl, Sl.nil _ _ _ _⟩⟩)
    go_wp2_with (first
      | (with_reducible refine wpList_load_blk rfl _ _ rfl gh (y1.map byt ++ ([Value.int .u64 (y2 : Int)] ++ ([Value.int .u64 (y3 : Int)] ++ (y4.map byt ++ (y5.map byt ++ ([v] ++ ([Value.bool false] ++ ([Value.int .i64 0, Value.slice none 0 0])))))))) rfl KE.out _ Tryz.underlying50 rfl HSZ.out ?_)
      | ((with_reducible refine wpList_put rfl _ _ _ rfl g1 (y1.map byt ++ ([Value.int .u64 (y2 : Int)] ++ ([Value.int .u64 (y3 : Int)] ++ (y4.map byt ++ (y5.map byt ++ ([v] ++ ([Value.bool false] ++ ([Value.int .i64 0, Value.slice none 0 0])))))))) _ rfl rfl KA8.out HSZ.out (zeroHe_len.trans HCE.out.symm) HOC.out (fun wz kz fz zz => ?_)); have KZ := Lib.hid kz; have FZ := Lib.hid fz; clear kz fz))
    exact bodyPost_ret (v := .agg (y1.map byt ++ ([Value.int .u64 (y2 : Int)] ++ ([Value.int .u64 (y3 : Int)] ++ (y4.map byt ++ (y5.map byt ++ ([v] ++ ([Value.bool false] ++ ([Value.int .i64 0, Value.slice none 0 0])))))))).toArray) (results_row1 Tryz.results50 _ _ g1 _ _ rfl KZ.out Tryz.underlying50 rfl HSZ.out) rfl ⟨_, rfl, rep_He.mono (rep_He.fr HRR.out FZ.out (fun b _ h (e : b = g1) => by omega)) (fun b _ h => by omega), rd_back (O8.out.fr FZ.out (by omega) (fun k _ h (e : k = g1) => by have := h.1; omega)) hql, F8.out.trans' FZ.out (fun i hi (e : i = g1) => by omega)⟩
  · go_wp2_with (first | (with_reducible refine wpList_load_blk rfl _ _ rfl w.heap.size [.pointer (some ⟨q, 0, none⟩)] rfl HB8.out _ Tryz.underlying68 rfl (by kernel_rfl) ?_))
    refine (params_read _ we q r7 O8.out HL7.out).mono ?_
    rintro e wp ⟨cp, rfl, ox, o1, o2⟩
    have PX := Lib.hid (rep_pm.mono ox (E := fun b => g1 < b ∧ b ≠ gh) (fun b _ h => ⟨by omega, by omega⟩))
    have PL := Lib.hid (rep_pm.len ox)
    have P1 := Lib.hid (rep_pm.one ox)
    have PSZ := Lib.hid (show (Tryz.prog.info? 44).map (·.size) = some cp.length by rw [PL.out]; kernel_rfl)
    have hsp := o2.size
    have O9 := Lib.hid o1
    have KA9 := Lib.hid (KA8.out.fr o2 (by omega))
    have F9 := Lib.hid (F8.out.trans o2)
    have HX9 := Lib.hid (HX8.out.fr o2 (fun b _ h e => by omega))
    have KE9 := Lib.hid (show Blk wp gh ((y1.map byt ++ ([Value.int .u64 (y2 : Int)] ++ ([Value.int .u64 (y3 : Int)] ++ (y4.map byt ++ (y5.map byt ++ ([v] ++ ([Value.bool true]))))))) ++ ([Value.int .i64 0, Value.slice none 0 0] ++ ([] : List Value))) 50 from by have h := KE.out.fr o2 (by omega); simpa using h)
    have hnp : ((y1.map byt ++ ([Value.int .u64 (y2 : Int)] ++ ([Value.int .u64 (y3 : Int)] ++ (y4.map byt ++ (y5.map byt ++ ([v] ++ ([Value.bool true]))))))) : List Value).length = 100 := by simp [HW1.out, HW4.out, HW5.out]
    have HLP := Lib.hid (show ([Value.int .i64 0, Value.slice none 0 0] : List Value).length = cp.length by rw [PL.out]; rfl)
    clear ox o1 o2
    go_upto_region 4 with (first
      | ((with_reducible refine wpList_putMid rfl _ _ _ rfl gh (y1.map byt ++ ([Value.int .u64 (y2 : Int)] ++ ([Value.int .u64 (y3 : Int)] ++ (y4.map byt ++ (y5.map byt ++ ([v] ++ ([Value.bool true]))))))) ([Value.int .i64 0, Value.slice none 0 0]) ([] : List Value) cp 100 hnp rfl rfl KE9.out PSZ.out HLP.out P1.out (fun wq kd fd zd => ?_)); have KD := Lib.hid kd; have FD := Lib.hid fd; clear kd fd))
    have KQ := Lib.hid (show Blk wq gh (y1.map byt ++ ([Value.int .u64 (y2 : Int)] ++ ([Value.int .u64 (y3 : Int)] ++ (y4.map byt ++ (y5.map byt ++ ([v] ++ ([Value.bool true] ++ (cp)))))))) 50 from by have h := KD.out; simpa using h)
    have HCQ := Lib.hid (show (y1.map byt ++ ([Value.int .u64 (y2 : Int)] ++ ([Value.int .u64 (y3 : Int)] ++ (y4.map byt ++ (y5.map byt ++ ([v] ++ ([Value.bool true] ++ (cp))))))) : List Value).length = 102 by simp [HW1.out, HW4.out, HW5.out, PL.out])
    have HSQ := Lib.hid (show (Tryz.prog.info? 50).map (·.size) = some (y1.map byt ++ ([Value.int .u64 (y2 : Int)] ++ ([Value.int .u64 (y3 : Int)] ++ (y4.map byt ++ (y5.map byt ++ ([v] ++ ([Value.bool true] ++ (cp))))))) : List Value).length by rw [HCQ.out]; kernel_rfl)
    have PXq := Lib.hid (rep_pm.fr PX.out FD.out (fun b _ h (e : b = gh) => h.2 e))
    have HX8 := Lib.hid (HX9.out.fr FD.out (fun b _ h (e : b = gh) => h.2 e))
    have O10 := Lib.hid (O9.out.fr FD.out (by omega) (fun k _ h (e : k = gh) => by have := h.1; omega))
    have KA10 := Lib.hid (KA9.out.fr FD.out (by omega))
    have F10 := Lib.hid (F9.out.trans' FD.out (fun i hi (e : i = gh) => by omega))
    have hsq := FD.out.size
    have HRR := Lib.hid (show RHe (fun b => g1 < b ∧ b ≠ gh) wq (y1.map byt ++ ([Value.int .u64 (y2 : Int)] ++ ([Value.int .u64 (y3 : Int)] ++ (y4.map byt ++ (y5.map byt ++ ([v] ++ ([Value.bool true] ++ (cp)))))))) (y1, y2, y3, y4, y5, y6, true, (WtIt.Rd.params r7).2) from ⟨_, _, rfl, ⟨HW1.out, rfl⟩, _, _, rfl, ⟨HW2.out, rfl⟩, _, _, rfl, ⟨HW3.out, rfl⟩, _, _, rfl, ⟨HW4.out, rfl⟩, _, _, rfl, ⟨HW5.out, rfl⟩, [_], _, rfl, ⟨_, rfl, HX8.out.mono (fun b _ h => ⟨h.1, h.2⟩)⟩, [_], _, rfl, ⟨trivial, rfl⟩, PXq.out⟩)
    have HO9 := Lib.hid (rep_He.one HRR.out)
    clear KD FD KE9 hnp HLP
    go_wp2_with (first
      | (with_reducible refine wpList_load_blk rfl _ _ rfl gh (y1.map byt ++ ([Value.int .u64 (y2 : Int)] ++ ([Value.int .u64 (y3 : Int)] ++ (y4.map byt ++ (y5.map byt ++ ([v] ++ ([Value.bool true] ++ (cp)))))))) rfl KQ.out _ Tryz.underlying50 rfl HSQ.out ?_)
      | ((with_reducible refine wpList_put rfl _ _ _ rfl g1 (y1.map byt ++ ([Value.int .u64 (y2 : Int)] ++ ([Value.int .u64 (y3 : Int)] ++ (y4.map byt ++ (y5.map byt ++ ([v] ++ ([Value.bool true] ++ (cp)))))))) _ rfl rfl KA10.out HSQ.out (zeroHe_len.trans HCQ.out.symm) HO9.out (fun wz kz fz zz => ?_)); have KZ := Lib.hid kz; have FZ := Lib.hid fz; clear kz fz))
    exact bodyPost_ret (v := .agg (y1.map byt ++ ([Value.int .u64 (y2 : Int)] ++ ([Value.int .u64 (y3 : Int)] ++ (y4.map byt ++ (y5.map byt ++ ([v] ++ ([Value.bool true] ++ (cp)))))))).toArray) (results_row1 Tryz.results50 _ _ g1 _ _ rfl KZ.out Tryz.underlying50 rfl HSQ.out) rfl ⟨_, rfl, rep_He.mono (rep_He.fr HRR.out FZ.out (fun b _ h (e : b = g1) => by omega)) (fun b _ h => by omega), rd_back (O10.out.fr FZ.out (by omega) (fun k _ h (e : k = g1) => by have := h.1; omega)) hql, F10.out.trans' FZ.out (fun i hi (e : i = g1) => by omega)⟩
set_option maxHeartbeats 8000000 in
set_option maxRecDepth 100000 in
theorem read_he_calls (D : Nat → Prop) (w : World) (v : Value) (l : List UInt8) (hB : Byt D w v l) (hl : l.length ≤ 140737488355328) :
    Calls Tryz.prog 49 #[v, .func (.func 50) #[] #[]] w (GotT RHe w (got RDhe x0He l)) := by
  have HB := Lib.hid hB
  obtain ⟨s, hs⟩ : ∃ s, RDhe ⟨l, 0⟩ = s := ⟨_, rfl⟩
  have HG := Lib.hid (show (s.1.fin = 0 → got RDhe x0He l = (s.2, 0)) ∧ (¬ s.1.fin = 0 → got RDhe x0He l = (x0He, 120)) from ⟨fun h => by rw [got_yes (by rw [hs]; exact h), hs], fun h => by rw [got_no (by rw [hs]; exact h)]⟩)
  have HC := Lib.hid (fun D' w' q' h' => rhe_calls D' w' q' ⟨l, 0⟩ h' hl)
  rw [hs] at HC
  have hszT : ∀ cs : List Value, cs.length = 102 → (Tryz.prog.info? 50).map (·.size) = some cs.length := fun cs h => by rw [h]; kernel_rfl
  clear hB hs
  go_enter Tryz.func49, Tryz.ntmps49
  go_upto_region 1 with (first
    | ((with_reducible refine wpList_alloc rfl _ rfl _ (zeroHe _) (fun wa ka ca za => ?_)); have KA := Lib.hid ka; have CA := Lib.hid ca; clear ka ca))
  go_wp2_with fail
  refine (CodecR.read_calls D wa v l (HB.out.below CA.out) hl).mono ?_
  rintro e wb ⟨q, rfl, hq, o1, o2⟩
  have hql := o1.lt
  have O1 := Lib.hid o1
  have KA1 := Lib.hid (KA.out.below o2)
  have B1 := Lib.hid (CA.out.trans (o2.mono (by omega)))
  have hsb := o2.size
  clear o1 o2 KA CA
  go_upto_region 2 with (first
    | ((with_reducible refine wpList_alloc rfl _ rfl _ (zeroR _) (fun wc kc cc zc => ?_)); have KC := Lib.hid kc; have CC := Lib.hid cc; clear kc cc)
    | ((with_reducible refine wpList_put rfl _ _ _ rfl wb.heap.size [.pointer (some ⟨q, 0, none⟩)] _ rfl rfl KC.out (by kernel_rfl) rfl (one_ptr q) (fun wd kd fd zd => ?_)); have KD := Lib.hid kd; have CD := Lib.hid (CC.out.trans (fd.below CC.out.size (fun k (hk : k = _) => by omega))); clear kd fd))
  have O2 := Lib.hid (O1.out.below CD.out)
  have KA2 := Lib.hid (KA1.out.below CD.out)
  have B2 := Lib.hid (B1.out.trans (CD.out.mono (by omega)))
  have hsd := CD.out.size
  have hgr : wb.heap.size < wd.heap.size := KD.out.lt
  clear O1 KA1 B1 KC CC CD
  generalize wb.heap.size = gr at *
  go_wp2_with (first | (with_reducible refine wpList_load_blk rfl _ _ rfl gr [.pointer (some ⟨q, 0, none⟩)] rfl KD.out _ Tryz.underlying68 rfl (by kernel_rfl) ?_))
  refine (HC.out _ wd q O2.out).mono ?_
  rintro e we ⟨cs, rfl, ox, o2, o3⟩
  have HX := Lib.hid ox
  have HCL := Lib.hid (rep_He.len ox)
  have HC1 := Lib.hid (rep_He.one ox)
  have HSZ := Lib.hid (hszT cs (rep_He.len ox))
  have hse := o3.size
  have O3 := Lib.hid o2
  have KA3 := Lib.hid (KA2.out.fr o3 (by omega))
  have KD3 := Lib.hid (KD.out.fr o3 (by omega))
  have B3 := Lib.hid (B2.out.trans (o3.below (by omega) (fun k (hk : k = q) => by omega)))
  clear ox o2 o3 O2 KA2 KD B2 HC
  go_upto_region 3 with (first
    | ((with_reducible refine wpList_alloc rfl _ rfl _ (zeroHe _) (fun wf kf cf zf => ?_)); have KF := Lib.hid kf; have CF := Lib.hid cf; clear kf cf)
    | ((with_reducible refine wpList_put rfl _ _ _ rfl we.heap.size cs _ rfl rfl KF.out HSZ.out (zeroHe_len.trans HCL.out.symm) HC1.out (fun wg kg fg zg => ?_)); have KG := Lib.hid kg; have CG := Lib.hid (CF.out.trans (fg.below CF.out.size (fun k (hk : k = _) => by omega))); clear kg fg))
  have O5 := Lib.hid (O3.out.below CG.out)
  have HX5 := Lib.hid (rep_He.below HX.out CG.out)
  have KA5 := Lib.hid (KA3.out.below CG.out)
  have KD5 := Lib.hid (KD3.out.below CG.out)
  have B5 := Lib.hid (B3.out.trans (CG.out.mono (by omega)))
  have hsg := CG.out.size
  have c0 := KD5.out.cell (i := 0) rfl
  clear O3 HX KA3 KD3 B3 KF CF CG
  go_wp2_with fail
  refine (CodecR.end_calls _ wg q _ O5.out).mono ?_
  rintro e wh ⟨rfl, rfl⟩
  clear c0 O5
  by_cases hf : s.1.fin = 0
  · have hf2 : (s.1.fin != 0) = false := by simp [hf]
    have HG2 := Lib.hid (HG.out.1 hf)
    clear hf HG
    go_wp2_with (first
      | (with_reducible refine wpList_load_blk rfl _ _ rfl we.heap.size cs rfl KG.out _ Tryz.underlying50 rfl HSZ.out ?_)
      | ((with_reducible refine wpList_put rfl _ _ _ rfl w.heap.size cs _ rfl rfl KA5.out HSZ.out (zeroHe_len.trans HCL.out.symm) HC1.out (fun wi ki fi zi => ?_)); have KI := Lib.hid ki; have FI := Lib.hid fi; clear ki fi))
    refine bodyPost_ret (v := .tuple #[.agg cs.toArray, .int .i64 0]) (results_row2 Tryz.results49 _ _ w.heap.size _ _ rfl KI.out Tryz.underlying50 rfl HSZ.out _ rfl) rfl ?_
    rw [HG2.out]
    exact ⟨cs, rfl, rep_He.mono (rep_He.fr HX5.out FI.out (fun b _ h (e : b = w.heap.size) => by omega)) (fun b _ h => by omega), B5.out.trans (FI.out.below B5.out.size (fun k (hk : k = w.heap.size) => by omega))⟩
  · have hf2 : (s.1.fin != 0) = true := by simpa using hf
    have HG2 := Lib.hid (HG.out.2 hf)
    have HZL := Lib.hid (hszT (List.replicate 32 (Value.int .u8 0) ++ ([Value.int .u64 0] ++ ([Value.int .u64 0] ++ (List.replicate 32 (Value.int .u8 0) ++ (List.replicate 32 (Value.int .u8 0) ++ ([Value.slice none 0 0] ++ ([Value.bool false] ++ ([Value.int .i64 0, Value.slice none 0 0])))))))) zeroHe_len)
    clear hf HG
    go_wp2_with (first
      | ((with_reducible refine wpList_alloc rfl _ rfl _ (zeroHe _) (fun wf' kf cf zf => ?_)); have KF := Lib.hid kf; have CF := Lib.hid cf; have KA6 := Lib.hid (KA5.out.below cf); clear kf cf)
      | (with_reducible refine wpList_load_blk rfl _ _ rfl wg.heap.size (List.replicate 32 (Value.int .u8 0) ++ ([Value.int .u64 0] ++ ([Value.int .u64 0] ++ (List.replicate 32 (Value.int .u8 0) ++ (List.replicate 32 (Value.int .u8 0) ++ ([Value.slice none 0 0] ++ ([Value.bool false] ++ ([Value.int .i64 0, Value.slice none 0 0])))))))) rfl KF.out _ Tryz.underlying50 rfl HZL.out ?_)
      | ((with_reducible refine wpList_put rfl _ _ _ rfl w.heap.size (List.replicate 32 (Value.int .u8 0) ++ ([Value.int .u64 0] ++ ([Value.int .u64 0] ++ (List.replicate 32 (Value.int .u8 0) ++ (List.replicate 32 (Value.int .u8 0) ++ ([Value.slice none 0 0] ++ ([Value.bool false] ++ ([Value.int .i64 0, Value.slice none 0 0])))))))) _ rfl rfl KA6.out HZL.out rfl zeroHe_one (fun wi ki fi zi => ?_)); have KI := Lib.hid ki; have FI := Lib.hid fi; clear ki fi))
    refine bodyPost_ret (v := .tuple #[.agg (List.replicate 32 (Value.int .u8 0) ++ ([Value.int .u64 0] ++ ([Value.int .u64 0] ++ (List.replicate 32 (Value.int .u8 0) ++ (List.replicate 32 (Value.int .u8 0) ++ ([Value.slice none 0 0] ++ ([Value.bool false] ++ ([Value.int .i64 0, Value.slice none 0 0])))))))).toArray, .int .i64 120]) (results_row2 Tryz.results49 _ _ w.heap.size _ _ rfl KI.out Tryz.underlying50 rfl HZL.out _ rfl) rfl ?_
    rw [HG2.out]
    exact ⟨_, rfl, zero_He _ _, (B5.out.trans (CF.out.mono B5.out.size)).trans (FI.out.below (by have := B5.out.size; have := CF.out.size; omega) (fun k (hk : k = w.heap.size) => by omega))⟩
set_option maxHeartbeats 4000000 in
set_option maxRecDepth 100000 in
theorem ReadHeader_calls (D : Nat → Prop) (w : World) (v : Value) (l : List UInt8) (hB : Byt D w v l) (hl : l.length ≤ 140737488355328) :
    Calls Tryz.prog 22 #[v] w (GotT RHe w (got RDhe x0He l)) := by
  have HB := Lib.hid hB
  clear hB
  obtain ⟨g, hg⟩ : ∃ g, got RDhe x0He l = g := ⟨_, rfl⟩
  have HR := Lib.hid (fun w' h => read_he_calls D w' v l h hl)
  rw [hg] at HR ⊢
  have hszT : ∀ cs : List Value, cs.length = 102 → (Tryz.prog.info? 50).map (·.size) = some cs.length := fun cs h => by rw [h]; kernel_rfl
  clear hg
  go_enter Tryz.func22, Tryz.ntmps22
  go_upto_region 1 with (first
    | ((with_reducible refine wpList_alloc rfl _ rfl _ (zeroHe _) (fun wa ka ca za => ?_)); have KA := Lib.hid ka; have CA := Lib.hid ca; clear ka ca))
  go_wp2_with fail
  refine (HR.out wa (HB.out.below CA.out)).mono ?_
  rintro e wb ⟨cs, rfl, ox, o2⟩
  have HX := Lib.hid ox
  have HCL := Lib.hid (rep_He.len ox)
  have HC1 := Lib.hid (rep_He.one ox)
  have HSZ := Lib.hid (hszT cs (rep_He.len ox))
  have B1 := Lib.hid (CA.out.trans (o2.mono (by omega)))
  have KA1 := Lib.hid (KA.out.below o2)
  clear ox o2 KA HR HB
  go_wp2_with (first
    | ((with_reducible refine wpList_put rfl _ _ _ rfl w.heap.size cs _ rfl rfl KA1.out HSZ.out (zeroHe_len.trans HCL.out.symm) HC1.out (fun wi ki fi zi => ?_)); have KI := Lib.hid ki; have FI := Lib.hid fi; clear ki fi))
  exact bodyPost_ret (v := .tuple #[.agg cs.toArray, .int .i64 g.2]) (results_row2 Tryz.results22 _ _ w.heap.size _ _ rfl KI.out Tryz.underlying50 rfl HSZ.out _ rfl) rfl ⟨cs, rfl, rep_He.mono (rep_He.fr HX.out FI.out (fun b _ h (e : b = w.heap.size) => by omega)) (fun b _ h => by omega), B1.out.trans (FI.out.below (by have := B1.out.size; omega) (fun k (hk : k = w.heap.size) => by omega))⟩
end Go.Proofs.YtmenchnjajpkmaaGreat.Rh
end
