/- Walks of the codec's Items and List, of the law's short. Condition: the bytes are at most 2^40. -/
import Derived.Test.YtodhhejliijdmabCodecIt
import Derived.Test.YtodhhejliijdmabRow
import Derived.Test.YtodhhejliijdmabCodecBack
namespace Go.Proofs.Ytodhhejliijdmab.CodecIt
open Go Go.RowKit Mem Codec CodecW CodecR Iter Row
set_option linter.unusedVariables false

theorem elemBB : ElemT Try.prog 51 22 (.slice none 0 0) 1 24 :=
  ⟨Try.underlying51, ⟨_, rfl, rfl, rfl, rfl⟩, rfl, by omega⟩
/-- a text of nine bytes at most, read -/
def one (r : Rd) : Rd × List UInt8 := r.text 9
theorem text_len (r : Rd) (most : Int) : (r.text most).1.rest.length ≤ r.rest.length := by
  unfold Rd.text
  dsimp only
  refine Nat.le_trans (Rd.take_len _ _).1 ?_
  split
  · exact Nat.le_refl _
  · exact Rd.room_len r most
theorem one_len (r : Rd) : (one r).1.rest.length ≤ r.rest.length := text_len r 9
set_option maxHeartbeats 4000000 in
set_option maxRecDepth 100000 in
theorem short_calls (D : Nat → Prop) (w : World) (q : Nat) (r : Rd) (H : ReaderIs D w q r) (hl : r.rest.length ≤ 140737488355328) :
    Calls Try.prog 32 #[.pointer (some ⟨q, 0, none⟩)] w fun e w' => ∃ v, e = .returned v ∧ OwnB w.heap.size 5 w' v (one r).2 ∧ ReaderIs D w' q (one r).1 ∧ Fr (fun k => k = q) w w' := by
  have H0 := Lib.hid H
  clear H
  go_enter Try.func32, Try.ntmps32
  go_wp2_with fail
  refine (CodecR.text_r_calls D w q r 9 H0.out (by omega) (by omega) hl).mono ?_
  rintro e w' ⟨a, c, rfl, g1, g2, g3⟩
  have G1 := Lib.hid g1
  have G2 := Lib.hid g2
  have G3 := Lib.hid g3
  clear g1 g2 g3
  go_wp2
  go_ret
  exact ⟨_, rfl, G1.out, G2.out, G3.out⟩
set_option maxHeartbeats 4000000 in
set_option maxRecDepth 100000 in
theorem items_calls (w : World) (q : Nat) (most : Int) (fo : Nat) :
    Calls Try.prog 31 #[.pointer (some ⟨q, 0, none⟩), .int .i64 most, .func (.func fo) #[] #[]] w fun e w' => e = .returned (.func (.func 53) #[] #[.pointer (some ⟨w.heap.size, 0, none⟩), .pointer (some ⟨w.heap.size + 1, 0, none⟩), .pointer (some ⟨w.heap.size + 2, 0, none⟩)]) ∧
      Below w.heap.size w w' ∧ w'.cell? ⟨w.heap.size, 0, none⟩ = some (.pointer (some ⟨q, 0, none⟩)) ∧ w'.cell? ⟨w.heap.size + 1, 0, none⟩ = some (.int .i64 most) ∧ w'.cell? ⟨w.heap.size + 2, 0, none⟩ = some (.func (.func fo) #[] #[]) := by
  go_enter Try.func31, Try.ntmps31
  go_wp2
  go_ret
  have a1 := (Blk.new w #[.pointer (some ⟨q, 0, none⟩)] 24 _ rfl)
  have a2 := (Blk.new (w.alloc (.cells #[.pointer (some ⟨q, 0, none⟩)] 24)) #[.int .i64 most] 3 _ rfl)
  have a3 := (Blk.new ((w.alloc (.cells #[.pointer (some ⟨q, 0, none⟩)] 24)).alloc (.cells #[.int .i64 most] 3)) #[.func (.func fo) #[] #[]] 62 _ rfl)
  rw [World.size_alloc] at a2
  rw [World.size_alloc, World.size_alloc] at a3
  exact ⟨rfl, (((Below.refl _ _).alloc (Nat.le_refl _) _).alloc (by simp) _).alloc (by simp; omega) _, ((a1.alloc _).alloc _).cell (i := 0) rfl, (a2.alloc _).cell (i := 0) rfl, a3.cell (i := 0) rfl⟩
theorem one_cons (r : Rd) (h : (one r).1.e = 0) : (one r).1.rest.length + 1 ≤ r.rest.length := by
  unfold one Rd.text at *
  dsimp only at *
  obtain ⟨k1, k2, _⟩ := Rd.take_ok h
  have k3 := congrArg List.length k2
  rw [List.length_append] at k3
  split at k1
  · simp at k1
  · rename_i hc
    rw [if_neg hc] at k3 ⊢
    have hv : r.room 9 = r.var 9 := by unfold Rd.room; rw [if_neg (by omega)]; rfl
    rw [hv] at k1 k3 ⊢
    obtain ⟨_, j2, _⟩ := Rd.var_ok k1
    have j3 := congrArg List.length j2
    rw [List.length_append, var_length] at j3
    have : 1 ≤ vlen (r.var 9).2 := by unfold vlen; repeat (split; · omega); omega
    omega
theorem items_len : ∀ (n : Nat) (r : Rd), (items one n r).1.length + (items one n r).2.rest.length ≤ r.rest.length
  | 0, r => by simp [items]
  | n + 1, r => by
    unfold items
    by_cases he : (one r).1.e = 0
    · rw [if_neg (by simpa using he)]
      have h1 := items_len n (one r).1
      have h2 := one_cons r he
      simp only [List.length_cons]
      omega
    · rw [if_pos he]
      have := one_len r
      simpa using this
theorem At.short {n : Nat} {r1 : Rd} {pre : List (List UInt8)} {r : Rd} (h : At one n r1 (pre, r)) : pre.length ≤ r1.rest.length := by
  have h1 := items_len n r1
  rw [h.2] at h1
  simp only [List.length_append] at h1
  omega

theorem rd_under {D : Nat → Prop} {w : World} {q : Nat} {r : Rd} (h : ReaderIs D w q r) : ReaderIs (fun k => k < w.heap.size ∧ D k) w q r := by
  obtain ⟨a, c, h1, h2, h3⟩ := h
  exact ⟨a, c, h1, h2.lt, fun h => h3 h.2⟩
theorem rd_back {D : Nat → Prop} {n : Nat} {w : World} {q : Nat} {r : Rd} (h : ReaderIs (fun k => k < n ∧ D k) w q r) (hq : q < n) : ReaderIs D w q r := by
  obtain ⟨a, c, h1, h2, h3⟩ := h
  exact ⟨a, c, h1, h2.mono (fun k _ h => h.2), fun h => h3 ⟨hq, h⟩⟩
theorem two_vals {vs : Array Value} (h : vs.size = 2) : ∃ a b, vs = #[a, b] := ⟨vs[0], vs[1], by
  apply Array.ext
  · simp [h]
  · intro i h1 h2
    simp only [List.size_toArray, List.length_cons, List.length_nil] at h2
    match i, h2 with
    | 0, _ => rfl
    | 1, _ => rfl⟩
/-- all, or none -/
def lst {α : Type} (p : List α × Rd) : List α := if p.2.e ≠ 0 then [] else p.1
/-- what List keeps from round to round -/
def LI (w : World) (q N : Nat) (s : List (List UInt8) × Rd) (A : World) : Prop :=
  ∃ v, Blk A w.heap.size [v] 51 ∧ Texts N 22 A v s.1 ∧ Fr (fun k => k = q) w A
def LV (A B : World) (v : Value) (x : List UInt8) : Prop := OwnB A.heap.size 5 B v x

attribute [local go_sem] Oper.semAt_some
set_option maxHeartbeats 4000000 in
set_option maxRecDepth 100000 in
theorem list_calls (D : Nat → Prop) (w : World) (q : Nat) (r0 : Rd) (most : Int) (h1 : -9223372036854775808 ≤ most) (h2 : most < 9223372036854775808) (H : ReaderIs D w q r0) (hl : r0.rest.length ≤ 1099511627776) :
    Calls Try.prog 33 #[.pointer (some ⟨q, 0, none⟩), .int .i64 most, .func (.func 32) #[] #[]] w fun e w' => ∃ v, e = .returned v ∧
      Texts w.heap.size 22 w' v (lst (items one (r0.room most).2 (r0.room most).1)) ∧ ReaderIs D w' q (items one (r0.room most).2 (r0.room most).1).2 ∧ Fr (fun k => k = q) w w' := by
  have hql := H.lt
  have HR := Lib.hid H
  clear H
  refine (callsIn_wide (n := 0)).1 (callsIn_of_wp_marks Try.func33 rfl trivial ?_ rfl)
  simp only [Try.ntmps33, List.size_toArray, List.length_cons, List.length_nil, Nat.reduceAdd, Nat.reduceSub, Array.replicate_succ, Array.replicate_zero, List.push_toArray, List.append_toArray, List.nil_append, List.cons_append]
  gi_wp2
  refine ⟨trivial, rfl, (callsIn_wide.2 (items_calls _ q most 32)).mono ?_⟩
  rintro e w2 ⟨rfl, g1, c1, c2, c3⟩
  rw [World.size_alloc] at c1 c2 c3
  have hs2 := World.block_lt_of_cell? _ _ c3
  dsimp only at hs2
  have HG := Lib.hid g1
  have hb0 : Below w.heap.size w w2 := ((Below.refl _ w).alloc (Nat.le_refl _) _).trans (g1.mono (by simp))
  have hbk : Blk w2 w.heap.size [.slice none 0 0] 51 := (Blk.new w #[.slice none 0 0] 51 [.slice none 0 0] rfl).below g1
  have HR2 := Lib.hid ((rd_under HR.out).below hb0)
  have hI0 : LI w q (w2.heap.size + 2) ([], (r0.room most).1) w2 := ⟨_, hbk, Texts.nil _ _ _, Fr.ofBelowAll hb0 (Nat.le_refl _)⟩
  have HI0 := Lib.hid hI0
  clear g1 hb0 hbk hI0
  gi_wp2
  refine rangeSeq rfl (enters_of Try.func53 (by kernel_rfl) rfl)
    (items_seq one LV 32 (enters_of Try.func32 (by kernel_rfl) rfl) (fun k => k < w.heap.size ∧ D k) w2 q (w.heap.size + 1) (w.heap.size + 1 + 1) (w.heap.size + 1 + 2) r0 most h1 h2 HR2.out c1 c2 c3 (by omega) (by omega) (by omega) 1099511627776 hl one_len
      (fun A r hr hrl hA => (short_calls _ A q r hr (by omega)).mono (fun e B h => h)))
    (fun k hk => by omega)
    (fun s A B h hf => ⟨h.1.fr hf (by omega) (fun k hk hd e => by have := hd.1; omega), hf.cell h.2.1 (by show w.heap.size + 1 ≠ _; omega), hf.cell h.2.2.1 (by show w.heap.size + 1 + 1 ≠ _; omega), hf.cell h.2.2.2 (by show w.heap.size + 1 + 2 ≠ _; omega)⟩)
    (fun s s' vs A0 A B h hA hf => by obtain ⟨v, h3, h4, h5, h6, h7, h8⟩ := h; exact ⟨v, h3, h4, h5, h6, h7, OwnB.fr h8 hf (fun k hk e => by have := (OwnB.lt h8 k hk).1; omega)⟩)
    (fun s A B h hf => by obtain ⟨r2, h3, h4⟩ := h; exact ⟨r2, h3, h4.fr hf (by omega) (fun k hk hd e => by have := hd.1; omega)⟩) (fun s s' vs A0 A h => by obtain ⟨v, _, _, _, _, rfl, _⟩ := h; rfl)
    (LI w q (w2.heap.size + 2)) (fun _ _ _ => False)
    (fun s A B h hf => by obtain ⟨v, h3, h4, h5⟩ := h; exact ⟨v, h3.fr hf (by omega), h4.fr hf (fun k hk h => by omega), h5.trans' hf (fun k hk h => by omega)⟩) (fun _ _ _ _ h _ => h) HI0.out
    (fun vs => { tmps := #[.pointer (some ⟨q, 0, none⟩), .int .i64 most, .func (.func 32) #[] #[], undef, undef, undef, .slice none 0 0, .pointer (some ⟨w.heap.size, 0, none⟩), undef, vs.getD 1 undef, .pointer (some ⟨q, 0, none⟩), .int .i64 most, .func (.func 32) #[] #[],
      .func (.func 53) #[] #[.pointer (some ⟨w.heap.size + 1, 0, none⟩), .pointer (some ⟨w.heap.size + 1 + 1, 0, none⟩), .pointer (some ⟨w.heap.size + 1 + 2, 0, none⟩)], vs.getD 0 undef, vs.getD 1 undef, undef, undef, undef, undef, undef, undef, undef, undef, undef, undef], defers := [] }) ?assign ?body ?done ?stop
  case assign =>
    intro l vs W K hs hK
    obtain ⟨v0, v1, rfl⟩ := two_vals hs
    gi_wp2
    exact hK
  case body =>
    rintro ⟨pre, r⟩ s' vs A0 A hlt ⟨v, hb, ht, hf⟩ hfr ⟨x, hlen, hat, rfl, he, rfl, hv⟩ hit
    dsimp only at hlen hat he hv hit ht ⊢
    obtain ⟨xa, xc, rfl, _⟩ := id (OwnB.byt hv)
    have hpl : pre.length ≤ 1099511627776 := Nat.le_trans hat.short (Nat.le_trans (Rd.room_len r0 most) hl)
    obtain ⟨vals, o1, o2⟩ := ht
    obtain ⟨va, vc, rfl, _⟩ := o1.form
    have hsA := hfr.size
    have hxv : Byt (fun k => w2.heap.size + 2 ≤ k ∧ (Value.slice va pre.length vc).ownBlock ≠ some k) A (.slice xa (one r).2.length xc) (one r).2 := (OwnB.byt hv).mono (fun k _ h => ⟨by omega, fun e => by have := (o1.lt k e).2; omega⟩)
    have o2A : ∀ i (h : i < pre.length), ∃ x, vals[i]? = some x ∧ Byt (fun k => w2.heap.size + 2 ≤ k ∧ (Value.slice va pre.length vc).ownBlock ≠ some k) A x (pre[i]'h) := fun i hi => by
      obtain ⟨x, hx, hy⟩ := o2 i hi
      exact ⟨x, hx, hy.fr hfr (fun k _ h e => by have := h.1; omega)⟩
    have o1A := o1.fr hfr (fun k hk e => by have := (o1.lt k hk).1; omega)
    have hbA := hb.fr hfr (by omega)
    have hfA : Fr (fun k => k = q) w A := hf.trans' hfr (fun k hk h => by omega)
    have cl := hbA.cell (i := 0) rfl
    have hal : Below A.heap.size A (A.alloc (.cells #[.slice xa (one r).2.length xc] 22)) := (Below.refl _ _).alloc (Nat.le_refl _) _
    have hb1 := hbA.below hal
    have HX := Lib.hid hxv
    have HO2 := Lib.hid o2A
    have HO1 := Lib.hid o1A
    have HIT := Lib.hid hit
    have HFA := Lib.hid hfA
    have HAL := Lib.hid hal
    have hlb : ∀ k, (Value.slice va pre.length vc).ownBlock = some k → w2.heap.size + 2 ≤ k := fun k hk => (o1A.lt k hk).1
    have HLB := Lib.hid hlb
    clear hv o2 hit hfA hbA hal hxv o2A hf hfr hb hlb o1 o1A
    gi_wp2_with (gi_at_builtin; refine wpListIn_append_val _ rfl (.tmp 16) (.tmp 18) 51 rfl (w2.heap.size + 2) 22 elemBB _ pre.length vals rfl (HO1.out.below HAL.out) ⟨A.heap.size, 0, none⟩ 1 1 [.slice xa (one r).2.length xc] rfl rfl (cell_one_new _ _ _) (by simp [Value.oneCell']) (by unfold maxLen; omega) (by omega) (by simp; omega) ?_; intro a' cap' w3 q1 q2 q3; have hk3 := hb1.fr (Fr.ofGrown q2) (fun e => by have := HLB.out _ e; omega); have cc := hk3.cell (i := 0) rfl; have ff := hk3.free 0)
    have q2' : Fr (fun k => (Value.slice va pre.length vc).ownBlock = some k) A w3 := ((Fr.refl _ A).alloc _).trans (Fr.ofGrown q2)
    have hF : Fr (fun k => (Value.slice va pre.length vc).ownBlock = some k ∨ k = w.heap.size) A (w3.setCell ⟨w.heap.size, 0, none⟩ (.slice a' (pre.length + 1) cap')) := (q2'.mono (fun k _ h => .inl h)).setCell (.inr (.inr rfl)) _
    have hll := HLB.out
    have hI := HIT.out
    have hL : (pre ++ [(one r).2]).length = pre.length + 1 := by simp
    refine ⟨Rec.fr hF (by omega) (fun h => ?_) (fun h => ?_), ⟨_, hk3.set 0 _, (Texts.append HO1.out HO2.out HX.out HAL.out q1 q2 q3).fr ((Fr.refl (fun k => k = w.heap.size) _).setCell (.inr rfl) _) (fun k _ h => by omega), HFA.out.trans' hF (fun k hk h => ?_)⟩, ?_⟩
    · rcases h with h | h
      · have := hll _ h; omega
      · omega
    · rcases h with h | h
      · have := hll _ h; omega
      · omega
    · rcases h with h | h
      · have := hll _ h; omega
      · omega
    · refine ⟨hI.1.fr hF (fun h => ?_) (fun k hk hd h => ?_), hF.cell hI.2.1 (fun h => ?_), hF.cell hI.2.2.1 (fun h => ?_), hF.cell hI.2.2.2 (fun h => ?_)⟩
      all_goals
        rcases h with h | h
        · have := hll _ h; (try dsimp only at this); omega
        · (try dsimp only at h); omega
  case done =>
    rintro ⟨pre, r⟩ W ⟨r2, e1, e2⟩ ⟨v, hb, ht, hf⟩ hk
    dsimp only at e1 e2 ht ⊢
    have cv := hb.cell (i := 0) rfl
    obtain ⟨xa, xc, x1, x2, x3⟩ := id e2
    have d1 := x1.cell (i := 1) rfl
    have E1 := Lib.hid e1
    have E2 := Lib.hid e2
    have HT := Lib.hid ht
    have HF := Lib.hid hf
    have HK := Lib.hid hk
    clear e1 e2 ht hf hk x1 x2 x3
    by_cases he : r2.e = 0
    · rw [he] at d1
      gi_wp2
      refine ⟨by simp, .inl ⟨_, _, rfl, run_takeDeferred HK.out, ?_⟩⟩
      exact ⟨_, results_tmp rfl _ _ _, _, rfl, by rw [lst, E1.out, if_neg (by simpa using he)]; exact (HT.out.fr (Fr.putObj W _ _ rfl) (fun k _ h e => by omega)).mono (by omega), by rw [E1.out]; exact rd_back (E2.out.fr (Fr.putObj W _ _ rfl) (by omega) (fun k _ h e => by have := h.1; omega)) hql, HF.out.trans' (Fr.putObj W _ _ rfl) (fun k hk e => by omega)⟩
    · have he2 : (r2.e != 0) = true := by simpa using he
      gi_wp2
      refine ⟨by simp, .inl ⟨_, _, rfl, run_takeDeferred HK.out, ?_⟩⟩
      exact ⟨_, results_tmp rfl _ _ _, _, rfl, by rw [lst, E1.out, if_pos (by simpa using he)]; exact Texts.nil _ _ _, by rw [E1.out]; exact rd_back (E2.out.fr (Fr.putObj W _ _ rfl) (by omega) (fun k _ h e => by have := h.1; omega)) hql, HF.out.trans' (Fr.putObj W _ _ rfl) (fun k hk e => by omega)⟩
  case stop =>
    intro c s W h
    exact h.elim
end Go.Proofs.Ytodhhejliijdmab.CodecIt
