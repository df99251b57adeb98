/- The walk of the reference's ReadParams; the program's ReadParams told in the same words. Condition: the bytes are at most 2^47. Walks of the reference's W: must, small, many, params, done; the reference's Params. Condition: the bytes together are at most 2^47. Words for the wire's writers of things that read as plain data. No condition. Walks of the wire's writer at a text and at a truth, and of the reference's. Condition: the bytes are at most 2^47. Walks of the wire's writer at a tag and an amount that are not blinded. Condition: the bytes are at most 2^47. Walks of the wire's writer at an output that is not blinded, its points noughts; wire.Out at noughts. Condition: the bytes are at most 2^47. Walks of the wire's writer at a transaction of the main chain. Condition: the bytes are at most 2^47. The walks of the program's MainTx. Condition: the bytes are at most 2^47. One reading behind the other. Plain. No condition. The walk of the wire's reader at an output of the main chain. Condition: the bytes are at most 2^47. -/
import Derived.Test.YtmenchnjajpkmaaGreatWParf
import Derived.Test.YtmenchnjajpkmaaGreatWPare
section
namespace Go.Proofs.YtmenchnjajpkmaaGreat.Rr
open Go Go.RowKit Mem Codec Ops Reps WtIt Arr
set_option linter.unusedVariables false

theorem zeroP_len : ([.int .i64 0, .slice none 0 0] : List Value).length = 2 := rfl
theorem zeroP_one : ∀ v ∈ ([.int .i64 0, .slice none 0 0] : List Value), v.oneCell' = true := by
  intro u hu
  simp only [List.mem_cons, List.not_mem_nil, or_false] at hu
  rcases hu with rfl | rfl <;> rfl
set_option maxHeartbeats 8000000 in
set_option maxRecDepth 100000 in
theorem readParams_ref (D : Nat → Prop) (w : World) (a : Option Addr) (c : Nat) (B : List UInt8) (hB : Byt D w (.slice a B.length c) B) (hl : B.length ≤ 140737488355328) :
    Calls Tryz.prog 19 #[.slice a B.length c] w (GotT RPm w (got WtIt.Rd.params (0, []) B)) := by
  have HB := Lib.hid hB
  obtain ⟨s, hs⟩ : ∃ s, WtIt.Rd.params ⟨B, 0⟩ = s := ⟨_, rfl⟩
  have HG := Lib.hid (show (s.1.fin = 0 → got WtIt.Rd.params (0, []) B = (s.2, 0)) ∧ (¬ s.1.fin = 0 → got WtIt.Rd.params (0, []) B = ((0, []), 120)) from ⟨fun h => by rw [got_yes (by rw [hs]; exact h), hs], fun h => by rw [got_no (by rw [hs]; exact h)]⟩)
  have HC := Lib.hid (fun w' q' h' => params_calls w' q' a c B ⟨B, 0⟩ h' hl)
  rw [hs] at HC
  have hszT : ∀ cs : List Value, cs.length = 2 → (Tryz.prog.info? 44).map (·.size) = some cs.length := fun cs h => by rw [h]; kernel_rfl
  clear hB hs
  go_enter Tryz.func19, Tryz.ntmps19
  go_upto_region 1 with (first
    | ((with_reducible refine wpList_alloc rfl _ rfl _ (zeroP _) (fun wa ka ca za => ?_)); have KA := Lib.hid ka; have CA := Lib.hid ca; clear ka ca))
  go_wp2_with fail
  refine (begin_calls _ wa a c B (HB.out.below CA.out)).mono ?_
  rintro e wb ⟨rfl, o1, o2⟩
  have O1 := Lib.hid o1
  have KA1 := Lib.hid (KA.out.below o2)
  have B1 := Lib.hid (CA.out.trans (o2.mono (by omega)))
  have hqw : w.heap.size < wa.heap.size := by omega
  have hsb := o2.size
  clear o1 o2 KA CA HB
  generalize wa.heap.size = q at *
  go_wp2_with fail
  refine (HC.out wb q O1.out).mono ?_
  rintro e wc ⟨cs, x, rfl, ox, oe, o1, o2⟩
  have HX := Lib.hid ox
  have HCL := Lib.hid (rep_pm.len ox)
  have HC1 := Lib.hid (rep_pm.one ox)
  have HSZ := Lib.hid (hszT cs (rep_pm.len ox))
  have HXE := Lib.hid oe
  have O2 := Lib.hid o1
  have KA2 := Lib.hid (KA1.out.fr o2 (by omega))
  have B2 := Lib.hid (B1.out.trans (o2.below (B := w.heap.size) B1.out.size (fun k hk => by omega)))
  have hsc := o2.size
  clear ox oe o1 o2 HC KA1 B1 O1
  go_upto_region 3 with (first
    | ((with_reducible refine wpList_alloc rfl _ rfl _ (zeroP _) (fun wd kd cd zd => ?_)); have KD := Lib.hid kd; have CD := Lib.hid cd; clear kd cd)
    | ((with_reducible refine wpList_put rfl _ _ _ rfl wc.heap.size cs _ rfl rfl KD.out HSZ.out (zeroP_len.trans HCL.out.symm) HC1.out (fun we ke fe ze => ?_)); have KE := Lib.hid ke; have CE := Lib.hid (CD.out.trans (fe.below CD.out.size (fun k (hk : k = _) => by omega))); clear ke fe))
  have O3 := Lib.hid (O2.out.below CE.out)
  have KA3 := Lib.hid (KA2.out.below CE.out)
  have B3 := Lib.hid (B2.out.trans (CE.out.mono B2.out.size))
  have HX3 := Lib.hid (rep_pm.below HX.out CE.out)
  clear O2 KA2 B2 HX KD CD CE
  go_wp2_with fail
  refine (ended_calls we q a c B _ O3.out).mono ?_
  rintro e wf ⟨rfl, o1⟩
  have KE4 := Lib.hid (KE.out.below o1)
  have KA4 := Lib.hid (KA3.out.below o1)
  have B4 := Lib.hid (B3.out.trans (o1.mono B3.out.size))
  have HX4 := Lib.hid (rep_pm.below HX3.out o1)
  have hB4 := B4.out.size
  clear o1 O3 KE KA3 B3 HX3
  by_cases hf : s.1.fin = 0
  · have hf2 : finE s.1 = 0 := if_pos hf
    have HG2 := Lib.hid (HG.out.1 hf)
    have HXX := Lib.hid (HXE.out (fin_ok hf))
    rw [hf2]
    clear hf hf2 HG
    go_wp2_with (first
      | (with_reducible refine wpList_load_blk rfl _ _ rfl wc.heap.size cs rfl KE4.out _ Tryz.underlying44 rfl HSZ.out ?_)
      | ((with_reducible refine wpList_put rfl _ _ _ rfl w.heap.size cs _ rfl rfl KA4.out HSZ.out (zeroP_len.trans HCL.out.symm) HC1.out (fun wi ki fi zi => ?_)); have KI := Lib.hid ki; have FI := Lib.hid fi; clear ki fi))
    refine bodyPost_ret (v := .tuple #[.agg cs.toArray, .int .i64 0]) (results_row2 Tryz.results19 _ _ w.heap.size _ _ rfl KI.out Tryz.underlying44 rfl HSZ.out _ rfl) rfl ?_
    rw [HG2.out, ← HXX.out]
    exact ⟨cs, rfl, rep_pm.mono (rep_pm.fr HX4.out FI.out (fun b _ h (e : b = w.heap.size) => by omega)) (fun b _ h => by omega), B4.out.trans (FI.out.below B4.out.size (fun k (hk : k = w.heap.size) => by omega))⟩
  · have hf2 : finE s.1 = 120 := if_neg hf
    have HG2 := Lib.hid (HG.out.2 hf)
    have HZL := Lib.hid (hszT ([.int .i64 0, .slice none 0 0]) zeroP_len)
    rw [hf2]
    clear hf hf2 HG
    go_wp2_with (first
      | (with_reducible refine wpList_built rfl _ [] rfl ([.int .i64 0, .slice none 0 0]) (by kernel_rfl) ?_)
      | ((with_reducible refine wpList_put rfl _ _ _ rfl w.heap.size ([.int .i64 0, .slice none 0 0]) _ rfl rfl KA4.out HZL.out rfl zeroP_one (fun wi ki fi zi => ?_)); have KI := Lib.hid ki; have FI := Lib.hid fi; clear ki fi))
    refine bodyPost_ret (v := .tuple #[.agg ([.int .i64 0, .slice none 0 0]).toArray, .int .i64 120]) (results_row2 Tryz.results19 _ _ w.heap.size _ _ rfl KI.out Tryz.underlying44 rfl HZL.out _ rfl) rfl ?_
    rw [HG2.out]
    exact ⟨_, rfl, ⟨_, rfl, Sl.nil _ _ _ _⟩, B4.out.trans (FI.out.below B4.out.size (fun k (hk : k = w.heap.size) => by omega))⟩
theorem pgot_calls (D : Nat → Prop) (w : World) (v : Value) (l : List UInt8) (hB : Byt D w v l) (hl : l.length ≤ 140737488355328) :
    Calls Tryz.prog 18 #[v] w (GotT RPm w (got WtIt.Rd.params (0, []) l)) := by
  refine (readParams_calls D w v l hB hl).mono ?_
  rintro e w' ⟨v, rfl, h1, h2⟩
  have hg : (gotP l).1 = (got WtIt.Rd.params (0, []) l).1.1 ∧ (gotP l).2.1 = (got WtIt.Rd.params (0, []) l).1.2 ∧ (gotP l).2.2 = (got WtIt.Rd.params (0, []) l).2 := by
    unfold gotP got
    split <;> exact ⟨rfl, rfl, rfl⟩
  have hlen : ∀ x ∈ (gotP l).2.1, x.length = 32 := by
    intro x hx
    have : x.map byt ∈ digs (gotP l).2.1 := List.mem_map_of_mem hx
    have := h1.2 _ this
    simpa using this
  refine ⟨[.int .i64 (gotP l).1, v], by rw [hg.1, hg.2.2], ⟨v, by rw [hg.1], digs (gotP l).2.1, h1.arr.mono (by omega) (fun b _ h => h.2), ?_⟩, h2⟩
  rw [← hg.2.1]
  have := All2.ofMap (R := RDg (fun b => w.heap.size ≤ b) w') (fun x : List UInt8 => x.map byt) id (gotP l).2.1 (fun x hx => ⟨hlen x hx, rfl⟩)
  simpa [digs] using this
end Go.Proofs.YtmenchnjajpkmaaGreat.Rr
end

section
namespace Go.Proofs.YtmenchnjajpkmaaGreat.Wt
open Go Go.RowKit Mem Codec CodecW Ww Arr Ops Rw RfW CodecN
set_option linter.unusedVariables false

section
variable {S : Nat → Prop} {w0 w w' : World} {q : Nat} {m m' : List UInt8} {bad bad' : Bool}
theorem RAt.must (H : RAt S w0 w q m bad) : RAt S w0 (w.setCell ⟨q, 1, none⟩ (.bool true)) q m true ∧ w.cell? ⟨q, 1, none⟩ = some (.bool bad) ∧ w.frozen? ⟨q, 1, none⟩ = false := by
  obtain ⟨⟨h1, v, h2, h3, h6⟩, h4, h5⟩ := H
  have hsz : (w.setCell ⟨q, 1, none⟩ (.bool true)).heap.size = w.heap.size := by simp [World.setCell]
  have hpl : ∀ k, Plus S w0 w k → Plus S w0 (w.setCell ⟨q, 1, none⟩ (.bool true)) k := fun k h => by
    rcases h with h | h
    · exact .inl h
    · exact .inr ⟨h.1, by rw [hsz]; exact h.2⟩
  have hf : Fr (fun k => k = q) w (w.setCell ⟨q, 1, none⟩ (.bool true)) := Fr.setCell (S := fun k => k = q) (p := ⟨q, 1, none⟩) (Fr.refl _ w) (.inr rfl) _
  refine ⟨⟨⟨hpl q h1, v, by simpa using h2.set 1 (.bool true), h3.fr hf (fun k hk => (h6 k hk).2), fun k hk => ⟨hpl k (h6 k hk).1, (h6 k hk).2⟩⟩, h4.trans' hf (fun i hi h => ?_), h5⟩, h2.cell rfl, h2.free 1⟩
  · have h : i = q := h
    subst h
    rcases h1 with h1 | h1
    · exact h1
    · omega
end
set_option maxHeartbeats 4000000 in
theorem rmust_calls (S : Nat → Prop) (w0 w : World) (q : Nat) (m : List UInt8) (bad ok : Bool) (H : RAt S w0 w q m bad) :
    Calls Tryz.prog 87 #[.pointer (some ⟨q, 0, none⟩), .bool ok] w fun e w' => e = .returned (.tuple #[]) ∧ RAt S w0 w' q m (bad || !ok) := by
  obtain ⟨h1, c1, f1⟩ := RAt.must H
  have H1 := Lib.hid h1
  have H0 := Lib.hid H
  clear h1 H
  cases ok
  · go_enter Tryz.func87, Tryz.ntmps87
    go_wp2
    go_end0
    exact ⟨rfl, by rw [Bool.not_false, Bool.or_true]; exact H1.out⟩
  · go_enter Tryz.func87, Tryz.ntmps87
    go_wp2
    go_end0
    exact ⟨rfl, by rw [Bool.not_true, Bool.or_false]; exact H0.out⟩
theorem byt_one (w : World) (n : Int) (c : UInt8) (hn : n = (c.toNat : Int)) : Byt Any (w.alloc (.cells #[.int .u8 n] 5)) (.slice (some ⟨w.heap.size, 0, none⟩) 1 1) [c] := (own_one w n c hn).byt.mono (fun _ _ _ => trivial)
set_option maxHeartbeats 4000000 in
theorem small_calls (S : Nat → Prop) (w0 w : World) (q : Nat) (m : List UInt8) (bad : Bool) (n lo hi : Int) (c : UInt8) (hc : IntKind.u8.wrap n = (c.toNat : Int)) (H : RAt S w0 w q m bad) (hlen : m.length + 1 ≤ 140737488355328) :
    Calls Tryz.prog 77 #[.pointer (some ⟨q, 0, none⟩), .int .i64 n, .int .i64 lo, .int .i64 hi] w fun e w' => e = .returned (.tuple #[]) ∧ RAt S w0 w' q (m ++ [c]) (bad || !(decide (lo ≤ n) && decide (n ≤ hi))) := by
  have H1 := Lib.hid H
  obtain ⟨ok, hok⟩ : ∃ ok, (decide (lo ≤ n) && decide (n ≤ hi)) = ok := ⟨_, rfl⟩
  have HC := Lib.hid (show n % 256 = (c.toNat : Int) by rw [← hc, IntKind.wrap_u8])
  rw [hok]
  clear H hc
  go_enter Tryz.func77, Tryz.ntmps77
  by_cases h1 : lo ≤ n <;> by_cases h2 : n ≤ hi
  all_goals
    simp only [decide_true, decide_false, h1, h2, Bool.and_true, Bool.and_false] at hok
    subst hok
    go_wp2_with fail
    refine (rmust_calls S w0 w q m bad _ H1.out).mono ?_
    rintro e w1 ⟨rfl, g1⟩
    have G1 := Lib.hid (RAt.below g1 (below_alloc w1 (.cells #[.int .u8 (n % 256)] 5)))
    clear g1
    go_upto_region 1 with fail
    go_wp2_with fail
    refine (raw_to _ Any w0 _ q m _ _ [c] G1.out (byt_one w1 _ c HC.out) hlen).mono ?_
    rintro e w2 ⟨rfl, r1⟩
    have GF := Lib.hid r1
    clear r1
    go_wp2
    go_end0
    exact ⟨rfl, GF.out⟩
set_option maxHeartbeats 4000000 in
theorem many_calls (S : Nat → Prop) (w0 w : World) (q : Nat) (m : List UInt8) (bad : Bool) (n : Nat) (most : Int) (H : RAt S w0 w q m bad) (hn : n < 9223372036854775808) (hlen : m.length + 9 ≤ 140737488355328) :
    Calls Tryz.prog 58 #[.pointer (some ⟨q, 0, none⟩), .int .i64 (n : Int), .int .i64 most] w fun e w' => e = .returned (.tuple #[]) ∧ RAt S w0 w' q (m ++ var n) (bad || !decide ((n : Int) ≤ most)) := by
  have H1 := Lib.hid H
  have hvl := var_len9 n
  obtain ⟨ok, hok⟩ : ∃ ok, decide ((n : Int) ≤ most) = ok := ⟨_, rfl⟩
  rw [hok]
  clear H
  go_enter Tryz.func58, Tryz.ntmps58
  go_wp2_with fail
  try rw [hok]
  refine (rmust_calls S w0 w q m bad ok H1.out).mono ?_
  rintro e w1 ⟨rfl, g1⟩
  have G1 := Lib.hid g1
  clear g1
  go_wp2_with fail
  refine (ref_var_calls w1 n (by omega)).mono ?_
  rintro e w2 ⟨a, rfl, r1, r2⟩
  have G2 := Lib.hid (RAt.below G1.out r2)
  have R1 := Lib.hid r1
  clear r1 r2
  go_wp2_with fail
  refine (raw_to _ Any w0 _ q m _ _ (var n) G2.out (R1.out.byt.mono (fun _ _ _ => trivial)) (by omega)).mono ?_
  rintro e w3 ⟨rfl, r1⟩
  have GF := Lib.hid r1
  clear r1
  go_wp2
  go_end0
  exact ⟨rfl, GF.out⟩

set_option maxHeartbeats 8000000 in
set_option maxRecDepth 100000 in
theorem rparams_to (S D : Nat → Prop) (w0 w : World) (q : Nat) (m : List UInt8) (bad : Bool) (t : Int) (v : Value) (l : List (List UInt8)) (hl : ∀ d ∈ l, d.length = 32) (hA : Arr 32 D w v (l.map (·.map byt))) (hD : ∀ k, k < w.heap.size → D k → ¬ Plus S w0 w k) (H : RAt S w0 w q m bad) (hlen : m.length + 10 + l.length * 32 ≤ 140737488355328) :
    Calls Tryz.prog 42 #[.pointer (some ⟨q, 0, none⟩), .agg #[.int .i64 t, v]] w fun e w' => e = .returned (.tuple #[]) ∧ RAt S w0 w' q (m ++ encP t l) (bad || badP t l) := by
  obtain ⟨a, c, rfl, hc1, hc2, _⟩ := id hA.form
  rw [List.length_map] at hA hc1 ⊢
  unfold maxLen at hc2
  have HB := Lib.hid (show Blk (w.alloc (.cells #[.int .i64 t, .slice a l.length c] 44)) w.heap.size [.int .i64 t, .slice a l.length c] 44 from Blk.new w _ _ _ rfl)
  have H1 := Lib.hid (H.enter (.cells #[.int .i64 t, .slice a l.length c] 44))
  have HL := Lib.hid (fun w' m' b' => @Rw.RAt.leave S w0 w w' q m bad (.cells #[.int .i64 t, .slice a l.length c] 44) m' b' H)
  have HA := Lib.hid ((hA.mono (E := fun k => k < w.heap.size ∧ D k) (by omega) (fun k h1 h2 => ⟨h1, h2⟩)).below (by omega) (below_alloc w (.cells #[.int .i64 t, .slice a l.length c] 44)))
  have HE := Lib.hid hl
  have HD := Lib.hid hD
  have HT := Lib.hid (show ∀ k, Plus S w0 w k → k < w.heap.size from H.out)
  have hz : w.heap.size < (w.alloc (.cells #[.int .i64 t, .slice a l.length c] 44)).heap.size := by simp
  obtain ⟨T, hT⟩ : ∃ T, Plus S w0 w = T := ⟨_, rfl⟩
  rw [hT] at HL H1 HD HT
  clear H hA hl hD hT
  obtain ⟨bb, hbb⟩ : ∃ bb, (bad || badP t l) = bb := ⟨_, rfl⟩
  have HBB := Lib.hid (show ((bad || !(decide (0 ≤ t) && decide (t ≤ 255))) || !decide ((l.length : Int) ≤ 16)) = bb by rw [← hbb, Bool.or_assoc]; rfl)
  rw [hbb]
  clear hbb
  go_enter Tryz.func42, Tryz.ntmps42
  go_upto_region 1 with fail
  have c0 := HB.out.cell (i := 0) rfl
  generalize (w.alloc (.cells #[.int .i64 t, .slice a l.length c] 44)) = w1 at *
  go_wp2_with fail
  refine (small_calls _ _ w1 q m bad t 0 255 (u8 t) (u8_wrap t) H1.out (by omega)).mono ?_
  rintro e w2 ⟨rfl, g1⟩
  have B2 := Lib.hid (HB.out.fr g1.2.1 (fun h => by have := HT.out _ h; omega))
  have c1 := B2.out.cell (i := 1) rfl
  have H2 := Lib.hid g1
  clear g1 c0
  go_wp2_with fail
  refine (many_calls _ _ w2 q _ _ l.length 16 H2.out (by omega) (by rw [List.length_append, List.length_singleton]; omega)).mono ?_
  rintro e w3 ⟨rfl, g1⟩
  rw [HBB.out, List.append_assoc] at g1
  have H3 := Lib.hid g1
  have hvl := var_len9 l.length
  clear g1 c1 H2 B2 H1
  go_wp2
  go_loopw [4] (fun i' wx => ∃ i : Nat, i ≤ l.length ∧ i' = .int .i64 (i : Int) ∧ RAt T w1 wx q (m ++ ([u8 t] ++ (var l.length ++ (l.take i).flatten))) bb) (fun i' _ => l.length - (intOf i').toNat)
  case atStart => exact ⟨0, Nat.zero_le _, rfl, by simpa using H3.out⟩
  case round =>
    obtain ⟨i, hi, rfl, hS⟩ := hrel
    have SX := Lib.hid hS
    have BX := HB.out.fr hS.2.1 (fun h => by have := HT.out _ h; omega)
    have cx := BX.cell (i := 1) rfl
    clear hS BX
    by_cases hlt : i < l.length
    · have hAx := HA.out.fr (by omega) SX.out.2.1 (fun b hb hd => HD.out b hd.1 hd.2)
      obtain ⟨bi, oi, ci', e0, _, r0⟩ := hAx.at i (by simpa using hlt)
      rw [List.length_map] at e0
      cases e0
      obtain ⟨g, hg⟩ : ∃ g, l[i]'hlt = g := ⟨_, rfl⟩
      have HG := Lib.hid (show g.length = 32 from hg ▸ HE.out _ (List.getElem_mem hlt))
      have HRG := Lib.hid (show wr.rangeAt bi (oi + i * 32) (g.map byt) from by simpa [hg] using r0)
      have hflen : (l.take i).flatten.length ≤ i * 32 := by
        rw [flat_len _ (fun d hd => HE.out d (List.mem_of_mem_take hd)), List.length_take]
        exact Nat.mul_le_mul_right _ (Nat.min_le_left _ _)
      have hNX := (show (l.take (i + 1)).flatten = (l.take i).flatten ++ g by rw [List.take_add_one, List.getElem?_eq_getElem hlt, hg]; simp)
      have HNX := Lib.hid hNX
      have hltI : (i : Int) < (l.length : Int) := by omega
      have h0I : (0 : Int) ≤ (i : Int) := by omega
      clear hg r0 hAx hNX
      go_wp2_with (first | (with_reducible refine wpList_load_mid rfl _ _ rfl bi (oi + i * 32) rfl (g.map byt) _ HRG.out Tryz.underlying134 rfl (szK HG.out) ?_))
      refine (Rw.digest_to _ _ wr q _ _ g HG.out SX.out (by simp only [List.length_append, List.length_singleton]; have : i * 32 + 32 ≤ l.length * 32 := by omega
                                                            omega)).mono ?_
      rintro e wc ⟨rfl, g3⟩
      have G3 := Lib.hid g3
      clear g3 SX cx
      go_wp2
      go_roundw
      case rel => exact ⟨i + 1, by omega, by go_num, by rw [HNX.out]; have := G3.out; simpa [List.append_assoc] using this⟩
      case measure => simp [intOf]; omega
    · obtain rfl : i = l.length := by omega
      have GF := Lib.hid (show RAt T w1 wr q (m ++ encP t l) bb by have := SX.out; rwa [List.take_length] at this)
      clear SX
      go_wp2
      go_end0
      exact ⟨rfl, HL.out _ _ _ GF.out⟩
set_option maxHeartbeats 4000000 in
theorem done_calls (S : Nat → Prop) (w : World) (q : Nat) (m : List UInt8) (bad : Bool) (H : RefIs S w q m bad) :
    Calls Tryz.prog 27 #[.pointer (some ⟨q, 0, none⟩)] w fun e w' => Told 0 m bad e w' ∧ w = w' := by
  obtain ⟨a, c, g2, g3, g4, _, _⟩ := H.opened
  have c0 := g2.cell (i := 0) rfl
  have c1 := g2.cell (i := 1) rfl
  have G3 := Lib.hid g3
  clear g2 g3 g4 H
  cases bad
  · go_enter Tryz.func27, Tryz.ntmps27
    go_wp2
    go_ret2
    exact ⟨⟨a, c, rfl, G3.out⟩, rfl⟩
  · go_enter Tryz.func27, Tryz.ntmps27
    go_wp2
    go_ret2
    exact ⟨⟨none, 0, rfl, OwnB.nil _ _ _⟩, rfl⟩
set_option maxHeartbeats 4000000 in
set_option maxRecDepth 100000 in
theorem rparams_calls (w : World) (t : Int) (v : Value) (l : List (List UInt8)) (hl : ∀ d ∈ l, d.length = 32) (hA : Arr 32 Any w v (l.map (·.map byt))) (hn : l.length ≤ 4398046511000) :
    Calls Tryz.prog 17 #[.agg #[.int .i64 t, v]] w fun e w' => Told 0 (encP t l) (badP t l) e w' ∧ Below w.heap.size w w' := by
  obtain ⟨a, c, rfl, hc1, hc2, _⟩ := id hA.form
  rw [List.length_map] at hA hc1 ⊢
  have HB := Lib.hid (show Blk (w.alloc (.cells #[.int .i64 t, .slice a l.length c] 44)) w.heap.size [.int .i64 t, .slice a l.length c] 44 from Blk.new w _ _ _ rfl)
  have B1 := Lib.hid (below_alloc w (.cells #[.int .i64 t, .slice a l.length c] 44))
  have hz : w.heap.size + 1 ≤ (w.alloc (.cells #[.int .i64 t, .slice a l.length c] 44)).heap.size := by simp
  have HA := Lib.hid (hA.mono (E := fun k => k < w.heap.size) (by omega) (fun k h1 _ => h1))
  clear hA
  go_enter Tryz.func17, Tryz.ntmps17
  go_upto_region 1 with fail
  generalize (w.alloc (.cells #[.int .i64 t, .slice a l.length c] 44)) = w1 at *
  have H2 := Lib.hid (Rw.RAt.start (RfW.RefIs.new w1) (fun k h => by simp; omega))
  have HB2 := Lib.hid (HB.out.alloc (.cells #[.slice none 0 0, .bool false] 61))
  have B2 := Lib.hid (B1.out.alloc (by omega) (.cells #[.slice none 0 0, .bool false] 61))
  have hs3 : w1.heap.size + 1 ≤ (w1.alloc (.cells #[.slice none 0 0, .bool false] 61)).heap.size := by simp
  clear HB B1
  go_upto_region 2 with fail
  generalize (w1.alloc (.cells #[.slice none 0 0, .bool false] 61)) = w3 at *
  have HA3 := Lib.hid (HA.out.below (by omega) B2.out)
  go_wp2_with (first | (with_reducible refine wpList_load_blk rfl _ _ rfl w.heap.size [.int .i64 t, .slice a l.length c] rfl HB2.out _ Tryz.underlying44 rfl (by kernel_rfl) ?_))
  refine (rparams_to _ (fun k => k < w.heap.size) _ w3 _ [] false t _ l hl HA3.out (fun k _ h e => by rcases e with e | e <;> omega) H2.out (by simp; omega)).mono ?_
  rintro e w4 ⟨rfl, g1⟩
  rw [List.nil_append, Bool.false_or] at g1
  have G1 := Lib.hid g1.1
  have BF := Lib.hid (B2.out.trans (show Below w.heap.size w3 w4 from g1.2.1.below (by omega) (fun k h => by omega)))
  clear g1 H2 B2 HB2
  go_wp2_with fail
  refine (done_calls _ w4 _ _ _ G1.out).mono ?_
  rintro e w5 ⟨⟨a', c', rfl, o5⟩, rfl⟩
  have O5 := Lib.hid o5
  clear o5 G1
  go_wp2
  go_ret2
  exact ⟨⟨a', c', rfl, O5.out⟩, BF.out⟩
end Go.Proofs.YtmenchnjajpkmaaGreat.Wt
end

section
namespace Go.Proofs.YtmenchnjajpkmaaGreat.Wg
open Go Go.RowKit Mem Codec CodecW Ww Rw Arr Ops Wt Reps
set_option linter.unusedVariables false

theorem plus_dis {S D : Nat → Prop} {w0 w w1 wi : World} (h : ∀ b, b < w.heap.size → D b → ¬ Plus S w0 w b) (hz : w.heap.size ≤ w1.heap.size) : ∀ b, b < wi.heap.size → (b < w.heap.size ∧ D b) → ¬ Plus (Plus S w0 w) w1 wi b := fun b _ hb e => by
  rcases e with e | e
  · exact h b hb.1 hb.2 e
  · have := e.1; omega
theorem plus_dis1 {S D : Nat → Prop} {w0 w w1 wi : World} (h : ∀ b, b < w.heap.size → D b → ¬ Plus S w0 w b) (hz : w.heap.size ≤ w1.heap.size) : ∀ b, b < wi.heap.size → (b < w.heap.size ∧ D b) → ¬ Plus S w0 w b := fun b _ hb e => h b hb.1 hb.2 e
end Go.Proofs.YtmenchnjajpkmaaGreat.Wg
end

section
namespace Go.Proofs.YtmenchnjajpkmaaGreat.Ws
open Go Go.RowKit Mem Codec CodecW Ww Rw Arr Ops Wt Reps Wg
set_option linter.unusedVariables false

set_option maxHeartbeats 4000000 in
theorem short_calls (S D : Nat → Prop) (w0 w : World) (q : Nat) (m : List UInt8) (bad : Bool) (v : Value) (b : List UInt8) (hB : Byt D w v b) (hD : ∀ k, k < w.heap.size → D k → ¬ Plus S w0 w k) (most : Int) (H : At S w0 w q m bad) (hlen : m.length + (text b).length + 9 ≤ 140737488355328) :
    Calls Tryz.prog 82 #[.pointer (some ⟨q, 0, none⟩), v, .int .i64 most] w fun e w' => e = .returned (.tuple #[]) ∧ At S w0 w' q (m ++ text b) (bad || !decide ((b.length : Int) ≤ most)) := by
  obtain ⟨va, vc, rfl, _, _⟩ := id hB
  have hlb : b.length ≤ 140737488355328 := by simp only [text, List.length_append] at hlen; omega
  have hlt : (text b).length = (var b.length).length + b.length := by simp [text]
  rw [hlt] at hlen
  have H0 := Lib.hid H.enter0
  have HL := Lib.hid (fun w' m' b' => @At.back S w0 w w' q m m' bad b' H)
  have HB := Lib.hid (hB.mono (E := fun k => k < w.heap.size ∧ D k) (fun k h1 h2 => ⟨h1, h2⟩))
  have HD := Lib.hid hD
  obtain ⟨T, hT⟩ : ∃ T, Plus S w0 w = T := ⟨_, rfl⟩
  rw [hT] at HL H0 HD
  clear H hB hD hT hlt
  obtain ⟨ok, hok⟩ : ∃ ok, decide ((b.length : Int) ≤ most) = ok := ⟨_, rfl⟩
  rw [hok]
  go_enter Tryz.func82, Tryz.ntmps82
  go_wp2_with fail
  try rw [hok]
  refine (must_calls _ _ w q m bad ok H0.out).mono ?_
  rintro e w1 ⟨rfl, g1⟩
  obtain ⟨p, k1, k2, k3⟩ := g1.opened
  have G1 := Lib.hid g1
  have HQ := Lib.hid k1
  have HW := Lib.hid k2
  have c0 := k1.cell (i := 0) rfl
  have HB1 := Lib.hid (HB.out.fr g1.2.1 (fun k _ h => HD.out k h.1 h.2))
  clear g1 k1 k2 k3
  go_wp2_with fail
  refine (text_calls _ _ w1 p m _ b HW.out HB1.out (fun k _ h e => by
    rcases e.1 with e | e
    · exact HD.out k h.1 h.2 e
    · have := e.1; omega) (by omega)).mono ?_
  rintro e w2 ⟨rfl, r1, r2⟩
  have G2 := Lib.hid (HL.out _ _ _ (G1.out.shut HQ.out r1 r2))
  clear r1 r2 c0 HW HQ G1
  go_wp2
  go_end0
  exact ⟨rfl, G2.out⟩
/-- a truth's byte -/
def tb (is : Bool) : UInt8 := if is then 1 else 0
set_option maxHeartbeats 4000000 in
theorem truth_calls (S : Nat → Prop) (w0 w : World) (q : Nat) (m : List UInt8) (bad : Bool) (is : Bool) (H : At S w0 w q m bad) (hlen : m.length + 1 ≤ 140737488355328) :
    Calls Tryz.prog 83 #[.pointer (some ⟨q, 0, none⟩), .bool is] w fun e w' => e = .returned (.tuple #[]) ∧ At S w0 w' q (m ++ [tb is]) bad := by
  obtain ⟨p, k1, k2, k3⟩ := H.opened
  have G1 := Lib.hid H
  have HQ := Lib.hid k1
  have HW := Lib.hid k2
  have c0 := k1.cell (i := 0) rfl
  clear H k1 k2 k3
  cases is
  · go_enter Tryz.func83, Tryz.ntmps83
    go_wp2_with fail
    refine (byte_calls _ w p m _ 0 rfl HW.out hlen).mono ?_
    rintro e w2 ⟨rfl, r1, r2⟩
    have G2 := Lib.hid (G1.out.shut HQ.out r1 r2)
    clear r1 r2 c0 HW HQ G1
    go_wp2
    go_end0
    exact ⟨rfl, G2.out⟩
  · go_enter Tryz.func83, Tryz.ntmps83
    go_wp2_with fail
    refine (byte_calls _ w p m _ 1 rfl HW.out hlen).mono ?_
    rintro e w2 ⟨rfl, r1, r2⟩
    have G2 := Lib.hid (G1.out.shut HQ.out r1 r2)
    clear r1 r2 c0 HW HQ G1
    go_wp2
    go_end0
    exact ⟨rfl, G2.out⟩
set_option maxHeartbeats 4000000 in
theorem rtext_calls (S D : Nat → Prop) (w0 w : World) (q : Nat) (m : List UInt8) (bad : Bool) (v : Value) (b : List UInt8) (hB : Byt D w v b) (hD : ∀ k, k < w.heap.size → D k → ¬ Plus S w0 w k) (most : Int) (H : RAt S w0 w q m bad) (hlen : m.length + (text b).length + 9 ≤ 140737488355328) :
    Calls Tryz.prog 85 #[.pointer (some ⟨q, 0, none⟩), v, .int .i64 most] w fun e w' => e = .returned (.tuple #[]) ∧ RAt S w0 w' q (m ++ text b) (bad || !decide ((b.length : Int) ≤ most)) := by
  obtain ⟨va, vc, rfl, _, _⟩ := id hB
  have hlt : (text b).length = (var b.length).length + b.length := by simp [text]
  have hlb : b.length + 9 ≤ 140737488355328 := by omega
  have H0 := Lib.hid H.enter0
  have HL := Lib.hid (fun w' m' b' => @Rw.RAt.leave0 S w0 w w' q m bad m' b' H)
  have HB := Lib.hid (hB.mono (E := fun k => k < w.heap.size ∧ D k) (fun k h1 h2 => ⟨h1, h2⟩))
  have HD := Lib.hid hD
  obtain ⟨T, hT⟩ : ∃ T, Plus S w0 w = T := ⟨_, rfl⟩
  rw [hT] at HL H0 HD
  clear H hB hD hT hlt
  obtain ⟨ok, hok⟩ : ∃ ok, decide ((b.length : Int) ≤ most) = ok := ⟨_, rfl⟩
  rw [hok]
  go_enter Tryz.func85, Tryz.ntmps85
  go_wp2_with fail
  try rw [hok]
  refine (rmust_calls _ _ w q m bad ok H0.out).mono ?_
  rintro e w1 ⟨rfl, g1⟩
  have G1 := Lib.hid g1
  have HB1 := Lib.hid (HB.out.fr g1.2.1 (fun k _ h => HD.out k h.1 h.2))
  clear g1
  go_wp2_with fail
  refine (CodecN.ref_text_calls w1 _ _ b HB1.out hlb).mono ?_
  rintro e w2 ⟨v2, rfl, o1, o2⟩
  have G2 := Lib.hid (RAt.below G1.out o2)
  have O1 := Lib.hid o1.byt
  clear o1 o2 G1
  go_wp2_with fail
  refine (raw_to _ _ _ w2 q _ _ _ _ G2.out O1.out (by omega)).mono ?_
  rintro e w3 ⟨rfl, r1⟩
  have GF := Lib.hid (HL.out _ _ _ r1)
  clear r1
  go_wp2
  go_end0
  exact ⟨rfl, GF.out⟩
set_option maxHeartbeats 4000000 in
theorem rtruth_calls (S : Nat → Prop) (w0 w : World) (q : Nat) (m : List UInt8) (bad : Bool) (is : Bool) (H : RAt S w0 w q m bad) (hlen : m.length + 1 ≤ 140737488355328) :
    Calls Tryz.prog 86 #[.pointer (some ⟨q, 0, none⟩), .bool is] w fun e w' => e = .returned (.tuple #[]) ∧ RAt S w0 w' q (m ++ [tb is]) bad := by
  cases is
  · have G1 := Lib.hid (RAt.below H (below_alloc w (.cells #[.int .u8 0] 5)))
    clear H
    go_enter Tryz.func86, Tryz.ntmps86
    go_wp2_with fail
    refine (raw_to _ Any w0 _ q m _ _ [0] G1.out (byt_one w _ 0 rfl) hlen).mono ?_
    rintro e w2 ⟨rfl, r1⟩
    have GF := Lib.hid r1
    clear r1
    go_wp2
    go_end0
    exact ⟨rfl, GF.out⟩
  · have G1 := Lib.hid (RAt.below H (below_alloc w (.cells #[.int .u8 1] 5)))
    clear H
    go_enter Tryz.func86, Tryz.ntmps86
    go_wp2_with fail
    refine (raw_to _ Any w0 _ q m _ _ [1] G1.out (byt_one w _ 1 rfl) hlen).mono ?_
    rintro e w2 ⟨rfl, r1⟩
    have GF := Lib.hid r1
    clear r1
    go_wp2
    go_end0
    exact ⟨rfl, GF.out⟩
end Go.Proofs.YtmenchnjajpkmaaGreat.Ws
end

section
namespace Go.Proofs.YtmenchnjajpkmaaGreat.Wo
open Go Go.RowKit Mem Codec CodecW Ww Rw Arr Ops Wt Reps Wg Ws
set_option linter.unusedVariables false

/-- a point of noughts -/
def zPt : List Value := List.replicate 8 (.int .u64 0) ++ [Value.bool false]
theorem builtPt (l : List (Nat × Operand)) (a : Act) (h : l = []) : Tryz.prog.built 81 (l.map fun p => (p.1, a.eval p.2)) = some zPt.toArray := by subst h; kernel_rfl
theorem eqPt0 (w : World) : (Op.equalIn 10000 81 (.agg zPt.toArray) (.agg zPt.toArray)).run Tryz.prog w = .ok true w := by kernel_rfl
set_option maxHeartbeats 8000000 in
set_option maxRecDepth 100000 in
theorem tagN_calls (S : Nat → Prop) (w0 w : World) (q : Nat) (m : List UInt8) (bad : Bool) (id : List UInt8) (hid : id.length = 32) (pc : List Value) (hpc : pc.length = 9) (eb : Bool) (heq : ∀ w, (Op.equalIn 10000 81 (.agg pc.toArray) (.agg zPt.toArray)).run Tryz.prog w = .ok eb w) (H : At S w0 w q m bad) (hlen : m.length + 33 ≤ 140737488355328) :
    Calls Tryz.prog 105 #[.pointer (some ⟨q, 0, none⟩), .agg ([Value.bool false] ++ (id.map byt ++ pc)).toArray] w fun e w' => e = .returned (.tuple #[]) ∧ At S w0 w' q (m ++ ([0] ++ id)) (bad || !eb) := by
  have KL := Lib.hid hid
  have PL := Lib.hid hpc
  have SZD := Lib.hid (Ww.szD hid)
  have SZP := Lib.hid (show (Tryz.prog.info? 81).map (·.size) = some pc.length by rw [hpc]; kernel_rfl)
  have HF0 := Lib.hid (fun (w' : World) (h : Blk w' w.heap.size ([Value.bool false] ++ (id.map byt ++ pc)) 83) => blk_one h [] (id.map byt ++ pc) (.bool false) rfl 0 rfl)
  have HF1 := Lib.hid (fun (w' : World) (h : Blk w' w.heap.size ([Value.bool false] ++ (id.map byt ++ pc)) 83) => blk_part h [Value.bool false] (id.map byt) pc rfl 1 rfl)
  have HF2 := Lib.hid (fun (w' : World) (h : Blk w' w.heap.size ([Value.bool false] ++ (id.map byt ++ pc)) 83) => blk_part h ([Value.bool false] ++ id.map byt) pc [] (by simp) 33 (by simp [hid]))
  obtain ⟨ca, hca⟩ : ∃ ca, ([Value.bool false] ++ (id.map byt ++ pc)).toArray = ca := ⟨_, rfl⟩
  have HB := Lib.hid (show Blk (w.alloc (.cells ca 83)) w.heap.size ([Value.bool false] ++ (id.map byt ++ pc)) 83 from Blk.new w _ _ _ hca.symm)
  have HX := Lib.hid (fun w' m' b' => @At.box S w0 w w' q m bad (.cells ca 83) m' b' ([Value.bool false] ++ (id.map byt ++ pc)) 83 H)
  have H1 := Lib.hid (H.enter (.cells ca 83))
  have HL := Lib.hid (fun w' m' b' => @At.leave S w0 w w' q m bad (.cells ca 83) m' b' H)
  have HQE := Lib.hid heq
  rw [hca]
  clear H hca hid hpc heq
  obtain ⟨T, hT⟩ : ∃ T, Plus S w0 w = T := ⟨_, rfl⟩
  rw [hT] at HL H1 HX
  clear hT
  go_enter Tryz.func105, Tryz.ntmps105
  go_upto_region 1 with fail
  have HB0 := Lib.hid (fun w' m' b' g => HX.out w' m' b' g HB.out)
  have B1 := Lib.hid HB.out
  clear HX HB
  generalize (w.alloc (.cells ca 83)) = w1 at *
  have d0 := HF0.out _ B1.out
  go_wp2_with fail
  refine (truth_calls _ _ w1 q m bad false H1.out (by omega)).mono ?_
  rintro e w2 ⟨rfl, g1⟩
  have H2 := Lib.hid g1
  have B2 := Lib.hid (HB0.out _ _ _ H2.out)
  clear g1 d0 H1 B1
  have d0 := HF0.out _ B2.out
  have heq := HQE.out
  go_wp2_with (first
    | (with_reducible refine wpList_load_mid rfl _ _ rfl w.heap.size 33 rfl pc _ (HF2.out _ B2.out) Tryz.underlying81 rfl SZP.out ?_)
    | (with_reducible refine wpList_built rfl _ [] rfl zPt (builtPt _ _ rfl) ?_))
  refine (must_calls _ _ w2 q _ bad eb H2.out).mono ?_
  rintro e w3 ⟨rfl, g1⟩
  have H3 := Lib.hid g1
  have B3 := Lib.hid (HB0.out _ _ _ H3.out)
  clear g1 d0 H2 B2 heq
  go_wp2_with (first | (with_reducible refine wpList_load_mid rfl _ _ rfl w.heap.size 1 rfl (id.map byt) _ (HF1.out _ B3.out) Tryz.underlying27 rfl SZD.out ?_))
  refine (digest_calls _ _ w3 q _ _ id KL.out H3.out (by simp only [List.length_append, List.length_singleton]; have := KL.out; omega)).mono ?_
  rintro e w4 ⟨rfl, g1⟩
  have HFF := Lib.hid (HL.out _ _ _ g1)
  clear g1 H3 B3 HL HB0
  go_wp2
  go_end0
  refine ⟨rfl, ?_⟩
  have := HFF.out
  simp only [List.append_assoc] at this
  exact this
set_option maxHeartbeats 8000000 in
set_option maxRecDepth 100000 in
theorem amountN_calls (S : Nat → Prop) (w0 w : World) (q : Nat) (m : List UInt8) (bad : Bool) (n : Nat) (hn : n < 18446744073709551616) (pc : List Value) (hpc : pc.length = 9) (eb : Bool) (heq : ∀ w, (Op.equalIn 10000 81 (.agg pc.toArray) (.agg zPt.toArray)).run Tryz.prog w = .ok eb w) (H : At S w0 w q m bad) (hlen : m.length + 9 ≤ 140737488355328) :
    Calls Tryz.prog 106 #[.pointer (some ⟨q, 0, none⟩), .agg ([Value.bool false] ++ ([Value.int .u64 (n : Int)] ++ pc)).toArray] w fun e w' => e = .returned (.tuple #[]) ∧ At S w0 w' q (m ++ ([0] ++ num n 8)) (bad || !eb) := by
  have PL := Lib.hid hpc
  have SZP := Lib.hid (show (Tryz.prog.info? 81).map (·.size) = some pc.length by rw [hpc]; kernel_rfl)
  have HF0 := Lib.hid (fun (w' : World) (h : Blk w' w.heap.size ([Value.bool false] ++ ([Value.int .u64 (n : Int)] ++ pc)) 85) => blk_one h [] ([Value.int .u64 (n : Int)] ++ pc) (.bool false) rfl 0 rfl)
  have HF1 := Lib.hid (fun (w' : World) (h : Blk w' w.heap.size ([Value.bool false] ++ ([Value.int .u64 (n : Int)] ++ pc)) 85) => blk_one h [Value.bool false] pc (.int .u64 (n : Int)) rfl 1 rfl)
  have HF2 := Lib.hid (fun (w' : World) (h : Blk w' w.heap.size ([Value.bool false] ++ ([Value.int .u64 (n : Int)] ++ pc)) 85) => blk_part h ([Value.bool false] ++ [Value.int .u64 (n : Int)]) pc [] (by simp) 2 (by simp))
  obtain ⟨ca, hca⟩ : ∃ ca, ([Value.bool false] ++ ([Value.int .u64 (n : Int)] ++ pc)).toArray = ca := ⟨_, rfl⟩
  have HB := Lib.hid (show Blk (w.alloc (.cells ca 85)) w.heap.size ([Value.bool false] ++ ([Value.int .u64 (n : Int)] ++ pc)) 85 from Blk.new w _ _ _ hca.symm)
  have HX := Lib.hid (fun w' m' b' => @At.box S w0 w w' q m bad (.cells ca 85) m' b' ([Value.bool false] ++ ([Value.int .u64 (n : Int)] ++ pc)) 85 H)
  have H1 := Lib.hid (H.enter (.cells ca 85))
  have HL := Lib.hid (fun w' m' b' => @At.leave S w0 w w' q m bad (.cells ca 85) m' b' H)
  have HQE := Lib.hid heq
  rw [hca]
  clear H hca hpc heq
  obtain ⟨T, hT⟩ : ∃ T, Plus S w0 w = T := ⟨_, rfl⟩
  rw [hT] at HL H1 HX
  clear hT
  go_enter Tryz.func106, Tryz.ntmps106
  go_upto_region 1 with fail
  have HB0 := Lib.hid (fun w' m' b' g => HX.out w' m' b' g HB.out)
  have B1 := Lib.hid HB.out
  clear HX HB
  generalize (w.alloc (.cells ca 85)) = w1 at *
  have d0 := HF0.out _ B1.out
  go_wp2_with fail
  refine (truth_calls _ _ w1 q m bad false H1.out (by omega)).mono ?_
  rintro e w2 ⟨rfl, g1⟩
  have H2 := Lib.hid g1
  have B2 := Lib.hid (HB0.out _ _ _ H2.out)
  clear g1 d0 H1 B1
  have d0 := HF0.out _ B2.out
  have heq := HQE.out
  go_wp2_with (first
    | (with_reducible refine wpList_load_mid rfl _ _ rfl w.heap.size 2 rfl pc _ (HF2.out _ B2.out) Tryz.underlying81 rfl SZP.out ?_)
    | (with_reducible refine wpList_built rfl _ [] rfl zPt (builtPt _ _ rfl) ?_))
  refine (must_calls _ _ w2 q _ bad eb H2.out).mono ?_
  rintro e w3 ⟨rfl, g1⟩
  have H3 := Lib.hid g1
  have B3 := Lib.hid (HB0.out _ _ _ H3.out)
  clear g1 d0 H2 B2 heq
  obtain ⟨p, h1, h2, h3⟩ := H3.out.drew.opened
  have HW := Lib.hid h2
  have HQ := Lib.hid h1
  have c0 := h1.cell (i := 0) rfl
  have cc : w3.cell? ⟨q, 0, none⟩ = some (.pointer (some ⟨p, 0, none⟩)) := c0
  have d0 := HF1.out _ B3.out
  clear h1 h2 h3
  go_wp2_with fail
  go_still_tail 6, (by kernel_rfl)
  change wpList _ _ _ _ _ w3.drew
  go_wp2_with fail
  refine (long_calls _ w3.drew p _ n hn HW.out (by simp only [List.length_append, List.length_singleton]; omega)).mono ?_
  rintro e w4 ⟨rfl, g1, g2⟩
  have HFF := Lib.hid (HL.out _ _ _ (H3.out.drew.shut HQ.out g1 g2))
  clear g1 g2 HW HQ c0 cc d0 H3 B3 HL HB0
  go_wp2
  go_end0
  refine ⟨rfl, ?_⟩
  have := HFF.out
  simp only [List.append_assoc] at this
  exact this
end Go.Proofs.YtmenchnjajpkmaaGreat.Wo
end

section
namespace Go.Proofs.YtmenchnjajpkmaaGreat.Wo
open Go Go.RowKit Mem Codec CodecW Ww Rw Arr Ops Wt Reps Wg Ws
set_option linter.unusedVariables false
set_option linter.unusedSimpArgs false

def RTg0 : (Nat → Prop) → World → List Value → List UInt8 → Prop := fun _ _ cs x => x.length = 32 ∧ cs = [Value.bool false] ++ (x.map byt ++ zPt)
def RAm0 : (Nat → Prop) → World → List Value → Nat → Prop := fun _ _ cs x => x < 18446744073709551616 ∧ cs = [Value.bool false] ++ ([Value.int .u64 (x : Int)] ++ zPt)
theorem zPt_one : ∀ v ∈ zPt, v.oneCell' = true := by
  intro v hv
  simp only [zPt, List.mem_append, List.mem_replicate, List.mem_singleton] at hv
  rcases hv with ⟨_, rfl⟩ | rfl <;> rfl
theorem rep_tg0 : Rep 42 RTg0 := rep_plain 42 (by omega) (fun x : List UInt8 => [Value.bool false] ++ (x.map byt ++ zPt)) (fun x => x.length = 32) (fun x h => by simp [h, zPt]) (fun x _ v hv => by
  simp only [List.mem_append, List.mem_singleton, List.mem_map] at hv
  rcases hv with rfl | ⟨_, _, rfl⟩ | hv
  · rfl
  · rfl
  · exact zPt_one v hv)
theorem rep_am0 : Rep 11 RAm0 := rep_plain 11 (by omega) (fun x : Nat => [Value.bool false] ++ ([Value.int .u64 (x : Int)] ++ zPt)) (fun x => x < 18446744073709551616) (fun x h => by simp [zPt]) (fun x _ v hv => by
  simp only [List.mem_append, List.mem_singleton] at hv
  rcases hv with rfl | rfl | hv
  · rfl
  · rfl
  · exact zPt_one v hv)
def encTg0 (x : List UInt8) : List UInt8 := [0] ++ x
def encAm0 (x : Nat) : List UInt8 := [0] ++ num x 8
def badNo {α : Type} (_ : α) : Bool := false
theorem tag0_calls (S D : Nat → Prop) (w0 w : World) (q : Nat) (m : List UInt8) (bad : Bool) (cs : List Value) (x : List UInt8) (hR : RTg0 D w cs x) (hD : ∀ b, b < w.heap.size → D b → ¬ Plus S w0 w b) (H : At S w0 w q m bad) (hlen : m.length + (encTg0 x).length + 9 ≤ 140737488355328) :
    Calls Tryz.prog 105 #[.pointer (some ⟨q, 0, none⟩), .agg cs.toArray] w fun e w' => e = .returned (.tuple #[]) ∧ At S w0 w' q (m ++ encTg0 x) (bad || badNo x) := by
  obtain ⟨h1, rfl⟩ := hR
  refine (tagN_calls S w0 w q m bad x h1 zPt rfl true eqPt0 H (by simp only [encTg0, List.length_append, List.length_singleton] at hlen; omega)).mono ?_
  rintro e w' ⟨h2, h3⟩
  exact ⟨h2, h3⟩
theorem amount0_calls (S D : Nat → Prop) (w0 w : World) (q : Nat) (m : List UInt8) (bad : Bool) (cs : List Value) (x : Nat) (hR : RAm0 D w cs x) (hD : ∀ b, b < w.heap.size → D b → ¬ Plus S w0 w b) (H : At S w0 w q m bad) (hlen : m.length + (encAm0 x).length + 9 ≤ 140737488355328) :
    Calls Tryz.prog 106 #[.pointer (some ⟨q, 0, none⟩), .agg cs.toArray] w fun e w' => e = .returned (.tuple #[]) ∧ At S w0 w' q (m ++ encAm0 x) (bad || badNo x) := by
  obtain ⟨h1, rfl⟩ := hR
  refine (amountN_calls S w0 w q m bad x h1 zPt rfl true eqPt0 H (by simp only [encAm0, List.length_append, List.length_singleton, num_length] at hlen; omega)).mono ?_
  rintro e w' ⟨h2, h3⟩
  exact ⟨h2, h3⟩
abbrev XOu0 := Int × (List UInt8) × Nat × List UInt8 × List UInt8 × List UInt8 × List UInt8
def ROu0 : (Nat → Prop) → World → List Value → XOu0 → Prop := (PairR RI64 (PairR RTg0 (PairR RAm0 (PairR RBy (PairR RBy (PairR RBy RBy))))))
theorem rep_Ou0 : Rep 58 ROu0 := (rep_pair rep_i64 (rep_pair rep_tg0 (rep_pair rep_am0 (rep_pair rep_by (rep_pair rep_by (rep_pair rep_by rep_by))))))
def encOu0 (x : XOu0) : List UInt8 := [u8 (x.1)] ++ (encTg0 (x.2.1) ++ (encAm0 (x.2.2.1) ++ (text (x.2.2.2.1) ++ (text (x.2.2.2.2.1) ++ (text (x.2.2.2.2.2.1) ++ text (x.2.2.2.2.2.2))))))
def badOu0 (x : XOu0) : Bool := !(decide (1 ≤ x.1) && decide (x.1 ≤ 4)) || (!decide (((x.2.2.2.1).length : Int) ≤ 6000) || (!decide (((x.2.2.2.2.1).length : Int) ≤ 6000) || (!decide (((x.2.2.2.2.2.1).length : Int) ≤ 128) || !decide (((x.2.2.2.2.2.2).length : Int) ≤ 256))))
set_option maxHeartbeats 8000000 in
set_option maxRecDepth 100000 in
theorem out0_to (S D : Nat → Prop) (w0 w : World) (q : Nat) (m : List UInt8) (bad : Bool) (cs : List Value) (x : XOu0) (hR : ROu0 D w cs x) (hD : ∀ b, b < w.heap.size → D b → ¬ Plus S w0 w b) (H : At S w0 w q m bad) (hlen : m.length + (encOu0 x).length + 9 ≤ 140737488355328) :
    Calls Tryz.prog 72 #[.pointer (some ⟨q, 0, none⟩), .agg cs.toArray] w fun e w' => e = .returned (.tuple #[]) ∧ At S w0 w' q (m ++ encOu0 x) (bad || badOu0 x) := by
  have hR1 := rep_Ou0.lt hR
  obtain ⟨a0, b0, rfl, h0, c1, b1, rfl, h1, c2, b2, rfl, h2, a3, b3, rfl, h3, a4, b4, rfl, h4, a5, b5, rfl, h5, h6⟩ := id hR1
  obtain ⟨k0, rfl⟩ := h0
  obtain ⟨v3, rfl, g3⟩ := h3
  obtain ⟨v4, rfl, g4⟩ := h4
  obtain ⟨v5, rfl, g5⟩ := h5
  obtain ⟨v6, rfl, g6⟩ := h6
  have G1 := Lib.hid (rep_tg0.below h1 (below_alloc w (.cells ([Value.int .i64 x.1] ++ (c1 ++ (c2 ++ ([v3] ++ ([v4] ++ ([v5] ++ ([v6]))))))).toArray 87)))
  have G2 := Lib.hid (rep_am0.below h2 (below_alloc w (.cells ([Value.int .i64 x.1] ++ (c1 ++ (c2 ++ ([v3] ++ ([v4] ++ ([v5] ++ ([v6]))))))).toArray 87)))
  have G3 := Lib.hid (g3.below (below_alloc w (.cells ([Value.int .i64 x.1] ++ (c1 ++ (c2 ++ ([v3] ++ ([v4] ++ ([v5] ++ ([v6]))))))).toArray 87)))
  have G4 := Lib.hid (g4.below (below_alloc w (.cells ([Value.int .i64 x.1] ++ (c1 ++ (c2 ++ ([v3] ++ ([v4] ++ ([v5] ++ ([v6]))))))).toArray 87)))
  have G5 := Lib.hid (g5.below (below_alloc w (.cells ([Value.int .i64 x.1] ++ (c1 ++ (c2 ++ ([v3] ++ ([v4] ++ ([v5] ++ ([v6]))))))).toArray 87)))
  have G6 := Lib.hid (g6.below (below_alloc w (.cells ([Value.int .i64 x.1] ++ (c1 ++ (c2 ++ ([v3] ++ ([v4] ++ ([v5] ++ ([v6]))))))).toArray 87)))
  have HCL1 := Lib.hid (rep_tg0.len h1)
  have HSZ1 := Lib.hid (show (Tryz.prog.info? 83).map (·.size) = some c1.length by rw [HCL1.out]; kernel_rfl)
  have HCL2 := Lib.hid (rep_am0.len h2)
  have HSZ2 := Lib.hid (show (Tryz.prog.info? 85).map (·.size) = some c2.length by rw [HCL2.out]; kernel_rfl)
  have HF0 := Lib.hid (fun (w' : World) (h : Blk w' w.heap.size ([Value.int .i64 x.1] ++ (c1 ++ (c2 ++ ([v3] ++ ([v4] ++ ([v5] ++ ([v6]))))))) 87) => blk_one h ([]) (c1 ++ (c2 ++ ([v3] ++ ([v4] ++ ([v5] ++ ([v6])))))) (Value.int .i64 x.1) (by simp) 0 (by simp [HCL1.out, HCL2.out]))
  have HF1 := Lib.hid (fun (w' : World) (h : Blk w' w.heap.size ([Value.int .i64 x.1] ++ (c1 ++ (c2 ++ ([v3] ++ ([v4] ++ ([v5] ++ ([v6]))))))) 87) => blk_part h ([Value.int .i64 x.1]) (c1) (c2 ++ ([v3] ++ ([v4] ++ ([v5] ++ ([v6]))))) (by simp) 1 (by simp [HCL1.out, HCL2.out]))
  have HF2 := Lib.hid (fun (w' : World) (h : Blk w' w.heap.size ([Value.int .i64 x.1] ++ (c1 ++ (c2 ++ ([v3] ++ ([v4] ++ ([v5] ++ ([v6]))))))) 87) => blk_part h ([Value.int .i64 x.1] ++ (c1)) (c2) ([v3] ++ ([v4] ++ ([v5] ++ ([v6])))) (by simp) 43 (by simp [HCL1.out, HCL2.out]))
  have HF3 := Lib.hid (fun (w' : World) (h : Blk w' w.heap.size ([Value.int .i64 x.1] ++ (c1 ++ (c2 ++ ([v3] ++ ([v4] ++ ([v5] ++ ([v6]))))))) 87) => blk_one h ([Value.int .i64 x.1] ++ (c1 ++ (c2))) ([v4] ++ ([v5] ++ ([v6]))) (v3) (by simp) 54 (by simp [HCL1.out, HCL2.out]))
  have HF4 := Lib.hid (fun (w' : World) (h : Blk w' w.heap.size ([Value.int .i64 x.1] ++ (c1 ++ (c2 ++ ([v3] ++ ([v4] ++ ([v5] ++ ([v6]))))))) 87) => blk_one h ([Value.int .i64 x.1] ++ (c1 ++ (c2 ++ ([v3])))) ([v5] ++ ([v6])) (v4) (by simp) 55 (by simp [HCL1.out, HCL2.out]))
  have HF5 := Lib.hid (fun (w' : World) (h : Blk w' w.heap.size ([Value.int .i64 x.1] ++ (c1 ++ (c2 ++ ([v3] ++ ([v4] ++ ([v5] ++ ([v6]))))))) 87) => blk_one h ([Value.int .i64 x.1] ++ (c1 ++ (c2 ++ ([v3] ++ ([v4]))))) ([v6]) (v5) (by simp) 56 (by simp [HCL1.out, HCL2.out]))
  have HF6 := Lib.hid (fun (w' : World) (h : Blk w' w.heap.size ([Value.int .i64 x.1] ++ (c1 ++ (c2 ++ ([v3] ++ ([v4] ++ ([v5] ++ ([v6]))))))) 87) => blk_one h ([Value.int .i64 x.1] ++ (c1 ++ (c2 ++ ([v3] ++ ([v4] ++ ([v5])))))) ([]) (v6) (by simp) 57 (by simp [HCL1.out, HCL2.out]))
  obtain ⟨ca, hca⟩ : ∃ ca, ([Value.int .i64 x.1] ++ (c1 ++ (c2 ++ ([v3] ++ ([v4] ++ ([v5] ++ ([v6]))))))).toArray = ca := ⟨_, rfl⟩
  have HB := Lib.hid (show Blk (w.alloc (.cells ca 87)) w.heap.size ([Value.int .i64 x.1] ++ (c1 ++ (c2 ++ ([v3] ++ ([v4] ++ ([v5] ++ ([v6]))))))) 87 from Blk.new w _ _ _ hca.symm)
  have HX := Lib.hid (fun w' m' b' => @At.box S w0 w w' q m bad (.cells ca 87) m' b' ([Value.int .i64 x.1] ++ (c1 ++ (c2 ++ ([v3] ++ ([v4] ++ ([v5] ++ ([v6]))))))) 87 H)
  have H1 := Lib.hid (H.enter (.cells ca 87))
  have HL := Lib.hid (fun w' m' b' => @At.leave S w0 w w' q m bad (.cells ca 87) m' b' H)
  have HD := Lib.hid hD
  have hz : (w.alloc (.cells ca 87)).heap.size = w.heap.size + 1 := by simp
  simp only [encOu0, List.length_append, num_length, List.length_cons, List.length_nil] at hlen
  rw [hca] at G1 G2 G3 G4 G5 G6 ⊢
  clear H hR hR1 hca hD h1 h2 g3 g4 g5 g6
  obtain ⟨T, hT⟩ : ∃ T, Plus S w0 w = T := ⟨_, rfl⟩
  rw [hT] at HL H1 HX HD
  clear hT
  go_enter Tryz.func72, Tryz.ntmps72
  go_upto_region 1 with fail
  have HB0 := Lib.hid (fun w' m' b' g => HX.out w' m' b' g HB.out)
  have B1 := Lib.hid HB.out
  clear HX HB
  generalize (w.alloc (.cells ca 87)) = w1 at *
  have HD2 := Lib.hid (show ∀ wi : World, ∀ b, b < wi.heap.size → (b < w.heap.size ∧ D b) → ¬ Plus T w1 wi b from fun wi b _ hb e => by
    rcases e with e | e
    · exact HD.out b hb.1 hb.2 e
    · have := e.1; omega)
  have d0 := HF0.out _ B1.out
  go_wp2_with fail
  refine (kind_calls _ _ w1 q _ _ (x.1) 1 4 (u8 (x.1)) (u8_wrap _) H1.out (by (try simp only [List.length_append, num_length, List.length_cons, List.length_nil]); omega)).mono ?_
  rintro e w2 ⟨rfl, g1⟩
  have H2 := Lib.hid g1
  have B2 := Lib.hid (HB0.out _ _ _ H2.out)
  clear g1 d0 H1 B1
  go_wp2_with (first | (with_reducible refine wpList_load_mid rfl _ _ rfl w.heap.size 1 rfl c1 _ (HF1.out _ B2.out) Tryz.underlying83 rfl HSZ1.out ?_))
  refine (tag0_calls _ _ _ w2 q _ _ c1 (x.2.1) (rep_tg0.fr G1.out H2.out.2.1 (fun b _ h => HD.out b h.1 h.2)) (HD2.out _) H2.out (by (try simp only [List.length_append, num_length, List.length_cons, List.length_nil]); omega)).mono ?_
  rintro e w3 ⟨rfl, g1⟩
  have H3 := Lib.hid g1
  have B3 := Lib.hid (HB0.out _ _ _ H3.out)
  clear g1 H2 B2
  go_wp2_with (first | (with_reducible refine wpList_load_mid rfl _ _ rfl w.heap.size 43 rfl c2 _ (HF2.out _ B3.out) Tryz.underlying85 rfl HSZ2.out ?_))
  refine (amount0_calls _ _ _ w3 q _ _ c2 (x.2.2.1) (rep_am0.fr G2.out H3.out.2.1 (fun b _ h => HD.out b h.1 h.2)) (HD2.out _) H3.out (by (try simp only [List.length_append, num_length, List.length_cons, List.length_nil]); omega)).mono ?_
  rintro e w4 ⟨rfl, g1⟩
  have H4 := Lib.hid g1
  have B4 := Lib.hid (HB0.out _ _ _ H4.out)
  clear g1 H3 B3
  have d0 := HF3.out _ B4.out
  go_wp2_with fail
  refine (short_calls _ _ _ w4 q _ _ _ (x.2.2.2.1) (G3.out.fr H4.out.2.1 (fun b _ h => HD.out b h.1 h.2)) (HD2.out _) 6000 H4.out (by (try simp only [List.length_append, num_length, List.length_cons, List.length_nil]); omega)).mono ?_
  rintro e w5 ⟨rfl, g1⟩
  have H5 := Lib.hid g1
  have B5 := Lib.hid (HB0.out _ _ _ H5.out)
  clear g1 d0 H4 B4
  have d0 := HF4.out _ B5.out
  go_wp2_with fail
  refine (short_calls _ _ _ w5 q _ _ _ (x.2.2.2.2.1) (G4.out.fr H5.out.2.1 (fun b _ h => HD.out b h.1 h.2)) (HD2.out _) 6000 H5.out (by (try simp only [List.length_append, num_length, List.length_cons, List.length_nil]); omega)).mono ?_
  rintro e w6 ⟨rfl, g1⟩
  have H6 := Lib.hid g1
  have B6 := Lib.hid (HB0.out _ _ _ H6.out)
  clear g1 d0 H5 B5
  have d0 := HF5.out _ B6.out
  go_wp2_with fail
  refine (short_calls _ _ _ w6 q _ _ _ (x.2.2.2.2.2.1) (G5.out.fr H6.out.2.1 (fun b _ h => HD.out b h.1 h.2)) (HD2.out _) 128 H6.out (by (try simp only [List.length_append, num_length, List.length_cons, List.length_nil]); omega)).mono ?_
  rintro e w7 ⟨rfl, g1⟩
  have H7 := Lib.hid g1
  have B7 := Lib.hid (HB0.out _ _ _ H7.out)
  clear g1 d0 H6 B6
  have d0 := HF6.out _ B7.out
  go_wp2_with fail
  refine (short_calls _ _ _ w7 q _ _ _ (x.2.2.2.2.2.2) (G6.out.fr H7.out.2.1 (fun b _ h => HD.out b h.1 h.2)) (HD2.out _) 256 H7.out (by (try simp only [List.length_append, num_length, List.length_cons, List.length_nil]); omega)).mono ?_
  rintro e w8 ⟨rfl, g1⟩
  have H8 := Lib.hid g1
  have B8 := Lib.hid (HB0.out _ _ _ H8.out)
  clear g1 d0 H7 B7
  have HFF := Lib.hid (HL.out _ _ _ H8.out)
  clear H8 B8 HL HB0
  go_wp2
  go_end0
  refine ⟨rfl, ?_⟩
  have := HFF.out
  simp only [badNo, Bool.or_false, List.append_assoc, Bool.or_assoc] at this
  exact this
set_option maxHeartbeats 8000000 in
set_option maxRecDepth 100000 in
theorem writtenOut0_calls (w : World) (cs : List Value) (x : _) (hR : ROu0 Any w cs x) (hn : (encOu0 x).length + 9 ≤ 140737488355328) :
    Calls Tryz.prog 71 #[.agg cs.toArray, .func (.func 72) #[] #[]] w fun e w' => Wt.Told w.heap.size (encOu0 x) (badOu0 x) e w' ∧ Below w.heap.size w w' := by
  obtain ⟨ca, hca⟩ : ∃ ca, cs.toArray = ca := ⟨_, rfl⟩
  have HB := Lib.hid (show Blk (w.alloc (.cells ca 87)) w.heap.size cs 87 from Blk.new w _ _ _ hca.symm)
  have B1 := Lib.hid (below_alloc w (.cells ca 87))
  have hz : w.heap.size + 1 ≤ (w.alloc (.cells ca 87)).heap.size := by simp
  have HA := Lib.hid (rep_Ou0.mono hR (E := fun k => k < w.heap.size) (fun k h1 _ => h1))
  have HSZ := Lib.hid (show (Tryz.prog.info? 87).map (·.size) = some cs.length by rw [rep_Ou0.len hR]; kernel_rfl)
  obtain ⟨en, hen⟩ : ∃ en, encOu0 x = en := ⟨_, rfl⟩
  obtain ⟨bb, hbb⟩ : ∃ bb, badOu0 x = bb := ⟨_, rfl⟩
  have HLN := Lib.hid (show en.length ≤ 140737488355328 by rw [← hen]; omega)
  have HN := Lib.hid hn
  rw [hen, hbb]
  have HEN := Lib.hid hen
  have HBB := Lib.hid hbb
  have HCA := Lib.hid hca
  rw [hca]
  clear hR hn hen hbb hca
  go_enter Tryz.func71, Tryz.ntmps71
  go_upto_region 1 with fail
  generalize (w.alloc (.cells ca 87)) = w1 at *
  go_wp2_with fail
  refine (CodecW.new_calls w1).mono ?_
  rintro e w2 ⟨p, rfl, hp1, hp2, hp3⟩
  have hs2 := hp3.size
  have H2 := Lib.hid (Wh.made_at hp2)
  have HB2 := Lib.hid ((HB.out.below hp3).alloc (.cells #[.pointer (some ⟨p, 0, none⟩), .bool false] 106))
  have B2 := Lib.hid ((B1.out.trans (hp3.mono (by omega))).alloc (by have := B1.out.size; omega) (.cells #[.pointer (some ⟨p, 0, none⟩), .bool false] 106))
  have hs3 : w2.heap.size + 1 = (w2.alloc (.cells #[.pointer (some ⟨p, 0, none⟩), .bool false] 106)).heap.size := by simp
  have hpw : w.heap.size < p := by omega
  clear hp2 hp3 HB B1
  go_upto_region 2 with fail
  generalize (w2.alloc (.cells #[.pointer (some ⟨p, 0, none⟩), .bool false] 106)) = w3 at *
  have HA3 := Lib.hid (rep_Ou0.below HA.out B2.out)
  go_wp2_with (first | (with_reducible refine wpList_load_blk rfl _ _ rfl w.heap.size cs rfl HB2.out _ Tryz.underlying87 rfl HSZ.out ?_))
  refine (out0_to _ (fun k => k < w.heap.size) _ w3 _ [] false cs x HA3.out (fun k _ h e => by rcases e with (e | e) | e <;> omega) H2.out (by have := HN.out; simp; omega)).mono ?_
  rintro e w4 ⟨rfl, g1⟩
  obtain ⟨⟨g2, p2, g3, g4⟩, g5, g6⟩ := id g1
  have hg5 := g5.size
  have c1 := g3.cell (i := 1) rfl
  have c0 := g3.cell (i := 0) rfl
  have HW := Lib.hid g4
  have B4 := Lib.hid (B2.out.trans (show Below w.heap.size w3 w4 from g5.below (by omega) (fun k h => by omega)))
  have hb4 := B4.out.size
  rw [List.nil_append, Bool.false_or] at *
  clear g1 g2 g3 g4 g5 g6 H2 HB2 B2 HA HA3
  rw [HEN.out] at HW
  rw [HBB.out] at c1
  clear HEN HBB HN
  cases bb
  · go_wp2_with fail
    refine (CodecR.bytes_calls _ w4 p2 _ HW.out HLN.out).mono ?_
    rintro e w5 ⟨a, c, rfl, g1, g2⟩
    have G1 := Lib.hid g1
    have BF := Lib.hid (B4.out.trans (g2.mono hb4))
    clear g1 g2 c0 c1 HW B4
    go_wp2
    go_ret2
    exact ⟨⟨a, c, rfl, G1.out.mono hb4⟩, BF.out⟩
  · go_wp2
    go_ret2
    exact ⟨⟨none, 0, rfl, OwnB.nil _ _ _⟩, B4.out⟩
set_option maxHeartbeats 4000000 in
set_option maxRecDepth 100000 in
theorem Out0_told (w : World) (cs : List Value) (x : _) (hR : ROu0 Any w cs x) (hn : (encOu0 x).length + 9 ≤ 140737488355328) :
    Calls Tryz.prog 36 #[.agg cs.toArray] w fun e w' => Wt.Told w.heap.size (encOu0 x) (badOu0 x) e w' ∧ Below w.heap.size w w' := by
  obtain ⟨ca, hca⟩ : ∃ ca, cs.toArray = ca := ⟨_, rfl⟩
  have HB := Lib.hid (show Blk (w.alloc (.cells ca 87)) w.heap.size cs 87 from Blk.new w _ _ _ hca.symm)
  have B1 := Lib.hid (below_alloc w (.cells ca 87))
  have hz : w.heap.size + 1 = (w.alloc (.cells ca 87)).heap.size := by simp
  have HA := Lib.hid (rep_Ou0.below hR B1.out)
  have HSZ := Lib.hid (show (Tryz.prog.info? 87).map (·.size) = some cs.length by rw [rep_Ou0.len hR]; kernel_rfl)
  have HCA := Lib.hid hca
  rw [hca]
  clear hR hca
  go_enter Tryz.func36, Tryz.ntmps36
  go_upto_region 1 with fail
  generalize (w.alloc (.cells ca 87)) = w1 at *
  go_wp2_with (first | (with_reducible refine wpList_load_blk rfl _ _ rfl w.heap.size cs rfl HB.out _ Tryz.underlying87 rfl HSZ.out ?_))
  refine (writtenOut0_calls w1 cs x HA.out hn).mono ?_
  rintro e w2 ⟨⟨a, c, rfl, g1⟩, g2⟩
  have G1 := Lib.hid g1
  have G2 := Lib.hid (B1.out.trans (g2.mono (by omega)))
  clear g1 g2 B1 HB HA
  go_wp2
  go_ret2
  exact ⟨⟨a, c, rfl, G1.out.mono (by omega)⟩, G2.out⟩
end Go.Proofs.YtmenchnjajpkmaaGreat.Wo
end

section
namespace Go.Proofs.YtmenchnjajpkmaaGreat.Wm
open Go Go.RowKit Mem Codec CodecW Ww Rw Arr Ops Wt Reps Wg
set_option linter.unusedVariables false
set_option linter.unusedSimpArgs false

abbrev XMo := Nat × List UInt8
def RMo : (Nat → Prop) → World → List Value → XMo → Prop := (PairR RU64 (RDgs 32))
theorem rep_Mo : Rep 33 RMo := (rep_pair rep_u64 (rep_dgs 32 (by omega)))
def encMo (x : Nat × List UInt8) : List UInt8 := num x.1 8 ++ x.2
def badMo (_ : Nat × List UInt8) : Bool := false
theorem zeroMo (w : World) : (zeroValue 76).run Tryz.prog w = .ok (.agg (Value.int .u64 0 :: List.replicate 32 (Value.int .u8 0)).toArray) w := by kernel_rfl
theorem zeroMo_len : (Value.int .u64 0 :: List.replicate 32 (Value.int .u8 0)).length = 33 := rfl
set_option maxHeartbeats 8000000 in
set_option maxRecDepth 100000 in
theorem mainOut_calls (S D : Nat → Prop) (w0 w : World) (q : Nat) (m : List UInt8) (bad : Bool) (cs : List Value) (x : XMo) (hR : RMo D w cs x) (hD : ∀ b, b < w.heap.size → D b → ¬ Plus S w0 w b) (H : At S w0 w q m bad) (hlen : m.length + (encMo x).length + 9 ≤ 140737488355328) :
    Calls Tryz.prog 56 #[.pointer (some ⟨q, 0, none⟩), .agg cs.toArray] w fun e w' => e = .returned (.tuple #[]) ∧ At S w0 w' q (m ++ encMo x) (bad || badMo x) := by
  have hR1 := rep_Mo.lt hR
  obtain ⟨a0, b0, rfl, h0, h1⟩ := id hR1
  obtain ⟨k0, rfl⟩ := h0
  obtain ⟨k1, rfl⟩ := h1
  have KL1 := Lib.hid k1
  have HF0 := Lib.hid (fun (w' : World) (h : Blk w' w.heap.size ([Value.int .u64 (x.1 : Int)] ++ (x.2.map byt)) 76) => blk_one h ([]) (x.2.map byt) (Value.int .u64 (x.1 : Int)) (by simp) 0 (by simp [KL1.out]))
  have HF1 := Lib.hid (fun (w' : World) (h : Blk w' w.heap.size ([Value.int .u64 (x.1 : Int)] ++ (x.2.map byt)) 76) => blk_part h ([Value.int .u64 (x.1 : Int)]) (x.2.map byt) ([]) (by simp) 1 (by simp [KL1.out]))
  obtain ⟨ca, hca⟩ : ∃ ca, ([Value.int .u64 (x.1 : Int)] ++ (x.2.map byt)).toArray = ca := ⟨_, rfl⟩
  have HB := Lib.hid (show Blk (w.alloc (.cells ca 76)) w.heap.size ([Value.int .u64 (x.1 : Int)] ++ (x.2.map byt)) 76 from Blk.new w _ _ _ hca.symm)
  have HX := Lib.hid (fun w' m' b' => @At.box S w0 w w' q m bad (.cells ca 76) m' b' ([Value.int .u64 (x.1 : Int)] ++ (x.2.map byt)) 76 H)
  have H1 := Lib.hid (H.enter (.cells ca 76))
  have HL := Lib.hid (fun w' m' b' => @At.leave S w0 w w' q m bad (.cells ca 76) m' b' H)
  have HD := Lib.hid hD
  have hz : (w.alloc (.cells ca 76)).heap.size = w.heap.size + 1 := by simp
  simp only [encMo, List.length_append, num_length, List.length_cons, List.length_nil] at hlen
  rw [hca]
  clear H hR hR1 hca hD
  obtain ⟨T, hT⟩ : ∃ T, Plus S w0 w = T := ⟨_, rfl⟩
  rw [hT] at HL H1 HX HD
  clear hT
  go_enter Tryz.func56, Tryz.ntmps56
  go_upto_region 1 with fail
  have HB0 := Lib.hid (fun w' m' b' g => HX.out w' m' b' g HB.out)
  have B1 := Lib.hid HB.out
  clear HX HB
  generalize (w.alloc (.cells ca 76)) = w1 at *
  have HD2 := Lib.hid (show ∀ wi : World, ∀ b, b < wi.heap.size → (b < w.heap.size ∧ D b) → ¬ Plus T w1 wi b from fun wi b _ hb e => by
    rcases e with e | e
    · exact HD.out b hb.1 hb.2 e
    · have := e.1; omega)
  obtain ⟨p, h1, h2, h3⟩ := H1.out.drew.opened
  have HW := Lib.hid h2
  have HQ := Lib.hid h1
  have c0 := h1.cell (i := 0) rfl
  have cc : w1.cell? ⟨q, 0, none⟩ = some (.pointer (some ⟨p, 0, none⟩)) := c0
  have d0 := HF0.out _ B1.out
  clear h1 h2 h3
  go_wp2_with fail
  go_still_tail 6, (by kernel_rfl)
  change wpList _ _ _ _ _ w1.drew
  go_wp2_with fail
  refine (long_calls _ w1.drew p _ x.1 k0 HW.out (by (try simp only [List.length_append, num_length]); omega)).mono ?_
  rintro e w2 ⟨rfl, g1, g2⟩
  have g3 := H1.out.drew.shut HQ.out g1 g2
  have H2 := Lib.hid g3
  have B2 := Lib.hid (HB0.out _ _ _ H2.out)
  clear g1 g2 g3 HW HQ c0 cc d0 H1 B1
  have SZ := Lib.hid (Ww.szD (d := x.2) k1)
  go_wp2_with (first | (with_reducible refine wpList_load_mid rfl _ _ rfl w.heap.size 1 rfl (x.2.map byt) _ (HF1.out _ B2.out) Tryz.underlying27 rfl SZ.out ?_))
  refine (digest_calls _ _ w2 q _ _ x.2 KL1.out H2.out (by (try simp only [List.length_append, num_length]); have := KL1.out; omega)).mono ?_
  rintro e w3 ⟨rfl, g1⟩
  have H3 := Lib.hid g1
  have B3 := Lib.hid (HB0.out _ _ _ H3.out)
  clear g1 H2 B2 SZ
  have HFF := Lib.hid (HL.out _ _ _ H3.out)
  clear H3 B3 HL HB0
  go_wp2
  go_end0
  refine ⟨rfl, ?_⟩
  have := HFF.out
  simpa [encMo, badMo, List.append_assoc] using this
set_option maxHeartbeats 8000000 in
set_option maxRecDepth 100000 in
theorem listMo_calls (S D : Nat → Prop) (w0 w : World) (q : Nat) (m : List UInt8) (bad : Bool) (v : Value) (l : List _) (hA : Sl 33 RMo D w v l) (hD : ∀ b, b < w.heap.size → D b → ¬ Plus S w0 w b) (most : Int) (H : At S w0 w q m bad) (hlen : m.length + (var l.length).length + (l.flatMap encMo).length + 9 ≤ 140737488355328) :
    Calls Tryz.prog 55 #[.pointer (some ⟨q, 0, none⟩), v, .int .i64 most, .func (.func 56) #[] #[]] w fun e w' => e = .returned (.tuple #[]) ∧ At S w0 w' q (m ++ (var l.length ++ l.flatMap encMo)) (bad || !decide ((l.length : Int) ≤ most) || l.any badMo) := by
  obtain ⟨a, c, rfl, hc1, hc2, _⟩ := hA.form
  unfold maxLen at hc2
  have HL := Lib.hid (fun w' m' b' => @At.back S w0 w w' q m m' bad b' H)
  have H0 := Lib.hid H.enter0
  have HA := Lib.hid (hA.mono rep_Mo (E := fun b => b < w.heap.size ∧ D b) (fun b h1 h2 => ⟨h1, h2⟩))
  have HD := Lib.hid hD
  have hvl := var_len9 l.length
  obtain ⟨T, hT⟩ : ∃ T, Plus S w0 w = T := ⟨_, rfl⟩
  rw [hT] at HL H0 HD
  clear H hA hD hT
  obtain ⟨ok, hok⟩ : ∃ ok, decide ((l.length : Int) ≤ most) = ok := ⟨_, rfl⟩
  rw [hok]
  go_enter Tryz.func55, Tryz.ntmps55
  go_wp2_with fail
  try rw [hok]
  refine (must_calls _ _ w q m bad ok H0.out).mono ?_
  rintro e w1 ⟨rfl, g1⟩
  obtain ⟨p, k1, k2, k3⟩ := g1.opened
  have G1 := Lib.hid g1
  have HQ := Lib.hid k1
  have HW := Lib.hid k2
  have c0 := k1.cell (i := 0) rfl
  clear g1 k1 k2 k3
  go_wp2_with fail
  refine (var_calls _ w1 p m l.length (by omega) HW.out (by omega)).mono ?_
  rintro e w2 ⟨rfl, r1, r2⟩
  have G2 := Lib.hid (G1.out.shut HQ.out r1 r2)
  clear r1 r2 c0 HW HQ G1
  go_wp2
  go_loopw [26] (fun i' wx => ∃ i : Nat, i ≤ l.length ∧ i' = .int .i64 (i : Int) ∧ At T w wx q (m ++ (var l.length ++ (l.take i).flatMap encMo)) (bad || !ok || (l.take i).any badMo)) (fun i' _ => l.length - (intOf i').toNat)
  case atStart => exact ⟨0, Nat.zero_le _, rfl, by simpa using G2.out⟩
  case round =>
    obtain ⟨i, hi, rfl, hS⟩ := hrel
    have SX := Lib.hid hS
    clear hS
    by_cases hlt : i < l.length
    · obtain ⟨bi, oi, ci', cs, e0, _, r0, r1⟩ := (HA.out.fr rep_Mo SX.out.2.1 (fun b hb hd => HD.out b hb hd.2)).at i hlt
      cases e0
      obtain ⟨g, hg⟩ : ∃ g, l[i]'hlt = g := ⟨_, rfl⟩
      rw [hg] at r1
      have HR := Lib.hid r1
      have HCL := Lib.hid (rep_Mo.len r1)
      have HC1 := Lib.hid (rep_Mo.one r1)
      have HSZ := Lib.hid (show (Tryz.prog.info? 76).map (·.size) = some cs.length by rw [HCL.out]; kernel_rfl)
      have HRG := Lib.hid r0
      have hNX : (l.take (i + 1)).flatMap encMo = (l.take i).flatMap encMo ++ encMo g := by rw [List.take_add_one, List.getElem?_eq_getElem hlt, hg]; simp
      have hNB := Lib.hid (show (l.take (i + 1)).any badMo = ((l.take i).any badMo || badMo g) by rw [List.take_add_one, List.getElem?_eq_getElem hlt, hg]; simp)
      have hflen : ((l.take i).flatMap encMo).length + (encMo g).length ≤ (l.flatMap encMo).length := by
        have := congrArg List.length hNX
        rw [List.length_append] at this
        rw [← this]
        conv => rhs; rw [← List.take_append_drop (i + 1) l, List.flatMap_append, List.length_append]
        omega
      have HNX := Lib.hid hNX
      have hltI : (i : Int) < (l.length : Int) := by omega
      have h0I : (0 : Int) ≤ (i : Int) := by omega
      clear hg r0 r1 hNX
      go_upto_region 5 with (first
        | (with_reducible refine wpList_load_mid rfl _ _ rfl bi (oi + i * 33) rfl cs _ HRG.out Tryz.underlying76 rfl HSZ.out ?_)
        | ((with_reducible refine wpList_alloc rfl _ rfl _ (zeroMo _) (fun wa ka ca za => ?_)); have KA := Lib.hid ka; have CA := Lib.hid ca; clear ka ca)
        | ((with_reducible refine wpList_put rfl _ _ _ rfl wr.heap.size cs _ rfl rfl KA.out HSZ.out (zeroMo_len.trans HCL.out.symm) HC1.out (fun wb kb fb zb => ?_)); have KB := Lib.hid kb; have CB := Lib.hid (CA.out.trans (fb.below CA.out.size (fun k hk => by have : k = wr.heap.size := hk; omega))); have SB := Lib.hid (At.below SX.out CB.out); have HRB := Lib.hid (rep_Mo.below HR.out CB.out); clear kb fb))
      have HD2 := Lib.hid (show ∀ b, b < wb.heap.size → (b < w.heap.size ∧ D b) → ¬ Plus T w wb b from fun b _ h e => by
        rcases e with e | e
        · exact HD.out b h.1 h.2 e
        · have := e.1; omega)
      clear KA CA HRG CB SX HR
      generalize wr.heap.size = gb at *
      go_wp2_with (first | (with_reducible refine wpList_load_blk rfl _ _ rfl gb cs rfl KB.out _ Tryz.underlying76 rfl HSZ.out ?_))
      refine (mainOut_calls _ _ _ wb q _ _ cs g HRB.out HD2.out SB.out (by simp only [List.length_append]; omega)).mono ?_
      rintro e wc ⟨rfl, g3⟩
      have G3 := Lib.hid g3
      clear g3 SB KB
      go_wp2
      go_roundw
      case rel => exact ⟨i + 1, by omega, by go_num, by rw [HNX.out, hNB.out]; have := G3.out; simpa [List.append_assoc, Bool.or_assoc] using this⟩
      case measure => simp [intOf]; omega
    · obtain rfl : i = l.length := by omega
      have GF := Lib.hid (show At T w wr q (m ++ (var l.length ++ l.flatMap encMo)) (bad || !ok || l.any badMo) by have := SX.out; rwa [List.take_length] at this)
      clear SX
      go_wp2
      go_end0
      exact ⟨rfl, HL.out _ _ _ GF.out⟩
abbrev XMt := Nat × (List (Nat × List UInt8))
def RMt : (Nat → Prop) → World → List Value → XMt → Prop := (PairR RU64 (RSl 33 RMo))
theorem rep_Mt : Rep 2 RMt := (rep_pair rep_u64 (rep_rsl rep_Mo))
def encMt (x : XMt) : List UInt8 := num x.1 8 ++ (var x.2.length ++ x.2.flatMap encMo)
def badMt (x : XMt) : Bool := !decide ((x.2.length : Int) ≤ 16) || x.2.any badMo
set_option maxHeartbeats 8000000 in
set_option maxRecDepth 100000 in
theorem mainTx_to (S D : Nat → Prop) (w0 w : World) (q : Nat) (m : List UInt8) (bad : Bool) (cs : List Value) (x : XMt) (hR : RMt D w cs x) (hD : ∀ b, b < w.heap.size → D b → ¬ Plus S w0 w b) (H : At S w0 w q m bad) (hlen : m.length + (encMt x).length + 9 ≤ 140737488355328) :
    Calls Tryz.prog 25 #[.pointer (some ⟨q, 0, none⟩), .agg cs.toArray] w fun e w' => e = .returned (.tuple #[]) ∧ At S w0 w' q (m ++ encMt x) (bad || badMt x) := by
  have hR1 := rep_Mt.lt hR
  obtain ⟨a0, b0, rfl, h0, h1⟩ := id hR1
  obtain ⟨k0, rfl⟩ := h0
  obtain ⟨v1, rfl, g1⟩ := h1
  have G1 := Lib.hid (g1.below rep_Mo (below_alloc w (.cells ([Value.int .u64 (x.1 : Int)] ++ ([v1])).toArray 25)))
  have HF0 := Lib.hid (fun (w' : World) (h : Blk w' w.heap.size ([Value.int .u64 (x.1 : Int)] ++ ([v1])) 25) => blk_one h ([]) ([v1]) (Value.int .u64 (x.1 : Int)) (by simp) 0 (by rfl))
  have HF1 := Lib.hid (fun (w' : World) (h : Blk w' w.heap.size ([Value.int .u64 (x.1 : Int)] ++ ([v1])) 25) => blk_one h ([Value.int .u64 (x.1 : Int)]) ([]) (v1) (by simp) 1 (by rfl))
  obtain ⟨ca, hca⟩ : ∃ ca, ([Value.int .u64 (x.1 : Int)] ++ ([v1])).toArray = ca := ⟨_, rfl⟩
  have HB := Lib.hid (show Blk (w.alloc (.cells ca 25)) w.heap.size ([Value.int .u64 (x.1 : Int)] ++ ([v1])) 25 from Blk.new w _ _ _ hca.symm)
  have HX := Lib.hid (fun w' m' b' => @At.box S w0 w w' q m bad (.cells ca 25) m' b' ([Value.int .u64 (x.1 : Int)] ++ ([v1])) 25 H)
  have H1 := Lib.hid (H.enter (.cells ca 25))
  have HL := Lib.hid (fun w' m' b' => @At.leave S w0 w w' q m bad (.cells ca 25) m' b' H)
  have HD := Lib.hid hD
  have hz : (w.alloc (.cells ca 25)).heap.size = w.heap.size + 1 := by simp
  simp only [encMt, List.length_append, num_length, List.length_cons, List.length_nil] at hlen
  rw [hca] at G1 ⊢
  clear H hR hR1 hca hD g1
  obtain ⟨T, hT⟩ : ∃ T, Plus S w0 w = T := ⟨_, rfl⟩
  rw [hT] at HL H1 HX HD
  clear hT
  go_enter Tryz.func25, Tryz.ntmps25
  go_upto_region 1 with fail
  have HB0 := Lib.hid (fun w' m' b' g => HX.out w' m' b' g HB.out)
  have B1 := Lib.hid HB.out
  clear HX HB
  generalize (w.alloc (.cells ca 25)) = w1 at *
  have HD2 := Lib.hid (show ∀ wi : World, ∀ b, b < wi.heap.size → (b < w.heap.size ∧ D b) → ¬ Plus T w1 wi b from fun wi b _ hb e => by
    rcases e with e | e
    · exact HD.out b hb.1 hb.2 e
    · have := e.1; omega)
  obtain ⟨p, h1, h2, h3⟩ := H1.out.drew.opened
  have HW := Lib.hid h2
  have HQ := Lib.hid h1
  have c0 := h1.cell (i := 0) rfl
  have cc : w1.cell? ⟨q, 0, none⟩ = some (.pointer (some ⟨p, 0, none⟩)) := c0
  have d0 := HF0.out _ B1.out
  clear h1 h2 h3
  go_wp2_with fail
  go_still_tail 6, (by kernel_rfl)
  change wpList _ _ _ _ _ w1.drew
  go_wp2_with fail
  refine (long_calls _ w1.drew p _ x.1 k0 HW.out (by (try simp only [List.length_append, num_length]); omega)).mono ?_
  rintro e w2 ⟨rfl, g1, g2⟩
  have g3 := H1.out.drew.shut HQ.out g1 g2
  have H2 := Lib.hid g3
  have B2 := Lib.hid (HB0.out _ _ _ H2.out)
  clear g1 g2 g3 HW HQ c0 cc d0 H1 B1
  have d0 := HF1.out _ B2.out
  go_wp2_with fail
  refine (listMo_calls _ _ _ w2 q _ _ _ (x.2) (G1.out.fr rep_Mo H2.out.2.1 (fun b _ h => HD.out b h.1 h.2)) (HD2.out _) 16 H2.out (by (try simp only [List.length_append, num_length]); omega)).mono ?_
  rintro e w3 ⟨rfl, g1⟩
  have H3 := Lib.hid g1
  have B3 := Lib.hid (HB0.out _ _ _ H3.out)
  clear g1 d0 H2 B2
  have HFF := Lib.hid (HL.out _ _ _ H3.out)
  clear H3 B3 HL HB0
  go_wp2
  go_end0
  refine ⟨rfl, ?_⟩
  have := HFF.out
  simp only [List.append_assoc, Bool.or_assoc] at this
  exact this
end Go.Proofs.YtmenchnjajpkmaaGreat.Wm
end

section
namespace Go.Proofs.YtmenchnjajpkmaaGreat.Wm
open Go Go.RowKit Mem Codec CodecW Ww Rw Arr Ops Wt Reps Wg
set_option linter.unusedVariables false

set_option maxHeartbeats 8000000 in
set_option maxRecDepth 100000 in
theorem writtenMainTx_calls (w : World) (cs : List Value) (x : _) (hR : RMt Any w cs x) (hn : (encMt x).length + 9 ≤ 140737488355328) :
    Calls Tryz.prog 24 #[.agg cs.toArray, .func (.func 25) #[] #[]] w fun e w' => Wt.Told w.heap.size (encMt x) (badMt x) e w' ∧ Below w.heap.size w w' := by
  obtain ⟨ca, hca⟩ : ∃ ca, cs.toArray = ca := ⟨_, rfl⟩
  have HB := Lib.hid (show Blk (w.alloc (.cells ca 25)) w.heap.size cs 25 from Blk.new w _ _ _ hca.symm)
  have B1 := Lib.hid (below_alloc w (.cells ca 25))
  have hz : w.heap.size + 1 ≤ (w.alloc (.cells ca 25)).heap.size := by simp
  have HA := Lib.hid (rep_Mt.mono hR (E := fun k => k < w.heap.size) (fun k h1 _ => h1))
  have HSZ := Lib.hid (show (Tryz.prog.info? 25).map (·.size) = some cs.length by rw [rep_Mt.len hR]; kernel_rfl)
  obtain ⟨en, hen⟩ : ∃ en, encMt x = en := ⟨_, rfl⟩
  obtain ⟨bb, hbb⟩ : ∃ bb, badMt x = bb := ⟨_, rfl⟩
  have HLN := Lib.hid (show en.length ≤ 140737488355328 by rw [← hen]; omega)
  have HN := Lib.hid hn
  rw [hen, hbb]
  have HEN := Lib.hid hen
  have HBB := Lib.hid hbb
  have HCA := Lib.hid hca
  rw [hca]
  clear hR hn hen hbb hca
  go_enter Tryz.func24, Tryz.ntmps24
  go_upto_region 1 with fail
  generalize (w.alloc (.cells ca 25)) = w1 at *
  go_wp2_with fail
  refine (CodecW.new_calls w1).mono ?_
  rintro e w2 ⟨p, rfl, hp1, hp2, hp3⟩
  have hs2 := hp3.size
  have H2 := Lib.hid (Wh.made_at hp2)
  have HB2 := Lib.hid ((HB.out.below hp3).alloc (.cells #[.pointer (some ⟨p, 0, none⟩), .bool false] 106))
  have B2 := Lib.hid ((B1.out.trans (hp3.mono (by omega))).alloc (by have := B1.out.size; omega) (.cells #[.pointer (some ⟨p, 0, none⟩), .bool false] 106))
  have hs3 : w2.heap.size + 1 = (w2.alloc (.cells #[.pointer (some ⟨p, 0, none⟩), .bool false] 106)).heap.size := by simp
  have hpw : w.heap.size < p := by omega
  clear hp2 hp3 HB B1
  go_upto_region 2 with fail
  generalize (w2.alloc (.cells #[.pointer (some ⟨p, 0, none⟩), .bool false] 106)) = w3 at *
  have HA3 := Lib.hid (rep_Mt.below HA.out B2.out)
  go_wp2_with (first | (with_reducible refine wpList_load_blk rfl _ _ rfl w.heap.size cs rfl HB2.out _ Tryz.underlying25 rfl HSZ.out ?_))
  refine (mainTx_to _ (fun k => k < w.heap.size) _ w3 _ [] false cs x HA3.out (fun k _ h e => by rcases e with (e | e) | e <;> omega) H2.out (by have := HN.out; simp; omega)).mono ?_
  rintro e w4 ⟨rfl, g1⟩
  obtain ⟨⟨g2, p2, g3, g4⟩, g5, g6⟩ := id g1
  have hg5 := g5.size
  have c1 := g3.cell (i := 1) rfl
  have c0 := g3.cell (i := 0) rfl
  have HW := Lib.hid g4
  have B4 := Lib.hid (B2.out.trans (show Below w.heap.size w3 w4 from g5.below (by omega) (fun k h => by omega)))
  have hb4 := B4.out.size
  rw [List.nil_append, Bool.false_or] at *
  clear g1 g2 g3 g4 g5 g6 H2 HB2 B2 HA HA3
  rw [HEN.out] at HW
  rw [HBB.out] at c1
  clear HEN HBB HN
  cases bb
  · go_wp2_with fail
    refine (CodecR.bytes_calls _ w4 p2 _ HW.out HLN.out).mono ?_
    rintro e w5 ⟨a, c, rfl, g1, g2⟩
    have G1 := Lib.hid g1
    have BF := Lib.hid (B4.out.trans (g2.mono hb4))
    clear g1 g2 c0 c1 HW B4
    go_wp2
    go_ret2
    exact ⟨⟨a, c, rfl, G1.out.mono hb4⟩, BF.out⟩
  · go_wp2
    go_ret2
    exact ⟨⟨none, 0, rfl, OwnB.nil _ _ _⟩, B4.out⟩
set_option maxHeartbeats 4000000 in
set_option maxRecDepth 100000 in
theorem MainTx_told (w : World) (cs : List Value) (x : _) (hR : RMt Any w cs x) (hn : (encMt x).length + 9 ≤ 140737488355328) :
    Calls Tryz.prog 6 #[.agg cs.toArray] w fun e w' => Wt.Told w.heap.size (encMt x) (badMt x) e w' ∧ Below w.heap.size w w' := by
  obtain ⟨ca, hca⟩ : ∃ ca, cs.toArray = ca := ⟨_, rfl⟩
  have HB := Lib.hid (show Blk (w.alloc (.cells ca 25)) w.heap.size cs 25 from Blk.new w _ _ _ hca.symm)
  have B1 := Lib.hid (below_alloc w (.cells ca 25))
  have hz : w.heap.size + 1 = (w.alloc (.cells ca 25)).heap.size := by simp
  have HA := Lib.hid (rep_Mt.below hR B1.out)
  have HSZ := Lib.hid (show (Tryz.prog.info? 25).map (·.size) = some cs.length by rw [rep_Mt.len hR]; kernel_rfl)
  have HCA := Lib.hid hca
  rw [hca]
  clear hR hca
  go_enter Tryz.func6, Tryz.ntmps6
  go_upto_region 1 with fail
  generalize (w.alloc (.cells ca 25)) = w1 at *
  go_wp2_with (first | (with_reducible refine wpList_load_blk rfl _ _ rfl w.heap.size cs rfl HB.out _ Tryz.underlying25 rfl HSZ.out ?_))
  refine (writtenMainTx_calls w1 cs x HA.out hn).mono ?_
  rintro e w2 ⟨⟨a, c, rfl, g1⟩, g2⟩
  have G1 := Lib.hid g1
  have G2 := Lib.hid (B1.out.trans (g2.mono (by omega)))
  clear g1 g2 B1 HB HA
  go_wp2
  go_ret2
  exact ⟨⟨a, c, rfl, G1.out.mono (by omega)⟩, G2.out⟩
end Go.Proofs.YtmenchnjajpkmaaGreat.Wm
end

section
namespace Go.Proofs.YtmenchnjajpkmaaGreat.Rr
open Go Go.RowKit Mem Codec Ops Reps WtIt Arr
set_option linter.unusedVariables false

/-- one reading, and another one behind it -/
def seq {α β : Type} (f : Rd → Rd × α) (g : Rd → Rd × β) (r : Rd) : Rd × (α × β) := ((g (f r).1).1, (f r).2, (g (f r).1).2)
theorem seq_rest {α β : Type} {f : Rd → Rd × α} {g : Rd → Rd × β} (hf : ∀ r, (f r).1.rest.length ≤ r.rest.length) (hg : ∀ r, (g r).1.rest.length ≤ r.rest.length) (r : Rd) : (seq f g r).1.rest.length ≤ r.rest.length := Nat.le_trans (hg _) (hf _)
theorem num_rest (r : Rd) (n : Nat) : (r.num n).1.rest.length ≤ r.rest.length := (CodecR.Rd.take_len r n).1
theorem items_rest {α : Type} {one : Rd → Rd × α} (h : ∀ r, (one r).1.rest.length ≤ r.rest.length) : ∀ (n : Nat) (r : Rd), (items one n r).2.rest.length ≤ r.rest.length
  | 0, r => Nat.le_refl _
  | n + 1, r => by
    unfold items
    split
    · exact h r
    · exact Nat.le_trans (items_rest h n _) (h r)
theorem cells_one {v : Value} (h : v.oneCell' = true) : v.cells = #[v] := by cases v <;> first | rfl | cases h
end Go.Proofs.YtmenchnjajpkmaaGreat.Rr
end

section
namespace Go.Proofs.YtmenchnjajpkmaaGreat.Rm
open Go Go.RowKit Mem Codec CodecR Ops Reps WtIt Arr Rr Wr Wm
set_option linter.unusedVariables false
set_option linter.unusedSimpArgs false

set_option maxRecDepth 100000 in
theorem structMo : StructT Tryz.prog 76 [1, 32] := ⟨_, _, _, rfl, Tryz.underlying76, rfl, by kernel_rfl, by kernel_rfl⟩
/-- an output, read -/
def RDmo (r : Rd) : Rd × (Nat × List UInt8) := seq (fun r : Rd => r.num 8) Wr.Rd.dig r
theorem rdmo_rest (r : Rd) : (RDmo r).1.rest.length ≤ r.rest.length := seq_rest (fun r => num_rest r 8) dig_rest r
set_option maxHeartbeats 8000000 in
set_option maxRecDepth 100000 in
theorem rmo_calls (D : Nat → Prop) (w : World) (q : Nat) (r : Rd) (H : ReaderIs D w q r) (hl : r.rest.length ≤ 140737488355328) :
    Calls Tryz.prog 64 #[.agg #[.pointer (some ⟨q, 0, none⟩)]] w (GotD RMo D w q (RDmo r)) := by
  have hql := H.lt
  have H0 := Lib.hid ((rd_under H).below (below_alloc w (.cells #[.pointer (some ⟨q, 0, none⟩)] 68)))
  have HB := Lib.hid (Blk.new w #[.pointer (some ⟨q, 0, none⟩)] 68 _ rfl)
  have HA := Lib.hid (below_alloc w (.cells #[.pointer (some ⟨q, 0, none⟩)] 68))
  have hz : w.heap.size + 1 = (w.alloc (.cells #[.pointer (some ⟨q, 0, none⟩)] 68)).heap.size := by simp
  have HL0 := Lib.hid hl
  obtain ⟨y1, hy1⟩ : ∃ y, ((r).num 8).2 = y := ⟨_, rfl⟩
  obtain ⟨r1, hr1⟩ : ∃ y, ((r).num 8).1 = y := ⟨_, rfl⟩
  have HC1 := Lib.hid (fun D w h => CodecR.long_calls D w q r h)
  have HW1 := Lib.hid (show y1 < 18446744073709551616 by rw [← hy1]; exact num_lt _ _)
  have HL1 := Lib.hid (show r1.rest.length ≤ 140737488355328 by rw [← hr1]; exact Nat.le_trans (num_rest _ _) HL0.out)
  rw [hr1, hy1] at HC1
  obtain ⟨y2, hy2⟩ : ∃ y, (Wr.Rd.dig r1).2 = y := ⟨_, rfl⟩
  obtain ⟨r2, hr2⟩ : ∃ y, (Wr.Rd.dig r1).1 = y := ⟨_, rfl⟩
  have HC2 := Lib.hid (fun D w h => Wr.digest_calls D w q r1 h HL1.out)
  have HW2 := Lib.hid (show y2.length = 32 by rw [← hy2]; exact Wr.Rd.dig_len r1)
  have HL2 := Lib.hid (show r2.rest.length ≤ 140737488355328 by rw [← hr2]; exact Nat.le_trans (dig_rest _) HL1.out)
  rw [hr2, hy2] at HC2
  have HRD := Lib.hid (show RDmo r = (r2, y1, y2) by simp only [RDmo, seq, hr1, hy1, hr2, hy2])
  rw [HRD.out]
  clear H hl hr1 hy1 hr2 hy2
  go_enter Tryz.func64, Tryz.ntmps64
  go_upto_region 1 with (first
    | ((with_reducible refine wpList_alloc rfl _ rfl _ (zeroMo _) (fun wb ka ca za => ?_)); have KA := Lib.hid ka; have CA := Lib.hid ca; clear ka ca))
  generalize (w.alloc (.cells #[.pointer (some ⟨q, 0, none⟩)] 68)) = wA at *
  have O0 := Lib.hid (H0.out.below CA.out)
  have HB2 := Lib.hid (HB.out.below CA.out)
  have B2 := Lib.hid (HA.out.trans (CA.out.mono (by omega)))
  have hg0 : w.heap.size < wA.heap.size := by omega
  have hg2 : wA.heap.size < wb.heap.size := by omega
  generalize wA.heap.size = g1 at *
  clear H0 HB HA CA
  refine wp_region_held_drew (S := (fun w' => Blk w' w.heap.size [.pointer (some ⟨q, 0, none⟩)] 68 ∧ (∃ l : List Value, l.length = 33 ∧ Blk w' g1 l 76) ∧ Fr (fun k => k = q) w w' ∧ wb.heap.size ≤ w'.heap.size)) (by kernel_rfl) ⟨HB2.out.drew, ⟨_, zeroMo_len, KA.out.drew⟩, (Fr.ofBelowAll B2.out (Nat.le_refl _)).drew, Nat.le_refl _⟩ (fun hHeld => ?_)
  refine wpAnyH_take (i := 0) (oi := ⟨_, _, _, _, _, _⟩) (v := ?_) rfl (by kernel_rfl) (by kernel_rfl) (by kernel_rfl) (fun _ _ _ h => h) (Or.inl ⟨by rfl, ?_⟩) (by assumption) ?_
  rotate_left
  · intro w hSw; go_simp; try (with_reducible rfl)
  try simp only [Act.put, List.setIfInBounds_toArray, List.set_cons_zero, List.set_cons_succ]
  refine wpAnyH_take (i := 1) (oi := ⟨_, _, _, _, _, _⟩) (v := .pointer (some ⟨q, 0, none⟩)) rfl (by kernel_rfl) (by kernel_rfl) (by kernel_rfl) (fun _ _ _ h => h) (Or.inl ⟨by rfl, fun wS hSw => (by have hc := hSw.1.cell (i := 0) rfl; go_simp; try (with_reducible rfl))⟩) (by assumption) ?_
  try simp only [Act.put, List.setIfInBounds_toArray, List.set_cons_zero, List.set_cons_succ]
  refine wpAnyH_take (i := 3) (oi := ⟨_, _, _, _, _, _⟩) rfl (by kernel_rfl) (by kernel_rfl) (by kernel_rfl) (fun _ _ _ h => h) (yieldsIf_load_mid (by rfl) _ _ rfl w.heap.size 0 rfl [.pointer (some ⟨q, 0, none⟩)] _ (fun _ h => blk_range h.1) Tryz.underlying68 rfl (by kernel_rfl)) (by assumption) ?_
  try simp only [Act.put, List.setIfInBounds_toArray, List.set_cons_zero, List.set_cons_succ]
  refine wpAnyH_ready (rs := [2]) (by kernel_rfl) (by simp) ?_
  refine AllReadyH.cons (o := ⟨_, _, _, _, _, _⟩) rfl (fun K hK => ?_) AllReadyH.nil
  go_simp
  have kk1 := hHeld.1.lt
  have kk2 : g1 < _ := hHeld.2.1.choose_spec.2.lt
  have HH1 := hHeld.2.2.2
  refine (HC1.out _ wb.drew O0.out).mono ?_
  rintro e x1 ⟨rfl, o1, o2⟩
  have hsx1 := o2.size
  refine hK.out _ _ (by exact ⟨hHeld.1.fr o2 (by omega), hHeld.2.1.elim fun l h => ⟨l, h.1, h.2.fr o2 (by omega)⟩, hHeld.2.2.1.trans o2, Nat.le_trans hHeld.2.2.2 o2.size⟩) (fun hHeld => ?_)
  have O1 := Lib.hid o1
  clear o1 o2
  try simp only [Act.put, List.setIfInBounds_toArray, List.set_cons_zero, List.set_cons_succ]
  clear hK
  refine wpAnyH_ready (rs := [4]) (by kernel_rfl) (by simp) ?_
  refine AllReadyH.cons (o := ⟨_, _, _, _, _, _⟩) rfl (fun K hK => ?_) AllReadyH.nil
  go_simp
  have kk1 := hHeld.1.lt
  have kk2 : g1 < _ := hHeld.2.1.choose_spec.2.lt
  have HH2 := hHeld.2.2.2
  refine (HC2.out _ x1 O1.out).mono ?_
  rintro e x2 ⟨rfl, o1, o2⟩
  have hsx2 := o2.size
  refine hK.out _ _ (by exact ⟨hHeld.1.fr o2 (by omega), hHeld.2.1.elim fun l h => ⟨l, h.1, h.2.fr o2 (by omega)⟩, hHeld.2.2.1.trans o2, Nat.le_trans hHeld.2.2.2 o2.size⟩) (fun hHeld => ?_)
  have O2 := Lib.hid o1
  clear o1 o2
  try simp only [Act.put, List.setIfInBounds_toArray, List.set_cons_zero, List.set_cons_succ]
  clear hK
  have HCE := Lib.hid (show ([Value.int .u64 (y1 : Int)] ++ (y2.map byt) : List Value).length = 33 by simp [HW2.out])
  refine wpAnyH_take (i := 5) (oi := ⟨_, _, _, _, _, _⟩) rfl (by kernel_rfl) (by kernel_rfl) (by kernel_rfl) (fun _ _ _ h => h) (yieldsIf_build (by rfl) structMo [(0, _), (1, _)] rfl [.int .u64 (y1 : Int), .agg (y2.map byt).toArray] rfl (by simp [Value.cells, HW2.out]) (([Value.int .u64 (y1 : Int)] ++ (y2.map byt)).toArray) (by simp [Value.cells])) (by assumption) ?_
  try simp only [Act.put, List.setIfInBounds_toArray, List.set_cons_zero, List.set_cons_succ]
  refine wpAnyH_ready (rs := [6]) (by kernel_rfl) (by simp) ?_
  refine AllReadyH.cons (o := ⟨_, _, _, _, _, _⟩) rfl (fun K hK => ?_) AllReadyH.nil
  rw [if_pos (by rfl)]
  obtain ⟨l0, hl0, hb0⟩ := hHeld.2.1
  have HRR := Lib.hid (show ∀ W : World,  RMo (fun b => w.heap.size ≤ b ∧ b ≠ g1) W ([Value.int .u64 (y1 : Int)] ++ (y2.map byt)) (y1, y2) from fun W => ⟨_, _, rfl, ⟨HW1.out, rfl⟩, ⟨HW2.out, rfl⟩⟩)
  have HRF := Lib.hid (HRR.out x2)
  have HSZ := Lib.hid (show (Tryz.prog.info? 76).map (·.size) = some ([Value.int .u64 (y1 : Int)] ++ (y2.map byt) : List Value).length by rw [HCE.out]; kernel_rfl)
  refine wp_put _ _ _ rfl g1 ([Value.int .u64 (y1 : Int)] ++ (y2.map byt)) l0 rfl rfl hb0 HSZ.out (hl0.trans HCE.out.symm) (rep_Mo.one HRF.out) (fun we ke fe ze => ?_)
  refine hK.out _ _ (by exact ⟨hHeld.1.fr fe (by omega), ⟨_, HCE.out, ke⟩, hHeld.2.2.1.trans' fe (fun i hi (e : i = g1) => by omega), by have := hHeld.2.2.2; omega⟩) (fun hHeld => ?_)
  have KE := Lib.hid ke
  have FE := Lib.hid fe
  clear ke fe
  clear hK
  refine wpAnyH_done (by kernel_rfl) ?_ _
  have FF := Lib.hid hHeld.2.2.1
  clear hHeld
  go_wp2
  exact bodyPost_ret (v := .agg ([Value.int .u64 (y1 : Int)] ++ (y2.map byt)).toArray) (results_row1 Tryz.results64 _ _ g1 _ _ rfl KE.out Tryz.underlying76 rfl HSZ.out) rfl ⟨_, rfl, rep_Mo.mono (rep_Mo.fr HRF.out FE.out (fun b _ h (e : b = g1) => h.2 e)) (fun b _ h => h.1), rd_back (O2.out.fr FE.out (by omega) (fun k _ h (e : k = g1) => by have := h.1; omega)) hql, FF.out⟩
end Go.Proofs.YtmenchnjajpkmaaGreat.Rm
end
