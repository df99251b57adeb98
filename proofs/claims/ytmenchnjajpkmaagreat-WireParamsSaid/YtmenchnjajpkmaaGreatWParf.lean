/- Walks of the wire's reader: things at keys, params. Condition: the bytes are at most 2^47. The walks of the program's ReadParams. Condition: the bytes are at most 2^47. Walks of the reference's R of layer 12: begin, fail, ok, ended. Condition: the bytes are at most 2^47. The walk of the reference's R.raw. Condition: the bytes are at most 2^47, so many as are asked at most 2^20. The walk of the reference's R.number. Condition: the bytes are at most 2^47. The walk of the reference's R.small. Condition: the bytes are at most 2^47. The walk of the reference's R.digest. Condition: the bytes are at most 2^47. The walk of the reference's R.many. Condition: the bytes are at most 2^47. How a thing of so many cells reads as plain data, and slices of such things. Program-independent; no condition. More laws at single operations that leave the world opaque: a slice of one element is made, a slice is appended, one cell of a block is stored or loaded. Program-independent; no condition. What the reference keeps while it reads a list: up to the first thing that fails, which it appends too. Plain; and the rows of keys. No condition. The walk of the reference's R.params. Condition: the bytes are at most 2^47. What a thing's bytes are read as, on either side. Plain. No condition. -/
import Derived.Test.YtmenchnjajpkmaaGreatWPare
import Derived.Test.YtmenchnjajpkmaaGreatWParc
import Derived.Deep.OwnRows
import Derived.Test.YtmenchnjajpkmaaGreatWPard
section
namespace Go.Proofs.YtmenchnjajpkmaaGreat.WtIt
open Go Go.RowKit Mem Codec CodecW CodecR Iter Arr Ops Wr
set_option linter.unusedVariables false

theorem room_small (r : Rd) (most : Int) (h : most ≤ 65536) : (r.room most).2 ≤ 65536 := by
  unfold Rd.room Rd.var
  dsimp only
  repeat' split
  all_goals (first | exact Nat.zero_le _ | (dsimp only at *; omega))
/-- a list of keys, read -/
def Rd.keys (r : Rd) (most : Int) : Rd × List (List UInt8) := ((items Rd.dig (r.room most).2 (r.room most).1).2, lst (items Rd.dig (r.room most).2 (r.room most).1))
set_option maxHeartbeats 4000000 in
set_option maxRecDepth 100000 in
theorem things_calls (D : Nat → Prop) (w : World) (q : Nat) (r : Rd) (most : Int) (h1 : -9223372036854775808 ≤ most) (h2 : most ≤ 65536) (H : ReaderIs D w q r) (hl : r.rest.length ≤ 140737488355328) :
    Calls Tryz.prog 79 #[.agg #[.pointer (some ⟨q, 0, none⟩)], .int .i64 most, .func (.func 80) #[] #[]] w fun e w' => ∃ v, e = .returned v ∧ OwnA 32 w.heap.size 134 w' v (digs (Rd.keys r most).2) ∧ ReaderIs D w' q (Rd.keys r most).1 ∧ Fr (fun k => k = q) w w' := by
  have hql := H.lt
  have b1 := below_alloc w (.cells #[.pointer (some ⟨q, 0, none⟩)] 68)
  have b2 := b1.alloc (by simp) (.cells #[.func (.func 80) #[] #[]] 139)
  have H1 := Lib.hid ((rd_under H).below b2)
  have k1 := ((Blk.new w #[.pointer (some ⟨q, 0, none⟩)] 68 _ rfl).alloc (.cells #[.func (.func 80) #[] #[]] 139)).cell (i := 0) rfl
  have k2 := (Blk.new (w.alloc (.cells #[.pointer (some ⟨q, 0, none⟩)] 68)) #[.func (.func 80) #[] #[]] 139 _ rfl).cell (i := 0) rfl
  rw [World.size_alloc] at k2
  have BB := Lib.hid b2
  have hz : w.heap.size + 2 = ((w.alloc (.cells #[.pointer (some ⟨q, 0, none⟩)] 68)).alloc (.cells #[.func (.func 80) #[] #[]] 139)).heap.size := by simp
  have HRS := Lib.hid (room_small r most h2)
  clear H b1 b2
  go_enter Tryz.func79, Tryz.ntmps79
  go_upto_region 1 with fail
  generalize (w.alloc (.cells #[.pointer (some ⟨q, 0, none⟩)] 68)).alloc (.cells #[.func (.func 80) #[] #[]] 139) = w2 at *
  go_wp2_with fail
  refine (list_calls _ w2 q (w.heap.size + 1) w.heap.size r most h1 h2 H1.out hl k2 k1 (by omega) (by omega) HRS.out).mono ?_
  rintro e w3 ⟨v, rfl, o1, o2, o3⟩
  obtain ⟨va, vc, rfl, _⟩ := o1.form
  have O1 := Lib.hid (o1.mono (show w.heap.size ≤ w2.heap.size by omega))
  have O2 := Lib.hid (rd_back o2 hql)
  have O3 := Lib.hid ((Fr.ofBelowAll BB.out (Nat.le_refl _) : Fr (fun k => k = q) w w2).trans o3)
  clear o1 o2 o3 k1 k2 H1 BB
  go_wp2
  go_ret
  exact ⟨_, rfl, O1.out, O2.out, O3.out⟩
set_option maxRecDepth 100000 in
theorem structP : StructT Tryz.prog 44 [1, 1] := ⟨_, _, _, rfl, Tryz.underlying44, rfl, by kernel_rfl, by kernel_rfl⟩
theorem zeroP (w : World) : (zeroValue 44).run Tryz.prog w = .ok (.agg [.int .i64 0, .slice none 0 0].toArray) w := by kernel_rfl
theorem kind_rest (r : Rd) (lo hi : Int) : (Wr.Rd.kind r lo hi).1.rest.length ≤ r.rest.length := by
  unfold Wr.Rd.kind Wr.Rd.must Rd.fail Rd.num
  dsimp only
  have h := (Rd.take_len r 1).1
  repeat' split
  all_goals exact h
/-- a federation, read: what is left, the number, the keys -/
def Rd.params (r : Rd) : Rd × Int × List (List UInt8) := ((Rd.keys (Wr.Rd.kind r 0 255).1 16).1, (Wr.Rd.kind r 0 255).2, (Rd.keys (Wr.Rd.kind r 0 255).1 16).2)
set_option maxHeartbeats 8000000 in
set_option maxRecDepth 100000 in
theorem params_calls (D : Nat → Prop) (w : World) (q : Nat) (r : Rd) (H : ReaderIs D w q r) (hl : r.rest.length ≤ 140737488355328) :
    Calls Tryz.prog 44 #[.agg #[.pointer (some ⟨q, 0, none⟩)]] w fun e w' => ∃ v, e = .returned (.agg #[.int .i64 (Rd.params r).2.1, v]) ∧ OwnA 32 w.heap.size 134 w' v (digs (Rd.params r).2.2) ∧ ReaderIs D w' q (Rd.params r).1 ∧ Fr (fun k => k = q) w w' := by
  have hql := H.lt
  have H1 := Lib.hid ((rd_under H).below (below_alloc w (.cells #[.pointer (some ⟨q, 0, none⟩)] 68)))
  have HB := Lib.hid (Blk.new w #[.pointer (some ⟨q, 0, none⟩)] 68 _ rfl)
  have HA := Lib.hid (below_alloc w (.cells #[.pointer (some ⟨q, 0, none⟩)] 68))
  have hz : w.heap.size + 1 = (w.alloc (.cells #[.pointer (some ⟨q, 0, none⟩)] 68)).heap.size := by simp
  clear H
  go_enter Tryz.func44, Tryz.ntmps44
  go_upto_region 1 with (first
    | ((with_reducible refine wpList_alloc rfl _ rfl _ (zeroP _) (fun wb ka ca za => ?_)); have KA := Lib.hid ka; have CA := Lib.hid ca; clear ka ca))
  generalize (w.alloc (.cells #[.pointer (some ⟨q, 0, none⟩)] 68)) = w1 at *
  have H2 := Lib.hid (H1.out.below CA.out)
  have HB2 := Lib.hid (HB.out.below CA.out)
  have B2 := Lib.hid (HA.out.trans (CA.out.mono (by omega)))
  have hg0 : w.heap.size < w1.heap.size := by omega
  have hg2 : w1.heap.size < wb.heap.size := by omega
  generalize w1.heap.size = g1 at *
  clear H1 HB HA CA
  refine wp_region_held_drew (S := (fun w' => Blk w' w.heap.size [.pointer (some ⟨q, 0, none⟩)] 68 ∧ (∃ l, l.length = 2 ∧ Blk w' g1 l 44) ∧ Fr (fun k => k = q) w w')) (by kernel_rfl) ⟨HB2.out.drew, ⟨_, rfl, KA.out.drew⟩, (Fr.ofBelowAll B2.out (Nat.le_refl _)).drew⟩ (fun hHeld => ?_)
  refine wpAnyH_take (i := 0) (oi := ⟨_, _, _, _, _, _⟩) rfl (by kernel_rfl) (by kernel_rfl) (by kernel_rfl) (fun _ _ _ h => h) (yieldsIf_load_mid (by rfl) _ _ rfl w.heap.size 0 rfl [.pointer (some ⟨q, 0, none⟩)] _ (fun _ h => blk_range h.1) Tryz.underlying68 rfl (by kernel_rfl)) (by assumption) ?_
  try simp only [Act.put, List.setIfInBounds_toArray, List.set_cons_zero, List.set_cons_succ]
  refine wpAnyH_take (i := 2) (oi := ⟨_, _, _, _, _, _⟩) rfl (by kernel_rfl) (by kernel_rfl) (by kernel_rfl) (fun _ _ _ h => h) (yieldsIf_load_mid (by rfl) _ _ rfl w.heap.size 0 rfl [.pointer (some ⟨q, 0, none⟩)] _ (fun _ h => blk_range h.1) Tryz.underlying68 rfl (by kernel_rfl)) (by assumption) ?_
  try simp only [Act.put, List.setIfInBounds_toArray, List.set_cons_zero, List.set_cons_succ]
  refine wpAnyH_ready (rs := [1]) (by kernel_rfl) (by simp) ?_
  refine AllReadyH.cons (o := ⟨_, _, _, _, _, _⟩) rfl (fun K hK => ?_) AllReadyH.nil
  go_simp
  have k1 := hHeld.1.lt
  have k2 : g1 < _ := hHeld.2.1.choose_spec.2.lt
  refine (Wr.kind_calls _ wb.drew q r 0 255 H2.out).mono ?_
  rintro e wc ⟨rfl, o1, o2⟩
  refine hK.out _ _ (by exact ⟨hHeld.1.fr o2 (by omega), hHeld.2.1.elim fun l h => ⟨l, h.1, h.2.fr o2 (by omega)⟩, hHeld.2.2.trans o2⟩) (fun hHeld => ?_)
  have hszc : wb.heap.size ≤ wc.heap.size := o2.size
  have O1 := Lib.hid o1
  clear o1 o2
  try simp only [Act.put, List.setIfInBounds_toArray, List.set_cons_zero, List.set_cons_succ]
  clear hK
  refine wpAnyH_ready (rs := [3]) (by kernel_rfl) (by simp) ?_
  refine AllReadyH.cons (o := ⟨_, _, _, _, _, _⟩) rfl (fun K hK => ?_) AllReadyH.nil
  go_simp
  refine (things_calls _ wc q _ 16 (by omega) (by omega) O1.out (Nat.le_trans (kind_rest r 0 255) hl)).mono ?_
  rintro e wd ⟨v, rfl, o1, o3, o2⟩
  have hsz9 := o2.size
  refine hK.out _ _ (by exact ⟨hHeld.1.fr o2 (by omega), hHeld.2.1.elim fun l h => ⟨l, h.1, h.2.fr o2 (by omega)⟩, hHeld.2.2.trans o2⟩) (fun hHeld => ?_)
  obtain ⟨va, vc, hve, _⟩ := o1.form
  subst hve
  have V1 := Lib.hid o1
  have O3 := Lib.hid o3
  clear o1 o2 o3
  try simp only [Act.put, List.setIfInBounds_toArray, List.set_cons_zero, List.set_cons_succ]
  clear hK
  refine wpAnyH_take (i := 4) (oi := ⟨_, _, _, _, _, _⟩) rfl (by kernel_rfl) (by kernel_rfl) (by kernel_rfl) (fun _ _ _ h => h) (yieldsIf_build (by rfl) structP [(0, _), (1, _)] rfl [.int .i64 (Wr.Rd.kind r 0 255).2, .slice va (digs (Rd.keys (Wr.Rd.kind r 0 255).1 16).2).length vc] rfl (by simp [Value.cells]) #[.int .i64 (Wr.Rd.kind r 0 255).2, .slice va (digs (Rd.keys (Wr.Rd.kind r 0 255).1 16).2).length vc] (by simp [Value.cells])) (by assumption) ?_
  try simp only [Act.put, List.setIfInBounds_toArray, List.set_cons_zero, List.set_cons_succ]
  refine wpAnyH_ready (rs := [5]) (by kernel_rfl) (by simp) ?_
  refine AllReadyH.cons (o := ⟨_, _, _, _, _, _⟩) rfl (fun K hK => ?_) AllReadyH.nil
  rw [if_pos (by rfl)]
  obtain ⟨l0, hl0, hb0⟩ := hHeld.2.1
  refine wp_put _ _ _ rfl g1 [.int .i64 (Wr.Rd.kind r 0 255).2, .slice va (digs (Rd.keys (Wr.Rd.kind r 0 255).1 16).2).length vc] l0 rfl rfl hb0 (by kernel_rfl) (by simpa using hl0) (by intro u hu; simp only [List.mem_cons, List.not_mem_nil, or_false] at hu; rcases hu with rfl | rfl <;> rfl) (fun we ke fe ze => ?_)
  refine hK.out _ _ (by exact ⟨hHeld.1.fr fe (by omega), ⟨_, rfl, ke⟩, hHeld.2.2.trans' fe (fun i hi (e : i = g1) => by omega)⟩) (fun hHeld => ?_)
  have KE := Lib.hid ke
  have FE := Lib.hid fe
  clear ke fe
  clear hK
  refine wpAnyH_done (by kernel_rfl) ?_ _
  have FF := Lib.hid hHeld.2.2
  clear hHeld
  go_wp2
  exact bodyPost_ret (v := .agg #[.int .i64 (Wr.Rd.kind r 0 255).2, .slice va (digs (Rd.keys (Wr.Rd.kind r 0 255).1 16).2).length vc]) (results_row1 Tryz.results44 _ _ g1 _ _ rfl KE.out Tryz.underlying44 rfl (by kernel_rfl)) rfl ⟨_, rfl, (V1.out.fr FE.out (fun k hk (e : k = g1) => by have := (V1.out.lt k hk).1; omega)).mono (by omega), rd_back (O3.out.fr FE.out (by omega) (fun k _ h (e : k = g1) => by have := h.1; omega)) hql, FF.out⟩
end Go.Proofs.YtmenchnjajpkmaaGreat.WtIt
end

section
namespace Go.Proofs.YtmenchnjajpkmaaGreat.WtIt
open Go Go.RowKit Mem Codec CodecW CodecR Iter Arr Ops Wr
set_option linter.unusedVariables false

/-- what is read of bytes: the number, the keys, the error -/
def gotP (l : List UInt8) : Int × List (List UInt8) × Int := if (Rd.params ⟨l, 0⟩).1.fin = 0 then ((Rd.params ⟨l, 0⟩).2.1, (Rd.params ⟨l, 0⟩).2.2, 0) else (0, [], 120)
/-- it is told so -/
def GotP (B : Nat) (w : World) (g : Int × List (List UInt8) × Int) (e : Ending) (w' : World) : Prop :=
  ∃ v, e = .returned (.tuple #[.agg #[.int .i64 g.1, v], .int .i64 g.2.2]) ∧ OwnA 32 B 134 w' v (digs g.2.1) ∧ Below B w w'
theorem zeroR (w : World) : (zeroValue 68).run Tryz.prog w = .ok (.agg [.pointer none].toArray) w := by kernel_rfl
theorem one_two {x v : Value} (h1 : x.oneCell' = true) (h2 : v.oneCell' = true) : ∀ u ∈ [x, v], u.oneCell' = true := by
  intro u hu
  simp only [List.mem_cons, List.not_mem_nil, or_false] at hu
  rcases hu with rfl | rfl <;> assumption
theorem one_ptr (q : Nat) : ∀ u ∈ [Value.pointer (some ⟨q, 0, none⟩)], u.oneCell' = true := by
  intro u hu
  rw [List.mem_singleton.1 hu]; rfl
set_option maxHeartbeats 8000000 in
set_option maxRecDepth 100000 in
theorem read_p_calls (D : Nat → Prop) (w : World) (v : Value) (l : List UInt8) (hB : Byt D w v l) (hl : l.length ≤ 140737488355328) :
    Calls Tryz.prog 43 #[v, .func (.func 44) #[] #[]] w (GotP w.heap.size w (gotP l)) := by
  have HB := Lib.hid hB
  clear hB
  go_enter Tryz.func43, Tryz.ntmps43
  go_upto_region 1 with (first
    | ((with_reducible refine wpList_alloc rfl _ rfl _ (zeroP _) (fun wa ka ca za => ?_)); have KA := Lib.hid ka; have CA := Lib.hid ca; clear ka ca))
  go_wp2_with fail
  refine (CodecR.read_calls D wa v l (HB.out.below CA.out) hl).mono ?_
  rintro e wb ⟨q, rfl, hq, o1, o2⟩
  have hql := o1.lt
  have O1 := Lib.hid o1
  have KA1 := Lib.hid (KA.out.below o2)
  have B1 := Lib.hid (CA.out.trans (o2.mono (by omega)))
  have hsb := o2.size
  clear o1 o2 KA CA
  go_upto_region 2 with (first
    | ((with_reducible refine wpList_alloc rfl _ rfl _ (zeroR _) (fun wc kc cc zc => ?_)); have KC := Lib.hid kc; have CC := Lib.hid cc; clear kc cc)
    | ((with_reducible refine wpList_put rfl _ _ _ rfl wb.heap.size [.pointer (some ⟨q, 0, none⟩)] _ rfl rfl KC.out (by kernel_rfl) rfl (one_ptr q) (fun wd kd fd zd => ?_)); have KD := Lib.hid kd; have CD := Lib.hid (CC.out.trans (fd.below CC.out.size (fun k (hk : k = _) => by omega))); clear kd fd))
  have O2 := Lib.hid (O1.out.below CD.out)
  have KA2 := Lib.hid (KA1.out.below CD.out)
  have B2 := Lib.hid (B1.out.trans (CD.out.mono (by omega)))
  have hsd := CD.out.size
  have hgr : wb.heap.size < wd.heap.size := KD.out.lt
  clear O1 KA1 B1 KC CC CD
  generalize wb.heap.size = gr at *
  go_wp2_with (first | (with_reducible refine wpList_load_blk rfl _ _ rfl gr [.pointer (some ⟨q, 0, none⟩)] rfl KD.out _ Tryz.underlying68 rfl (by kernel_rfl) ?_))
  refine (params_calls _ wd q _ O2.out hl).mono ?_
  rintro e we ⟨vk, rfl, o1, o2, o3⟩
  obtain ⟨ka, kc, hke, _⟩ := o1.form
  subst hke
  have hse := o3.size
  have O3 := Lib.hid o2
  have V3 := Lib.hid o1
  have KA3 := Lib.hid (KA2.out.fr o3 (by omega))
  have KD3 := Lib.hid (KD.out.fr o3 (by omega))
  have B3 := Lib.hid (B2.out.trans (o3.below (by omega) (fun k (hk : k = q) => by omega)))
  obtain ⟨pr, hpr⟩ : ∃ p, Rd.params ⟨l, 0⟩ = p := ⟨_, rfl⟩
  rw [hpr] at O3 V3 ⊢
  have HPR := Lib.hid hpr
  clear o1 o2 o3 O2 KA2 KD B2 hpr
  go_upto_region 3 with (first
    | ((with_reducible refine wpList_alloc rfl _ rfl _ (zeroP _) (fun wf kf cf zf => ?_)); have KF := Lib.hid kf; have CF := Lib.hid cf; clear kf cf)
    | ((with_reducible refine wpList_put rfl _ _ _ rfl we.heap.size [.int .i64 pr.2.1, .slice ka (digs pr.2.2).length kc] _ rfl rfl KF.out (by kernel_rfl) rfl (one_two rfl rfl) (fun wg kg fg zg => ?_)); have KG := Lib.hid kg; have CG := Lib.hid (CF.out.trans (fg.below CF.out.size (fun k (hk : k = _) => by omega))); clear kg fg))
  have O5 := Lib.hid (O3.out.below CG.out)
  have V5 := Lib.hid (V3.out.below CG.out)
  have KA5 := Lib.hid (KA3.out.below CG.out)
  have KD5 := Lib.hid (KD3.out.below CG.out)
  have B5 := Lib.hid (B3.out.trans (CG.out.mono (by omega)))
  have c0 := KD5.out.cell (i := 0) rfl
  clear O3 V3 KA3 KD3 B3 KF CF CG
  go_wp2_with fail
  refine (CodecR.end_calls _ wg q _ O5.out).mono ?_
  rintro e wh ⟨rfl, rfl⟩
  have HGP := Lib.hid (show gotP l = if pr.1.fin = 0 then (pr.2.1, pr.2.2, 0) else (0, [], 120) by rw [← HPR.out]; rfl)
  clear HPR c0 O5
  by_cases hf : pr.1.fin = 0
  · have hf2 : (pr.1.fin != 0) = false := by simp [hf]
    have HG2 := Lib.hid (HGP.out.trans (if_pos hf))
    clear hf
    go_wp2_with (first
      | (with_reducible refine wpList_load_blk rfl _ _ rfl we.heap.size [.int .i64 pr.2.1, .slice ka (digs pr.2.2).length kc] rfl KG.out _ Tryz.underlying44 rfl (by kernel_rfl) ?_)
      | ((with_reducible refine wpList_put rfl _ _ _ rfl w.heap.size [.int .i64 pr.2.1, .slice ka (digs pr.2.2).length kc] _ rfl rfl KA5.out (by kernel_rfl) rfl (one_two rfl rfl) (fun wi ki fi zi => ?_)); have KI := Lib.hid ki; have FI := Lib.hid fi; clear ki fi))
    refine bodyPost_ret (v := .tuple #[.agg #[.int .i64 pr.2.1, .slice ka (digs pr.2.2).length kc], .int .i64 0]) (results_row2 Tryz.results43 _ _ w.heap.size _ _ rfl KI.out Tryz.underlying44 rfl (by kernel_rfl) _ rfl) rfl ?_
    rw [HG2.out]
    exact ⟨_, rfl, (V5.out.fr FI.out (fun k hk (e : k = w.heap.size) => by have := (V5.out.lt k hk).1; omega)).mono (by omega), B5.out.trans (FI.out.below (by have := B5.out.size; omega) (fun k (hk : k = w.heap.size) => by omega))⟩
  · have hf2 : (pr.1.fin != 0) = true := by simpa using hf
    have HG2 := Lib.hid (HGP.out.trans (if_neg hf))
    clear hf
    go_wp2_with (first
      | ((with_reducible refine wpList_alloc rfl _ rfl _ (zeroP _) (fun wf' kf cf zf => ?_)); have KF := Lib.hid kf; have CF := Lib.hid cf; have KA6 := Lib.hid (KA5.out.below cf); clear kf cf)
      | (with_reducible refine wpList_load_blk rfl _ _ rfl wg.heap.size [.int .i64 0, .slice none 0 0] rfl KF.out _ Tryz.underlying44 rfl (by kernel_rfl) ?_)
      | ((with_reducible refine wpList_put rfl _ _ _ rfl w.heap.size [.int .i64 0, .slice none 0 0] _ rfl rfl KA6.out (by kernel_rfl) rfl (one_two rfl rfl) (fun wi ki fi zi => ?_)); have KI := Lib.hid ki; have FI := Lib.hid fi; clear ki fi))
    refine bodyPost_ret (v := .tuple #[.agg #[.int .i64 0, .slice none 0 0], .int .i64 120]) (results_row2 Tryz.results43 _ _ w.heap.size _ _ rfl KI.out Tryz.underlying44 rfl (by kernel_rfl) _ rfl) rfl ?_
    rw [HG2.out]
    exact ⟨_, rfl, OwnA.nil _ _ _ _, (B5.out.trans (CF.out.mono B5.out.size)).trans (FI.out.below (by have := B5.out.size; have := CF.out.size; omega) (fun k (hk : k = w.heap.size) => by omega))⟩
set_option maxHeartbeats 4000000 in
set_option maxRecDepth 100000 in
theorem readParams_calls (D : Nat → Prop) (w : World) (v : Value) (l : List UInt8) (hB : Byt D w v l) (hl : l.length ≤ 140737488355328) :
    Calls Tryz.prog 18 #[v] w (GotP w.heap.size w (gotP l)) := by
  have HB := Lib.hid hB
  clear hB
  obtain ⟨g, hg⟩ : ∃ g, gotP l = g := ⟨_, rfl⟩
  have HR := Lib.hid (fun w' h => read_p_calls D w' v l h hl)
  rw [hg] at HR ⊢
  clear hg
  go_enter Tryz.func18, Tryz.ntmps18
  go_upto_region 1 with (first
    | ((with_reducible refine wpList_alloc rfl _ rfl _ (zeroP _) (fun wa ka ca za => ?_)); have KA := Lib.hid ka; have CA := Lib.hid ca; clear ka ca))
  go_wp2_with fail
  refine (HR.out wa (HB.out.below CA.out)).mono ?_
  rintro e wb ⟨vk, rfl, o1, o2⟩
  obtain ⟨ka, kc, hke, _⟩ := o1.form
  subst hke
  have V1 := Lib.hid o1
  have B1 := Lib.hid (CA.out.trans (o2.mono (by omega)))
  have KA1 := Lib.hid (KA.out.below o2)
  clear o1 o2 KA HR HB
  go_wp2_with (first
    | ((with_reducible refine wpList_put rfl _ _ _ rfl w.heap.size [.int .i64 g.1, .slice ka (digs g.2.1).length kc] _ rfl rfl KA1.out (by kernel_rfl) rfl (one_two rfl rfl) (fun wi ki fi zi => ?_)); have KI := Lib.hid ki; have FI := Lib.hid fi; clear ki fi))
  exact bodyPost_ret (v := .tuple #[.agg #[.int .i64 g.1, .slice ka (digs g.2.1).length kc], .int .i64 g.2.2]) (results_row2 Tryz.results18 _ _ w.heap.size _ _ rfl KI.out Tryz.underlying44 rfl (by kernel_rfl) _ rfl) rfl ⟨_, rfl, (V1.out.fr FI.out (fun k hk (e : k = w.heap.size) => by have := (V1.out.lt k hk).1; omega)).mono (by omega), B1.out.trans (FI.out.below (by have := B1.out.size; omega) (fun k (hk : k = w.heap.size) => by omega))⟩
end Go.Proofs.YtmenchnjajpkmaaGreat.WtIt
end

section
namespace Go.Proofs.YtmenchnjajpkmaaGreat.Rr
open Go Go.RowKit Mem Codec Ops
set_option linter.unusedVariables false

/-- the reference's reader at block q, of the bytes B; r: what is left, and what is amiss -/
def RfR (w : World) (q : Nat) (a : Option Addr) (c : Nat) (B : List UInt8) (r : Rd) : Prop :=
  ∃ n, n ≤ B.length ∧ r.rest = B.drop n ∧ n = B.length - r.rest.length ∧ Blk w q [.slice a B.length c, .int .i64 (n : Int), .int .i64 r.e] 124 ∧ Byt (fun k => k ≠ q) w (.slice a B.length c) B
section
variable {w w' : World} {q : Nat} {a : Option Addr} {c : Nat} {B : List UInt8} {r : Rd}
theorem RfR.lt (h : RfR w q a c B r) : q < w.heap.size := h.choose_spec.2.2.2.1.lt
theorem RfR.below (h : RfR w q a c B r) (hb : Below w.heap.size w w') : RfR w' q a c B r := by
  obtain ⟨n, h1, h2, h3, h4, h5⟩ := h
  exact ⟨n, h1, h2, h3, h4.below hb, h5.below hb⟩
/-- the error is written over -/
theorem RfR.err (h : RfR w q a c B r) (e : Int) : RfR (w.setCell ⟨q, 2, none⟩ (.int .i64 e)) q a c B ⟨r.rest, e⟩ ∧ Fr (fun k => k = q) w (w.setCell ⟨q, 2, none⟩ (.int .i64 e)) ∧ w.cell? ⟨q, 2, none⟩ = some (.int .i64 r.e) ∧ w.frozen? ⟨q, 2, none⟩ = false := by
  obtain ⟨n, h1, h2, h3, h4, h5⟩ := h
  have hf : Fr (fun k => k = q) w (w.setCell ⟨q, 2, none⟩ (.int .i64 e)) := Fr.setCell (S := fun k => k = q) (p := ⟨q, 2, none⟩) (Fr.refl _ w) (.inr rfl) _
  exact ⟨⟨n, h1, h2, h3, by simpa using h4.set 2 (.int .i64 e), h5.fr hf (fun k _ h e => h e)⟩, hf, h4.cell rfl, h4.free 2⟩
end
set_option maxHeartbeats 4000000 in
theorem fail_calls (w : World) (q : Nat) (a : Option Addr) (c : Nat) (B : List UInt8) (r : Rd) (H : RfR w q a c B r) :
    Calls Tryz.prog 113 #[.pointer (some ⟨q, 0, none⟩)] w fun e w' => e = .returned (.tuple #[]) ∧ RfR w' q a c B (r.fail 120) ∧ Fr (fun k => k = q) w w' := by
  obtain ⟨h1, h2, c2, f2⟩ := H.err 120
  have H0 := Lib.hid H
  have H1 := Lib.hid h1
  have H2 := Lib.hid h2
  clear h1 h2 H
  by_cases he : r.e = 0
  · have HF := Lib.hid (show r.fail 120 = ⟨r.rest, 120⟩ by unfold Rd.fail; rw [if_pos he])
    rw [he] at c2
    clear he
    go_enter Tryz.func113, Tryz.ntmps113
    go_wp2
    go_end0
    exact ⟨rfl, by rw [HF.out]; exact H1.out, H2.out⟩
  · have HF := Lib.hid (show r.fail 120 = r by unfold Rd.fail; rw [if_neg he])
    have he2 : (r.e == 0) = false := by simpa using he
    clear he
    go_enter Tryz.func113, Tryz.ntmps113
    go_wp2
    go_end0
    exact ⟨rfl, by rw [HF.out]; exact H0.out, Fr.refl _ _⟩
set_option maxHeartbeats 4000000 in
theorem ok_calls (w : World) (q : Nat) (a : Option Addr) (c : Nat) (B : List UInt8) (r : Rd) (H : RfR w q a c B r) :
    Calls Tryz.prog 67 #[.pointer (some ⟨q, 0, none⟩)] w fun e w' => e = .returned (.bool (r.e == 0)) ∧ w = w' := by
  obtain ⟨n, h1, h2, h3, h4, h5⟩ := H
  have c2 := h4.cell (i := 2) rfl
  clear h1 h2 h3 h4 h5
  go_enter Tryz.func67, Tryz.ntmps67
  go_wp2
  go_ret
  exact ⟨rfl, rfl⟩
/-- its End, told as the wire's error -/
def finE (r : Rd) : Int := if r.fin = 0 then 0 else 120
set_option maxHeartbeats 4000000 in
theorem ended_calls (w : World) (q : Nat) (a : Option Addr) (c : Nat) (B : List UInt8) (r : Rd) (H : RfR w q a c B r) :
    Calls Tryz.prog 32 #[.pointer (some ⟨q, 0, none⟩)] w fun e w' => e = .returned (.int .i64 (finE r)) ∧ Below w.heap.size w w' := by
  obtain ⟨n, h1, h2, h3, h4, h5⟩ := H
  have HB := Lib.hid h4
  have HN := Lib.hid h1
  have HR := Lib.hid (show (⟨B.drop n, r.e⟩ : Rd) = r by rw [← h2])
  obtain ⟨fe, hfe⟩ : ∃ x, finE r = x := ⟨_, rfl⟩
  have HFE := Lib.hid hfe
  rw [hfe]
  clear h1 h2 h3 h4 h5 hfe
  go_enter Tryz.func32, Tryz.ntmps32
  go_wp2_with (first | (with_reducible refine wpList_load_blk rfl _ _ rfl q [.slice a B.length c, .int .i64 (n : Int), .int .i64 r.e] rfl HB.out _ Tryz.underlying122 rfl (by kernel_rfl) ?_))
  refine (CodecRef.end_calls w a c B n r.e HN.out).mono ?_
  rintro e w1 ⟨rfl, g1⟩
  rw [HR.out]
  have G1 := Lib.hid g1
  clear g1 HB
  by_cases hf : r.fin = 0
  · have hf2 : (r.fin != 0) = false := by simp [hf]
    have HX := Lib.hid (show fe = 0 by rw [← HFE.out]; exact if_pos hf)
    clear hf
    go_wp2
    go_ret
    exact ⟨by rw [HX.out]; rfl, G1.out⟩
  · have hf2 : (r.fin != 0) = true := by simpa using hf
    have HX := Lib.hid (show fe = 120 by rw [← HFE.out]; exact if_neg hf)
    clear hf
    go_wp2
    go_ret
    exact ⟨by rw [HX.out]; rfl, G1.out⟩
set_option maxHeartbeats 4000000 in
theorem begin_calls (D : Nat → Prop) (w : World) (a : Option Addr) (c : Nat) (B : List UInt8) (hB : Byt D w (.slice a B.length c) B) :
    Calls Tryz.prog 30 #[.slice a B.length c] w fun e w' => e = .returned (.pointer (some ⟨w.heap.size, 0, none⟩)) ∧ RfR w' w.heap.size a c B ⟨B, 0⟩ ∧ Below w.heap.size w w' := by
  have HB := Lib.hid hB
  clear hB
  go_enter Tryz.func30, Tryz.ntmps30
  go_wp2
  go_ret
  exact ⟨rfl, ⟨0, Nat.zero_le _, by simp, by simp, Blk.new w _ _ _ rfl, (HB.out.lt.mono (fun k _ h => by have := h.1; omega)).below (below_alloc _ _)⟩, below_alloc _ _⟩
end Go.Proofs.YtmenchnjajpkmaaGreat.Rr
end

section
namespace Go.Proofs.YtmenchnjajpkmaaGreat.Rr
open Go Go.RowKit Mem Codec Ops
set_option linter.unusedVariables false

/-- noughts where there are none -/
def pad (n : Nat) (l : List UInt8) : List UInt8 := if l.length < n then List.replicate n 0 else l
theorem mc (n : Nat) : ∀ j (h : j < (List.replicate n (0 : UInt8)).length), (madeCells #[.int .u8 0] n)[j]? = some (byt ((List.replicate n (0 : UInt8))[j]'h)) := by
  intro j hj
  have hj' : j < n := by simpa using hj
  simp [madeCells, hj']
  rw [show j % 1 = 0 by omega]
  rfl
theorem zeroR11 (w : World) : (zeroValue 122).run Tryz.prog w = .ok (.agg [.slice none 0 0, .int .i64 0, .int .i64 0].toArray) w := by kernel_rfl
theorem one3 {a b c : Value} (ha : a.oneCell' = true) (hb : b.oneCell' = true) (hc : c.oneCell' = true) : ∀ u ∈ [a, b, c], u.oneCell' = true := by
  intro u hu
  simp only [List.mem_cons, List.not_mem_nil, or_false] at hu
  rcases hu with rfl | rfl | rfl <;> assumption
set_option maxHeartbeats 8000000 in
set_option maxRecDepth 100000 in
theorem raw_calls (w : World) (q : Nat) (a : Option Addr) (c : Nat) (B : List UInt8) (r : Rd) (n : Nat) (hn : n ≤ 1048576) (H : RfR w q a c B r) (hl : B.length ≤ 140737488355328) :
    Calls Tryz.prog 102 #[.pointer (some ⟨q, 0, none⟩), .int .i64 (n : Int)] w fun e w' => ∃ v, e = .returned v ∧ Byt (fun k => w.heap.size ≤ k) w' v (pad n (r.raw n).2) ∧ RfR w' q a c B (r.raw n).1 ∧ Fr (fun k => k = q) w w' := by
  obtain ⟨at', h1, h2, h3, h4, h5⟩ := H
  have hql := h4.lt
  have HB := Lib.hid h4
  have HY := Lib.hid h5
  have hr : (⟨B.drop at', r.e⟩ : Rd) = r := by rw [← h2]
  have HRW := Lib.hid (CodecRef.raw_calls w a c B at' r.e n (h5.mono (fun _ _ _ => trivial)) h1 hl (by omega) (by omega))
  rw [hr] at HRW
  have HSF := Lib.hid (show (r.raw n).1.rest = B.drop (B.length - (r.raw n).1.rest.length) ∧ B.length - (r.raw n).1.rest.length ≤ B.length from by
    have hx : ∃ k, (r.raw n).1.rest = (B.drop at').drop k := by
      rw [← h2]
      unfold Rd.raw
      rw [if_neg (by omega)]
      exact CodecRef.Rd.take_suf r _
    have := CodecRef.suf_at hx h1
    exact ⟨this.1, this.2.1⟩)
  obtain ⟨s, hs⟩ : ∃ s, (r.raw n).1 = s := ⟨_, rfl⟩
  obtain ⟨x, hx⟩ : ∃ x, (r.raw n).2 = x := ⟨_, rfl⟩
  rw [hs] at HRW HSF
  rw [hx] at HRW
  rw [hs, hx]
  clear h1 h2 h3 h4 h5 hr hs hx
  go_enter Tryz.func102, Tryz.ntmps102
  go_wp2_with (first | (with_reducible refine wpList_load_blk rfl _ _ rfl q [.slice a B.length c, .int .i64 (at' : Int), .int .i64 r.e] rfl HB.out _ Tryz.underlying122 rfl (by kernel_rfl) ?_))
  refine HRW.out.mono ?_
  rintro e w1 ⟨v, rfl, g1, g2⟩
  have G1 := Lib.hid g1
  have G2 := Lib.hid g2
  have HB1 := Lib.hid (HB.out.below g2)
  have HY1 := Lib.hid (HY.out.below g2)
  have hs1 := g2.size
  obtain ⟨va, vc, hve, _⟩ := id g1
  subst hve
  clear g1 g2 HB HY HRW
  go_upto_region 3 with (first
    | ((with_reducible refine wpList_alloc rfl _ rfl _ (zeroR11 _) (fun wa ka ca za => ?_)); have KA := Lib.hid ka; have CA := Lib.hid ca; have HB2 := Lib.hid (HB1.out.below ca); clear ka ca)
    | ((with_reducible refine wpList_put rfl _ _ _ rfl w1.heap.size [.slice a B.length c, .int .i64 ((B.length - s.rest.length : Nat) : Int), .int .i64 s.e] _ rfl rfl KA.out (by kernel_rfl) rfl (one3 rfl rfl rfl) (fun wb kb fb zb => ?_)); have KB := Lib.hid kb; have CB := Lib.hid (CA.out.trans (fb.below CA.out.size (fun k (hk : k = _) => by omega))); have HB3 := Lib.hid (HB2.out.fr fb (by omega)); clear kb fb)
    | (with_reducible refine wpList_load_blk rfl _ _ rfl w1.heap.size [.slice a B.length c, .int .i64 ((B.length - s.rest.length : Nat) : Int), .int .i64 s.e] rfl KB.out _ Tryz.underlying122 rfl (by kernel_rfl) ?_)
    | ((with_reducible refine wpList_put rfl _ _ _ rfl q [.slice a B.length c, .int .i64 ((B.length - s.rest.length : Nat) : Int), .int .i64 s.e] _ rfl rfl HB3.out (by kernel_rfl) rfl (one3 rfl rfl rfl) (fun wc kc fc zc => ?_)); have KC := Lib.hid kc; have FC := Lib.hid fc; clear kc fc))
  have F1 := Lib.hid (((Fr.ofBelowAll (G2.out.trans (CB.out.mono hs1)) (Nat.le_refl _) : Fr (fun k => k = q) w _)).trans FC.out)
  have X1 := Lib.hid (show RfR _ q a c B s from ⟨B.length - s.rest.length, HSF.out.2, HSF.out.1, rfl, KC.out, (HY1.out.below CB.out).fr FC.out (fun k _ h e => h e)⟩)
  have V1 := Lib.hid ((G1.out.below CB.out).fr FC.out (fun k _ (h : w.heap.size ≤ k) (e : k = q) => by omega))
  have hsz := F1.out.size
  clear G1 G2 HB1 HY1 HB2 HB3 KA KB KC CA CB FC HSF
  by_cases hlt : x.length < n
  · have HP := Lib.hid (show pad n x = List.replicate n 0 from if_pos hlt)
    have hltI : (x.length : Int) < (n : Int) := by omega
    obtain ⟨i, hi, hz, hsz1, hby⟩ := (CodecW.elemB).info
    have hmk : Byt (fun k => w.heap.size ≤ k) (wc.alloc (.cells (madeCells #[.int .u8 0] n) 5)) (.slice (some ⟨wc.heap.size, 0, none⟩) n n) (List.replicate n 0) :=
      (Byt.newBlock (D := fun k => k = wc.heap.size) wc _ _ _ (List.replicate n 0) n n (by simp) ⟨by simp, by unfold maxLen; omega⟩ rfl (mc n)).mono (fun k _ h => by have h : k = wc.heap.size := h; omega)
    have HM := Lib.hid hmk
    have X2 := Lib.hid (X1.out.below (below_alloc wc (.cells (madeCells #[.int .u8 0] n) 5)))
    have F2 := Lib.hid (F1.out.alloc (.cells (madeCells #[.int .u8 0] n) 5))
    clear hmk X1 F1 V1 zc zb za
    go_wp2_with (first | refine wpList_make_row _ rfl _ _ 30 rfl 5 i (.int .u8 0) Tryz.underlying30 hi hz hsz1 rfl .i64 .i64 n rfl rfl (by rw [hby]; omega) (by omega) ?_)
    go_ret
    exact ⟨_, rfl, by rw [HP.out]; exact HM.out, X2.out, F2.out⟩
  · have HP := Lib.hid (show pad n x = x from if_neg hlt)
    have hltI : ¬ ((x.length : Int) < (n : Int)) := by omega
    go_wp2
    go_ret
    exact ⟨_, rfl, by rw [HP.out]; exact V1.out, X1.out, F1.out⟩
end Go.Proofs.YtmenchnjajpkmaaGreat.Rr
end

section
namespace Go.Proofs.YtmenchnjajpkmaaGreat.Rr
open Go Go.RowKit Mem Codec Ops
set_option linter.unusedVariables false

theorem said_noughts : ∀ n, said (List.replicate n (0 : UInt8)) = 0
  | 0 => rfl
  | n + 1 => by
    rw [List.replicate_succ', said_snoc, said_noughts n]
    rfl
theorem said_pad (r : Rd) (k : Nat) : said (pad k (r.raw k).2) = (r.num k).2 ∧ (r.raw k).1 = (r.num k).1 := by
  have e : r.raw k = r.take k := by unfold Rd.raw; rw [if_neg (by omega)]; simp
  rw [e]
  refine ⟨?_, rfl⟩
  unfold Rd.num pad
  dsimp only
  split
  · rename_i h
    rw [said_noughts]
    have : (r.take k).2 = [] := by
      unfold Rd.take at h ⊢
      split
      · rfl
      · split
        · rfl
        · rename_i h1 h2
          rw [if_neg h1, if_neg h2] at h
          simp at h
          omega
    rw [this]; rfl
  · rfl
set_option maxHeartbeats 4000000 in
theorem number_calls (w : World) (q : Nat) (a : Option Addr) (c : Nat) (B : List UInt8) (r : Rd) (k : Nat) (hk : k ≤ 8) (H : RfR w q a c B r) (hl : B.length ≤ 140737488355328) :
    Calls Tryz.prog 65 #[.pointer (some ⟨q, 0, none⟩), .int .i64 (k : Int)] w fun e w' => e = .returned (.int .u64 ((r.num k).2 : Int)) ∧ RfR w' q a c B (r.num k).1 ∧ Fr (fun k => k = q) w w' := by
  have H0 := Lib.hid H
  have HS := Lib.hid (said_pad r k)
  obtain ⟨z, hz⟩ : ∃ z, (r.num k).2 = z := ⟨_, rfl⟩
  obtain ⟨s, hs⟩ : ∃ s, (r.num k).1 = s := ⟨_, rfl⟩
  rw [hz, hs] at HS ⊢
  clear H hz hs
  go_enter Tryz.func65, Tryz.ntmps65
  go_wp2_with fail
  refine (raw_calls w q a c B r k (by omega) H0.out hl).mono ?_
  rintro e w1 ⟨v, rfl, o1, o2, o3⟩
  rw [HS.out.2] at o2
  have O1 := Lib.hid o1
  have O2 := Lib.hid o2
  have O3 := Lib.hid o3
  clear o1 o2 o3 H0
  go_wp2_with fail
  refine (CodecRef.said_calls _ w1 v _ O1.out).mono ?_
  rintro e w2 ⟨rfl, rfl⟩
  rw [HS.out.1]
  go_wp2
  go_ret
  exact ⟨rfl, O2.out, O3.out⟩
end Go.Proofs.YtmenchnjajpkmaaGreat.Rr
end

section
namespace Go.Proofs.YtmenchnjajpkmaaGreat.Rr
open Go Go.RowKit Mem Codec Ops
set_option linter.unusedVariables false

set_option maxHeartbeats 4000000 in
theorem small_calls (w : World) (q : Nat) (a : Option Addr) (c : Nat) (B : List UInt8) (r : Rd) (lo hi : Int) (H : RfR w q a c B r) (hl : B.length ≤ 140737488355328) :
    Calls Tryz.prog 81 #[.pointer (some ⟨q, 0, none⟩), .int .i64 lo, .int .i64 hi] w fun e w' => e = .returned (.int .i64 (Wr.Rd.kind r lo hi).2) ∧ RfR w' q a c B (Wr.Rd.kind r lo hi).1 ∧ Fr (fun k => k = q) w w' := by
  have hn2 : (r.num 1).2 < 256 := CodecR.num1_lt r
  have HN := Lib.hid (number_calls w q a c B r 1 (by omega) H hl)
  unfold Wr.Rd.kind
  dsimp only
  obtain ⟨r1, hr1⟩ : ∃ r1, (r.num 1).1 = r1 := ⟨_, rfl⟩
  obtain ⟨n, hn⟩ : ∃ n, (r.num 1).2 = n := ⟨_, rfl⟩
  rw [hr1, hn] at HN ⊢
  rw [hn] at hn2
  obtain ⟨ok, hok⟩ : ∃ ok, (decide (lo ≤ (n : Int)) && decide ((n : Int) ≤ hi)) = ok := ⟨_, rfl⟩
  rw [hok]
  have hcv : IntKind.i64.wrap (n : Int) = (n : Int) := by rw [IntKind.wrap_i64]; omega
  clear hr1 hn H
  go_enter Tryz.func81, Tryz.ntmps81
  go_wp2_with fail
  refine HN.out.mono ?_
  rintro e w1 ⟨rfl, o1, o2⟩
  have O1 := Lib.hid o1
  have O2 := Lib.hid o2
  clear o1 o2 HN
  by_cases h1 : lo ≤ (n : Int)
  · by_cases h2 : (n : Int) ≤ hi
    · have hx1 : ¬ ((n : Int) < lo) := by omega
      have hx2 : ¬ (hi < (n : Int)) := by omega
      simp [h1, h2] at hok
      subst hok
      go_wp2
      go_ret
      exact ⟨rfl, O1.out, O2.out⟩
    · have hx1 : ¬ ((n : Int) < lo) := by omega
      have hx2 : hi < (n : Int) := by omega
      simp [h1, h2] at hok
      subst hok
      go_wp2_with fail
      refine (fail_calls w1 q a c B r1 O1.out).mono ?_
      rintro e w2 ⟨rfl, p1, p2⟩
      have P1 := Lib.hid p1
      have P2 := Lib.hid (O2.out.trans p2)
      clear p1 p2
      go_wp2
      go_ret
      exact ⟨rfl, P1.out, P2.out⟩
  · have hx1 : (n : Int) < lo := by omega
    simp [h1] at hok
    subst hok
    go_wp2_with fail
    refine (fail_calls w1 q a c B r1 O1.out).mono ?_
    rintro e w2 ⟨rfl, p1, p2⟩
    have P1 := Lib.hid p1
    have P2 := Lib.hid (O2.out.trans p2)
    clear p1 p2
    go_wp2
    go_ret
    exact ⟨rfl, P1.out, P2.out⟩
end Go.Proofs.YtmenchnjajpkmaaGreat.Rr
end

section
namespace Go.Proofs.YtmenchnjajpkmaaGreat.Rr
open Go Go.RowKit Mem Codec Ops
set_option linter.unusedVariables false

theorem pad32 (r : Rd) : pad 32 (r.raw 32).2 = (Wr.Rd.dig r).2 := by
  unfold pad Wr.Rd.dig
  dsimp only
  rcases Wr.raw32_len r with h | h
  · rw [if_neg (by omega), if_pos h]
  · rw [h]; rfl
/-- the first i bytes are laid -/
def half (d : List UInt8) (i : Nat) : List Value := (d.take i).map byt ++ List.replicate (32 - i) (.int .u8 0)
theorem half_next {d : List UInt8} (hd : d.length = 32) {i : Nat} (hi : i < 32) : (half d i)[i]? = some (.int .u8 0) := by
  unfold half
  have hl : ((d.take i).map byt).length = i := by simp; omega
  rw [List.getElem?_append_right (by omega), hl, Nat.sub_self, List.getElem?_replicate, if_pos (by omega)]
theorem half_set {d : List UInt8} (hd : d.length = 32) {i : Nat} (hi : i < 32) : (half d i).set i (byt (d[i]'(by omega))) = half d (i + 1) := by
  unfold half
  apply List.ext_getElem?
  intro j
  rw [List.getElem?_set]
  simp only [List.getElem?_append, List.length_map, List.length_take, List.length_append, List.length_replicate, hd, Nat.min_eq_left (Nat.le_of_lt hi), Nat.min_eq_left hi, List.getElem?_map, List.getElem?_take, List.getElem?_replicate]
  by_cases h1 : i = j
  · subst h1
    simp [hi, hd]
    omega
  · by_cases h2 : j < i
    · simp [h1, h2, show j < i + 1 by omega]
    · simp [h1, h2, show ¬ j < i + 1 by omega]
      by_cases h3 : j < 32
      · simp [show j - i < 32 - i by omega]
        omega
      · simp [show ¬ j - i < 32 - i by omega]
        omega
set_option maxHeartbeats 4000000 in
set_option maxRecDepth 100000 in
theorem digest_calls (w : World) (q : Nat) (a : Option Addr) (c : Nat) (B : List UInt8) (r : Rd) (H : RfR w q a c B r) (hl : B.length ≤ 140737488355328) :
    Calls Tryz.prog 68 #[.pointer (some ⟨q, 0, none⟩)] w fun e w' => e = .returned (.agg ((Wr.Rd.dig r).2.map byt).toArray) ∧ RfR w' q a c B (Wr.Rd.dig r).1 ∧ Fr (fun k => k = q) w w' := by
  have hql := H.lt
  have H0 := Lib.hid H
  have HP := Lib.hid (pad32 r)
  have HDL := Lib.hid (Wr.Rd.dig_len r)
  have HD1 := Lib.hid (show (Wr.Rd.dig r).1 = (r.raw 32).1 from rfl)
  obtain ⟨d, hd⟩ : ∃ d, (Wr.Rd.dig r).2 = d := ⟨_, rfl⟩
  rw [hd] at HP HDL ⊢
  rw [HD1.out]
  clear H hd
  go_enter Tryz.func68, Tryz.ntmps68
  go_upto_region 1 with (first
    | ((with_reducible refine wpList_alloc rfl _ rfl _ (Wr.zeroD _) (fun wa ka ca za => ?_)); have KA := Lib.hid ka; have CA := Lib.hid ca; clear ka ca))
  go_wp2_with fail
  refine (raw_calls wa q a c B r 32 (by omega) (H0.out.below CA.out) hl).mono ?_
  rintro e wb ⟨v, rfl, o1, o2, o3⟩
  rw [show ((32 : Nat) : Int) = 32 from rfl] at o1 o2
  rw [HP.out] at o1
  have O1 := Lib.hid o1
  have O2 := Lib.hid o2
  have KB := Lib.hid (KA.out.fr o3 (by omega))
  have F1 := Lib.hid ((Fr.ofBelowAll CA.out (Nat.le_refl _) : Fr (fun k => k = q) w wa).trans o3)
  have hsb := o3.size
  obtain ⟨va, vc, hve, hx⟩ := id o1
  subst hve
  have hne : d ≠ [] := fun e => by have := HDL.out; rw [e] at this; simp at this
  obtain ⟨b, off, rfl, hb1, hb2⟩ := hx.2.resolve_left hne
  have HLS := Lib.hid hb2
  have hbl : b < wb.heap.size := World.block_lt_of_cell? _ _ (hb2 0 (by have := HDL.out; omega))
  clear o1 o2 o3 KA CA hx hb2
  go_upto_region 3 with (first
    | ((with_reducible refine wpList_alloc rfl _ rfl _ (Wr.zeroD _) (fun wc kc cc zc => ?_)); have KC := Lib.hid kc; have CC := Lib.hid cc; clear kc cc))
  have hd32 : d.length = 32 := HDL.out
  have K0 := Lib.hid (show Blk wc wb.heap.size (half d 0) 27 from by have := KC.out; simpa [half] using this)
  obtain ⟨gd, hgd⟩ : ∃ g, wb.heap.size = g := ⟨_, rfl⟩
  rw [hgd] at K0 hbl
  have hgdl : gd < wc.heap.size := K0.out.lt
  have BB := Lib.hid (show Below gd wb wc from hgd ▸ CC.out)
  clear KC CC
  go_wp2
  go_loopw [5] (fun i' wx => ∃ i : Nat, i ≤ 32 ∧ i' = .int .i64 (i : Int) ∧ Blk wx gd (half d i) 27 ∧ Below gd wb wx) (fun i' _ => 32 - (intOf i').toNat)
  case atStart => exact ⟨0, Nat.zero_le _, rfl, K0.out, BB.out⟩
  case round =>
    obtain ⟨i, hi, rfl, hK, hB⟩ := hrel
    have HK := Lib.hid hK
    have HBx := Lib.hid hB
    by_cases hlt : i < 32
    · have c1 : wr.cell? ⟨b, off + i, none⟩ = some (byt (d[i]'(by omega))) := (hB.cell hbl).trans (HLS.out i (by omega))
      have c2 := hK.cell (i := i) (v := .int .u8 0) (half_next hd32 hlt)
      have f2 := hK.free i
      have HN := Lib.hid (half_set hd32 hlt)
      have hltI : (i : Int) < 32 := by omega
      have hltD : (i : Int) < (d.length : Int) := by omega
      have HS := Lib.hid (hK.set i (byt (d[i]'(by omega))))
      have HB2 := Lib.hid (show Below gd wb (wr.setCell ⟨gd, i, none⟩ (byt (d[i]'(by omega)))) from hB.trans ((Fr.setCell (S := fun k => k = gd) (p := ⟨gd, i, none⟩) (Fr.refl _ wr) (.inr rfl) _).below (by have := hK.lt; omega) (fun k (hk : k = gd) => by omega)))
      clear hK hB
      go_wp2
      go_roundw
      case rel => exact ⟨i + 1, by omega, by go_num, by rw [← HN.out]; exact HS.out, HB2.out⟩
      case measure => simp [intOf]; omega
    · obtain rfl : i = 32 := by omega
      have HD := Lib.hid (show Blk wr gd (d.map byt) 27 from by have := hK; unfold half at this; rw [List.take_of_length_le (by omega)] at this; simpa using this)
      have KR := Lib.hid (KB.out.fr (Fr.ofBelow hB) (by show ¬ gd ≤ w.heap.size; omega))
      have SZ := Lib.hid (Ww.szD HDL.out)
      have FR := Lib.hid (F1.out.trans (Fr.ofBelowAll hB (by omega)))
      have OR := Lib.hid (O2.out.below (hgd ▸ hB))
      clear hK hB HK HBx
      go_wp2_with (first
        | (with_reducible refine wpList_load_blk rfl _ _ rfl gd (d.map byt) rfl HD.out _ Tryz.underlying27 rfl SZ.out ?_)
        | ((with_reducible refine wpList_put rfl _ _ _ rfl w.heap.size (d.map byt) _ rfl rfl KR.out SZ.out (by simp [HDL.out]) (Wt.oneK _) (fun we ke fe ze => ?_)); have KE := Lib.hid ke; have FE := Lib.hid fe; clear ke fe))
      exact bodyPost_ret (v := .agg (d.map byt).toArray) (results_row1 Tryz.results68 _ _ w.heap.size _ _ rfl KE.out Tryz.underlying27 rfl SZ.out) rfl ⟨rfl, (by
        obtain ⟨n, p1, p2, p3, p4, p5⟩ := OR.out
        obtain ⟨_, _, _, _, _, y5⟩ := H0.out
        have hfe : Fr (fun k => k = q) w we := FR.out.trans' FE.out (fun i hi (e : i = w.heap.size) => by omega)
        exact ⟨n, p1, p2, p3, p4.fr FE.out (by omega), y5.fr hfe (fun k _ h e => h e)⟩), FR.out.trans' FE.out (fun i hi (e : i = w.heap.size) => by omega)⟩
end Go.Proofs.YtmenchnjajpkmaaGreat.Rr
end

section
namespace Go.Proofs.YtmenchnjajpkmaaGreat.Rr
open Go Go.RowKit Mem Codec Ops
set_option linter.unusedVariables false

theorem var_le (r : Rd) (most : Nat) : (r.var most).2 ≤ most := by
  unfold Rd.var
  dsimp only
  repeat' split
  all_goals (first | exact Nat.zero_le _ | omega)
set_option maxHeartbeats 8000000 in
set_option maxRecDepth 100000 in
theorem many_calls (w : World) (q : Nat) (a : Option Addr) (c : Nat) (B : List UInt8) (r : Rd) (most : Nat) (hm : most ≤ 1048576) (H : RfR w q a c B r) (hl : B.length ≤ 140737488355328) :
    Calls Tryz.prog 66 #[.pointer (some ⟨q, 0, none⟩), .int .i64 (most : Int)] w fun e w' => e = .returned (.int .i64 ((r.var most).2 : Int)) ∧ RfR w' q a c B (r.var most).1 ∧ Fr (fun k => k = q) w w' := by
  obtain ⟨at', h1, h2, h3, h4, h5⟩ := H
  have hql := h4.lt
  have HB := Lib.hid h4
  have HY := Lib.hid h5
  have hr : (⟨B.drop at', r.e⟩ : Rd) = r := by rw [← h2]
  have HRW := Lib.hid (CodecRef.getvar_calls w a c B at' r.e most false (h5.mono (fun _ _ _ => trivial)) h1 hl (by omega))
  rw [hr, Rd.rvar_false] at HRW
  have HSF := Lib.hid (show (r.var most).1.rest = B.drop (B.length - (r.var most).1.rest.length) ∧ B.length - (r.var most).1.rest.length ≤ B.length from by
    have hx : ∃ k, (r.var most).1.rest = (B.drop at').drop k := by
      rw [← h2]
      exact CodecRef.Rd.var_suf r most
    have := CodecRef.suf_at hx h1
    exact ⟨this.1, this.2.1⟩)
  obtain ⟨s, hs⟩ : ∃ s, (r.var most).1 = s := ⟨_, rfl⟩
  obtain ⟨x, hx⟩ : ∃ x : Nat, (r.var most).2 = x := ⟨_, rfl⟩
  have hxl : x ≤ 1048576 := by rw [← hx]; exact Nat.le_trans (var_le r most) hm
  have hcv : IntKind.i64.wrap (x : Int) = (x : Int) := by rw [IntKind.wrap_i64]; omega
  rw [hs] at HRW HSF
  rw [hx] at HRW
  rw [hs, hx]
  clear h1 h2 h3 h4 h5 hr hs hx
  go_enter Tryz.func66, Tryz.ntmps66
  go_wp2_with (first | (with_reducible refine wpList_load_blk rfl _ _ rfl q [.slice a B.length c, .int .i64 (at' : Int), .int .i64 r.e] rfl HB.out _ Tryz.underlying122 rfl (by kernel_rfl) ?_))
  refine HRW.out.mono ?_
  rintro e w1 ⟨rfl, g2⟩
  have G2 := Lib.hid g2
  have HB1 := Lib.hid (HB.out.below g2)
  have HY1 := Lib.hid (HY.out.below g2)
  have hs1 := g2.size
  clear g2 HB HY HRW
  go_upto_region 3 with (first
    | ((with_reducible refine wpList_alloc rfl _ rfl _ (zeroR11 _) (fun wa ka ca za => ?_)); have KA := Lib.hid ka; have CA := Lib.hid ca; have HB2 := Lib.hid (HB1.out.below ca); clear ka ca)
    | ((with_reducible refine wpList_put rfl _ _ _ rfl w1.heap.size [.slice a B.length c, .int .i64 ((B.length - s.rest.length : Nat) : Int), .int .i64 s.e] _ rfl rfl KA.out (by kernel_rfl) rfl (one3 rfl rfl rfl) (fun wb kb fb zb => ?_)); have KB := Lib.hid kb; have CB := Lib.hid (CA.out.trans (fb.below CA.out.size (fun k (hk : k = _) => by omega))); have HB3 := Lib.hid (HB2.out.fr fb (by omega)); clear kb fb)
    | (with_reducible refine wpList_load_blk rfl _ _ rfl w1.heap.size [.slice a B.length c, .int .i64 ((B.length - s.rest.length : Nat) : Int), .int .i64 s.e] rfl KB.out _ Tryz.underlying122 rfl (by kernel_rfl) ?_)
    | ((with_reducible refine wpList_put rfl _ _ _ rfl q [.slice a B.length c, .int .i64 ((B.length - s.rest.length : Nat) : Int), .int .i64 s.e] _ rfl rfl HB3.out (by kernel_rfl) rfl (one3 rfl rfl rfl) (fun wc kc fc zc => ?_)); have KC := Lib.hid kc; have FC := Lib.hid fc; clear kc fc))
  have F1 := Lib.hid (((Fr.ofBelowAll (G2.out.trans (CB.out.mono hs1)) (Nat.le_refl _) : Fr (fun k => k = q) w _)).trans FC.out)
  have X1 := Lib.hid (show RfR _ q a c B s from ⟨B.length - s.rest.length, HSF.out.2, HSF.out.1, rfl, KC.out, (HY1.out.below CB.out).fr FC.out (fun k _ h e => h e)⟩)
  have hsz := F1.out.size
  clear G2 HB1 HY1 HB2 HB3 KA KB KC CA CB FC HSF
  go_wp2
  go_ret
  exact ⟨rfl, X1.out, F1.out⟩
end Go.Proofs.YtmenchnjajpkmaaGreat.Rr
end

section
namespace Go.Proofs.YtmenchnjajpkmaaGreat.Reps
open Go Go.RowKit Mem Row Arr Ops
set_option linter.unusedVariables false

/-- both lists, one by one -/
inductive All2 {α β : Type} (R : α → β → Prop) : List α → List β → Prop
  | nil : All2 R [] []
  | cons {a b l m} : R a b → All2 R l m → All2 R (a :: l) (b :: m)
section
variable {α β : Type} {R R' : α → β → Prop}
theorem All2.length {l : List α} {m : List β} (h : All2 R l m) : l.length = m.length := by
  induction h with
  | nil => rfl
  | cons _ _ ih => simp [ih]
theorem All2.imp {l : List α} {m : List β} (h : All2 R l m) (hi : ∀ a b, R a b → R' a b) : All2 R' l m := by
  induction h with
  | nil => exact .nil
  | cons h1 _ ih => exact .cons (hi _ _ h1) ih
theorem All2.append {l l' : List α} {m m' : List β} (h : All2 R l m) (h' : All2 R l' m') : All2 R (l ++ l') (m ++ m') := by
  induction h with
  | nil => exact h'
  | cons h1 _ ih => exact .cons h1 ih
theorem All2.snoc {l : List α} {m : List β} {a : α} {b : β} (h : All2 R l m) (h1 : R a b) : All2 R (l ++ [a]) (m ++ [b]) := h.append (.cons h1 .nil)
theorem All2.get {l : List α} {m : List β} (h : All2 R l m) : ∀ (i : Nat) (hi : i < l.length) (hj : i < m.length), R (l[i]'hi) (m[i]'hj) := by
  induction h with
  | nil => intro i hi; simp at hi
  | cons h1 _ ih =>
    intro i hi hj
    cases i with
    | zero => exact h1
    | succ i => exact ih i (by simpa using hi) (by simpa using hj)
theorem All2.left {l : List α} {m : List β} (h : All2 R l m) {a : α} (ha : a ∈ l) : ∃ b, b ∈ m ∧ R a b := by
  induction h with
  | nil => cases ha
  | cons h1 _ ih =>
    rcases List.mem_cons.1 ha with rfl | ha
    · exact ⟨_, by simp, h1⟩
    · obtain ⟨b, h2, h3⟩ := ih ha; exact ⟨b, by simp [h2], h3⟩
theorem All2.ofMap {γ : Type} (f : γ → α) (g : γ → β) : ∀ (l : List γ), (∀ x ∈ l, R (f x) (g x)) → All2 R (l.map f) (l.map g)
  | [], _ => .nil
  | x :: r, h => .cons (h x (by simp)) (All2.ofMap f g r (fun y hy => h y (by simp [hy])))
end

/-- a way in which so many cells read as plain data, whose memory lies in blocks of D -/
structure Rep {α : Type} (k : Nat) (R : (Nat → Prop) → World → List Value → α → Prop) : Prop where
  pos : 0 < k
  len : ∀ {D w cs x}, R D w cs x → cs.length = k
  one : ∀ {D w cs x}, R D w cs x → ∀ v ∈ cs, v.oneCell' = true
  fr : ∀ {D S w w' cs x}, R D w cs x → Fr S w w' → (∀ b, b < w.heap.size → D b → ¬ S b) → R D w' cs x
  mono : ∀ {D E w cs x}, R D w cs x → (∀ b, b < w.heap.size → D b → E b) → R E w cs x
section
variable {α β : Type} {k : Nat} {R : (Nat → Prop) → World → List Value → α → Prop}
theorem Rep.below (T : Rep k R) {D : Nat → Prop} {w w' : World} {cs : List Value} {x : α} (h : R D w cs x) (hb : Below w.heap.size w w') : R D w' cs x := T.fr h (Fr.ofBelow hb) (fun b h1 _ h2 => by omega)
theorem Rep.lt (T : Rep k R) {D : Nat → Prop} {w : World} {cs : List Value} {x : α} (h : R D w cs x) : R (fun b => b < w.heap.size ∧ D b) w cs x := T.mono h (fun _ h1 h2 => ⟨h1, h2⟩)
theorem Rep.any (T : Rep k R) {D : Nat → Prop} {w : World} {cs : List Value} {x : α} (h : R D w cs x) : R Any w cs x := T.mono h (fun _ _ _ => trivial)
theorem Rep.fr_lt (T : Rep k R) {D S : Nat → Prop} {w w' : World} {cs : List Value} {x : α} (h : R D w cs x) (hf : Fr S w w') (hn : ∀ b, b < w.heap.size → D b → ¬ S b) : R (fun b => b < w.heap.size ∧ D b) w' cs x := T.fr (T.lt h) hf (fun b h1 h2 => hn b h1 h2.2)

/-- a slice of such things -/
def Sl (k : Nat) (R : (Nat → Prop) → World → List Value → α → Prop) (D : Nat → Prop) (w : World) (v : Value) (xs : List α) : Prop := ∃ css, Arr k D w v css ∧ All2 (R D w) css xs
theorem Sl.form {D : Nat → Prop} {w : World} {v : Value} {xs : List α} (h : Sl k R D w v xs) : ∃ a cap, v = .slice a xs.length cap ∧ xs.length ≤ cap ∧ cap ≤ maxLen ∧ (a = none → cap = 0) := by
  obtain ⟨css, h1, h2⟩ := h
  rw [← h2.length]
  exact h1.form
theorem Sl.at {D : Nat → Prop} {w : World} {v : Value} {xs : List α} (h : Sl k R D w v xs) (i : Nat) (hi : i < xs.length) : ∃ b off cap cs, v = .slice (some ⟨b, off, none⟩) xs.length cap ∧ D b ∧ w.rangeAt b (off + i * k) cs ∧ R D w cs (xs[i]'hi) := by
  obtain ⟨css, h1, h2⟩ := h
  have hl := h2.length
  obtain ⟨b, off, cap, e1, e2, e3⟩ := h1.at i (by omega)
  rw [hl] at e1
  exact ⟨b, off, cap, _, e1, e2, e3, h2.get i (by omega) hi⟩
theorem Sl.nil (k : Nat) (R : (Nat → Prop) → World → List Value → α → Prop) (D : Nat → Prop) (w : World) : Sl k R D w (.slice none 0 0) [] := ⟨[], Arr.nil _ _ _, .nil⟩
theorem rep_sl (T : Rep k R) : Rep 1 (fun D w cs (xs : List α) => ∃ v, cs = [v] ∧ Sl k R D w v xs) where
  pos := by omega
  len := by rintro D w cs x ⟨v, rfl, _⟩; rfl
  one := by
    rintro D w cs x ⟨v, rfl, h⟩ u hu
    obtain ⟨a, c, rfl, _⟩ := h.form
    rw [List.mem_singleton.1 hu]; rfl
  fr := by
    rintro D S w w' cs x ⟨v, rfl, css, h1, h2⟩ hf hn
    exact ⟨v, rfl, css, h1.fr T.pos hf hn, h2.imp fun _ _ h => T.fr h hf hn⟩
  mono := by
    rintro D E w cs x ⟨v, rfl, css, h1, h2⟩ hn
    exact ⟨v, rfl, css, h1.mono T.pos hn, h2.imp fun _ _ h => T.mono h hn⟩
theorem Sl.fr (T : Rep k R) {D S : Nat → Prop} {w w' : World} {v : Value} {xs : List α} (h : Sl k R D w v xs) (hf : Fr S w w') (hn : ∀ b, b < w.heap.size → D b → ¬ S b) : Sl k R D w' v xs := by
  obtain ⟨css, h1, h2⟩ := h
  exact ⟨css, h1.fr T.pos hf hn, h2.imp fun _ _ h => T.fr h hf hn⟩
theorem Sl.mono (T : Rep k R) {D E : Nat → Prop} {w : World} {v : Value} {xs : List α} (h : Sl k R D w v xs) (hn : ∀ b, b < w.heap.size → D b → E b) : Sl k R E w v xs := by
  obtain ⟨css, h1, h2⟩ := h
  exact ⟨css, h1.mono T.pos hn, h2.imp fun _ _ h => T.mono h hn⟩
theorem Sl.below (T : Rep k R) {D : Nat → Prop} {w w' : World} {v : Value} {xs : List α} (h : Sl k R D w v xs) (hb : Below w.heap.size w w') : Sl k R D w' v xs := h.fr T (Fr.ofBelow hb) (fun b h1 _ h2 => by omega)
/-- a slice of bytes as one cell -/
theorem rep_byt : Rep 1 (fun D w cs (l : List UInt8) => ∃ v, cs = [v] ∧ Byt D w v l) where
  pos := by omega
  len := by rintro D w cs x ⟨v, rfl, _⟩; rfl
  one := by
    rintro D w cs x ⟨v, rfl, a, c, rfl, _⟩ u hu
    rw [List.mem_singleton.1 hu]; rfl
  fr := by
    rintro D S w w' cs x ⟨v, rfl, h⟩ hf hn
    exact ⟨v, rfl, h.fr hf hn⟩
  mono := by
    rintro D E w cs x ⟨v, rfl, h⟩ hn
    exact ⟨v, rfl, h.mono hn⟩
/-- plain cells -/
theorem rep_plain (k : Nat) (hk : 0 < k) (f : α → List Value) (Ok : α → Prop) (hl : ∀ x, Ok x → (f x).length = k) (h1 : ∀ x, Ok x → ∀ v ∈ f x, v.oneCell' = true) : Rep k (fun (_ : Nat → Prop) (_ : World) cs (x : α) => Ok x ∧ cs = f x) where
  pos := hk
  len := by rintro D w cs x ⟨h, rfl⟩; exact hl x h
  one := by rintro D w cs x ⟨h, rfl⟩; exact h1 x h
  fr := by rintro D S w w' cs x h _ _; exact h
  mono := by rintro D E w cs x h _; exact h
/-- two side by side -/
def PairR (R : (Nat → Prop) → World → List Value → α → Prop) (R' : (Nat → Prop) → World → List Value → β → Prop) : (Nat → Prop) → World → List Value → α × β → Prop := fun D w cs x => ∃ c1 c2, cs = c1 ++ c2 ∧ R D w c1 x.1 ∧ R' D w c2 x.2
theorem rep_pair {m : Nat} {R' : (Nat → Prop) → World → List Value → β → Prop} (T : Rep k R) (U : Rep m R') : Rep (k + m) (PairR R R') where
  pos := by have := T.pos; omega
  len := by rintro D w cs x ⟨c1, c2, rfl, h1, h2⟩; rw [List.length_append, T.len h1, U.len h2]
  one := by
    rintro D w cs x ⟨c1, c2, rfl, h1, h2⟩ v hv
    rcases List.mem_append.1 hv with hv | hv
    · exact T.one h1 v hv
    · exact U.one h2 v hv
  fr := by rintro D S w w' cs x ⟨c1, c2, rfl, h1, h2⟩ hf hn; exact ⟨c1, c2, rfl, T.fr h1 hf hn, U.fr h2 hf hn⟩
  mono := by rintro D E w cs x ⟨c1, c2, rfl, h1, h2⟩ hn; exact ⟨c1, c2, rfl, T.mono h1 hn, U.mono h2 hn⟩
/-- read through a function -/
theorem rep_conv (T : Rep k R) (q : β → α) : Rep k (fun D w cs (x : β) => R D w cs (q x)) where
  pos := T.pos
  len := T.len
  one := T.one
  fr := T.fr
  mono := T.mono
/-- one more thing, appended: v is the slice that was, v' the one that is -/
theorem push (T : Rep k R) {N : Nat} {v v' : Value} {A0 A F : World} {css : List (List Value)} {xs : List α} {cs : List Value} {x : α} {S S2 : Nat → Prop}
    (h6 : All2 (R (fun b => N ≤ b ∧ v.ownBlock ≠ some b) A0) css xs) (hx : R (fun b => A0.heap.size ≤ b) A cs x) (hf : Fr S A0 A) (hs : ∀ k, N ≤ k → ¬ S k) (hN : N ≤ A0.heap.size) (hv : ∀ k, v.ownBlock = some k → k < A0.heap.size)
    (hF : Fr S2 A F) (hs2 : ∀ k, k < A.heap.size → N ≤ k → S2 k → v.ownBlock = some k) (hv' : v'.ownBlock = v.ownBlock ∨ ∃ g, v'.ownBlock = some g ∧ A.heap.size ≤ g) :
    All2 (R (fun b => N ≤ b ∧ v'.ownBlock ≠ some b) F) (css ++ [cs]) (xs ++ [x]) := by
  have hsz := hf.size
  have hne : ∀ b, b < A.heap.size → v.ownBlock ≠ some b → v'.ownBlock ≠ some b := fun b hb h e => by
    rcases hv' with h1 | ⟨g, h1, h2⟩
    · exact h (h1.symm.trans e)
    · rw [h1] at e; cases e; omega
  refine All2.snoc (h6.imp fun _ _ h => ?_) ?_
  · have k1 := T.lt (T.fr h hf (fun b _ h1 e => hs b h1.1 e))
    exact T.mono (T.fr k1 hF (fun b hb h1 e => h1.2.2 (hs2 b hb h1.2.1 e))) (fun b _ h1 => ⟨h1.2.1, hne b h1.1 h1.2.2⟩)
  · have hb0 : ∀ b, A0.heap.size ≤ b → v.ownBlock ≠ some b := fun b h e => by have := hv b e; omega
    have k1 := T.lt hx
    exact T.mono (T.fr k1 hF (fun b hb h1 e => hb0 b h1.2 (hs2 b hb (by omega) e))) (fun b _ h1 => ⟨by omega, hne b h1.1 (hb0 b h1.2)⟩)
/-- the call's own list, read -/
theorem sl_own (T : Rep k R) {N : Nat} {e : TypeId} {w : World} {v : Value} {css : List (List Value)} {xs : List α} (h : OwnA k N e w v css) (h2 : All2 (R (fun b => N ≤ b ∧ v.ownBlock ≠ some b) w) css xs) : Sl k R (fun b => N ≤ b) w v xs :=
  ⟨css, h.arr.mono T.pos (fun b _ h => h.2), h2.imp fun _ _ h => T.mono h (fun b _ h => h.1)⟩
/-- one cell: a number, a truth, a slice -/
def RU64 : (Nat → Prop) → World → List Value → Nat → Prop := fun _ _ cs x => x < 18446744073709551616 ∧ cs = [.int .u64 (x : Int)]
def RU32 : (Nat → Prop) → World → List Value → Nat → Prop := fun _ _ cs x => x < 4294967296 ∧ cs = [.int .u32 (x : Int)]
def RI64 : (Nat → Prop) → World → List Value → Int → Prop := fun _ _ cs x => (-9223372036854775808 ≤ x ∧ x ≤ 9223372036854775807) ∧ cs = [.int .i64 x]
def RBool : (Nat → Prop) → World → List Value → Bool → Prop := fun _ _ cs x => True ∧ cs = [.bool x]
def RDgs (n : Nat) : (Nat → Prop) → World → List Value → List UInt8 → Prop := fun _ _ cs x => x.length = n ∧ cs = x.map byt
abbrev RDg : (Nat → Prop) → World → List Value → List UInt8 → Prop := RDgs 32
def RBy : (Nat → Prop) → World → List Value → List UInt8 → Prop := fun D w cs l => ∃ v, cs = [v] ∧ Byt D w v l
def RSl (k : Nat) (R : (Nat → Prop) → World → List Value → α → Prop) : (Nat → Prop) → World → List Value → List α → Prop := fun D w cs xs => ∃ v, cs = [v] ∧ Sl k R D w v xs
theorem one_mem {v : Value} (h : v.oneCell' = true) : ∀ u ∈ [v], u.oneCell' = true := fun u hu => by rw [List.mem_singleton.1 hu]; exact h
theorem rep_u64 : Rep 1 RU64 := rep_plain 1 (by omega) (fun x : Nat => [.int .u64 (x : Int)]) (fun x => x < 18446744073709551616) (fun _ _ => rfl) (fun _ _ => one_mem rfl)
theorem rep_u32 : Rep 1 RU32 := rep_plain 1 (by omega) (fun x : Nat => [.int .u32 (x : Int)]) (fun x => x < 4294967296) (fun _ _ => rfl) (fun _ _ => one_mem rfl)
theorem rep_i64 : Rep 1 RI64 := rep_plain 1 (by omega) (fun x : Int => [.int .i64 x]) (fun x => -9223372036854775808 ≤ x ∧ x ≤ 9223372036854775807) (fun _ _ => rfl) (fun _ _ => one_mem rfl)
theorem rep_bool : Rep 1 RBool := rep_plain 1 (by omega) (fun x : Bool => [.bool x]) (fun _ => True) (fun _ _ => rfl) (fun _ _ => one_mem rfl)
theorem rep_dgs (n : Nat) (hn : 0 < n) : Rep n (RDgs n) :=
  rep_plain n hn (fun x : List UInt8 => x.map byt) (fun x => x.length = n) (fun x h => by simpa using h) (fun x _ v hv => by obtain ⟨_, _, rfl⟩ := List.mem_map.1 hv; rfl)
theorem rep32 : Rep 32 RDg := rep_dgs 32 (by omega)
theorem rep_by : Rep 1 RBy := rep_byt
theorem rep_rsl (T : Rep k R) : Rep 1 (RSl k R) := rep_sl T
/-- one cell of a block -/
theorem blk_one {w : World} {b : Nat} {l : List Value} {e : TypeId} (h : Blk w b l e) (pre post : List Value) (v : Value) (hl : l = pre ++ (v :: post)) (n : Nat) (hn : pre.length = n) : w.cell? ⟨b, n, none⟩ = some v := by
  refine h.cell ?_
  subst hl; subst hn
  rw [List.getElem?_append_right (Nat.le_refl _), Nat.sub_self]; rfl
end
end Go.Proofs.YtmenchnjajpkmaaGreat.Reps
end

section
namespace Go.Proofs.YtmenchnjajpkmaaGreat.Ops
open Go Go.RowKit Mem Arr
section
variable {P : Program} {w : World} {ops : Array Oper} {rest : List Oper} {o : Oper} {a : Act} {K : Act → World → Prop} {Q : Exit → Act → World → Prop}
theorem wp_build1 {t e : TypeId} {z : Value} {k bytes : Nat} (T : ElemT P t e z k bytes) (x : Operand) (ho : o.op = .buildSlice t 1 #[(0, x)]) (l : List Value) (hx : a.eval x = .agg l.toArray) (hs : l.length = k) (hk : k ≤ 16777216)
    (h : ∀ w', Blk w' w.heap.size l e → Below w.heap.size w w' → w.heap.size + 1 = w'.heap.size → K (a.put o.dst (.slice (some ⟨w.heap.size, 0, none⟩) 1 1)) w') : Oper.wp P o a w K Q := by
  have hr := Arr.run_buildSlice T [.agg l.toArray] (by simp [Value.cells, hs]) (by simpa using hk) (by simp) w
  simp at hr
  unfold Oper.wp
  simp [execOp, ho, hx, hr, Value.cells, Result.andThen]
  exact h _ (Blk.new w _ _ _ rfl) (below_alloc _ _) (by simp)
theorem wpList_build1 (hgd : o.guard = none) {t e : TypeId} {z : Value} {k bytes : Nat} (T : ElemT P t e z k bytes) (x : Operand) (ho : o.op = .buildSlice t 1 #[(0, x)]) (l : List Value) (hx : a.eval x = .agg l.toArray) (hs : l.length = k) (hk : k ≤ 16777216)
    (h : ∀ w', Blk w' w.heap.size l e → Below w.heap.size w w' → w.heap.size + 1 = w'.heap.size → wpList P ops Q rest (a.put o.dst (.slice (some ⟨w.heap.size, 0, none⟩) 1 1)) w') : wpList P ops Q (o :: rest) a w :=
  wpList_plain hgd fun _ hK => wp_build1 T x ho l hx hs hk (fun w' h1 h2 h3 => hK _ _ (h w' h1 h2 h3))
/-- of one cell -/
theorem wp_build1c {t e : TypeId} {z : Value} {bytes : Nat} (T : ElemT P t e z 1 bytes) (x : Operand) (ho : o.op = .buildSlice t 1 #[(0, x)]) (v : Value) (hx : a.eval x = v) (hs : v.oneCell' = true)
    (h : ∀ w', Blk w' w.heap.size [v] e → Below w.heap.size w w' → w.heap.size + 1 = w'.heap.size → K (a.put o.dst (.slice (some ⟨w.heap.size, 0, none⟩) 1 1)) w') : Oper.wp P o a w K Q := by
  have hc : v.cells = #[v] := by cases v <;> first | rfl | cases hs
  have hr := Arr.run_buildSlice T [v] (by simp [hc]) (by simp) (by simp) w
  simp [hc] at hr
  unfold Oper.wp
  simp [execOp, ho, hx, hr, Result.andThen]
  exact h _ (Blk.new w _ _ _ rfl) (below_alloc _ _) (by simp)
theorem wp_append_arr (s x : Operand) (t : TypeId)
    (ho : o.op = .call { callee := .builtin .append, args := #[s, x], argTypes := #[t, t] }) (base : Nat) (e : TypeId) {z : Value} {k bytes : Nat} (T : ElemT P t e z k bytes)
    (v : Value) (xs : List (List Value)) (hs : a.eval s = v) (hown : Arr.OwnA k base e w v xs) {D : Nat → Prop} (y : Value) (ys : List (List Value)) (hx : a.eval x = y) (hy : Arr.Arr k D w y ys)
    (h1 : ∀ x ∈ ys, ∀ c ∈ x, c.oneCell' = true) (h63 : xs.length + ys.length ≤ maxLen) (hbytes : (xs.length + ys.length) * bytes ≤ 140737488355328) (hb : base ≤ w.heap.size) (m : Nat) (hn : m = xs.length + ys.length)
    (h : ∀ (a' : Option Addr) (cap' : Nat) (w' : World), Arr.OwnA k base e w' (.slice a' m cap') (xs ++ ys) → w.grownBy w' v.ownBlock → ((Value.slice a' m cap').ownBlock = v.ownBlock ∨ (Value.slice a' m cap').ownBlock = some w.heap.size) → K (a.put o.dst (.slice a' m cap')) w') :
    Oper.wp P o a w K Q := by
  subst hn
  obtain ⟨a', cap', w', h0, q1, q2, q4⟩ := Arr.run_append_arr (P := P) w t o.type base e T v xs hown y ys hy h1 h63 hbytes hb
  unfold Oper.wp
  simp [execOp, ho, resolve, invoke, builtin, hs, hx, h0, Result.andThen]
  exact h a' cap' w' q1 q2 q4
/-- one cell of a block is stored -/
theorem run_storeVar_cell {g i : Nat} {l : List Value} {t : TypeId} (hB : Blk w g l t) (hi : i < l.length) (ty : TypeId) (hsz : (P.info? ty).map (·.size) = some 1) (v : Value) (h1 : v.oneCell' = true) :
    (storeVar ty ⟨g, i, none⟩ v).run P w = .ok () (w.setCell ⟨g, i, none⟩ v) := by
  have hc : v.cells = #[v] := by cases v <;> first | rfl | cases h1
  have hcell := hB.cell (List.getElem?_eq_getElem hi)
  have hfree := hB.free i
  cases hq : P.info? ty with
  | none => simp [hq] at hsz
  | some j =>
    have hs : j.size = 1 := by simpa [hq] using hsz
    have hst : (store ⟨g, i, none⟩ v .plain).run P w = .ok () (w.setCell ⟨g, i, none⟩ v) := by
      rw [run_store P w _ v _ h1]
      simp [hcell, hfree]
    simp [storeVar, sizeOf, typeInfo, hq, hc, hs, storeCells, Addr.add, hst, Sem.run_bind, Result.andThen]
theorem wp_setc (ty : TypeId) (x y : Operand) (ho : o.op = .store ty x y) (g i : Nat) (hx : a.eval x = .pointer (some ⟨g, i, none⟩)) (v : Value) (hy : a.eval y = v) (h1 : v.oneCell' = true) {l : List Value} {t : TypeId} (hB : Blk w g l t) (hi : i < l.length)
    (hsz : (P.info? ty).map (·.size) = some 1)
    (h : ∀ w', Blk w' g (l.set i v) t → Fr (fun k => k = g) w w' → w'.heap.size = w.heap.size → K (a.put o.dst undef) w') : Oper.wp P o a w K Q := by
  unfold Oper.wp execOp
  simp only [ho, hx, hy, Instr.storeAt, Instr.sureAddr, Sem.run_bind, Sem.run_pure, Result.andThen_ok, run_storeVar_cell hB hi ty hsz v h1]
  exact h _ (hB.set i v) (Fr.setCell (S := fun k => k = g) (p := ⟨g, i, none⟩) (Fr.refl _ w) (.inr rfl) _) (by simp [World.setCell])
theorem wpList_setc (hgd : o.guard = none) (ty : TypeId) (x y : Operand) (ho : o.op = .store ty x y) (g i : Nat) (hx : a.eval x = .pointer (some ⟨g, i, none⟩)) (v : Value) (hy : a.eval y = v) (h1 : v.oneCell' = true) {l : List Value} {t : TypeId} (hB : Blk w g l t) (hi : i < l.length)
    (hsz : (P.info? ty).map (·.size) = some 1)
    (h : ∀ w', Blk w' g (l.set i v) t → Fr (fun k => k = g) w w' → w'.heap.size = w.heap.size → wpList P ops Q rest (a.put o.dst undef) w') : wpList P ops Q (o :: rest) a w :=
  wpList_plain hgd fun _ hK => wp_setc ty x y ho g i hx v hy h1 hB hi hsz (fun w' h1 h2 h3 => hK _ _ (h w' h1 h2 h3))
/-- operation j waits for i -/
def waits (md : Region.Mode) (ops : Array Oper) (j i : Nat) : Bool := match ops[j]? with | none => false | some o => o.after.any fun e => Region.binds md e && e.on == i
/-- whatever order is picked from here on, and behind each operation that does not wait for i S holds -/
def wpAnyJ (P : Program) (md : Region.Mode) (ops : Array Oper) (Q : Exit → Act → World → Prop) (i : Nat) (S : World → Prop) : Nat → Array Bool → Act → World → Prop
  | 0, listed, a, w => Region.ready md ops listed = [] ∧ Q .normal a w
  | fuel + 1, listed, a, w =>
    (Region.ready md ops listed = [] → Q .normal a w) ∧
    ∀ j ∈ Region.ready md ops listed, wpOp P ops Q j (fun a' w' => (waits md ops j i = false → S w') ∧ wpAnyJ P md ops Q i S fuel (listed.setIfInBounds j true) a' w') a w
theorem wpAnyJ_H {md : Region.Mode} {i : Nat} {S : World → Prop} : ∀ (fuel : Nat) (listed : Array Bool) (a : Act) (w : World), wpAnyJ P md ops Q i S fuel listed a w → wpAnyH P md ops Q (fun _ => True) fuel listed a w
  | 0, _, _, _, h => h
  | fuel + 1, _, _, _, h => ⟨h.1, fun j hj => wpOp_mono (fun a' w' h' => ⟨trivial, wpAnyJ_H fuel _ a' w' h'.2⟩) (h.2 j hj)⟩
theorem wpAnyJ_first {md : Region.Mode} {S : World → Prop} {i : Nat} {oi : Oper} {v : Value} (hi : ops[i]? = some oi) (hsel : ∀ (j : Nat) (o : Oper) cs b, ops[j]? = some o → o.op ≠ .select cs b)
    (hQ : ∀ c a w, Q (.panic c) (a.put oi.dst v) w → Q (.panic c) a w) :
    ∀ (fuel : Nat) (listed : Array Bool) (a : Act) (w : World),
      (∀ j oj, ops[j]? = some oj → j ≠ i → listed.getD j true = false → (∀ e ∈ oj.after, Region.binds md e = true → e.on ≠ i) → oi.apart ops oj = true) →
      i ∈ Region.ready md ops listed → YieldsIf P ops S oi v a → S w →
      wpAnyJ P md ops Q i S fuel (listed.setIfInBounds i true) (a.put oi.dst v) w → wpAnyH P md ops Q (fun _ => True) (fuel + 1) listed a w := by
  intro fuel
  induction fuel with
  | zero =>
    intro listed a w _ hr hy hS H
    refine ⟨fun h => (by rw [h] at hr; cases hr), fun j hj => ?_⟩
    by_cases hji : j = i
    · subst hji; exact hy.wpOp hi hS ⟨trivial, H⟩
    · have := ready_mono hj hji
      rw [H.1] at this
      cases this
  | succ fuel ih =>
    intro listed a w hfree hr hy hS H
    refine ⟨fun h => (by rw [h] at hr; cases hr), fun j hj => ?_⟩
    by_cases hji : j = i
    · subst hji; exact hy.wpOp hi hS ⟨trivial, wpAnyJ_H _ _ _ _ H⟩
    · have h1 := H.2 j (ready_mono hj hji)
      obtain ⟨hjun, oj, hoj, hall⟩ := mem_ready.1 hj
      have hnot : ∀ e ∈ oj.after, Region.binds md e = true → e.on ≠ i := fun e he hb heq => by
        have h1 := hall e he hb
        have h0 := (mem_ready.1 hr).1
        rw [heq] at h1
        rcases Nat.lt_or_ge i listed.size with h' | h'
        · simp [h'] at h0 h1; rw [h0] at h1; cases h1
        · simp [Array.getElem?_eq_none h'] at h1
      have hwt : waits md ops j i = false := by
        unfold waits
        rw [hoj]
        simp only [Array.any_eq_false', Bool.and_eq_true, beq_iff_eq, not_and]
        intro e he hb
        exact hnot e he hb
      have h2 := wpOp_putIf hoj (hfree j oj hoj hji hjun hnot) (fun cs b => hsel i oi cs b hi) (fun cs b => hsel j oj cs b hoj) hQ hy h1
      have hfree' : ∀ k ok, ops[k]? = some ok → k ≠ i → (listed.setIfInBounds j true).getD k true = false →
          (∀ e ∈ ok.after, Region.binds md e = true → e.on ≠ i) → oi.apart ops ok = true := fun k ok hk hki hun hno => by
        refine hfree k ok hk hki ?_ hno
        by_cases hjk : j = k
        · subst hjk; exact hjun
        · rw [getD_set_ne true hjk] at hun; exact hun
      refine wpOp_mono (fun a' w' h3 => ⟨trivial, ih (listed.setIfInBounds j true) a' w' hfree' (ready_mono hr (Ne.symm hji)) h3.1 (h3.2.1 hwt) ?_⟩) h2
      rw [Array.setIfInBounds_comm _ _ hji]
      exact h3.2.2
/-- take number i first: it yields v in every world that meets S; each operation that does not wait for it keeps S -/
theorem wpAnyH_before {md : Region.Mode} {S : World → Prop} {i : Nat} {oi : Oper} {v : Value} {fuel : Nat} {listed : Array Bool} (hi : ops[i]? = some oi)
    (hs : Region.noSelect ops = true) (hf : Region.free md ops listed i = true) (hr : (Region.ready md ops listed).contains i = true)
    (hQ : ∀ c a w, Q (.panic c) (a.put oi.dst v) w → Q (.panic c) a w) (hy : YieldsIf P ops S oi v a) (hS : S w)
    (h : wpAnyJ P md ops Q i S fuel (listed.setIfInBounds i true) (a.put oi.dst v) w) : wpAnyH P md ops Q (fun _ => True) (fuel + 1) listed a w :=
  wpAnyJ_first hi (Region.noSelect_spec hs) hQ fuel listed a w (Region.free_spec hi hf) (by simpa using hr) hy hS h
/-- one operation alone is ready, and does not wait for i -/
theorem wpAnyJ_keep {md : Region.Mode} {S : World → Prop} {i j : Nat} {oj : Oper} {fuel : Nat} {listed : Array Bool} (hr : Region.ready md ops listed = [j]) (hj : ops[j]? = some oj)
    (h : ∀ K' : Act → World → Prop, Shut (∀ a w, S w → wpAnyJ P md ops Q i S fuel (listed.setIfInBounds j true) a w → K' a w) → if Region.wanted oj (yielded ops a.tmps) = true then Oper.wp P oj a w K' Q else K' (a.put oj.dst undef) w) :
    wpAnyJ P md ops Q i S (fuel + 1) listed a w := by
  refine ⟨fun h => (by rw [hr] at h; cases h), fun x hx => ?_⟩
  rw [hr] at hx
  obtain rfl := List.mem_singleton.1 hx
  exact wpOp_step hj (fun K' hK => h K' (fun a w hS hW => hK a w ⟨fun _ => hS, hW⟩))
/-- and it waits for i: S may fall -/
theorem wpAnyJ_free {md : Region.Mode} {S : World → Prop} {i j : Nat} {oj : Oper} {fuel : Nat} {listed : Array Bool} (hr : Region.ready md ops listed = [j]) (hw : waits md ops j i = true) (hj : ops[j]? = some oj)
    (h : ∀ K' : Act → World → Prop, Shut (∀ a w, wpAnyJ P md ops Q i S fuel (listed.setIfInBounds j true) a w → K' a w) → if Region.wanted oj (yielded ops a.tmps) = true then Oper.wp P oj a w K' Q else K' (a.put oj.dst undef) w) :
    wpAnyJ P md ops Q i S (fuel + 1) listed a w := by
  refine ⟨fun h => (by rw [hr] at h; cases h), fun x hx => ?_⟩
  rw [hr] at hx
  obtain rfl := List.mem_singleton.1 hx
  exact wpOp_step hj (fun K' hK => h K' (fun a w hW => hK a w ⟨fun h => (by rw [hw] at h; cases h), hW⟩))
theorem wpAnyJ_done {md : Region.Mode} {S : World → Prop} {i : Nat} {listed : Array Bool} (hr : Region.ready md ops listed = []) (h : Q .normal a w) : ∀ fuel, wpAnyJ P md ops Q i S fuel listed a w
  | 0 => ⟨hr, h⟩
  | _ + 1 => ⟨fun _ => h, by rw [hr]; simp⟩
end
end Go.Proofs.YtmenchnjajpkmaaGreat.Ops
end

section
namespace Go.Proofs.YtmenchnjajpkmaaGreat.Rr
open Go Go.RowKit Mem Codec Ops Reps WtIt Arr
set_option linter.unusedVariables false

/-- what the reference's reader of a thing of many cells does: where nothing is amiss it is the thing -/
def GotR {α : Type} (R : (Nat → Prop) → World → List Value → α → Prop) (w : World) (q : Nat) (a : Option Addr) (c : Nat) (B : List UInt8) (s : Rd × α) (e : Ending) (w' : World) : Prop :=
  ∃ (cs : List Value) (x : α), e = .returned (.agg cs.toArray) ∧ R (fun b => w.heap.size ≤ b) w' cs x ∧ (s.1.e = 0 → x = s.2) ∧ RfR w' q a c B s.1 ∧ Fr (fun k => k = q) w w'
/-- what the program's does -/
def GotD {α : Type} (R : (Nat → Prop) → World → List Value → α → Prop) (D : Nat → Prop) (w : World) (q : Nat) (s : Rd × α) (e : Ending) (w' : World) : Prop :=
  ∃ cs : List Value, e = .returned (.agg cs.toArray) ∧ R (fun b => w.heap.size ≤ b) w' cs s.2 ∧ CodecR.ReaderIs D w' q s.1 ∧ Fr (fun k => k = q) w w'
/-- after so many rounds -/
def LSt {α : Type} (one : Rd → Rd × α) (n : Nat) (r1 : Rd) (xs : List α) (r : Rd) : Prop := (WtIt.At one n r1 (xs, r) ∧ (r.e = 0 ∨ n = 0)) ∨ (r.e ≠ 0 ∧ (items one n r1).2 = r)
section
variable {α : Type} {one : Rd → Rd × α} {n : Nat} {r1 r : Rd} {xs : List α}
theorem LSt.start (h : r1.e = 0 ∨ n = 0) : LSt one n r1 [] r1 := .inl ⟨At.start one n r1, h⟩
theorem LSt.next (h : LSt one n r1 xs r) (he : r.e = 0) (hl : xs.length < n) (x : α) (hx : (one r).1.e = 0 → x = (one r).2) : LSt one n r1 (xs ++ [x]) (one r).1 := by
  rcases h with ⟨h, _⟩ | ⟨h, _⟩
  · by_cases h1 : (one r).1.e = 0
    · rw [hx h1]; exact .inl ⟨h.next one hl h1, .inl h1⟩
    · exact .inr ⟨h1, by rw [h.fails one hl h1]⟩
  · exact absurd he h
/-- at the end: the state is the list's, and so are the things where nothing is amiss -/
theorem LSt.done (h : LSt one n r1 xs r) (hl : ¬ xs.length < n ∨ r.e ≠ 0) : r = (items one n r1).2 ∧ (r.e = 0 → xs = lst (items one n r1)) := by
  rcases h with ⟨h, h0⟩ | ⟨h, h2⟩
  · have hl2 : ¬ xs.length < n := by
      rcases hl with hl | hl
      · exact hl
      · rcases h0 with h0 | h0
        · exact absurd h0 hl
        · omega
    have := h.all one hl2
    rw [this]
    exact ⟨rfl, fun h => by unfold lst; rw [if_neg (by simpa using h)]⟩
  · exact ⟨h2.symm, fun e => absurd e h⟩
end
theorem var_none (r : Rd) (most : Nat) : (r.var most).1.e = 0 ∨ (r.var most).2 = 0 := by
  unfold Rd.var
  dsimp only
  repeat' split
  all_goals (first | exact .inr rfl | exact .inl (by assumption) | (left; simp_all))
theorem var_room (r : Rd) (most : Nat) : r.room (most : Int) = r.var most := by
  unfold Rd.room
  have h : ¬ ((most : Int) < 0) := by omega
  simp [h]
section
variable {w w' : World} {q : Nat} {a : Option Addr} {c : Nat} {B : List UInt8} {r : Rd}
/-- other blocks are written; the bytes lie in D -/
theorem RfR.frD {D S : Nat → Prop} (h : RfR w q a c B r) (hB : Byt D w (.slice a B.length c) B) (hf : Fr S w w') (hq : ¬ S q) (hD : ∀ k, D k → k ≠ q ∧ ¬ S k) : RfR w' q a c B r := by
  obtain ⟨n, h1, h2, h3, h4, h5⟩ := h
  exact ⟨n, h1, h2, h3, h4.fr hf hq, (hB.fr hf (fun k _ h => (hD k h).2)).mono (fun k _ h => (hD k h).1)⟩
theorem RfR.byt (h : RfR w q a c B r) : Byt (fun k => k < w.heap.size ∧ k ≠ q) w (.slice a B.length c) B := by
  obtain ⟨n, h1, h2, h3, h4, h5⟩ := h
  exact h5.lt
end
end Go.Proofs.YtmenchnjajpkmaaGreat.Rr
end

section
namespace Go.Proofs.YtmenchnjajpkmaaGreat.Rr
open Go Go.RowKit Mem Codec Ops Reps WtIt Arr
set_option linter.unusedVariables false

/-- a federation -/
def RPm : (Nat → Prop) → World → List Value → Int × List (List UInt8) → Prop := fun D w cs x => ∃ v, cs = [.int .i64 x.1, v] ∧ Sl 32 RDg D w v x.2
theorem rep_pm : Rep 2 RPm where
  pos := by omega
  len := by rintro D w cs x ⟨v, rfl, _⟩; rfl
  one := by
    rintro D w cs x ⟨v, rfl, h⟩ u hu
    obtain ⟨a, c, rfl, _⟩ := h.form
    simp only [List.mem_cons, List.not_mem_nil, or_false] at hu
    rcases hu with rfl | rfl <;> rfl
  fr := by rintro D S w w' cs x ⟨v, rfl, h⟩ hf hn; exact ⟨v, rfl, h.fr rep32 hf hn⟩
  mono := by rintro D E w cs x ⟨v, rfl, h⟩ hn; exact ⟨v, rfl, h.mono rep32 hn⟩
set_option maxHeartbeats 16000000 in
set_option maxRecDepth 100000 in
theorem params_calls (w : World) (q : Nat) (a : Option Addr) (c : Nat) (B : List UInt8) (r : Rd) (H : RfR w q a c B r) (hl : B.length ≤ 140737488355328) :
    Calls Tryz.prog 45 #[.pointer (some ⟨q, 0, none⟩)] w (GotR RPm w q a c B (WtIt.Rd.params r)) := by
  have hqw := H.lt
  have H0 := Lib.hid H
  have HY0 := Lib.hid H.byt
  obtain ⟨rk, hrk⟩ : ∃ x, (Wr.Rd.kind r 0 255).1 = x := ⟨_, rfl⟩
  obtain ⟨tt, htt⟩ : ∃ x, (Wr.Rd.kind r 0 255).2 = x := ⟨_, rfl⟩
  have HKK := Lib.hid (small_calls · q a c B r 0 255 · hl)
  rw [hrk, htt] at HKK
  have HP : WtIt.Rd.params r = ((Rd.keys rk 16).1, tt, (Rd.keys rk 16).2) := by unfold WtIt.Rd.params; rw [hrk, htt]
  have hroom : rk.room 16 = rk.var 16 := var_room rk 16
  obtain ⟨r1, hr1⟩ : ∃ x, (rk.var 16).1 = x := ⟨_, rfl⟩
  obtain ⟨n, hn⟩ : ∃ x, (rk.var 16).2 = x := ⟨_, rfl⟩
  have HZ := Lib.hid (show r1.e = 0 ∨ n = 0 from by rw [← hr1, ← hn]; exact var_none rk 16)
  have hn16 : n ≤ 16 := by rw [← hn]; exact var_le rk 16
  have HM := Lib.hid (many_calls · q a c B rk 16 (by omega) · hl)
  rw [hr1, hn] at HM
  have HPP := Lib.hid (show WtIt.Rd.params r = ((items Wr.Rd.dig n r1).2, tt, lst (items Wr.Rd.dig n r1)) by rw [HP]; unfold Rd.keys; rw [hroom, hr1, hn])
  clear H hrk htt HP hroom hr1 hn
  go_enter Tryz.func45, Tryz.ntmps45
  go_upto_region 1 with (first
    | ((with_reducible refine wpList_alloc rfl _ rfl _ (zeroP _) (fun wa ka ca za => ?_)); have KA := Lib.hid ka; have CA := Lib.hid ca; clear ka ca))
  go_upto_region 2 with (first
    | ((with_reducible refine wpList_alloc rfl _ rfl _ (zeroP _) (fun wb ka ca zb => ?_)); have KB := Lib.hid ka; have CB := Lib.hid ca; clear ka ca))
  have CAB := Lib.hid (CA.out.trans (CB.out.mono (by omega)))
  have KA2 := Lib.hid (KA.out.below CB.out)
  have HRB := Lib.hid (H0.out.below CAB.out)
  have hgb : wa.heap.size < wb.heap.size := KB.out.lt
  have hgw0 : w.heap.size < wa.heap.size := by omega
  clear CA CB KA
  generalize wa.heap.size = gp at *
  go_wp2_with fail
  refine (HKK.out wb HRB.out).mono ?_
  rintro e wc ⟨rfl, o1, o2⟩
  have O1 := Lib.hid o1
  have KB2 := Lib.hid (KB.out.fr o2 (by omega))
  have KA3 := Lib.hid (KA2.out.fr o2 (by omega))
  have F1 := Lib.hid ((Fr.ofBelowAll CAB.out (Nat.le_refl _) : Fr (fun k => k = q) w wb).trans o2)
  have hsc := o2.size
  clear o1 o2 HKK HRB KB KA2 CAB
  go_upto_region 3 with (first
    | ((with_reducible refine wpList_setc rfl _ _ _ rfl gp 0 rfl (.int .i64 tt) rfl rfl KB2.out (by decide) (by kernel_rfl) (fun wd kd fd zd => ?_)); have KD := Lib.hid kd; have FD := Lib.hid fd; clear kd fd))
  have HYd := Lib.hid ((HY0.out.fr F1.out (fun k _ h e => h.2 e)).fr FD.out (fun k _ h e => by have := h.1; omega))
  have HRD := Lib.hid (O1.out.frD (HY0.out.fr F1.out (fun k _ h e => h.2 e)) FD.out (by omega) (fun k h => ⟨h.2, by have := h.1; omega⟩))
  have KA4 := Lib.hid (KA3.out.fr FD.out (by omega))
  have F2 := Lib.hid (F1.out.trans' FD.out (fun k hk e => by omega))
  clear O1 KA3 KB2 F1 FD
  go_wp2_with fail
  refine (HM.out wd HRD.out).mono ?_
  rintro e we ⟨rfl, o1, o2⟩
  have RQ := Lib.hid o1
  have KP := Lib.hid (show Blk we gp [.int .i64 tt, .slice none 0 0] 44 from KD.out.fr o2 (by omega))
  have KA5 := Lib.hid (KA4.out.fr o2 (by omega))
  have HY := Lib.hid (HYd.out.fr o2 (fun k _ h e => h.2 e))
  have F3 := Lib.hid (F2.out.trans o2)
  have hse := o2.size
  have hgw : gp < we.heap.size := by omega
  have hn6 : n ≤ 65536 := by omega
  clear o1 o2 HM HRD KD KA4 HYd F2
  go_wp2
  go_loopw [5] (fun i' wx => ∃ (i : Nat) (v : Value) (css : List (List Value)) (xs : List _) (r : Rd), i' = .int .i64 (i : Int) ∧ xs.length = i ∧ i ≤ n ∧ Blk wx gp [.int .i64 tt, v] 44 ∧ OwnA 32 we.heap.size 134 wx v css ∧ All2 (RDg (fun b => we.heap.size ≤ b ∧ v.ownBlock ≠ some b) wx) css xs ∧ RfR wx q a c B r ∧ LSt Wr.Rd.dig n r1 xs r ∧ Fr (fun k => k = q ∨ k = gp) we wx) (fun i' _ => n - (intOf i').toNat)
  case atStart => exact ⟨0, _, [], [], r1, rfl, rfl, Nat.zero_le _, KP.out, OwnA.nil _ _ _ _, .nil, RQ.out, LSt.start HZ.out, Fr.refl _ _⟩
  case round =>
    obtain ⟨i, v, css, xs, rr, rfl, hxl, hin, hK, hO, hA, hR, hS, hF⟩ := hrel
    obtain ⟨va, vc, hve, hc1, hc2, _⟩ := hO.form
    have hcl : css.length = i := by rw [hA.length]; exact hxl
    rw [hcl] at hve hc1
    subst hve
    have HK := Lib.hid hK
    have HO := Lib.hid hO
    have HA := Lib.hid hA
    have HR := Lib.hid hR
    have HS := Lib.hid hS
    have HF := Lib.hid hF
    have HXL := Lib.hid hxl
    have HCS := Lib.hid hcl
    have hsr := hF.size
    have HYr := Lib.hid (HY.out.fr hF (fun k hk h e => by rcases e with e | e; exact h.2 e; omega))
    clear hK hO hA hR hS hF hxl hcl
    by_cases hgo : i < n ∧ rr.e = 0
    · obtain ⟨hlt, he⟩ := hgo
      have hltI : (i : Int) < (n : Int) := by omega
      have he2 : (rr.e == 0) = true := by simpa using he
      have HE := Lib.hid he
      have hnq : q ≠ gp := by omega
      clear he
      go_wp2_with (first
        | (refine (ok_calls wr q a c B rr HR.out).mono ?_; rintro e wo ⟨rfl, rfl⟩))
      have cl := HK.out.cell (i := 1) rfl
      refine wp_region_held_drew (S := fun _ => True) (by kernel_rfl) trivial (fun hHeld => ?_)
      refine wpAnyH_take (i := 0) (oi := ⟨_, _, _, _, _, _⟩) (v := ?_) rfl (by kernel_rfl) (by kernel_rfl) (by kernel_rfl) (fun _ _ _ h => h) (Or.inl ⟨by rfl, ?_⟩) (by assumption) ?_
      rotate_left
      · intro w hSw; go_simp; try (with_reducible rfl)
      try simp only [Act.put, List.setIfInBounds_toArray, List.set_cons_zero, List.set_cons_succ]
      refine wpAnyH_take (i := 2) (oi := ⟨_, _, _, _, _, _⟩) (v := ?_) rfl (by kernel_rfl) (by kernel_rfl) (by kernel_rfl) (fun _ _ _ h => h) (Or.inl ⟨by rfl, ?_⟩) (by assumption) ?_
      rotate_left
      · intro w hSw; go_simp; try (with_reducible rfl)
      try simp only [Act.put, List.setIfInBounds_toArray, List.set_cons_zero, List.set_cons_succ]
      refine wpAnyH_before (i := 1) (oi := ⟨_, _, _, _, _, _⟩) (S := fun w' => w'.cell? ⟨gp, 1, none⟩ = some (.slice va i vc)) (v := .slice va i vc) rfl (by kernel_rfl) (by kernel_rfl) (by kernel_rfl) (fun _ _ _ h => h) (Or.inl ⟨by rfl, fun w hSw => (by go_simp)⟩) cl ?_
      try simp only [Act.put, List.setIfInBounds_toArray, List.set_cons_zero, List.set_cons_succ]
      refine wpAnyJ_keep (j := 3) (oj := ⟨_, _, _, _, _, _⟩) (by kernel_rfl) rfl (fun K hK => ?_)
      have HRD := Lib.hid (show RfR wr.drew q a c B rr from HR.out)
      go_simp
      refine (digest_calls wr.drew q a c B rr HRD.out hl).mono ?_
      rintro e wc ⟨rfl, o1, o2⟩
      obtain ⟨x, hx⟩ : ∃ x, (Wr.Rd.dig rr).2 = x := ⟨_, rfl⟩
      obtain ⟨cs, hcs⟩ : ∃ cs : List Value, x.map byt = cs := ⟨_, rfl⟩
      have ox : RDg (fun b => wr.heap.size ≤ b) wc cs x := ⟨by rw [← hx]; exact Wr.Rd.dig_len rr, hcs.symm⟩
      have oe : (Wr.Rd.dig rr).1.e = 0 → x = (Wr.Rd.dig rr).2 := fun _ => hx.symm
      rw [hx, hcs]
      clear hx hcs
      have HX := Lib.hid ox
      have HCL := Lib.hid (rep32.len ox)
      have HC1 := Lib.hid (rep32.one ox)
      have HXE := Lib.hid oe
      have HR2 := Lib.hid o1
      have HF2 := Lib.hid (show Fr (fun k => k = q) wr wc from ((Fr.refl _ wr).drew).trans o2)
      have hs2 : wr.heap.size ≤ wc.heap.size := o2.size
      have hgl : gp < wr.heap.size := HK.out.lt
      refine hK.out _ _ (by exact HF2.out.cell cl (fun e => hnq e.symm)) ?_
      clear ox oe o1 o2 hK HRD
      have cl := HF2.out.cell cl (fun e => hnq e.symm)
      try simp only [Act.put, List.setIfInBounds_toArray, List.set_cons_zero, List.set_cons_succ]
      have HK2 := Lib.hid (HK.out.fr HF2.out (fun e => hnq e.symm))
      have HO2 := Lib.hid (HO.out.fr HF2.out (fun k hk e => by have := (HO.out.lt k hk).1; omega))
      have HY2 := Lib.hid (HYr.out.fr HF2.out (fun k hk h e => h.2 e))
      refine wpAnyJ_keep (j := 4) (oj := ⟨_, _, _, _, _, _⟩) (by kernel_rfl) rfl (fun K hK => ?_)
      rw [if_pos (by rfl)]
      refine wp_build1 elemK _ rfl cs rfl HCL.out (by omega) (fun wj kj bj zj => ?_)
      refine hK.out _ _ (by exact (bj.cell (World.block_lt_of_cell? _ _ cl)).trans cl) ?_
      clear hK cl
      have KJ := Lib.hid kj
      have BJ := Lib.hid bj
      have HK3 := Lib.hid (HK2.out.below bj)
      have HO3 := Lib.hid (HO2.out.below bj)
      clear kj bj HK2 HO2
      try simp only [Act.put, List.setIfInBounds_toArray, List.set_cons_zero, List.set_cons_succ]
      refine wpAnyJ_free (j := 5) (oj := ⟨_, _, _, _, _, _⟩) (by kernel_rfl) (by kernel_rfl) rfl (fun K hK => ?_)
      rw [if_pos (by rfl)]
      refine wp_append_arr _ _ 42 rfl we.heap.size 134 elemK _ css rfl HO3.out _ [cs] rfl (arr1 KJ.out HCL.out) (fun y hy u hu => by rw [List.mem_singleton.1 hy] at hu; exact HC1.out u hu) (by rw [HCS.out, List.length_singleton]; unfold maxLen; omega) (by rw [HCS.out, List.length_singleton]; omega) (by omega) (i + 1) (by rw [HCS.out, List.length_singleton]) (fun a' cap' wk q1 q2 q3 => ?_)
      refine hK.out _ _ ?_
      clear hK
      have Q1 := Lib.hid q1
      have Q2 := Lib.hid (show Fr (fun k => (Value.slice va i vc).ownBlock = some k) wc wk from (Fr.ofBelowAll BJ.out (Nat.le_refl _)).trans (Fr.ofGrown q2))
      have Q3 := Lib.hid q3
      have hlow : ∀ k, (Value.slice va i vc).ownBlock = some k → we.heap.size ≤ k := fun k hk => (HO.out.lt k hk).1
      have HLOW := Lib.hid hlow
      have HK4 := Lib.hid (HK3.out.fr (Fr.ofGrown q2) (fun e => by have := hlow _ e; omega))
      have hsk : wj.heap.size ≤ wk.heap.size := (Fr.ofGrown q2).size
      clear q1 q2 q3 hlow
      try simp only [Act.put, List.setIfInBounds_toArray, List.set_cons_zero, List.set_cons_succ]
      refine wpAnyJ_free (j := 6) (oj := ⟨_, _, _, _, _, _⟩) (by kernel_rfl) (by kernel_rfl) rfl (fun K hK => ?_)
      go_simp
      refine hK.out _ _ ?_
      clear hK
      try simp only [Act.put, List.setIfInBounds_toArray, List.set_cons_zero, List.set_cons_succ]
      refine wpAnyJ_free (j := 7) (oj := ⟨_, _, _, _, _, _⟩) (by kernel_rfl) (by kernel_rfl) rfl (fun K hK => ?_)
      rw [if_pos (by rfl)]
      refine wp_setc _ _ _ rfl gp 1 rfl _ rfl rfl HK4.out (by simp) (by kernel_rfl) (fun wl kl fl zl => ?_)
      refine hK.out _ _ ?_
      clear hK
      have KL := Lib.hid kl
      have FL := Lib.hid fl
      clear kl fl
      refine wpAnyJ_done (by kernel_rfl) ?_ _
      have HFF := Lib.hid (show Fr (fun k => (Value.slice va i vc).ownBlock = some k ∨ k = gp) wc wl from (Q2.out.mono (fun k _ h => .inl h)).trans (FL.out.mono (fun k _ h => .inr h)))
      go_wp2
      go_roundw
      case rel =>
        have hll := HLOW.out
        exact ⟨i + 1, _, css ++ [cs], xs ++ [x], _, by go_num, by rw [List.length_append, HXL.out]; rfl, by omega, KL.out, Q1.out.fr FL.out (fun k hk e => by have := (Q1.out.lt k hk).1; omega),
          Reps.push rep32 HA.out HX.out HF2.out (fun k h e => by omega) (by omega) (fun k hk => (HO.out.lt k hk).2) HFF.out (fun k _ hN h => h.resolve_right (by omega)) (Q3.out.imp_right fun h => ⟨_, h, BJ.out.size⟩),
          HR2.out.frD HY2.out HFF.out (fun e => by rcases e with e | e; have := hll _ e; omega; omega) (fun k h => ⟨h.2, fun e => by rcases e with e | e; have := hll _ e; omega; omega⟩),
          HS.out.next HE.out (by rw [HXL.out]; exact hlt) x HXE.out,
          HF.out.trans' ((HF2.out.mono (T := fun k => k = q ∨ k = gp ∨ we.heap.size ≤ k) (fun k _ h => Or.inl h)).trans' HFF.out (fun k _ h => by rcases h with h | h; exact .inr (.inr (hll _ h)); exact .inr (.inl h))) (fun k hk h => by omega)⟩
      case measure => simp [intOf]; omega
    · have HD := Lib.hid (HS.out.done (by rw [HXL.out]; by_cases h : i < n; exact .inr (fun e => hgo ⟨h, e⟩); exact .inl h))
      have HSL := Lib.hid (sl_own rep32 HO.out HA.out)
      rcases (show (¬ (i : Int) < (n : Int)) ∨ ((i : Int) < (n : Int) ∧ (rr.e == 0) = false) by by_cases h : i < n; exact .inr ⟨by omega, by have : rr.e ≠ 0 := fun e => hgo ⟨h, e⟩; simpa using this⟩; exact .inl (by omega)) with hx | ⟨hx1, hx2⟩
      all_goals
        clear hgo HO HA HS HXL HCS
        have F4 := Lib.hid (F3.out.trans' HF.out (fun k hk e => by omega))
        have KA6 := Lib.hid (KA5.out.fr HF.out (fun e => by omega))
        have hl1 : (Value.slice va i vc).oneCell' = true := rfl
        generalize Value.slice va i vc = lv at *
        go_wp2_with (first
          | (refine (ok_calls wr q a c B rr HR.out).mono ?_; rintro e wo ⟨rfl, rfl⟩)
          | (with_reducible refine wpList_load_blk rfl _ _ rfl gp [.int .i64 tt, lv] rfl HK.out _ Tryz.underlying44 rfl (by kernel_rfl) ?_)
          | ((with_reducible refine wpList_put rfl _ _ _ rfl w.heap.size [.int .i64 tt, lv] _ rfl rfl KA6.out (by kernel_rfl) rfl (one_two rfl hl1) (fun wz kz fz zz => ?_)); have KZ := Lib.hid kz; have FZ := Lib.hid fz; clear kz fz))
        have hxs := HD.out
        have hsz := HF.out.size
        refine bodyPost_ret (v := .agg [.int .i64 tt, lv].toArray) (results_row1 Tryz.results45 _ _ w.heap.size _ _ rfl KZ.out Tryz.underlying44 rfl (by kernel_rfl)) rfl ⟨_, (tt, xs), rfl, ⟨lv, rfl, (HSL.out.fr rep32 FZ.out (fun b _ h (e : b = w.heap.size) => by omega)).mono rep32 (fun b _ h => by omega)⟩, ?_, ?_, F4.out.trans' FZ.out (fun k hk (e : k = w.heap.size) => by omega)⟩
        · rw [HPP.out]
          exact fun h => by rw [hxs.2 (by rw [hxs.1]; exact h)]
        · rw [HPP.out, ← hxs.1]
          exact HR.out.frD HYr.out FZ.out (by omega) (fun k h => ⟨h.2, by have := h.1; omega⟩)
end Go.Proofs.YtmenchnjajpkmaaGreat.Rr
end

section
namespace Go.Proofs.YtmenchnjajpkmaaGreat.Rr
open Go Go.RowKit Mem Codec Ops Reps WtIt Arr
set_option linter.unusedVariables false

/-- the thing that bytes are, and the error -/
def got {α : Type} (rd : Rd → Rd × α) (x0 : α) (l : List UInt8) : α × Int := if (rd ⟨l, 0⟩).1.fin = 0 then ((rd ⟨l, 0⟩).2, 0) else (x0, 120)
/-- it is told so -/
def GotT {α : Type} (R : (Nat → Prop) → World → List Value → α → Prop) (w : World) (g : α × Int) (e : Ending) (w' : World) : Prop :=
  ∃ cs : List Value, e = .returned (.tuple #[.agg cs.toArray, .int .i64 g.2]) ∧ R (fun b => w.heap.size ≤ b) w' cs g.1 ∧ Below w.heap.size w w'
theorem fin_ok {r : Rd} (h : r.fin = 0) : r.e = 0 := by
  unfold Rd.fin at h
  split at h
  · omega
  · exact h
theorem got_yes {α : Type} {rd : Rd → Rd × α} {x0 : α} {l : List UInt8} (h : (rd ⟨l, 0⟩).1.fin = 0) : got rd x0 l = ((rd ⟨l, 0⟩).2, 0) := if_pos h
theorem got_no {α : Type} {rd : Rd → Rd × α} {x0 : α} {l : List UInt8} (h : ¬ (rd ⟨l, 0⟩).1.fin = 0) : got rd x0 l = (x0, 120) := if_neg h
end Go.Proofs.YtmenchnjajpkmaaGreat.Rr
end
