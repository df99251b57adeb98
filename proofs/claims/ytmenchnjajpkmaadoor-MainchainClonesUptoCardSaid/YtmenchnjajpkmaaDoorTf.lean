/- The walk of the laws' fed. Conditions: headers as they read, of at most 2^47 - 4096 bytes; the tables are laid. -/
import Derived.Test.YtmenchnjajpkmaaDoorTb
namespace Go.Proofs.YtmenchnjajpkmaaDoor.Tf
open Go Go.RowKit Mem Codec Mh Maps Ops Wh Ww ShaW Arr Tk Tr Tb
set_option linter.unusedVariables false

/-- the reference's track, in no block of some -/
def RO (bad : Nat → Prop) (w : World) (v : Value) (hs : List Hd) : Prop := RT (fun k => k < w.heap.size ∧ ¬ bad k) w v hs
section
variable {bad worse S : Nat → Prop} {w w' : World} {v : Value} {hs : List Hd}
theorem RO.below (h : RO bad w v hs) (hb : Below w.heap.size w w') : RO bad w' v hs := (RT.below h hb).mono (fun k _ h => ⟨by have := hb.size; omega, h.2⟩)
theorem RO.drew (h : RO bad w v hs) : RO bad w.drew v hs := RT.drew h
theorem RO.fr (h : RO bad w v hs) (hf : Fr S w w') (hS : ∀ k, S k → bad k) (ht : ¬ S 0) : RO bad w' v hs := (RT.fr h hf (fun k _ hk e => hk.2 (hS k e)) ht).mono (fun k _ h => ⟨by have := hf.size; omega, h.2⟩)
theorem RO.mono (h : RO bad w v hs) (hw : ∀ k, k < w.heap.size → worse k → bad k) : RO worse w v hs := RT.mono h (fun k hk h => ⟨h.1, fun e => h.2 (hw k hk e)⟩)
theorem RO.of (h : RT (fun k => (k < w.heap.size ∧ ¬ bad k) ∨ w.heap.size ≤ k) w' v hs) (hb : ∀ k, bad k → k < w.heap.size) : RO bad w' v hs :=
  RT.mono h (fun k hk h => ⟨hk, fun e => by have := hb k e; rcases h with h | h; exact h.2 e; omega⟩)
theorem RO.new (h : RT (fun k => w.heap.size ≤ k) w' v hs) (hb : ∀ k, bad k → k < w.heap.size) : RO bad w' v hs :=
  RT.mono h (fun k hk h => ⟨hk, fun e => by have := hb k e; omega⟩)
end
/-- what comes of headers, one behind the other -/
def fedL (hs l : List Hd) : List Hd := l.foldl addL hs
theorem fedL_snoc (hs l : List Hd) (h : Hd) : fedL hs (l ++ [h]) = addL (fedL hs l) h := by simp [fedL]
theorem new_put {g : Nat} {a b c : World} (hg : g = a.heap.size) (h : Below a.heap.size a b) (f : Fr (fun k => k = g) b c) : Below a.heap.size a c := h.trans (f.below h.size (fun k hk => by have : k = g := hk; omega))
theorem addL_len (hs : List Hd) (h : Hd) : (addL hs h).length ≤ hs.length + 1 := by unfold addL; split <;> simp
theorem fedL_len (hs : List Hd) : ∀ l : List Hd, (fedL hs l).length ≤ hs.length + l.length := by
  intro l
  rw [← List.reverse_reverse l]
  induction l.reverse with
  | nil => simp [fedL]
  | cons h r ih =>
    rw [List.reverse_cons, fedL_snoc]
    have := addL_len (fedL hs r.reverse) h
    simp only [List.length_append, List.length_singleton] at *
    omega
theorem trk_fed {hs : List Hd} (T : Trk hs) : ∀ l : List Hd, (∀ h ∈ l, h.Ok) → Trk (fedL hs l) := by
  intro l
  rw [← List.reverse_reverse l]
  induction l.reverse with
  | nil => intro _; exact T
  | cons h r ih =>
    intro hl
    rw [List.reverse_cons, fedL_snoc]
    exact (ih (fun x hx => hl x (by simp at hx ⊢; exact .inl hx))).add (hl h (by simp))
/-- what fed keeps -/
structure FD (w : World) (t b g9 g5 : Nat) (hs : List Hd) (wx : World) : Prop where
  x : TrkIs wx t b hs
  k9 : ∃ v, Blk wx g9 [v] 27 ∧ RO (fun k => k = t ∨ k = b ∨ k = g9 ∨ k = g5 ∨ k < w.heap.size) wx v hs
  k5 : Blk wx g5 [.slice none 0 0] 27
  p : TabB wx 1
  b : Below w.heap.size w wx
section
variable {w a c : World} {t b g9 g5 : Nat} {hs : List Hd}
theorem FD.below (h : FD w t b g9 g5 hs a) (hb : Below a.heap.size a c) : FD w t b g9 g5 hs c := by
  obtain ⟨v, k1, k2⟩ := h.k9
  exact ⟨h.x.below hb, ⟨v, k1.below hb, k2.below hb⟩, h.k5.below hb, h.p.below hb, h.b.trans (hb.mono h.b.size)⟩
end
/-- what fed hands back -/
def FedT (w : World) (hs : List Hd) (e : Ending) (w' : World) : Prop :=
  ∃ t b v, e = .returned (.tuple #[.pointer (some ⟨t, 0, none⟩), rv v, .bool true]) ∧ w.heap.size ≤ t ∧ w.heap.size ≤ b ∧ TrkIs w' t b hs ∧ RO (fun k => k = t ∨ k = b ∨ k < w.heap.size) w' v hs ∧ Below w.heap.size w w'

set_option maxHeartbeats 16000000 in
set_option maxRecDepth 100000 in
theorem fed_calls (w : World) (first : Hd) (ok : first.Ok) (vi : Value) (inp : List Hd) (hin : Arr 66 Any w vi (rows inp)) (hok : ∀ h ∈ inp, h.Ok) (hn : (inp.length + 2) * 80 ≤ 140737488355328) (hP : TabB w 1) (hR : TabB w 0) :
    Calls Tryd.prog 6 #[hv first, vi] w (FedT w (fedL [first] inp)) := by
  obtain ⟨ai, ci, rfl, hci, hcm, _⟩ := hin.form
  rw [rows_len] at hin hci ⊢
  unfold maxLen at hcm
  have hp := (Array.getElem?_eq_some_iff.1 hP.choose_spec.choose_spec).1
  have hr := (Array.getElem?_eq_some_iff.1 hR.choose_spec.choose_spec).1
  have HPL := Lib.hid hp
  have HRL := Lib.hid hr
  have HP := Lib.hid hP
  have HR := Lib.hid hR
  have OK := Lib.hid ok
  have HIN := Lib.hid hin
  have HOK := Lib.hid hok
  clear hp hr hP hR ok hin hok
  go_enter Tryd.func6, Tryd.ntmps6
  go_upto_region 1 with (first
    | ((with_reducible refine wpList_box rfl _ _ rfl first.cells rfl (fun w1 k1 c1 z1 => ?_)); have K1 := Lib.hid k1; have B1 := Lib.hid c1; clear k1 c1)
    | ((with_reducible refine wpList_alloc rfl _ rfl _ (zeroT _) (fun w2 k2 c2 z2 => ?_)); have K2 := Lib.hid k2; have B2 := Lib.hid (B1.out.trans (c2.mono (by omega))); have F2 := Lib.hid (K1.out.below c2); clear k2 c2))
  have hg5 : w.heap.size < w1.heap.size := by omega
  have hg5' : w1.heap.size < w2.heap.size := by omega
  clear K1 B1
  generalize w1.heap.size = g5 at *
  go_wp2_with (first | (with_reducible refine wpList_load_blk rfl _ _ rfl w.heap.size first.cells rfl F2.out _ Tryd.underlying32 rfl (szH OK.out) ?_))
  refine (begun_calls w2 first OK.out (HP.out.below B2.out) (HR.out.below B2.out)).mono ?_
  rintro e w3 ⟨t, b, rfl, n1, n2, x3, c3⟩
  have hl1 := x3.lt.1
  have hl2 := x3.lt.2
  have hs3 := c3.size
  have hs2 := B2.out.size
  have X3 := Lib.hid x3
  have F3 := Lib.hid (F2.out.below c3)
  have K3 := Lib.hid (K2.out.below c3)
  have B3 := Lib.hid (B2.out.trans (c3.mono hs2))
  clear x3 c3 K2 F2 B2
  go_wp2_with (first | (with_reducible refine wpList_load_blk rfl _ _ rfl w.heap.size first.cells rfl F3.out _ Tryd.underlying32 rfl (szH OK.out) ?_))
  refine (rnew_calls w3 first OK.out (HR.out.below B3.out)).mono ?_
  rintro e w4 ⟨v, rfl, r4, c4⟩
  obtain ⟨va, vc, rfl, _⟩ := r4.form
  have R4 := Lib.hid r4
  have X4 := Lib.hid (X3.out.below c4)
  have K4 := Lib.hid (K3.out.below c4)
  have B4 := Lib.hid (B3.out.trans (c4.mono B3.out.size))
  have hs4 := c4.size
  have RO4 := Lib.hid (show RO (fun k => k = t ∨ k = b ∨ k = w4.heap.size ∨ k = g5 ∨ k < w.heap.size) w4 (.slice va [first].length vc) [first] from r4.mono (fun k hk h => ⟨hk, fun e => by rcases e with e | e | e | e | e <;> omega⟩))
  have hg5x : g5 < w4.heap.size := by omega
  clear r4 c4 X3 F3 K3 B3
  go_upto_region 3 with (first
    | ((with_reducible refine wpList_alloc rfl _ rfl _ (zeroT _) (fun w5 k5 c5 z5 => ?_)); have K5 := Lib.hid k5; have R5 := Lib.hid (RO4.out.below c5); have X5 := Lib.hid (X4.out.below c5); have D5 := Lib.hid (K4.out.below c5); have B5 := Lib.hid (B4.out.trans (c5.mono B4.out.size)); clear k5 c5)
    | ((with_reducible refine wpList_put rfl _ _ _ rfl w4.heap.size [.slice va [first].length vc] _ rfl rfl K5.out (szRT _) rfl (one_slice _ _ _) (fun w6 k6 c6 z6 => ?_)); have K6 := Lib.hid k6; have F6 := Lib.hid c6; clear k6 c6))
  have hw5 := B5.out.size
  have hg9 : t < w4.heap.size := by omega
  have hg9b : b < w4.heap.size := by omega
  have hg95 : g5 < w4.heap.size := by omega
  have hg9w : w.heap.size < w4.heap.size := by omega
  have HS := Lib.hid (show FD w t b w4.heap.size g5 [first] w6 from ⟨X5.out.fr F6.out (by omega) (by omega), ⟨_, K6.out, R5.out.fr F6.out (fun k hk => .inr (.inr (.inl hk))) (by have := HRL.out; show ¬ 0 = _; omega)⟩, D5.out.fr F6.out (by omega), (HP.out.below B5.out).fr F6.out (by have := HPL.out; show ¬ 1 = _; omega), B5.out.trans (F6.out.below hw5 (fun k hk => by have : k = w4.heap.size := hk; omega))⟩)
  have m1 : w.heap.size ≤ t := by omega
  have m2 : w.heap.size ≤ b := by omega
  have m5 : w.heap.size ≤ g5 := by omega
  have m6 : t ≠ g5 := by omega
  have m7 : b ≠ g5 := by omega
  clear X4 K4 R4 B4 K5 R5 X5 D5 B5 K6 F6 RO4
  generalize w4.heap.size = g9 at *
  go_wp2
  go_loopw [26] (fun i' wx => ∃ i : Nat, i ≤ inp.length ∧ i' = .int .i64 (i : Int) ∧ FD w t b g9 g5 (fedL [first] (inp.take i)) wx) (fun i' _ => inp.length - (intOf i').toNat)
  case atStart => exact ⟨0, Nat.zero_le _, rfl, HS.out⟩
  case round =>
    obtain ⟨i, hi, rfl, hS⟩ := hrel
    have SX := Lib.hid hS
    obtain ⟨hs, hhs⟩ : ∃ x, fedL [first] (inp.take i) = x := ⟨_, rfl⟩
    have hlen : hs.length ≤ i + 1 := by rw [← hhs]; have := fedL_len [first] (inp.take i); simp at this; omega
    have HTK := Lib.hid (show Trk hs by rw [← hhs]; exact trk_fed (Trk.one OK.out) _ (fun x hx => HOK.out x (List.mem_of_mem_take hx)))
    rw [hhs] at SX
    have HHS := Lib.hid hhs
    clear hS hhs
    by_cases hlt : i < inp.length
    · have hin2 := HIN.out.below (by omega) SX.out.b
      obtain ⟨bi, oi, ci', e0, _, r0⟩ := HIN.out.at i (by rw [rows_len]; exact hlt)
      rw [rows_len] at e0
      cases e0
      obtain ⟨g, hg⟩ : ∃ g, inp[i]'hlt = g := ⟨_, rfl⟩
      have HRG := Lib.hid (show wr.rangeAt bi (oi + i * 66) g.cells from by
        have h1 := Arr.rangeAt_fr r0 (Fr.ofBelow SX.out.b) (by have := Arr.rangeAt_lt r0 (by rw [rows_get hlt]; intro e; have := (HOK.out _ (List.getElem_mem hlt)).len; rw [e] at this; simp at this); show ¬ w.heap.size ≤ bi; omega)
        rw [rows_get hlt, hg] at h1
        exact h1)
      have OKG := Lib.hid (show g.Ok from by rw [← hg]; exact HOK.out _ (List.getElem_mem hlt))
      have HNX := Lib.hid (show fedL [first] (inp.take (i + 1)) = addL hs g by rw [List.take_add_one, List.getElem?_eq_getElem hlt, hg]; show fedL _ (_ ++ [g]) = _; rw [fedL_snoc, HHS.out])
      have hltI : (i : Int) < (inp.length : Int) := by omega
      have h0I : (0 : Int) ≤ (i : Int) := by omega
      have hww := SX.out.b.size
      clear hg r0 hin2
      have hx1 := SX.out.x.lt.1
      have hx2 := SX.out.x.lt.2
      have hx3 : g9 < wr.heap.size := SX.out.k9.choose_spec.1.lt
      have hx4 := SX.out.k5.lt
      have HZL := Lib.hid (show zeroH.cells.length = g.cells.length by rw [zeroH_len, OKG.out.len])
      go_upto_region 8 with (first
        | (with_reducible refine wpList_load_mid rfl _ _ rfl bi (oi + i * 66) rfl g.cells _ HRG.out Tryd.underlying32 rfl (szH OKG.out) ?_)
        | ((with_reducible refine wpList_alloc rfl _ rfl _ (zeroV _) (fun wa ka ca za => ?_)); have KA := Lib.hid ka; have CA := Lib.hid ca; clear ka ca)
        | ((with_reducible refine wpList_put rfl _ _ _ rfl wr.heap.size g.cells _ rfl rfl KA.out (szH OKG.out) HZL.out g.one (fun wb kb fb zb => ?_)); have KB := Lib.hid kb; have CB := Lib.hid (new_put rfl CA.out fb); have SB := Lib.hid (SX.out.below CB.out); clear kb fb))
      clear KA CA HRG
      obtain ⟨v9, kv, rv9⟩ := SB.out.k9
      obtain ⟨av, cv, rfl, _⟩ := rv9.form
      have HV := Lib.hid kv
      have RV := Lib.hid rv9
      have hgb : wr.heap.size < wb.heap.size := KB.out.lt
      clear kv rv9
      generalize wr.heap.size = gb at *
      go_wp2_with (first
        | (with_reducible refine wpList_load_blk rfl _ _ rfl g9 [.slice av hs.length cv] rfl HV.out _ Tryd.underlying27 rfl (szRT _) ?_)
        | (with_reducible refine wpList_load_blk rfl _ _ rfl gb g.cells rfl KB.out _ Tryd.underlying32 rfl (szH OKG.out) ?_))
      refine (radd_calls _ wb _ hs HTK.out.ok g OKG.out (by omega) (fun k hk => hk.1) RV.out).mono ?_
      rintro e wc ⟨v', rfl, r', cc⟩
      obtain ⟨av2, cv2, rfl, _⟩ := r'.form
      have RC := Lib.hid (RO.of r' (fun k e => by rcases e with e | e | e | e | e <;> omega))
      have SC := Lib.hid (SB.out.below cc)
      have KBC := Lib.hid (KB.out.below cc)
      have hsc := cc.size
      clear r' cc RV HV KB SB
      go_upto_region 9 with (first
        | ((with_reducible refine wpList_alloc rfl _ rfl _ (zeroT _) (fun wd kd cd zd => ?_)); have KD := Lib.hid kd; have CD := Lib.hid cd; clear kd cd)
        | ((with_reducible refine wpList_put rfl _ _ _ rfl wc.heap.size [.slice av2 (addL hs g).length cv2] _ rfl rfl KD.out (szRT _) rfl (one_slice _ _ _) (fun we ke fe ze => ?_)); have KE := Lib.hid ke; have CE := Lib.hid (new_put rfl CD.out fe); clear ke fe))
      have SE := Lib.hid (SC.out.below CE.out)
      have RE := Lib.hid (RC.out.below CE.out)
      have KBE := Lib.hid (KBC.out.below CE.out)
      have hgd : wc.heap.size < we.heap.size := KE.out.lt
      clear SC RC KBC KD CD CE
      generalize wc.heap.size = gd at *
      have hy1 := SE.out.x.lt.1
      have hy2 := SE.out.x.lt.2
      go_wp2_with (first | (with_reducible refine wpList_load_blk rfl _ _ rfl gb g.cells rfl KBE.out _ Tryd.underlying32 rfl (szH OKG.out) ?_))
      refine (add_calls we t b hs HTK.out g OKG.out SE.out.x SE.out.p).mono ?_
      rintro e wf hA
      have RF := Lib.hid (RE.out.fr hA.2.2 (fun k hk => by rcases hk with hk | hk; exact .inl hk; exact .inr (.inl hk)) (fun e => by have := HRL.out; rcases e with e | e <;> omega))
      have KF := Lib.hid (KE.out.fr hA.2.2 (fun e => by rcases e with e | e <;> omega))
      have XF := Lib.hid hA.2.1
      obtain ⟨old9, ko9, _⟩ := SE.out.k9
      have K9 := Lib.hid (ko9.fr hA.2.2 (fun e => by rcases e with e | e <;> omega))
      have K5 := Lib.hid (SE.out.k5.fr hA.2.2 (fun e => by rcases e with e | e <;> omega))
      have PF := Lib.hid (SE.out.p.fr hA.2.2 (fun e => by have := HPL.out; rcases e with e | e <;> omega))
      have BF := Lib.hid (SE.out.b.trans (hA.2.2.below SE.out.b.size (fun k e => by rcases e with e | e <;> omega)))
      have hbf := BF.out.size
      obtain rfl := hA.1
      obtain ⟨n, hn⟩ : ∃ n, addE hs g = n := ⟨_, rfl⟩
      rw [hn]
      have hnn : (n != n) = false := by simp
      clear hA SE RE KBE KE hn ko9
      go_wp2_with (first
        | (with_reducible refine wpList_load_blk rfl _ _ rfl gd [.slice av2 (addL hs g).length cv2] rfl KF.out _ Tryd.underlying27 rfl (szRT _) ?_)
        | ((with_reducible refine wpList_put rfl _ _ _ rfl g9 [.slice av2 (addL hs g).length cv2] _ rfl rfl K9.out (szRT _) rfl (one_slice _ _ _) (fun wg kg fg zg => ?_)); have KG := Lib.hid kg; have FG := Lib.hid fg; clear kg fg))
      have HSG := Lib.hid (show FD w t b g9 g5 (addL hs g) wg from ⟨XF.out.fr FG.out (by omega) (by omega), ⟨_, KG.out, RF.out.fr FG.out (fun k hk => .inr (.inr (.inl hk))) (by have := HRL.out; show ¬ 0 = g9; omega)⟩, K5.out.fr FG.out (by omega), PF.out.fr FG.out (by have := HPL.out; show ¬ 1 = g9; omega), BF.out.trans (FG.out.below hbf (fun k (hk : k = g9) => by omega))⟩)
      go_roundw
      case rel => exact ⟨i + 1, by omega, by go_num, by rw [HNX.out]; exact HSG.out⟩
      case measure => simp [intOf]; omega
    · obtain rfl : i = inp.length := by omega
      have HFL := Lib.hid (show fedL [first] inp = hs by rw [← HHS.out, List.take_length])
      obtain ⟨v9, kv, rv9⟩ := SX.out.k9
      obtain ⟨av, cv, rfl, _⟩ := rv9.form
      have hww := SX.out.b.size
      have HK9 := Lib.hid kv
      have HRV := Lib.hid rv9
      have hbd := HTK.out.ne
      clear kv rv9
      rw [HFL.out]
      obtain ⟨bi9, hbi⟩ : ∃ x, bestId hs = x := ⟨_, rfl⟩
      have HBI := Lib.hid hbi
      have HBL := Lib.hid (show bi9.length = 32 by rw [← hbi]; exact bestId_length hs)
      have hq : ∀ w, (Op.equalIn 10000 24 (.agg (bi9.map byt).toArray) (.agg (bi9.map byt).toArray)).run Tryd.prog w = .ok true w := fun w => by rw [run_equal_u8 Tryd.underlying24 (i := _) rfl (by kernel_rfl) Tryd.underlying5 w bi9 bi9 HBL.out HBL.out]; simp
      clear hbi
      go_wp2
      refine wp_region_held_drew (S := (fun w' => TrkIs w' t b hs ∧ Blk w' g9 [.slice av hs.length cv] 27 ∧ RO (fun k => k = t ∨ k = b ∨ k = g9 ∨ k = g5 ∨ k < w.heap.size) w' (.slice av hs.length cv) hs ∧ (∃ x, Blk w' g5 [x] 27) ∧ Below w.heap.size w w')) (by kernel_rfl) ⟨SX.out.x.drew, HK9.out.drew, HRV.out.drew, ⟨_, SX.out.k5.drew⟩, below_drew SX.out.b⟩ (fun hHeld => ?_)
      refine wpAnyH_take (i := 0) (oi := ⟨_, _, _, _, _, _⟩) (v := ?_) rfl (by kernel_rfl) (by kernel_rfl) (by kernel_rfl) (fun _ _ _ h => h) (Or.inl ⟨by rfl, ?_⟩) (by assumption) ?_
      rotate_left
      · intro w hSw; go_simp; try (with_reducible rfl)
      try simp only [Act.put, List.setIfInBounds_toArray, List.set_cons_zero, List.set_cons_succ]
      refine wpAnyH_take (i := 1) (oi := ⟨_, _, _, _, _, _⟩) rfl (by kernel_rfl) (by kernel_rfl) (by kernel_rfl) (fun _ _ _ h => h) (yieldsIf_load_mid (by rfl) _ _ rfl g9 0 rfl [.slice av hs.length cv] _ (fun _ h => blk_range h.2.1) Tryd.underlying27 rfl (szRT _)) (by assumption) ?_
      try simp only [Act.put, List.setIfInBounds_toArray, List.set_cons_zero, List.set_cons_succ]
      refine wpAnyH_take (i := 2) (oi := ⟨_, _, _, _, _, _⟩) (v := ?_) rfl (by kernel_rfl) (by kernel_rfl) (by kernel_rfl) (fun _ _ _ h => h) (Or.inl ⟨by rfl, ?_⟩) (by assumption) ?_
      rotate_left
      · intro w hSw; go_simp; try (with_reducible rfl)
      try simp only [Act.put, List.setIfInBounds_toArray, List.set_cons_zero, List.set_cons_succ]
      refine wpAnyH_take (i := 4) (oi := ⟨_, _, _, _, _, _⟩) rfl (by kernel_rfl) (by kernel_rfl) (by kernel_rfl) (fun _ _ _ h => h) (yieldsIf_load_mid (by rfl) _ _ rfl g9 0 rfl [.slice av hs.length cv] _ (fun _ h => blk_range h.2.1) Tryd.underlying27 rfl (szRT _)) (by assumption) ?_
      try simp only [Act.put, List.setIfInBounds_toArray, List.set_cons_zero, List.set_cons_succ]
      refine wpAnyH_ready (rs := [3]) (by kernel_rfl) (by simp) ?_
      refine AllReadyH.cons (o := ⟨_, _, _, _, _, _⟩) rfl (fun K hK => ?_) AllReadyH.nil
      go_simp
      refine (best_calls _ t b hs hHeld.1).mono ?_
      rintro e wz ⟨rfl, gz⟩
      rw [HBI.out]
      refine hK.out _ _ (by exact ⟨hHeld.1.below gz, hHeld.2.1.below gz, hHeld.2.2.1.below gz, (hHeld.2.2.2.1.elim fun x hx => ⟨x, hx.below gz⟩), hHeld.2.2.2.2.trans (gz.mono hHeld.2.2.2.2.size)⟩) (fun hHeld => ?_)
      clear hK
      try simp only [Act.put, List.setIfInBounds_toArray, List.set_cons_zero, List.set_cons_succ]
      clear gz
      refine wpAnyH_ready (rs := [5]) (by kernel_rfl) (by simp) ?_
      refine AllReadyH.cons (o := ⟨_, _, _, _, _, _⟩) rfl (fun K hK => ?_) AllReadyH.nil
      go_simp
      refine (rbest_calls _ _ _ hs hbd HTK.out.ok hHeld.2.2.1).mono ?_
      rintro e wz ⟨rfl, gz⟩
      rw [HBI.out]
      refine hK.out _ _ (by exact ⟨hHeld.1.below gz, hHeld.2.1.below gz, hHeld.2.2.1.below gz, (hHeld.2.2.2.1.elim fun x hx => ⟨x, hx.below gz⟩), hHeld.2.2.2.2.trans (gz.mono hHeld.2.2.2.2.size)⟩) (fun hHeld => ?_)
      clear hK
      try simp only [Act.put, List.setIfInBounds_toArray, List.set_cons_zero, List.set_cons_succ]
      clear gz
      refine wpAnyH_take (i := 6) (oi := ⟨_, _, _, _, _, _⟩) (v := ?_) rfl (by kernel_rfl) (by kernel_rfl) (by kernel_rfl) (fun _ _ _ h => h) (Or.inl ⟨by rfl, ?_⟩) (by assumption) ?_
      rotate_left
      · intro w hSw; go_simp; try (with_reducible rfl)
      try simp only [Act.put, List.setIfInBounds_toArray, List.set_cons_zero, List.set_cons_succ]
      refine wpAnyH_take (i := 7) (oi := ⟨_, _, _, _, _, _⟩) (v := ?_) rfl (by kernel_rfl) (by kernel_rfl) (by kernel_rfl) (fun _ _ _ h => h) (Or.inl ⟨by rfl, ?_⟩) (by assumption) ?_
      rotate_left
      · intro w hSw; go_simp; try (with_reducible rfl)
      try simp only [Act.put, List.setIfInBounds_toArray, List.set_cons_zero, List.set_cons_succ]
      refine wpAnyH_take (i := 8) (oi := ⟨_, _, _, _, _, _⟩) (v := ?_) rfl (by kernel_rfl) (by kernel_rfl) (by kernel_rfl) (fun _ _ _ h => h) (Or.inl ⟨by rfl, ?_⟩) (by assumption) ?_
      rotate_left
      · intro w hSw; go_simp; try (with_reducible rfl)
      try simp only [Act.put, List.setIfInBounds_toArray, List.set_cons_zero, List.set_cons_succ]
      refine wpAnyH_take (i := 10) (oi := ⟨_, _, _, _, _, _⟩) (v := ?_) rfl (by kernel_rfl) (by kernel_rfl) (by kernel_rfl) (fun _ _ _ h => h) (Or.inl ⟨by rfl, ?_⟩) (by assumption) ?_
      rotate_left
      · intro w hSw; go_simp; try (with_reducible rfl)
      try simp only [Act.put, List.setIfInBounds_toArray, List.set_cons_zero, List.set_cons_succ]
      refine wpAnyH_take (i := 11) (oi := ⟨_, _, _, _, _, _⟩) (v := .slice av hs.length cv) rfl (by kernel_rfl) (by kernel_rfl) (by kernel_rfl) (fun _ _ _ h => h) (Or.inl ⟨by rfl, fun w hSw => (by have c := hSw.2.1.cell (i := 0) rfl; go_simp; try (with_reducible rfl))⟩) (by assumption) ?_
      try simp only [Act.put, List.setIfInBounds_toArray, List.set_cons_zero, List.set_cons_succ]
      refine wpAnyH_take (i := 12) (oi := ⟨_, _, _, _, _, _⟩) (v := ?_) rfl (by kernel_rfl) (by kernel_rfl) (by kernel_rfl) (fun _ _ _ h => h) (Or.inl ⟨by rfl, ?_⟩) (by assumption) ?_
      rotate_left
      · intro w hSw; go_simp; try (with_reducible rfl)
      try simp only [Act.put, List.setIfInBounds_toArray, List.set_cons_zero, List.set_cons_succ]
      refine wpAnyH_ready (rs := [9]) (by kernel_rfl) (by simp) ?_
      refine AllReadyH.cons (o := ⟨_, _, _, _, _, _⟩) rfl (fun K hK => ?_) AllReadyH.nil
      go_simp
      refine (len_calls _ t b hs hHeld.1).mono ?_
      rintro e wz ⟨rfl, rfl⟩
      refine hK.out _ _ (by exact hHeld) (fun hHeld => ?_)
      clear hK
      try simp only [Act.put, List.setIfInBounds_toArray, List.set_cons_zero, List.set_cons_succ]
      refine wpAnyH_take (i := 13) (oi := ⟨_, _, _, _, _, _⟩) (v := ?_) rfl (by kernel_rfl) (by kernel_rfl) (by kernel_rfl) (fun _ _ _ h => h) (Or.inl ⟨by rfl, ?_⟩) (by assumption) ?_
      rotate_left
      · intro w hSw; go_simp; try (with_reducible rfl)
      try simp only [Act.put, List.setIfInBounds_toArray, List.set_cons_zero, List.set_cons_succ]
      refine wpAnyH_take (i := 14) (oi := ⟨_, _, _, _, _, _⟩) (v := ?_) rfl (by kernel_rfl) (by kernel_rfl) (by kernel_rfl) (fun _ _ _ h => h) (Or.inl ⟨by rfl, ?_⟩) (by assumption) ?_
      rotate_left
      · intro w hSw; go_simp; try (with_reducible rfl)
      try simp only [Act.put, List.setIfInBounds_toArray, List.set_cons_zero, List.set_cons_succ]
      refine wpAnyH_take (i := 15) (oi := ⟨_, _, _, _, _, _⟩) (v := ?_) rfl (by kernel_rfl) (by kernel_rfl) (by kernel_rfl) (fun _ _ _ h => h) (Or.inl ⟨by rfl, ?_⟩) (by assumption) ?_
      rotate_left
      · intro w hSw; go_simp; try (with_reducible rfl)
      try simp only [Act.put, List.setIfInBounds_toArray, List.set_cons_zero, List.set_cons_succ]
      refine wpAnyH_ready (rs := [16]) (by kernel_rfl) (by simp) ?_
      refine AllReadyH.cons (o := ⟨_, _, _, _, _, _⟩) rfl (fun K hK => ?_) AllReadyH.nil
      rw [if_pos (by rfl)]
      obtain ⟨x5, hx5⟩ := hHeld.2.2.2.1
      refine wp_put _ _ _ rfl g5 [.slice av hs.length cv] _ rfl rfl hx5 (szRT _) rfl (one_slice _ _ _) (fun wb kb fb zb => ?_)
      refine hK.out _ _ (by exact ⟨hHeld.1.fr fb (by omega) (by omega), hHeld.2.1.fr fb (by omega), hHeld.2.2.1.fr fb (fun k hk => .inr (.inr (.inr (.inl hk)))) (by have := HRL.out; show ¬ 0 = g5; omega), ⟨_, kb⟩, hHeld.2.2.2.2.trans (fb.below hHeld.2.2.2.2.size (fun k (hk : k = g5) => by omega))⟩) (fun hHeld => ?_)
      have KB := Lib.hid kb
      clear kb fb
      clear hK
      refine wpAnyH_take (i := 17) (oi := ⟨_, _, _, _, _, _⟩) (v := ?_) rfl (by kernel_rfl) (by kernel_rfl) (by kernel_rfl) (fun _ _ _ h => h) (Or.inl ⟨by rfl, ?_⟩) (by assumption) ?_
      rotate_left
      · intro w hSw; go_simp; try (with_reducible rfl)
      try simp only [Act.put, List.setIfInBounds_toArray, List.set_cons_zero, List.set_cons_succ]
      refine wpAnyH_done (by kernel_rfl) ?_ _
      go_wp2
      exact bodyPost_ret (v := .tuple #[.pointer (some ⟨t, 0, none⟩), rv (.slice av hs.length cv), .bool true]) (results_row3 Tryd.results6 _ _ g5 _ _ rfl KB.out Tryd.underlying27 rfl (szRT _) _ rfl _ rfl) rfl (by rw [HFL.out]; exact ⟨t, b, _, rfl, m1, m2, hHeld.1, hHeld.2.2.1.mono (fun k _ (e : k = t ∨ k = b ∨ k < w.heap.size) => by rcases e with e | e | e; exact .inl e; exact .inr (.inl e); exact .inr (.inr (.inr (.inr e)))), hHeld.2.2.2.2⟩)
end Go.Proofs.YtmenchnjajpkmaaDoor.Tf
