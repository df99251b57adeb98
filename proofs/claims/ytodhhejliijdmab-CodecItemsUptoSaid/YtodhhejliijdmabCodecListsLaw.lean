/- CodecLists: of whatever bytes a list is read as the document says: all of it, or nothing, and why. Condition: the text is of at most 2^20 bytes. -/
import Derived.Test.YtodhhejliijdmabCodecListed
namespace Go.Proofs.Ytodhhejliijdmab.codecLists
open Go Go.RowKit Mem Codec CodecW CodecR CodecL CodecN CodecRef CodecIt CodecListed Row
set_option linter.unusedVariables false

theorem quiet_eq {P : Program} {f : FuncId} {args : Array Value} {w : World} {n : Nat} {v : Value} (h : Calls P f args (w.drewN n) fun e w' => e = .returned v ∧ w.drewN n = w') : Calls P f args (w.drewN n) fun e w'' => e = .returned v ∧ ∃ m, w'' = w.drewN m :=
  h.mono fun _ _ ⟨he, hm⟩ => ⟨he, n, hm.symm⟩
theorem below_drewN {B : Nat} {w w' : World} (h : Below B w w') (n : Nat) : Below B w (w'.drewN n) := ⟨h.os, h.tape, h.output, h.size, h.block⟩
theorem Byt.drewN {D : Nat → Prop} {w : World} {v : Value} {l : List UInt8} (h : Byt D w v l) (n : Nat) : Byt D (w.drewN n) v l := h
theorem lst_len (n : Nat) (r : Rd) : (lst (items one n r)).length ≤ r.rest.length := by
  have := items_len n r
  unfold lst
  split
  · simp
  · omega
theorem Texts.at {base : Nat} {e : TypeId} {w : World} {v : Value} {ls : List (List UInt8)} (h : Texts base e w v ls) (i : Nat) (hi : i < ls.length) : ∃ g cap x, v = .slice (some ⟨g, 0, none⟩) ls.length cap ∧ w.cell? ⟨g, i, none⟩ = some x ∧ Byt Any w x (ls[i]'hi) := by
  obtain ⟨vals, h1, h2⟩ := h
  obtain ⟨g, cap, e1, _, _, hc⟩ := h1.at (by omega)
  obtain ⟨x, hx, hb⟩ := h2 i hi
  refine ⟨g, cap, x, e1, ?_, hb.any⟩
  rw [hc i (by omega)]
  obtain ⟨hlt, hx2⟩ := List.getElem?_eq_some_iff.1 hx
  exact congrArg some hx2
theorem Texts.drewN {base : Nat} {e : TypeId} {w : World} {v : Value} {ls : List (List UInt8)} (h : Texts base e w v ls) (n : Nat) : Texts base e (w.drewN n) v ls := h
set_option maxHeartbeats 4000000 in
set_option maxRecDepth 100000 in
theorem walk (w : World) (vb : Value) (B : List UInt8) (hB : Byt Any w vb B) (hl : B.length ≤ 140737488351232) (most : Int) (hm : (Lit.int .i64 most).wf = true) (hbk : B.length ≤ 1048576) :
    Calls Try.prog 9 #[vb, .int .i64 most] w fun e w' => e = .returned (.bool true) ∧ Below w.heap.size w w' := by
  obtain ⟨hm1, hm2⟩ := bounds_i64 hm
  obtain ⟨b1, b2, rfl, hkb, _⟩ := id hB
  have HB0 := Lib.hid hB
  have hrl := Nat.le_trans (lst_len (Rd.room ⟨B, 0⟩ most).2 (Rd.room ⟨B, 0⟩ most).1) (Nat.le_trans (Rd.room_len ⟨B, 0⟩ most) hbk)
  clear hB hm
  go_enter Try.func9, Try.ntmps9
  go_wp2_with fail
  refine (CodecR.read_calls _ w _ B HB0.out (by omega)).mono ?_
  rintro e w1 ⟨q, rfl, hq, g1, g2⟩
  have hs1 := g2.size
  have HR := Lib.hid g1
  have HB := Lib.hid g2
  clear g1 g2
  go_wp2_with fail
  refine (alive_calls w1).mono ?_
  rintro e w2 ⟨rfl, g2⟩
  have hs2 := g2.size
  have HR := Lib.hid (HR.out.below g2)
  have HB := Lib.hid (HB.out.trans (g2.mono (by omega)))
  clear g2
  go_wp2_with fail
  refine (list_calls _ w2 q ⟨B, 0⟩ most (by omega) (by omega) HR.out (by dsimp only; omega)).mono ?_
  rintro e w3 ⟨v1, rfl, g1, g2, g3⟩
  have hs3 := g3.size
  have HT1 := Lib.hid g1
  have HR := Lib.hid g2
  have HB := Lib.hid (HB.out.trans (g3.below (by omega) (fun k h => by omega)))
  clear g1 g2 g3
  go_wp2_with fail
  refine (listed_calls w3 b1 b2 B most (HB0.out.below HB.out) (by omega) (by omega) (by omega)).mono ?_
  rintro e w4 ⟨v2, z, rfl, hz, g1, g2⟩
  obtain ⟨y, hy⟩ : ∃ y, items one (Rd.room ⟨B, 0⟩ most).2 (Rd.room ⟨B, 0⟩ most).1 = y := ⟨_, rfl⟩
  rw [hy] at HT1 HR hz g1 hrl ⊢
  obtain ⟨pre, ⟨lr, er⟩⟩ := y
  dsimp only at HR hz g1 ⊢
  have hs4 := g2.size
  have hal : Below w4.heap.size w4 (w4.alloc (.cells [.slice b1 B.length b2, .int .i64 (z : Int), .int .i64 er].toArray 44)) := (Below.refl _ _).alloc (Nat.le_refl _) _
  have hn := Blk.new w4 #[.slice b1 B.length b2, .int .i64 (z : Int), .int .i64 er] 44 _ rfl
  have HT1 := Lib.hid ((HT1.out.below g2).below hal)
  have HR := Lib.hid ((HR.out.below g2).below hal)
  have HT2 := Lib.hid (g1.below hal)
  have HB := Lib.hid ((HB.out.trans (g2.mono (by omega))).trans (hal.mono (by omega)))
  clear g1 g2 hal hy
  go_upto_region 6 with fail
  generalize (w4.alloc (.cells [.slice b1 B.length b2, .int .i64 (z : Int), .int .i64 er].toArray 44)) = w5 at *
  generalize w4.heap.size = p at *
  have c0 := hn.cell (i := 0) rfl
  have c1 := hn.cell (i := 1) rfl
  have c2 := hn.cell (i := 2) rfl
  clear hn
  have hzz : (B.length : Int) - (z : Int) = (lr.length : Int) := by omega
  have HZZ := Lib.hid hzz
  clear hzz hz
  by_cases he : er = 0
  · subst he
    have e0 : lst (pre, (⟨lr, 0⟩ : Rd)) = pre := by unfold lst; rw [if_neg (by simp)]
    rw [e0] at HT1 hrl
    obtain ⟨a1, n1, rfl, _⟩ := HT1.out.form
    obtain ⟨a2, n2, rfl, _⟩ := HT2.out.form
    clear e0
    have HZE := HZZ.out
    go_wp2
    go_quiet ((first | (go_at_call 14; exact quiet_eq (err_calls _ _ q ⟨lr, 0⟩ HR.out)) | (go_at_call 15; exact quiet_eq (left_calls _ _ q ⟨lr, 0⟩ HR.out))))
    clear c0 c1 c2 HZE
    have hlo := HB.out
    go_wp2
    go_loopw [55] (fun i wx => ∃ k : Nat, k ≤ pre.length ∧ i = .int .i64 k ∧ Below w.heap.size w wx ∧ Texts w2.heap.size 22 wx (.slice a1 pre.length n1) pre ∧ Texts w3.heap.size 22 wx (.slice a2 pre.length n2) pre) (fun i _ => pre.length - (intOf i).toNat)
    case atStart => exact ⟨0, Nat.zero_le _, rfl, below_drewN hlo nq, Texts.drewN HT1.out nq, Texts.drewN HT2.out nq⟩
    case round =>
      obtain ⟨k, hk, rfl, hb, ht1, ht2⟩ := hrel
      have HT1 := Lib.hid ht1
      have HT2 := Lib.hid ht2
      have HB := Lib.hid hb
      clear ht1 ht2 hb
      by_cases hlt : k < pre.length
      · obtain ⟨g1, x1, y1, e1, d1, t1⟩ := Texts.at HT1.out k hlt
        obtain ⟨g2, x2, y2, e2, d2, t2⟩ := Texts.at HT2.out k hlt
        simp only [Value.slice.injEq, true_and] at e1 e2
        obtain ⟨rfl, rfl⟩ := e1
        obtain ⟨rfl, rfl⟩ := e2
        have hltI : (k : Int) < (pre.length : Int) := by omega
        have hk0 : (0 : Int) ≤ (k : Int) := by omega
        have hqs := fun m => same_calls _ _ (wr.drewN m) _ _ _ _ (Byt.drewN t1 m) (Byt.drewN t2 m)
        simp only [beq_self_eq_true] at hqs
        have HQ := Lib.hid hqs
        clear t1 t2 hqs
        go_wp2
        go_quiet ((go_at_call 17; exact quiet_eq (HQ.out _)))
        go_wp2
        go_roundw
        case rel => exact ⟨k + 1, by omega, by go_num, below_drewN HB.out _, Texts.drewN HT1.out _, Texts.drewN HT2.out _⟩
        case measure => simp [intOf]; omega
      · obtain rfl : k = pre.length := by omega
        go_wp2
        go_ret
        exact ⟨rfl, HB.out⟩
  · have hne : (er != 0) = true := by simpa using he
    have e0 : lst (pre, (⟨lr, er⟩ : Rd)) = [] := by unfold lst; rw [if_pos (by simpa using he)]
    rw [e0] at HT1
    obtain ⟨a1, n1, rfl, _⟩ := HT1.out.form
    obtain ⟨a2, n2, rfl, _⟩ := HT2.out.form
    simp only [List.length_nil] at HT1 ⊢
    clear e0
    have HZE := HZZ.out
    go_wp2
    go_quiet ((first | (go_at_call 14; exact quiet_eq (err_calls _ _ q ⟨lr, er⟩ HR.out)) | (go_at_call 15; exact quiet_eq (left_calls _ _ q ⟨lr, er⟩ HR.out))))
    clear c0 c1 c2 HZE
    have hlo := HB.out
    go_wp2
    go_loopw [55] (fun i wx => i = .int .i64 0 ∧ Below w.heap.size w wx) (fun i _ => 0)
    case atStart => exact ⟨rfl, below_drewN hlo nq⟩
    case round =>
      obtain ⟨rfl, hb⟩ := hrel
      go_wp2
      go_ret
      exact ⟨rfl, hb⟩
end Go.Proofs.Ytodhhejliijdmab.codecLists
