/- The walk of the codec laws' asked: does a reader tell of a thing what the reference tells? Condition: the bytes are at most 2^47. -/
import Derived.Test.YtodhhejliijdmabCodecRef2
import Derived.Test.YtodhhejliijdmabCodecWr
import Derived.Deep.RegionHeld3
namespace Go.Proofs.Ytodhhejliijdmab.CodecAsk
open Go Go.RowKit Mem Codec CodecW CodecR CodecL CodecN CodecTh CodecRef

theorem ReaderIs.under {D : Nat → Prop} {w : World} {q : Nat} {r : Rd} (h : ReaderIs D w q r) : ReaderIs (fun k => k < w.heap.size ∧ D k) w q r := by
  obtain ⟨a, c, h1, h2, h3⟩ := h
  exact ⟨a, c, h1, h2.lt, fun h => h3 h.2⟩
theorem ReaderIs.mono {D E : Nat → Prop} {w : World} {q : Nat} {r : Rd} (h : ReaderIs D w q r) (hd : ∀ k, D k → E k) (hq : ¬ E q) : ReaderIs E w q r := by
  obtain ⟨a, c, h1, h2, h3⟩ := h
  exact ⟨a, c, h1, h2.mono (fun k _ h => hd k h), hq⟩
def i64 (n : Nat) : Int := wrap64 (n : Int)
theorem i64_bounds (n : Nat) : -9223372036854775808 ≤ i64 n ∧ i64 n < 9223372036854775808 := by
  show -9223372036854775808 ≤ wrap64 (n : Int) ∧ wrap64 (n : Int) < 9223372036854775808
  unfold wrap64; omega
/-- a reader behind a thing that was asked for -/
def step (r : Rd) (t : Th) : Rd :=
  if t.kind = 0 then (r.num 1).1 else if t.kind = 1 then (r.num 4).1 else if t.kind = 2 then (r.num 8).1 else if t.kind = 3 then (r.var t.m).1
  else if t.kind = 4 then (r.raw (i64 t.m)).1 else if t.kind = 5 then (r.text (i64 t.m)).1 else if t.kind = 6 then r.fail ((t.m : Int) % 200) else r
theorem Rd.raw_suf (r : Rd) (n : Int) : ∃ k, (r.raw n).1.rest = r.rest.drop k := by
  unfold Rd.raw; split
  · exact ⟨0, by unfold Rd.fail; split <;> simp⟩
  · exact Rd.take_suf r _
theorem Rd.text_suf (r : Rd) (n : Int) : ∃ k, (r.text n).1.rest = r.rest.drop k := by
  unfold Rd.text
  dsimp only
  split
  · obtain ⟨k, hk⟩ := Rd.take_suf ⟨r.rest, 110⟩ (r.room n).2
    exact ⟨k, hk⟩
  · obtain ⟨k, hk⟩ := Rd.take_suf (r.room n).1 (r.room n).2
    obtain ⟨j, hj⟩ := Rd.room_suf r n
    exact ⟨j + k, by rw [hk, hj, List.drop_drop]⟩
theorem step_suf (r : Rd) (t : Th) : ∃ k, (step r t).rest = r.rest.drop k := by
  have h0 : ∃ k, r.rest = r.rest.drop k := ⟨0, by simp⟩
  have hf : ∀ x, ∃ k, (r.fail x).rest = r.rest.drop k := fun x => ⟨0, by unfold Rd.fail; split <;> simp⟩
  unfold step
  generalize i64 t.m = y
  split
  · exact Rd.num_suf r 1
  · split
    · exact Rd.num_suf r 4
    · split
      · exact Rd.num_suf r 8
      · split
        · exact Rd.var_suf r t.m
        · split
          · exact Rd.raw_suf r y
          · split
            · exact Rd.text_suf r y
            · split
              · exact hf _
              · exact h0
theorem step4 (r : Rd) (n m : Nat) (b : List UInt8) : step r ⟨4, n, m, b⟩ = (r.raw (i64 m)).1 := by
  unfold step; dsimp only; rw [if_neg (by decide), if_neg (by decide), if_neg (by decide), if_neg (by decide), if_pos rfl]
theorem step5 (r : Rd) (n m : Nat) (b : List UInt8) : step r ⟨5, n, m, b⟩ = (r.text (i64 m)).1 := by
  unfold step; dsimp only; rw [if_neg (by decide), if_neg (by decide), if_neg (by decide), if_neg (by decide), if_neg (by decide), if_pos rfl]
theorem three_blk (w : World) (l t : List Value) : Blk (((w.alloc (.cells l.toArray 44)).alloc (.cells t.toArray 39)).alloc (.cells #[.slice none 0 0, .int .i64 0, .int .i64 0] 44)) w.heap.size l 44 ∧
    Blk (((w.alloc (.cells l.toArray 44)).alloc (.cells t.toArray 39)).alloc (.cells #[.slice none 0 0, .int .i64 0, .int .i64 0] 44)) (w.heap.size + 1) t 39 ∧
    Blk (((w.alloc (.cells l.toArray 44)).alloc (.cells t.toArray 39)).alloc (.cells #[.slice none 0 0, .int .i64 0, .int .i64 0] 44)) (w.heap.size + 1 + 1) [.slice none 0 0, .int .i64 0, .int .i64 0] 44 ∧
    Below w.heap.size w (((w.alloc (.cells l.toArray 44)).alloc (.cells t.toArray 39)).alloc (.cells #[.slice none 0 0, .int .i64 0, .int .i64 0] 44)) ∧
    (((w.alloc (.cells l.toArray 44)).alloc (.cells t.toArray 39)).alloc (.cells #[.slice none 0 0, .int .i64 0, .int .i64 0] 44)).heap.size = w.heap.size + 3 := by
  refine ⟨((Blk.new w _ _ _ rfl).alloc _).alloc _, ?_, ?_, (((Below.refl _ _).alloc (Nat.le_refl _) _).alloc (by simp) _).alloc (by simp; omega) _, by simp⟩
  · have := (Blk.new (w.alloc (.cells l.toArray 44)) t.toArray 39 t rfl).alloc (.cells #[.slice none 0 0, .int .i64 0, .int .i64 0] 44)
    rwa [World.size_alloc] at this
  · have := Blk.new ((w.alloc (.cells l.toArray 44)).alloc (.cells t.toArray 39)) #[.slice none 0 0, .int .i64 0, .int .i64 0] 44 [.slice none 0 0, .int .i64 0, .int .i64 0] rfl
    rwa [World.size_alloc, World.size_alloc] at this
/-- what asked keeps: its reader's block, the thing's, the result's; the program's reader -/
def AK (D : Nat → Prop) (w : World) (a : Option Addr) (n c : Nat) (q : Nat) (th : List Value) (z : Nat) (e : Int) (s : Rd) (wx : World) : Prop :=
  Blk wx w.heap.size [.slice a n c, .int .i64 (z : Int), .int .i64 e] 44 ∧ Blk wx (w.heap.size + 1) th 39 ∧ Blk wx (w.heap.size + 1 + 1) [.slice none 0 0, .int .i64 0, .int .i64 0] 44 ∧
    ReaderIs (fun k => k < w.heap.size ∧ D k) wx q s ∧ Fr (fun k => k = q) w wx ∧ q < w.heap.size
section
variable {D : Nat → Prop} {w : World} {a : Option Addr} {n c q : Nat} {th : List Value} {z : Nat} {e : Int} {s : Rd} {wx wy : World}
theorem AK.below (h : AK D w a n c q th z e s wx) (hb : Below wx.heap.size wx wy) : AK D w a n c q th z e s wy :=
  ⟨h.1.below hb, h.2.1.below hb, h.2.2.1.below hb, h.2.2.2.1.below hb, h.2.2.2.2.1.trans (Fr.ofBelowAll hb (Nat.le_refl _)), h.2.2.2.2.2⟩
theorem AK.set (h : AK D w a n c q th z e s wx) (z2 : Nat) (e2 : Int) :
    AK D w a n c q th z2 e2 s (((wx.setCell ⟨w.heap.size, 0, none⟩ (.slice a n c)).setCell ⟨w.heap.size, 1, none⟩ (.int .i64 (z2 : Int))).setCell ⟨w.heap.size, 2, none⟩ (.int .i64 e2)) := by
  obtain ⟨h1, h2, h3, h4, h5, h6⟩ := h
  have hf : Fr (fun k => k = w.heap.size) wx (((wx.setCell ⟨w.heap.size, 0, none⟩ (.slice a n c)).setCell ⟨w.heap.size, 1, none⟩ (.int .i64 (z2 : Int))).setCell ⟨w.heap.size, 2, none⟩ (.int .i64 e2)) :=
    (((Fr.refl (fun k => k = w.heap.size) wx).setCell (p := ⟨w.heap.size, 0, none⟩) (.inr rfl) _).setCell (p := ⟨w.heap.size, 1, none⟩) (.inr rfl) _).setCell (p := ⟨w.heap.size, 2, none⟩) (.inr rfl) _
  exact ⟨Blk.set3 h1 _ _ _, h2.fr hf (by omega), h3.fr hf (by omega), h4.fr hf (by omega) (fun k _ h1 h2 => by have := h1.1; omega), h5.trans' hf (fun k hk h => by omega), h6⟩
theorem AK.set2 (h : AK D w a n c q th z e s wx) (e2 : Int) : AK D w a n c q th z e2 s (wx.setCell ⟨w.heap.size, 2, none⟩ (.int .i64 e2)) := by
  obtain ⟨h1, h2, h3, h4, h5, h6⟩ := h
  have hf : Fr (fun k => k = w.heap.size) wx (wx.setCell ⟨w.heap.size, 2, none⟩ (.int .i64 e2)) := (Fr.refl (fun k => k = w.heap.size) wx).setCell (p := ⟨w.heap.size, 2, none⟩) (.inr rfl) _
  exact ⟨h1.set 2 _, h2.fr hf (by omega), h3.fr hf (by omega), h4.fr hf (by omega) (fun k _ h1 h2 => by have := h1.1; omega), h5.trans' hf (fun k hk h => by omega), h6⟩
theorem AK.read (h : AK D w a n c q th z e s wx) {s2 : Rd} (hr : ReaderIs (fun k => k < w.heap.size ∧ D k) wy q s2) (hf : Fr (fun k => k = q) wx wy) : AK D w a n c q th z e s2 wy := by
  obtain ⟨h1, h2, h3, h4, h5, h6⟩ := h
  exact ⟨h1.fr hf (by omega), h2.fr hf (by omega), h3.fr hf (by omega), hr, h5.trans hf, h6⟩
end

/-- what stays through the last region: the program's reader, the result's block -/
def Kept (D : Nat → Prop) (w : World) (q : Nat) (s : Rd) (wx : World) : Prop :=
  ReaderIs (fun k => k < w.heap.size ∧ D k) wx q s ∧ Fr (fun k => k = q) w wx ∧ ∃ x y z, Blk wx (w.heap.size + 1 + 1) [x, y, z] 44

set_option maxHeartbeats 8000000 in
set_option maxRecDepth 100000 in
theorem asked_calls (D : Nat → Prop) (w : World) (q : Nat) (a : Option Addr) (c : Nat) (B : List UInt8) (at' : Nat) (e : Int) (t : Th) (bv : Value) (ht : t.wf) (H : ReaderIs D w q ⟨B.drop at', e⟩) (hB : Byt (fun k => k ≠ q) w (.slice a B.length c) B) (hat : at' ≤ B.length) (hl : B.length ≤ 140737488355328) :
    Calls Try.prog 22 #[.pointer (some ⟨q, 0, none⟩), rv a B.length c at' e, thv t bv] w fun x w' => x = .returned (.tuple #[rv a B.length c (B.length - (step ⟨B.drop at', e⟩ t).rest.length) (step ⟨B.drop at', e⟩ t).e, .bool true]) ∧ ReaderIs D w' q (step ⟨B.drop at', e⟩ t) ∧ Fr (fun k => k = q) w w' := by
  have hql := H.lt
  have HR0 := Lib.hid (ReaderIs.under H)
  have hq2 : ¬ D q := H.choose_spec.choose_spec.2.2
  have HB0 := Lib.hid hB
  obtain ⟨bk, bn, bm, bl⟩ := t
  obtain ⟨x0, x1, x2, x3⟩ := ht
  dsimp only at *
  clear H hB
  go_enter Try.func22, Try.ntmps22
  go_upto_block 0 with fail
  obtain ⟨hk0, hk1, hk2, hbel, hsw⟩ := three_blk w [.slice a B.length c, .int .i64 (at' : Int), .int .i64 e] [.int .i64 bk, .int .u64 (bn : Int), .int .u64 (bm : Int), bv]
  generalize (((w.alloc (.cells [.slice a B.length c, .int .i64 (at' : Int), .int .i64 e].toArray 44)).alloc (.cells [.int .i64 bk, .int .u64 (bn : Int), .int .u64 (bm : Int), bv].toArray 39)).alloc (.cells #[.slice none 0 0, .int .i64 0, .int .i64 0] 44)) = W at *
  have HA := Lib.hid (show AK D w a B.length c q [.int .i64 bk, .int .u64 (bn : Int), .int .u64 (bm : Int), bv] at' e ⟨B.drop at', e⟩ W from ⟨hk0, hk1, hk2, HR0.out.below hbel, Fr.ofBelowAll hbel (Nat.le_refl _), hql⟩)
  have HBW := Lib.hid (HB0.out.any.below hbel)
  clear hk0 hk1 hk2 hbel
  go_cut [10] (fun b wx => ∃ (z2 : Nat) (e2 : Int), b = .bool true ∧ step ⟨B.drop at', e⟩ ⟨bk, bn, bm, bl⟩ = ⟨B.drop z2, e2⟩ ∧ z2 ≤ B.length ∧ AK D w a B.length c q [.int .i64 bk, .int .u64 (bn : Int), .int .u64 (bm : Int), bv] z2 e2 ⟨B.drop z2, e2⟩ wx)
  case first =>
    have t0 := HA.out.2.1.cell (i := 0) rfl
    have t2 := HA.out.2.1.cell (i := 2) rfl
    have c0 := HA.out.1.cell (i := 0) rfl
    have c1 := HA.out.1.cell (i := 1) rfl
    have c2 := HA.out.1.cell (i := 2) rfl
    by_cases h0 : bk = 0
    · subst h0
      go_wp2_with fail
      refine (get_calls W a c B at' e 1 HBW.out hat hl (by omega)).mono ?_
      rintro x w6 ⟨rfl, g2⟩
      have hsuf := suf_at (Rd.num_suf ⟨B.drop at', e⟩ 1) hat
      obtain ⟨⟨s2, n2⟩, hy⟩ : ∃ y, Rd.num ⟨B.drop at', e⟩ 1 = y := ⟨_, rfl⟩
      have HY := Lib.hid hy
      rw [hy] at hsuf ⊢
      dsimp only at hsuf ⊢
      obtain ⟨z2, hz2⟩ : ∃ z2, B.length - s2.rest.length = z2 := ⟨_, rfl⟩
      rw [hz2] at hsuf ⊢
      have HS2 := Lib.hid (show s2 = ⟨B.drop z2, s2.e⟩ by obtain ⟨l2, e2⟩ := s2; dsimp only at hsuf ⊢; rw [← hsuf.1])
      have hzl : z2 ≤ B.length := hsuf.2.1
      have HA6 := Lib.hid (HA.out.below g2)
      have c0 := HA6.out.1.cell (i := 0) rfl
      have c1 := HA6.out.1.cell (i := 1) rfl
      have c2 := HA6.out.1.cell (i := 2) rfl
      have f0 := HA6.out.1.free
      have HA7 := Lib.hid (HA6.out.set z2 s2.e)
      have t2 := HA7.out.2.1.cell (i := 2) rfl
      clear hsuf hy hz2 g2
      have hb2 := num1_lt (r := (⟨B.drop at', e⟩ : Rd))
      rw [HY.out] at hb2
      dsimp only at hb2
      go_wp2_with fail
      refine (CodecR.byte_calls _ _ q ⟨B.drop at', e⟩ HA7.out.2.2.2.1).mono ?_
      rintro x w8 ⟨rfl, k1, k2⟩
      rw [HY.out] at k1 ⊢
      dsimp only at k1 ⊢
      have HA8 := Lib.hid (HA7.out.read k1 k2)
      clear k1 k2 t2 c0 c1 c2 f0
      go_wp2_with fail
      go_meet
      case rel => exact ⟨z2, s2.e, rfl, by show (Rd.num ⟨B.drop at', e⟩ 1).1 = _; rw [HY.out]; exact HS2.out, hzl, HS2.out ▸ HA8.out⟩
    by_cases h1 : bk = 1
    · subst h1
      go_wp2_with fail
      refine (get_calls W a c B at' e 4 HBW.out hat hl (by omega)).mono ?_
      rintro x w6 ⟨rfl, g2⟩
      have hsuf := suf_at (Rd.num_suf ⟨B.drop at', e⟩ 4) hat
      obtain ⟨⟨s2, n2⟩, hy⟩ : ∃ y, Rd.num ⟨B.drop at', e⟩ 4 = y := ⟨_, rfl⟩
      have HY := Lib.hid hy
      rw [hy] at hsuf ⊢
      dsimp only at hsuf ⊢
      obtain ⟨z2, hz2⟩ : ∃ z2, B.length - s2.rest.length = z2 := ⟨_, rfl⟩
      rw [hz2] at hsuf ⊢
      have HS2 := Lib.hid (show s2 = ⟨B.drop z2, s2.e⟩ by obtain ⟨l2, e2⟩ := s2; dsimp only at hsuf ⊢; rw [← hsuf.1])
      have hzl : z2 ≤ B.length := hsuf.2.1
      have HA6 := Lib.hid (HA.out.below g2)
      have c0 := HA6.out.1.cell (i := 0) rfl
      have c1 := HA6.out.1.cell (i := 1) rfl
      have c2 := HA6.out.1.cell (i := 2) rfl
      have f0 := HA6.out.1.free
      have HA7 := Lib.hid (HA6.out.set z2 s2.e)
      have t2 := HA7.out.2.1.cell (i := 2) rfl
      clear hsuf hy hz2 g2
      have hb2 := num4_lt (r := (⟨B.drop at', e⟩ : Rd))
      rw [HY.out] at hb2
      dsimp only at hb2
      go_wp2_with fail
      refine (CodecR.word_calls _ _ q ⟨B.drop at', e⟩ HA7.out.2.2.2.1).mono ?_
      rintro x w8 ⟨rfl, k1, k2⟩
      rw [HY.out] at k1 ⊢
      dsimp only at k1 ⊢
      have HA8 := Lib.hid (HA7.out.read k1 k2)
      clear k1 k2 t2 c0 c1 c2 f0
      go_wp2_with fail
      go_meet
      case rel => exact ⟨z2, s2.e, rfl, by show (Rd.num ⟨B.drop at', e⟩ 4).1 = _; rw [HY.out]; exact HS2.out, hzl, HS2.out ▸ HA8.out⟩
    by_cases h2 : bk = 2
    · subst h2
      go_wp2_with fail
      refine (get_calls W a c B at' e 8 HBW.out hat hl (by omega)).mono ?_
      rintro x w6 ⟨rfl, g2⟩
      have hsuf := suf_at (Rd.num_suf ⟨B.drop at', e⟩ 8) hat
      obtain ⟨⟨s2, n2⟩, hy⟩ : ∃ y, Rd.num ⟨B.drop at', e⟩ 8 = y := ⟨_, rfl⟩
      have HY := Lib.hid hy
      rw [hy] at hsuf ⊢
      dsimp only at hsuf ⊢
      obtain ⟨z2, hz2⟩ : ∃ z2, B.length - s2.rest.length = z2 := ⟨_, rfl⟩
      rw [hz2] at hsuf ⊢
      have HS2 := Lib.hid (show s2 = ⟨B.drop z2, s2.e⟩ by obtain ⟨l2, e2⟩ := s2; dsimp only at hsuf ⊢; rw [← hsuf.1])
      have hzl : z2 ≤ B.length := hsuf.2.1
      have HA6 := Lib.hid (HA.out.below g2)
      have c0 := HA6.out.1.cell (i := 0) rfl
      have c1 := HA6.out.1.cell (i := 1) rfl
      have c2 := HA6.out.1.cell (i := 2) rfl
      have f0 := HA6.out.1.free
      have HA7 := Lib.hid (HA6.out.set z2 s2.e)
      have t2 := HA7.out.2.1.cell (i := 2) rfl
      clear hsuf hy hz2 g2
      go_wp2_with fail
      refine (CodecR.long_calls _ _ q ⟨B.drop at', e⟩ HA7.out.2.2.2.1).mono ?_
      rintro x w8 ⟨rfl, k1, k2⟩
      rw [HY.out] at k1 ⊢
      dsimp only at k1 ⊢
      have HA8 := Lib.hid (HA7.out.read k1 k2)
      clear k1 k2 t2 c0 c1 c2 f0
      go_wp2_with fail
      go_meet
      case rel => exact ⟨z2, s2.e, rfl, by show (Rd.num ⟨B.drop at', e⟩ 8).1 = _; rw [HY.out]; exact HS2.out, hzl, HS2.out ▸ HA8.out⟩
    by_cases h3 : bk = 3
    · subst h3
      go_wp2_with fail
      refine (getvar_calls W a c B at' e bm false HBW.out hat hl (by omega)).mono ?_
      rintro x w6 ⟨rfl, g2⟩
      rw [Rd.rvar_false]
      have hsuf := suf_at (Rd.var_suf ⟨B.drop at', e⟩ bm) hat
      obtain ⟨⟨s2, n2⟩, hy⟩ : ∃ y, Rd.var ⟨B.drop at', e⟩ bm = y := ⟨_, rfl⟩
      have HY := Lib.hid hy
      rw [hy] at hsuf ⊢
      dsimp only at hsuf ⊢
      obtain ⟨z2, hz2⟩ : ∃ z2, B.length - s2.rest.length = z2 := ⟨_, rfl⟩
      rw [hz2] at hsuf ⊢
      have HS2 := Lib.hid (show s2 = ⟨B.drop z2, s2.e⟩ by obtain ⟨l2, e2⟩ := s2; dsimp only at hsuf ⊢; rw [← hsuf.1])
      have hzl : z2 ≤ B.length := hsuf.2.1
      have HA6 := Lib.hid (HA.out.below g2)
      have c0 := HA6.out.1.cell (i := 0) rfl
      have c1 := HA6.out.1.cell (i := 1) rfl
      have c2 := HA6.out.1.cell (i := 2) rfl
      have f0 := HA6.out.1.free
      have HA7 := Lib.hid (HA6.out.set z2 s2.e)
      have t2 := HA7.out.2.1.cell (i := 2) rfl
      clear hsuf hy hz2 g2
      go_wp2_with fail
      refine (CodecR.var_calls _ _ q ⟨B.drop at', e⟩ bm HA7.out.2.2.2.1 (by omega)).mono ?_
      rintro x w8 ⟨rfl, k1, k2⟩
      rw [HY.out] at k1 ⊢
      dsimp only at k1 ⊢
      have HA8 := Lib.hid (HA7.out.read k1 k2)
      clear k1 k2 t2 c0 c1 c2 f0
      go_wp2_with fail
      go_meet
      case rel => exact ⟨z2, s2.e, rfl, by show (Rd.var ⟨B.drop at', e⟩ bm).1 = _; rw [HY.out]; exact HS2.out, hzl, HS2.out ▸ HA8.out⟩
    by_cases h4 : bk = 4
    · subst h4
      have HIB := Lib.hid (i64_bounds bm)
      go_wp2_with fail
      refine (CodecRef.raw_calls W a c B at' e (i64 bm) HBW.out hat hl HIB.out.1 HIB.out.2).mono ?_
      rintro x w6 ⟨v6, rfl, g1, g2⟩
      have hsuf := suf_at (Rd.raw_suf ⟨B.drop at', e⟩ (i64 bm)) hat
      obtain ⟨⟨s2, n2⟩, hy⟩ : ∃ y, Rd.raw ⟨B.drop at', e⟩ (i64 bm) = y := ⟨_, rfl⟩
      have HY := Lib.hid hy
      rw [hy] at hsuf g1 ⊢
      dsimp only at hsuf g1 ⊢
      obtain ⟨z2, hz2⟩ : ∃ z2, B.length - s2.rest.length = z2 := ⟨_, rfl⟩
      rw [hz2] at hsuf ⊢
      have HS2 := Lib.hid (show s2 = ⟨B.drop z2, s2.e⟩ by obtain ⟨l2, e2⟩ := s2; dsimp only at hsuf ⊢; rw [← hsuf.1])
      have hzl : z2 ≤ B.length := hsuf.2.1
      have HA6 := Lib.hid (HA.out.below g2)
      have c0 := HA6.out.1.cell (i := 0) rfl
      have c1 := HA6.out.1.cell (i := 1) rfl
      have c2 := HA6.out.1.cell (i := 2) rfl
      have f0 := HA6.out.1.free
      have HA7 := Lib.hid (HA6.out.set z2 s2.e)
      have t2 := HA7.out.2.1.cell (i := 2) rfl
      have hfs : Fr (fun k => k = w.heap.size) w6 (((w6.setCell ⟨w.heap.size, 0, none⟩ (.slice a B.length c)).setCell ⟨w.heap.size, 1, none⟩ (.int .i64 (z2 : Int))).setCell ⟨w.heap.size, 2, none⟩ (.int .i64 s2.e)) := (((Fr.refl (fun k => k = w.heap.size) w6).setCell (p := ⟨w.heap.size, 0, none⟩) (.inr rfl) _).setCell (p := ⟨w.heap.size, 1, none⟩) (.inr rfl) _).setCell (p := ⟨w.heap.size, 2, none⟩) (.inr rfl) _
      have HV7 := Lib.hid (g1.fr hfs (fun k _ h1 h2 => by omega))
      obtain ⟨va6, vc6, rfl, _⟩ := id g1
      clear hsuf hy hz2 g1 g2 hfs
      go_wp2_with fail
      refine (raw_r_calls _ _ q ⟨B.drop at', e⟩ (i64 bm) HA7.out.2.2.2.1 HIB.out.1 HIB.out.2 (by simp; omega)).mono ?_
      rintro x w8 ⟨pa, pc, rfl, k0, k1, k2⟩
      rw [HY.out] at k0 k1 ⊢
      dsimp only at k0 k1 ⊢
      have HA8 := Lib.hid (HA7.out.read k1 k2)
      have HP8 := Lib.hid k0.byt
      have HV8 := Lib.hid (HV7.out.fr k2 (fun k _ h1 h2 => by omega))
      clear k0 k1 k2 t2 c0 c1 c2 f0
      go_wp2_with fail
      refine (same_calls _ _ w8 _ _ n2 n2 HP8.out HV8.out).mono ?_
      rintro x wz ⟨rfl, rfl⟩
      rw [beq_self_eq_true]
      go_wp2_with fail
      go_meet
      case rel => exact ⟨z2, s2.e, rfl, by rw [step4, HY.out]; exact HS2.out, hzl, HS2.out ▸ HA8.out⟩
    by_cases h5 : bk = 5
    · subst h5
      have HIB := Lib.hid (i64_bounds bm)
      go_wp2_with fail
      refine (gettext_calls W a c B at' e (i64 bm) HBW.out hat hl HIB.out.1 HIB.out.2).mono ?_
      rintro x w6 ⟨v6, rfl, g1, g2⟩
      have hsuf := suf_at (Rd.text_suf ⟨B.drop at', e⟩ (i64 bm)) hat
      obtain ⟨⟨s2, n2⟩, hy⟩ : ∃ y, Rd.text ⟨B.drop at', e⟩ (i64 bm) = y := ⟨_, rfl⟩
      have HY := Lib.hid hy
      rw [hy] at hsuf g1 ⊢
      dsimp only at hsuf g1 ⊢
      obtain ⟨z2, hz2⟩ : ∃ z2, B.length - s2.rest.length = z2 := ⟨_, rfl⟩
      rw [hz2] at hsuf ⊢
      have HS2 := Lib.hid (show s2 = ⟨B.drop z2, s2.e⟩ by obtain ⟨l2, e2⟩ := s2; dsimp only at hsuf ⊢; rw [← hsuf.1])
      have hzl : z2 ≤ B.length := hsuf.2.1
      have HA6 := Lib.hid (HA.out.below g2)
      have c0 := HA6.out.1.cell (i := 0) rfl
      have c1 := HA6.out.1.cell (i := 1) rfl
      have c2 := HA6.out.1.cell (i := 2) rfl
      have f0 := HA6.out.1.free
      have HA7 := Lib.hid (HA6.out.set z2 s2.e)
      have t2 := HA7.out.2.1.cell (i := 2) rfl
      have hfs : Fr (fun k => k = w.heap.size) w6 (((w6.setCell ⟨w.heap.size, 0, none⟩ (.slice a B.length c)).setCell ⟨w.heap.size, 1, none⟩ (.int .i64 (z2 : Int))).setCell ⟨w.heap.size, 2, none⟩ (.int .i64 s2.e)) := (((Fr.refl (fun k => k = w.heap.size) w6).setCell (p := ⟨w.heap.size, 0, none⟩) (.inr rfl) _).setCell (p := ⟨w.heap.size, 1, none⟩) (.inr rfl) _).setCell (p := ⟨w.heap.size, 2, none⟩) (.inr rfl) _
      have HV7 := Lib.hid (g1.fr hfs (fun k _ h1 h2 => by omega))
      obtain ⟨va6, vc6, rfl, _⟩ := id g1
      clear hsuf hy hz2 g1 g2 hfs
      go_wp2_with fail
      refine (text_r_calls _ _ q ⟨B.drop at', e⟩ (i64 bm) HA7.out.2.2.2.1 HIB.out.1 HIB.out.2 (by simp; omega)).mono ?_
      rintro x w8 ⟨pa, pc, rfl, k0, k1, k2⟩
      rw [HY.out] at k0 k1 ⊢
      dsimp only at k0 k1 ⊢
      have HA8 := Lib.hid (HA7.out.read k1 k2)
      have HP8 := Lib.hid k0.byt
      have HV8 := Lib.hid (HV7.out.fr k2 (fun k _ h1 h2 => by omega))
      clear k0 k1 k2 t2 c0 c1 c2 f0
      go_wp2_with fail
      refine (same_calls _ _ w8 _ _ n2 n2 HP8.out HV8.out).mono ?_
      rintro x wz ⟨rfl, rfl⟩
      rw [beq_self_eq_true]
      go_wp2_with fail
      go_meet
      case rel => exact ⟨z2, s2.e, rfl, by rw [step5, HY.out]; exact HS2.out, hzl, HS2.out ▸ HA8.out⟩
    by_cases h6 : bk = 6
    · subst h6
      go_wp2_with fail
      refine (CodecR.fail_calls _ W q ⟨B.drop at', e⟩ ((bm : Int) % 200) HA.out.2.2.2.1).mono ?_
      rintro x w8 ⟨rfl, k1, k2⟩
      have HA8 := Lib.hid (HA.out.read k1 k2)
      have c2 := HA8.out.1.cell (i := 2) rfl
      have f0 := HA8.out.1.free
      have t2 := HA8.out.2.1.cell (i := 2) rfl
      clear k1 k2 t0 c0 c1
      by_cases he : e = 0
      · subst he
        have HST := Lib.hid (show step ⟨B.drop at', 0⟩ ⟨6, bn, bm, bl⟩ = ⟨B.drop at', (bm : Int) % 200⟩ from rfl)
        have HA9 := Lib.hid (HA8.out.set2 ((bm : Int) % 200))
        go_wp2_with fail
        go_meet
        case rel => exact ⟨at', (bm : Int) % 200, rfl, HST.out, hat, HA9.out⟩
      · have hne : (e == 0) = false := by simpa using he
        have HST := Lib.hid (show step ⟨B.drop at', e⟩ ⟨6, bn, bm, bl⟩ = ⟨B.drop at', e⟩ by show Rd.fail _ _ = _; unfold Rd.fail; rw [if_neg he])
        have HFL := Lib.hid (show Rd.fail ⟨B.drop at', e⟩ ((bm : Int) % 200) = ⟨B.drop at', e⟩ by unfold Rd.fail; rw [if_neg he])
        go_wp2_with fail
        go_meet
        case rel => exact ⟨at', e, rfl, HST.out, hat, HFL.out ▸ HA8.out⟩
    · have hb0 : (bk == 0) = false := by simpa using h0
      have hb1 : (bk == 1) = false := by simpa using h1
      have hb2 : (bk == 2) = false := by simpa using h2
      have hb3 : (bk == 3) = false := by simpa using h3
      have hb4 : (bk == 4) = false := by simpa using h4
      have hb5 : (bk == 5) = false := by simpa using h5
      have hb6 : (bk == 6) = false := by simpa using h6
      have HST := Lib.hid (show step ⟨B.drop at', e⟩ ⟨bk, bn, bm, bl⟩ = ⟨B.drop at', e⟩ by unfold step; dsimp only; rw [if_neg h0, if_neg h1, if_neg h2, if_neg h3, if_neg h4, if_neg h5, if_neg h6])
      go_wp2_with fail
      go_meet
      case rel => exact ⟨at', e, rfl, HST.out, hat, HA.out⟩
  case rest =>
    obtain ⟨z2, e2, rfl, hst, hz, hA⟩ := hcut
    have HST := Lib.hid hst
    have hA0 := hA
    obtain ⟨x0, x1', x2', x3', x4', x5'⟩ := hA
    have k0 : wc.drew.cell? ⟨w.heap.size, 0, none⟩ = some (.slice a B.length c) := x0.cell (i := 0) rfl
    have k1 : wc.drew.cell? ⟨w.heap.size, 1, none⟩ = some (.int .i64 (z2 : Int)) := x0.cell (i := 1) rfl
    have k2 : wc.drew.cell? ⟨w.heap.size, 2, none⟩ = some (.int .i64 e2) := x0.cell (i := 2) rfl
    have hkp : Kept D w q ⟨B.drop z2, e2⟩ wc.drew := ⟨x3', x4'.drew, _, _, _, x2'.drew⟩
    have hdl : (B.drop z2).length = B.length - z2 := by simp
    have hz3 : B.length - (B.length - z2) = z2 := by omega
    have HDL := Lib.hid hdl
    have HZ3 := Lib.hid hz3
    obtain ⟨zl, hzl⟩ : ∃ zl, B.length - z2 = zl := ⟨_, rfl⟩
    have hsub : (B.length : Int) - (z2 : Int) = (zl : Int) := by omega
    have hsub2 : IntKind.i64.wrap ((B.length : Int) - (z2 : Int)) = (zl : Int) := by rw [IntKind.wrap_i64]; omega
    have hsub3 : IntKind.i64.wrap (zl : Int) = (zl : Int) := by rw [IntKind.wrap_i64]; omega
    have hsub4 : wrap64 (zl : Int) = (zl : Int) := by unfold wrap64; omega
    obtain ⟨fv, hfv⟩ : ∃ fv, Rd.fin ⟨B.drop z2, e2⟩ = fv := ⟨_, rfl⟩
    have HERR := Lib.hid (show ∀ wx : World, (wx.cell? ⟨w.heap.size, 0, none⟩ = some (.slice a B.length c) ∧ wx.cell? ⟨w.heap.size, 1, none⟩ = some (.int .i64 (z2 : Int)) ∧ wx.cell? ⟨w.heap.size, 2, none⟩ = some (.int .i64 e2) ∧ Kept D w q ⟨B.drop z2, e2⟩ wx) → Calls Try.prog 14 #[.pointer (some ⟨q, 0, none⟩)] wx fun x w' => x = .returned (.int .i64 e2) ∧ (w'.cell? ⟨w.heap.size, 0, none⟩ = some (.slice a B.length c) ∧ w'.cell? ⟨w.heap.size, 1, none⟩ = some (.int .i64 (z2 : Int)) ∧ w'.cell? ⟨w.heap.size, 2, none⟩ = some (.int .i64 e2) ∧ Kept D w q ⟨B.drop z2, e2⟩ w') from fun wx h => (CodecR.err_calls _ wx q _ h.2.2.2.1).mono fun x w' hh => ⟨hh.1, hh.2 ▸ h⟩)
    have HLEFT := Lib.hid (show ∀ wx : World, (wx.cell? ⟨w.heap.size, 0, none⟩ = some (.slice a B.length c) ∧ wx.cell? ⟨w.heap.size, 1, none⟩ = some (.int .i64 (z2 : Int)) ∧ wx.cell? ⟨w.heap.size, 2, none⟩ = some (.int .i64 e2) ∧ Kept D w q ⟨B.drop z2, e2⟩ wx) → Calls Try.prog 15 #[.pointer (some ⟨q, 0, none⟩)] wx fun x w' => x = .returned (.int .i64 (zl : Int)) ∧ (w'.cell? ⟨w.heap.size, 0, none⟩ = some (.slice a B.length c) ∧ w'.cell? ⟨w.heap.size, 1, none⟩ = some (.int .i64 (z2 : Int)) ∧ w'.cell? ⟨w.heap.size, 2, none⟩ = some (.int .i64 e2) ∧ Kept D w q ⟨B.drop z2, e2⟩ w') from fun wx h => (CodecR.left_calls _ wx q _ h.2.2.2.1).mono fun x w' hh => ⟨by rw [hh.1]; dsimp only; rw [hdl, hzl], hh.2 ▸ h⟩)
    have HEND := Lib.hid (show ∀ wx : World, (wx.cell? ⟨w.heap.size, 0, none⟩ = some (.slice a B.length c) ∧ wx.cell? ⟨w.heap.size, 1, none⟩ = some (.int .i64 (z2 : Int)) ∧ wx.cell? ⟨w.heap.size, 2, none⟩ = some (.int .i64 e2) ∧ Kept D w q ⟨B.drop z2, e2⟩ wx) → Calls Try.prog 23 #[.pointer (some ⟨q, 0, none⟩)] wx fun x w' => x = .returned (.int .i64 fv) ∧ (w'.cell? ⟨w.heap.size, 0, none⟩ = some (.slice a B.length c) ∧ w'.cell? ⟨w.heap.size, 1, none⟩ = some (.int .i64 (z2 : Int)) ∧ w'.cell? ⟨w.heap.size, 2, none⟩ = some (.int .i64 e2) ∧ Kept D w q ⟨B.drop z2, e2⟩ w') from fun wx h => (CodecR.end_calls _ wx q _ h.2.2.2.1).mono fun x w' hh => ⟨by rw [hh.1, hfv], hh.2 ▸ h⟩)
    have HREND := Lib.hid (show ∀ wx : World, (wx.cell? ⟨w.heap.size, 0, none⟩ = some (.slice a B.length c) ∧ wx.cell? ⟨w.heap.size, 1, none⟩ = some (.int .i64 (z2 : Int)) ∧ wx.cell? ⟨w.heap.size, 2, none⟩ = some (.int .i64 e2) ∧ Kept D w q ⟨B.drop z2, e2⟩ wx) → Calls Try.prog 24 #[rv a B.length c z2 e2] wx fun x w' => x = .returned (.int .i64 fv) ∧ (w'.cell? ⟨w.heap.size, 0, none⟩ = some (.slice a B.length c) ∧ w'.cell? ⟨w.heap.size, 1, none⟩ = some (.int .i64 (z2 : Int)) ∧ w'.cell? ⟨w.heap.size, 2, none⟩ = some (.int .i64 e2) ∧ Kept D w q ⟨B.drop z2, e2⟩ w') from fun wx h => (CodecRef.end_calls wx a c B z2 e2 hz).mono fun x w' hh => ⟨by rw [hh.1, hfv], by
      have key : ∀ o (v : Value), wx.cell? ⟨w.heap.size, o, none⟩ = some v → w'.cell? ⟨w.heap.size, o, none⟩ = some v := fun o v hv => (World.cell?_of_block (w := wx) (hh.2.block w.heap.size (World.block_lt_of_cell? wx _ hv))).trans hv
      obtain ⟨h0, h1, h2, h3, h4, u0, u1, u2, h5⟩ := h
      exact ⟨key _ _ h0, key _ _ h1, key _ _ h2, h3.below hh.2, h4.trans (Fr.ofBelowAll hh.2 (Nat.le_refl _)), u0, u1, u2, h5.below hh.2⟩⟩)
    clear x0 x1' x2' x3' x4' x5' hdl hz3 hA0 hst hzl hfv
    go_upto_region 27 with fail
    refine wp_region_held_drew (S := (fun w' : World => w'.cell? ⟨w.heap.size, 0, none⟩ = some (.slice a B.length c) ∧ w'.cell? ⟨w.heap.size, 1, none⟩ = some (.int .i64 (z2 : Int)) ∧ w'.cell? ⟨w.heap.size, 2, none⟩ = some (.int .i64 e2) ∧ Kept D w q ⟨B.drop z2, e2⟩ w')) (by kernel_rfl) ⟨k0, k1, k2, hkp⟩ (fun hHeld => ?_)
    refine wpAnyH_take (i := 0) (oi := ⟨_, _, _, _, _, _⟩) (v := ?_) rfl (by kernel_rfl) (by kernel_rfl) (by kernel_rfl) (fun _ _ _ h => h) (Or.inl ⟨by rfl, ?_⟩) (by assumption) ?_
    rotate_left
    · intro w hSw; go_simp; try (with_reducible rfl)
    try simp only [Act.put, List.setIfInBounds_toArray, List.set_cons_zero, List.set_cons_succ]
    refine wpAnyH_take (i := 1) (oi := ⟨_, _, _, _, _, _⟩) (v := ?_) rfl (by kernel_rfl) (by kernel_rfl) (by kernel_rfl) (fun _ _ _ h => h) (Or.inl ⟨by rfl, ?_⟩) (by assumption) ?_
    rotate_left
    · intro w hSw; go_simp; try (with_reducible rfl)
    try simp only [Act.put, List.setIfInBounds_toArray, List.set_cons_zero, List.set_cons_succ]
    refine wpAnyH_take (i := 2) (oi := ⟨_, _, _, _, _, _⟩) (v := ?_) rfl (by kernel_rfl) (by kernel_rfl) (by kernel_rfl) (fun _ _ _ h => h) (Or.inl ⟨by rfl, ?_⟩) (by assumption) ?_
    rotate_left
    · intro w hSw; go_simp; try (with_reducible rfl)
    try simp only [Act.put, List.setIfInBounds_toArray, List.set_cons_zero, List.set_cons_succ]
    refine wpAnyH_take (i := 3) (oi := ⟨_, _, _, _, _, _⟩) (v := ?_) rfl (by kernel_rfl) (by kernel_rfl) (by kernel_rfl) (fun _ _ _ h => h) (Or.inl ⟨by rfl, ?_⟩) (by assumption) ?_
    rotate_left
    · intro w hSw; go_simp; try (with_reducible rfl)
    try simp only [Act.put, List.setIfInBounds_toArray, List.set_cons_zero, List.set_cons_succ]
    refine wpAnyH_take (i := 5) (oi := ⟨_, _, _, _, _, _⟩) (v := ?_) rfl (by kernel_rfl) (by kernel_rfl) (by kernel_rfl) (fun _ _ _ h => h) (Or.inl ⟨by rfl, ?_⟩) (by assumption) ?_
    rotate_left
    · intro w hSw; go_simp; try (with_reducible rfl)
    try simp only [Act.put, List.setIfInBounds_toArray, List.set_cons_zero, List.set_cons_succ]
    refine wpAnyH_take (i := 6) (oi := ⟨_, _, _, _, _, _⟩) (v := ?_) rfl (by kernel_rfl) (by kernel_rfl) (by kernel_rfl) (fun _ _ _ h => h) (Or.inl ⟨by rfl, ?_⟩) (by assumption) ?_
    rotate_left
    · intro w hSw; go_simp; try (with_reducible rfl)
    try simp only [Act.put, List.setIfInBounds_toArray, List.set_cons_zero, List.set_cons_succ]
    refine wpAnyH_ready (rs := [4]) (by kernel_rfl) (by simp) ?_
    refine AllReadyH.cons rfl (fun K hK => ?_) AllReadyH.nil
    go_simp
    go_wp2_with (go_at_call 14; refine (HERR.out _ hHeld).mono ?_; rintro x wv ⟨rfl, hS2⟩)
    refine hK.out _ _ (by exact hS2) (fun hHeld => ?_)
    clear hK
    refine wpAnyH_take (i := 7) (oi := ⟨_, _, _, _, _, _⟩) (v := ?_) rfl (by kernel_rfl) (by kernel_rfl) (by kernel_rfl) (fun _ _ _ h => h) (Or.inl ⟨by rfl, ?_⟩) (by assumption) ?_
    rotate_left
    · intro w hSw; go_simp; try (with_reducible rfl)
    try simp only [Act.put, List.setIfInBounds_toArray, List.set_cons_zero, List.set_cons_succ]
    refine wpAnyH_take (i := 8) (oi := ⟨_, _, _, _, _, _⟩) (v := ?_) rfl (by kernel_rfl) (by kernel_rfl) (by kernel_rfl) (fun _ _ _ h => h) (Or.inl ⟨by rfl, ?_⟩) (by assumption) ?_
    rotate_left
    · intro w hSw; go_simp; try (with_reducible rfl)
    try simp only [Act.put, List.setIfInBounds_toArray, List.set_cons_zero, List.set_cons_succ]
    refine wpAnyH_take (i := 9) (oi := ⟨_, _, _, _, _, _⟩) (v := ?_) rfl (by kernel_rfl) (by kernel_rfl) (by kernel_rfl) (fun _ _ _ h => h) (Or.inl ⟨by rfl, ?_⟩) (by assumption) ?_
    rotate_left
    · intro w hSw; go_simp; try (with_reducible rfl)
    try simp only [Act.put, List.setIfInBounds_toArray, List.set_cons_zero, List.set_cons_succ]
    refine wpAnyH_take (i := 10) (oi := ⟨_, _, _, _, _, _⟩) (v := ?_) rfl (by kernel_rfl) (by kernel_rfl) (by kernel_rfl) (fun _ _ _ h => h) (Or.inl ⟨by rfl, ?_⟩) (by assumption) ?_
    rotate_left
    · intro w hSw; go_simp; try (with_reducible rfl)
    try simp only [Act.put, List.setIfInBounds_toArray, List.set_cons_zero, List.set_cons_succ]
    refine wpAnyH_take (i := 12) (oi := ⟨_, _, _, _, _, _⟩) (v := ?_) rfl (by kernel_rfl) (by kernel_rfl) (by kernel_rfl) (fun _ _ _ h => h) (Or.inl ⟨by rfl, ?_⟩) (by assumption) ?_
    rotate_left
    · intro w hSw; go_simp; try (with_reducible rfl)
    try simp only [Act.put, List.setIfInBounds_toArray, List.set_cons_zero, List.set_cons_succ]
    refine wpAnyH_take (i := 13) (oi := ⟨_, _, _, _, _, _⟩) (v := ?_) rfl (by kernel_rfl) (by kernel_rfl) (by kernel_rfl) (fun _ _ _ h => h) (Or.inl ⟨by rfl, ?_⟩) (by assumption) ?_
    rotate_left
    · intro w hSw; go_simp; try (with_reducible rfl)
    try simp only [Act.put, List.setIfInBounds_toArray, List.set_cons_zero, List.set_cons_succ]
    refine wpAnyH_take (i := 14) (oi := ⟨_, _, _, _, _, _⟩) (v := ?_) rfl (by kernel_rfl) (by kernel_rfl) (by kernel_rfl) (fun _ _ _ h => h) (Or.inl ⟨by rfl, ?_⟩) (by assumption) ?_
    rotate_left
    · intro w hSw; go_simp; try (with_reducible rfl)
    try simp only [Act.put, List.setIfInBounds_toArray, List.set_cons_zero, List.set_cons_succ]
    refine wpAnyH_take (i := 15) (oi := ⟨_, _, _, _, _, _⟩) (v := ?_) rfl (by kernel_rfl) (by kernel_rfl) (by kernel_rfl) (fun _ _ _ h => h) (Or.inl ⟨by rfl, ?_⟩) (by assumption) ?_
    rotate_left
    · intro w hSw; go_simp; try (with_reducible rfl)
    try simp only [Act.put, List.setIfInBounds_toArray, List.set_cons_zero, List.set_cons_succ]
    refine wpAnyH_take (i := 16) (oi := ⟨_, _, _, _, _, _⟩) (v := ?_) rfl (by kernel_rfl) (by kernel_rfl) (by kernel_rfl) (fun _ _ _ h => h) (Or.inl ⟨by rfl, ?_⟩) (by assumption) ?_
    rotate_left
    · intro w hSw; go_simp; try (with_reducible rfl)
    try simp only [Act.put, List.setIfInBounds_toArray, List.set_cons_zero, List.set_cons_succ]
    refine wpAnyH_take (i := 17) (oi := ⟨_, _, _, _, _, _⟩) (v := ?_) rfl (by kernel_rfl) (by kernel_rfl) (by kernel_rfl) (fun _ _ _ h => h) (Or.inl ⟨by rfl, ?_⟩) (by assumption) ?_
    rotate_left
    · intro w hSw; go_simp; try (with_reducible rfl)
    try simp only [Act.put, List.setIfInBounds_toArray, List.set_cons_zero, List.set_cons_succ]
    refine wpAnyH_ready (rs := [11]) (by kernel_rfl) (by simp) ?_
    refine AllReadyH.cons rfl (fun K hK => ?_) AllReadyH.nil
    go_simp
    go_wp2_with (go_at_call 15; refine (HLEFT.out _ hHeld).mono ?_; rintro x wv ⟨rfl, hS2⟩)
    refine hK.out _ _ (by exact hS2) (fun hHeld => ?_)
    clear hK
    refine wpAnyH_take (i := 18) (oi := ⟨_, _, _, _, _, _⟩) (v := ?_) rfl (by kernel_rfl) (by kernel_rfl) (by kernel_rfl) (fun _ _ _ h => h) (Or.inl ⟨by rfl, ?_⟩) (by assumption) ?_
    rotate_left
    · intro w hSw; go_simp; try (with_reducible rfl)
    try simp only [Act.put, List.setIfInBounds_toArray, List.set_cons_zero, List.set_cons_succ]
    refine wpAnyH_take (i := 19) (oi := ⟨_, _, _, _, _, _⟩) (v := ?_) rfl (by kernel_rfl) (by kernel_rfl) (by kernel_rfl) (fun _ _ _ h => h) (Or.inl ⟨by rfl, ?_⟩) (by assumption) ?_
    rotate_left
    · intro w hSw; go_simp; try (with_reducible rfl)
    try simp only [Act.put, List.setIfInBounds_toArray, List.set_cons_zero, List.set_cons_succ]
    refine wpAnyH_take (i := 20) (oi := ⟨_, _, _, _, _, _⟩) (v := ?_) rfl (by kernel_rfl) (by kernel_rfl) (by kernel_rfl) (fun _ _ _ h => h) (Or.inl ⟨by rfl, ?_⟩) (by assumption) ?_
    rotate_left
    · intro w hSw; go_simp; try (with_reducible rfl)
    try simp only [Act.put, List.setIfInBounds_toArray, List.set_cons_zero, List.set_cons_succ]
    refine wpAnyH_take (i := 21) (oi := ⟨_, _, _, _, _, _⟩) (v := ?_) rfl (by kernel_rfl) (by kernel_rfl) (by kernel_rfl) (fun _ _ _ h => h) (Or.inl ⟨by rfl, ?_⟩) (by assumption) ?_
    rotate_left
    · intro w hSw; go_simp; try (with_reducible rfl)
    try simp only [Act.put, List.setIfInBounds_toArray, List.set_cons_zero, List.set_cons_succ]
    refine wpAnyH_take (i := 23) (oi := ⟨_, _, _, _, _, _⟩) (v := ?_) rfl (by kernel_rfl) (by kernel_rfl) (by kernel_rfl) (fun _ _ _ h => h) (Or.inl ⟨by rfl, ?_⟩) (by assumption) ?_
    rotate_left
    · intro w hSw; go_simp; try (with_reducible rfl)
    try simp only [Act.put, List.setIfInBounds_toArray, List.set_cons_zero, List.set_cons_succ]
    refine wpAnyH_ready (rs := [22]) (by kernel_rfl) (by simp) ?_
    refine AllReadyH.cons rfl (fun K hK => ?_) AllReadyH.nil
    go_simp
    go_wp2_with (go_at_call 23; refine (HEND.out _ hHeld).mono ?_; rintro x wv ⟨rfl, hS2⟩)
    refine hK.out _ _ (by exact hS2) (fun hHeld => ?_)
    clear hK
    refine wpAnyH_ready (rs := [24]) (by kernel_rfl) (by simp) ?_
    refine AllReadyH.cons rfl (fun K hK => ?_) AllReadyH.nil
    go_simp
    go_wp2_with (go_at_call 24; refine (HREND.out _ hHeld).mono ?_; rintro x wv ⟨rfl, hS2⟩)
    refine hK.out _ _ (by exact hS2) (fun hHeld => ?_)
    clear hK
    refine wpAnyH_take (i := 25) (oi := ⟨_, _, _, _, _, _⟩) (v := ?_) rfl (by kernel_rfl) (by kernel_rfl) (by kernel_rfl) (fun _ _ _ h => h) (Or.inl ⟨by rfl, ?_⟩) (by assumption) ?_
    rotate_left
    · intro w hSw; go_simp; try (with_reducible rfl)
    try simp only [Act.put, List.setIfInBounds_toArray, List.set_cons_zero, List.set_cons_succ]
    refine wpAnyH_take (i := 26) (oi := ⟨_, _, _, _, _, _⟩) (v := ?_) rfl (by kernel_rfl) (by kernel_rfl) (by kernel_rfl) (fun _ _ _ h => h) (Or.inl ⟨by rfl, ?_⟩) (by assumption) ?_
    rotate_left
    · intro w hSw; go_simp; try (with_reducible rfl)
    try simp only [Act.put, List.setIfInBounds_toArray, List.set_cons_zero, List.set_cons_succ]
    obtain ⟨g0, g1, g2, ⟨hrd, hfr, u0, u1, u2, hblk⟩⟩ := id hHeld
    have d0 := hblk.cell (i := 0) rfl
    have d1 := hblk.cell (i := 1) rfl
    have d2 := hblk.cell (i := 2) rfl
    have f1 := hblk.free
    have HFIN := Lib.hid (Blk.set3 hblk (.slice a B.length c) (.int .i64 (z2 : Int)) (.int .i64 e2))
    have hfs : Fr (fun k => k = w.heap.size + 1 + 1) wv (((wv.setCell ⟨w.heap.size + 1 + 1, 0, none⟩ (.slice a B.length c)).setCell ⟨w.heap.size + 1 + 1, 1, none⟩ (.int .i64 (z2 : Int))).setCell ⟨w.heap.size + 1 + 1, 2, none⟩ (.int .i64 e2)) :=
      (((Fr.refl (fun k => k = w.heap.size + 1 + 1) wv).setCell (p := ⟨w.heap.size + 1 + 1, 0, none⟩) (.inr rfl) _).setCell (p := ⟨w.heap.size + 1 + 1, 1, none⟩) (.inr rfl) _).setCell (p := ⟨w.heap.size + 1 + 1, 2, none⟩) (.inr rfl) _
    have HRF := Lib.hid (hrd.fr hfs (by omega) (fun k _ h1 h2 => by have := h1.1; omega))
    have HFF := Lib.hid (hfr.trans' hfs (fun k hk h => by omega))
    have hS3 : (((wv.setCell ⟨w.heap.size + 1 + 1, 0, none⟩ (.slice a B.length c)).setCell ⟨w.heap.size + 1 + 1, 1, none⟩ (.int .i64 (z2 : Int))).setCell ⟨w.heap.size + 1 + 1, 2, none⟩ (.int .i64 e2)).cell? ⟨w.heap.size, 0, none⟩ = some (.slice a B.length c) ∧ (((wv.setCell ⟨w.heap.size + 1 + 1, 0, none⟩ (.slice a B.length c)).setCell ⟨w.heap.size + 1 + 1, 1, none⟩ (.int .i64 (z2 : Int))).setCell ⟨w.heap.size + 1 + 1, 2, none⟩ (.int .i64 e2)).cell? ⟨w.heap.size, 1, none⟩ = some (.int .i64 (z2 : Int)) ∧ (((wv.setCell ⟨w.heap.size + 1 + 1, 0, none⟩ (.slice a B.length c)).setCell ⟨w.heap.size + 1 + 1, 1, none⟩ (.int .i64 (z2 : Int))).setCell ⟨w.heap.size + 1 + 1, 2, none⟩ (.int .i64 e2)).cell? ⟨w.heap.size, 2, none⟩ = some (.int .i64 e2) ∧ Kept D w q ⟨B.drop z2, e2⟩ (((wv.setCell ⟨w.heap.size + 1 + 1, 0, none⟩ (.slice a B.length c)).setCell ⟨w.heap.size + 1 + 1, 1, none⟩ (.int .i64 (z2 : Int))).setCell ⟨w.heap.size + 1 + 1, 2, none⟩ (.int .i64 e2)) :=
      ⟨hfs.cell g0 (by show ¬ (w.heap.size = w.heap.size + 1 + 1); omega), hfs.cell g1 (by show ¬ (w.heap.size = w.heap.size + 1 + 1); omega), hfs.cell g2 (by show ¬ (w.heap.size = w.heap.size + 1 + 1); omega), HRF.out, HFF.out, _, _, _, HFIN.out⟩
    clear hrd hfr hfs hblk g0 g1 g2
    refine wpAnyH_ready (rs := [27]) (by kernel_rfl) (by simp) ?_
    refine AllReadyH.cons rfl (fun K hK => ?_) AllReadyH.nil
    go_simp
    refine hK.out _ _ (by exact hS3) (fun hHeld => ?_)
    clear hK
    refine wpAnyH_take (i := 28) (oi := ⟨_, _, _, _, _, _⟩) (v := ?_) rfl (by kernel_rfl) (by kernel_rfl) (by kernel_rfl) (fun _ _ _ h => h) (Or.inl ⟨by rfl, ?_⟩) (by assumption) ?_
    rotate_left
    · intro w hSw; go_simp; try (with_reducible rfl)
    try simp only [Act.put, List.setIfInBounds_toArray, List.set_cons_zero, List.set_cons_succ]
    refine wpAnyH_done (by kernel_rfl) ?_ _
    go_wp2
    rw [HST.out]
    dsimp only
    rw [HDL.out, HZ3.out]
    exact bodyPost_ret (results_row_tmp Try.results22 _ _ (w.heap.size + 1 + 1) 44 _ _ rfl HFIN.out Try.underlying44 rfl (by kernel_rfl)) rfl ⟨rfl, ReaderIs.mono HRF.out (fun k h => h.2) hq2, HFF.out⟩
end Go.Proofs.Ytodhhejliijdmab.CodecAsk
