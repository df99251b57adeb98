/- Plain laws of the codec: what was written is read as it was, and of any shorter beginning the reader fails for want of bytes. No program here. -/
import Derived.Test.YtodhhejliijdmabCodecWr
import Derived.Test.YtodhhejliijdmabCodecBack
import Derived.Test.YtodhhejliijdmabCodecR
namespace Go.Proofs.Ytodhhejliijdmab.CodecBk
open Go Codec CodecR CodecTh CodecN

/-- a thing, asked for as it was written: the reader behind it, and whether it is as it was -/
def bstep (r : Rd) (t : Th) : Rd × Bool :=
  if t.kind = 0 then ((r.num 1).1, decide ((r.num 1).2 = t.n % 256)) else if t.kind = 1 then ((r.num 4).1, decide ((r.num 4).2 = t.n % 4294967296))
  else if t.kind = 2 then ((r.num 8).1, decide ((r.num 8).2 = t.n)) else if t.kind = 3 then ((r.var t.n).1, decide ((r.var t.n).2 = t.n))
  else if t.kind = 4 then ((r.raw t.b.length).1, (r.raw t.b.length).2 == t.b) else if t.kind = 5 then ((r.text t.b.length).1, (r.text t.b.length).2 == t.b) else (r, true)

theorem take_full (a R : List UInt8) (n : Nat) (h : a.length = n) : Rd.take ⟨a ++ R, 0⟩ n = (⟨R, 0⟩, a) := by
  subst h
  unfold Rd.take
  rw [if_neg (by simp), if_neg (by simp)]
  simp
theorem take_short (l : List UInt8) (n : Nat) (h : l.length < n) : Rd.take ⟨l, 0⟩ n = (⟨l, 110⟩, []) := by
  unfold Rd.take
  rw [if_neg (by simp), if_pos h]
theorem take_bad (r : Rd) (n : Nat) (h : r.e = 110) : Rd.take r n = (r, []) := by
  unfold Rd.take
  rw [if_pos (by rw [h]; decide)]
theorem num_full (v k : Nat) (R : List UInt8) (hk : k ≤ 8) (hv : v < 256 ^ k) : Rd.num ⟨Codec.num v k ++ R, 0⟩ k = (⟨R, 0⟩, v) := by
  unfold Rd.num
  rw [take_full _ _ _ (num_length v k)]
  dsimp only
  rw [said_num k v hk, Nat.mod_eq_of_lt hv]
theorem num_short (l : List UInt8) (k : Nat) (h : l.length < k) : (Rd.num ⟨l, 0⟩ k).1 = ⟨l, 110⟩ := by
  unfold Rd.num
  rw [take_short _ _ h]
theorem num_bad (r : Rd) (k : Nat) (h : r.e = 110) : Rd.num r k = (r, 0) := by
  unfold Rd.num
  rw [take_bad r k h]; rfl
theorem num1_cons (c : UInt8) (R : List UInt8) : Rd.num ⟨c :: R, 0⟩ 1 = (⟨R, 0⟩, c.toNat) := by
  have := num_full c.toNat 1 R (by omega) (by have := c.toNat_lt; omega)
  have e : Codec.num c.toNat 1 = [c] := by simp [Codec.num]
  rw [e] at this; exact this
theorem more_low (s : Rd) (c : Nat) (h : c < 253) : s.more c = (s, c, 0) := by
  unfold Rd.more; rw [if_neg (by omega), if_neg (by omega), if_neg (by omega)]
theorem more_253 (s : Rd) : s.more 253 = ((s.num 2).1, (s.num 2).2, 253) := by
  unfold Rd.more; rw [if_pos rfl]
theorem more_254 (s : Rd) : s.more 254 = ((s.num 4).1, (s.num 4).2, 65536) := by
  unfold Rd.more; rw [if_neg (by decide), if_pos rfl]
theorem more_255 (s : Rd) : s.more 255 = ((s.num 8).1, (s.num 8).2, 4294967296) := by
  unfold Rd.more; rw [if_neg (by decide), if_neg (by decide), if_pos rfl]
theorem more_bad (r : Rd) : Rd.more r 0 = (r, 0, 0) := more_low r 0 (by decide)
theorem var_bad (r : Rd) (most : Nat) (h : r.e = 110) : r.var most = (⟨r.rest, 110⟩, 0) := by
  unfold Rd.var
  rw [num_bad r 1 h]
  dsimp only
  rw [more_bad r]
  dsimp only
  rw [if_pos (by rw [h]; decide), h]
theorem var_full (v most : Nat) (R : List UInt8) (hv : v < 18446744073709551616) (hm : v ≤ most) : Rd.var ⟨Codec.var v ++ R, 0⟩ most = (⟨R, 0⟩, v) := by
  unfold Codec.var
  by_cases h1 : v < 253
  · rw [if_pos h1]
    unfold Rd.var
    rw [List.singleton_append, num1_cons]
    dsimp only
    have e : (UInt8.ofNat v).toNat = v := by simp; omega
    rw [e]
    rw [more_low _ _ h1]
    dsimp only
    rw [if_neg (by decide), if_neg (by omega), if_neg (by omega)]
  · rw [if_neg h1]
    by_cases h2 : v < 65536
    · rw [if_pos h2]
      unfold Rd.var
      rw [List.cons_append, num1_cons]
      dsimp only
      rw [show (253 : UInt8).toNat = 253 from rfl]
      rw [more_253, num_full v 2 R (by omega) (by omega)]
      dsimp only
      rw [if_neg (by decide), if_neg (by omega), if_neg (by omega)]
    · rw [if_neg h2]
      by_cases h3 : v < 4294967296
      · rw [if_pos h3]
        unfold Rd.var
        rw [List.cons_append, num1_cons]
        dsimp only
        rw [show (254 : UInt8).toNat = 254 from rfl]
        rw [more_254, num_full v 4 R (by omega) (by omega)]
        dsimp only
        rw [if_neg (by decide), if_neg (by omega), if_neg (by omega)]
      · rw [if_neg h3]
        unfold Rd.var
        rw [List.cons_append, num1_cons]
        dsimp only
        rw [show (255 : UInt8).toNat = 255 from rfl]
        rw [more_255, num_full v 8 R (by omega) (by omega)]
        dsimp only
        rw [if_neg (by decide), if_neg (by omega), if_neg (by omega)]
theorem var_none (most : Nat) : Rd.var ⟨[], 0⟩ most = (⟨[], 110⟩, 0) := by
  unfold Rd.var Rd.num
  rw [take_short _ _ (by simp)]
  dsimp only
  rw [show said [] = 0 from rfl, more_bad _]
  dsimp only
  rw [if_pos (by decide)]
theorem var_part (c : UInt8) (l : List UInt8) (k most : Nat) (hl : l.length < k) (hc : (c.toNat = 253 ∧ k = 2) ∨ (c.toNat = 254 ∧ k = 4) ∨ (c.toNat = 255 ∧ k = 8)) : Rd.var ⟨c :: l, 0⟩ most = (⟨c :: l, 110⟩, 0) := by
  unfold Rd.var
  rw [num1_cons]
  dsimp only
  rcases hc with ⟨h, rfl⟩ | ⟨h, rfl⟩ | ⟨h, rfl⟩
  · rw [h, more_253]; dsimp only; rw [num_short _ _ hl]; dsimp only; rw [if_pos (by decide)]
  · rw [h, more_254]; dsimp only; rw [num_short _ _ hl]; dsimp only; rw [if_pos (by decide)]
  · rw [h, more_255]; dsimp only; rw [num_short _ _ hl]; dsimp only; rw [if_pos (by decide)]
theorem var_short (v most c : Nat) (hc : c < (Codec.var v).length) : Rd.var ⟨(Codec.var v).take c, 0⟩ most = (⟨(Codec.var v).take c, 110⟩, 0) := by
  cases c with
  | zero => rw [List.take_zero]; exact var_none most
  | succ c =>
    unfold Codec.var at *
    by_cases h1 : v < 253
    · rw [if_pos h1] at hc; simp at hc
    · rw [if_neg h1] at *
      by_cases h2 : v < 65536
      · rw [if_pos h2] at *
        rw [List.take_succ_cons]
        rw [List.length_cons, num_length] at hc
        exact var_part _ _ 2 most (by rw [List.length_take, num_length]; omega) (.inl ⟨rfl, rfl⟩)
      · rw [if_neg h2] at *
        by_cases h3 : v < 4294967296
        · rw [if_pos h3] at *
          rw [List.take_succ_cons]
          rw [List.length_cons, num_length] at hc
          exact var_part _ _ 4 most (by rw [List.length_take, num_length]; omega) (.inr (.inl ⟨rfl, rfl⟩))
        · rw [if_neg h3] at *
          rw [List.take_succ_cons]
          rw [List.length_cons, num_length] at hc
          exact var_part _ _ 8 most (by rw [List.length_take, num_length]; omega) (.inr (.inr ⟨rfl, rfl⟩))
theorem room_eq (r : Rd) (n : Nat) : r.room (n : Int) = r.var n := by
  unfold Rd.room
  rw [if_neg (by omega), Int.toNat_natCast]
theorem raw_eq (r : Rd) (n : Nat) : r.raw (n : Int) = r.take n := by
  unfold Rd.raw
  rw [if_neg (by omega), Int.toNat_natCast]
theorem bstep_full (t : Th) (R : List UInt8) (hn : t.n < 18446744073709551616) (hb : t.b.length < 18446744073709551616) : bstep ⟨tbytes t ++ R, 0⟩ t = (⟨R, 0⟩, true) := by
  unfold bstep tbytes
  by_cases h0 : t.kind = 0
  · rw [if_pos h0, if_pos h0, num_full _ 1 R (by omega) (by omega)]; simp
  rw [if_neg h0, if_neg h0]
  by_cases h1 : t.kind = 1
  · rw [if_pos h1, if_pos h1, num_full _ 4 R (by omega) (by omega)]; simp
  rw [if_neg h1, if_neg h1]
  by_cases h2 : t.kind = 2
  · rw [if_pos h2, if_pos h2, num_full _ 8 R (by omega) (by omega)]; simp
  rw [if_neg h2, if_neg h2]
  by_cases h3 : t.kind = 3
  · rw [if_pos h3, if_pos h3, var_full _ _ R hn (Nat.le_refl _)]; simp
  rw [if_neg h3, if_neg h3]
  by_cases h4 : t.kind = 4
  · rw [if_pos h4, if_pos h4, raw_eq, take_full _ R _ rfl]; simp
  rw [if_neg h4, if_neg h4]
  by_cases h5 : t.kind = 5
  · rw [if_pos h5, if_pos h5]
    unfold Rd.text Codec.text
    rw [List.append_assoc, room_eq, var_full _ _ _ hb (Nat.le_refl _)]
    dsimp only
    rw [if_neg (by simp), take_full _ R _ rfl]; simp
  rw [if_neg h5, if_neg h5]
  rfl
theorem bstep_bad (t : Th) (r : Rd) (h : r.e = 110) : (bstep r t).1.e = 110 := by
  unfold bstep
  by_cases h0 : t.kind = 0
  · rw [if_pos h0, num_bad r 1 h]; exact h
  rw [if_neg h0]
  by_cases h1 : t.kind = 1
  · rw [if_pos h1, num_bad r 4 h]; exact h
  rw [if_neg h1]
  by_cases h2 : t.kind = 2
  · rw [if_pos h2, num_bad r 8 h]; exact h
  rw [if_neg h2]
  by_cases h3 : t.kind = 3
  · rw [if_pos h3, var_bad r _ h]
  rw [if_neg h3]
  by_cases h4 : t.kind = 4
  · rw [if_pos h4, raw_eq, take_bad r _ h]; exact h
  rw [if_neg h4]
  by_cases h5 : t.kind = 5
  · rw [if_pos h5]
    unfold Rd.text
    rw [room_eq, var_bad r _ h]
    dsimp only
    rw [if_neg (by simp), take_bad _ _ rfl]
  rw [if_neg h5]
  exact h
theorem bstep_short (t : Th) (c : Nat) (hc : c < (tbytes t).length) (hb : t.b.length < 18446744073709551616) : (bstep ⟨(tbytes t).take c, 0⟩ t).1.e = 110 := by
  unfold bstep
  unfold tbytes at *
  by_cases h0 : t.kind = 0
  · rw [if_pos h0] at *; rw [if_pos h0]; rw [num_length] at hc; rw [num_short _ _ (by rw [List.length_take, num_length]; omega)]
  rw [if_neg h0] at *; rw [if_neg h0]
  by_cases h1 : t.kind = 1
  · rw [if_pos h1] at *; rw [if_pos h1]; rw [num_length] at hc; rw [num_short _ _ (by rw [List.length_take, num_length]; omega)]
  rw [if_neg h1] at *; rw [if_neg h1]
  by_cases h2 : t.kind = 2
  · rw [if_pos h2] at *; rw [if_pos h2]; rw [num_length] at hc; rw [num_short _ _ (by rw [List.length_take, num_length]; omega)]
  rw [if_neg h2] at *; rw [if_neg h2]
  by_cases h3 : t.kind = 3
  · rw [if_pos h3] at *; rw [if_pos h3, var_short _ _ _ hc]
  rw [if_neg h3] at *; rw [if_neg h3]
  by_cases h4 : t.kind = 4
  · rw [if_pos h4] at *; rw [if_pos h4, raw_eq, take_short _ _ (by rw [List.length_take]; omega)]
  rw [if_neg h4] at *; rw [if_neg h4]
  by_cases h5 : t.kind = 5
  · rw [if_pos h5] at *
    rw [if_pos h5]
    unfold Codec.text at *
    unfold Rd.text
    rw [room_eq]
    by_cases hv : c < (Codec.var t.b.length).length
    · rw [List.take_append_of_le_length (by omega), var_short _ _ _ hv]
      dsimp only
      rw [if_neg (by simp), take_bad _ _ rfl]
    · rw [List.take_append, List.take_of_length_le (by omega), var_full _ _ _ hb (Nat.le_refl _)]
      rw [List.length_append] at hc
      dsimp only
      rw [if_pos (by simp; omega), take_bad _ _ rfl]
  rw [if_neg h5] at hc
  simp at hc

/-- all that were written, asked for one behind the other -/
def joined (ts : List Th) : List UInt8 := (ts.map tbytes).flatten
theorem joined_cons (t : Th) (ts : List Th) : joined (t :: ts) = tbytes t ++ joined ts := by simp [joined]
/-- a reader of a shorter beginning -/
def Cut (ts : List Th) (r : Rd) : Prop := r.e = 110 ∨ ∃ c, c < (joined ts).length ∧ r = ⟨(joined ts).take c, 0⟩
theorem Cut.step {t : Th} {ts : List Th} {r : Rd} (h : Cut (t :: ts) r) (hn : t.n < 18446744073709551616) (hb : t.b.length < 18446744073709551616) : Cut ts (bstep r t).1 := by
  rcases h with h | ⟨c, hc, rfl⟩
  · exact .inl (bstep_bad t r h)
  · rw [joined_cons] at *
    by_cases hl : c < (tbytes t).length
    · left
      rw [List.take_append_of_le_length (by omega)]
      exact bstep_short t c hl hb
    · right
      rw [List.length_append] at hc
      refine ⟨c - (tbytes t).length, by omega, ?_⟩
      rw [List.take_append, List.take_of_length_le (by omega), bstep_full t _ hn hb]
theorem Cut.done {r : Rd} (h : Cut [] r) : r.e = 110 := by
  rcases h with h | ⟨c, hc, rfl⟩
  · exact h
  · simp [joined] at hc
theorem joined_le (ts : List Th) : (joined ts).length ≤ (ts.map (fun t => t.b.length + 9)).sum := by
  unfold joined
  induction ts with
  | nil => simp
  | cons t r ih =>
    have := tbytes_length t
    simp only [List.map_cons, List.flatten_cons, List.length_append, List.sum_cons]
    omega
theorem joined_succ (ts : List Th) (n : Nat) (h : n < ts.length) : joined (ts.take (n + 1)) = joined (ts.take n) ++ tbytes ts[n] := by
  unfold joined
  rw [List.take_add_one, List.getElem?_eq_getElem h, List.map_append, List.flatten_append]
  simp
theorem joined_drop (ts : List Th) (n : Nat) (h : n < ts.length) : joined (ts.drop n) = tbytes ts[n] ++ joined (ts.drop (n + 1)) := by
  rw [List.drop_eq_getElem_cons h, joined_cons]
theorem sum_take (ts : List Th) (f : Th → Nat) (n : Nat) : ((ts.take n).map f).sum ≤ (ts.map f).sum := by
  conv => rhs; rw [← List.take_append_drop n ts, List.map_append, List.sum_append]
  omega
theorem sum_at (ts : List Th) (f : Th → Nat) (n : Nat) (h : n < ts.length) : f ts[n] ≤ (ts.map f).sum := by
  conv => rhs; rw [← List.take_append_drop n ts, List.map_append, List.sum_append]
  rw [List.drop_eq_getElem_cons h, List.map_cons, List.sum_cons]
  omega
theorem text_len (r : Rd) (most : Int) : (r.text most).1.rest.length ≤ r.rest.length := by
  unfold Rd.text
  dsimp only
  refine Nat.le_trans (Rd.take_len _ _).1 ?_
  split
  · exact Nat.le_refl _
  · exact Rd.room_len r most
theorem bstep_len (r : Rd) (t : Th) : (bstep r t).1.rest.length ≤ r.rest.length := by
  unfold bstep
  split
  · exact (Rd.take_len r 1).1
  split
  · exact (Rd.take_len r 4).1
  split
  · exact (Rd.take_len r 8).1
  split
  · exact Rd.var_len r _
  split
  · rw [raw_eq]; exact (Rd.take_len r _).1
  split
  · exact text_len r _
  exact Nat.le_refl _
end Go.Proofs.Ytodhhejliijdmab.CodecBk
