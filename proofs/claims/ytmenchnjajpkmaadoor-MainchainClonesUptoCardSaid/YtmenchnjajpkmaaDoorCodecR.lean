/- Walks of the codec's Reader: Read, take, high, Byte, Word, Long, Var, room, Raw, Text, Fail, Err, Left, End; and of Writer.Bytes. Condition: the bytes are at most 2^47. -/
import Derived.Test.YtmenchnjajpkmaaDoorCodecW
import Derived.Test.YtmenchnjajpkmaaDoorQuiet
import Derived.WalkLawsBesides
import Derived.Deep.CutBlock
import Derived.Deep.DeepCutAuto
namespace Go.Proofs.YtmenchnjajpkmaaDoor.CodecR
open Go Go.RowKit Mem Codec CodecW

section
variable {D T : Nat → Prop} {w w' : World} {q : Nat} {r : Rd}
end

set_option maxHeartbeats 4000000 in
theorem clone_calls (D : Nat → Prop) (w : World) (v : Value) (l : List UInt8) (hB : Byt D w v l) (hl : l.length ≤ 140737488355328) :
    Calls Tryd.prog 51 #[v] w fun e w' => ∃ a c, e = .returned (.slice a l.length c) ∧ OwnB w.heap.size 5 w' (.slice a l.length c) l ∧ Below w.heap.size w w' := by
  obtain ⟨a, c, rfl, hk, _⟩ := id hB
  have HB := Lib.hid hB
  have ke := fun w a n c n' c' => Lib.run_eql_slice_nil (P := Tryd.prog) w 56 5 a n c n' c' Tryd.underlying56
  clear hB
  cases a with
  | none =>
    have hl0 : l = [] := by
      have := hk.2.2 rfl
      apply List.length_eq_zero_iff.1; omega
    subst hl0
    obtain rfl := hk.2.2 rfl
    go_enter Tryd.func51, Tryd.ntmps51
    go_wp2
    go_ret
    exact ⟨none, 0, rfl, OwnB.nil _ _ _, Below.refl _ _⟩
  | some a =>
    have hO : OwnB w.heap.size 5 (w.alloc (.cells #[] 5)) (.slice (some ⟨w.heap.size, 0, none⟩) 0 0) [] := World.ownsRow_lit w #[] 0 (Nat.le_refl _) (Nat.zero_le _) rfl
    have hz : Below w.heap.size w (w.alloc (.cells #[] 5)) := (Below.refl _ _).alloc (Nat.le_refl _) _
    have HO := Lib.hid hO
    have HZ := Lib.hid hz
    clear hO hz
    go_enter Tryd.func51, Tryd.ntmps51
    go_wp2_with (at_builtin; refine wpList_append_byt _ rfl (.tmp 5) (.tmp 6) 56 rfl w.heap.size 5 elemB _ [] rfl HO.out _ l rfl (HB.out.below HZ.out) (by simp; omega) (by simp) ?_)
    intro va vc w2 o1 o2 o3
    have HZ2 := Lib.hid (HZ.out.grown o2 (by simp) (fun k hk => (HO.out.lt k hk).1))
    have HO2 := Lib.hid o1
    clear o1 o2 o3 HO HZ
    go_wp2
    go_ret
    exact ⟨va, vc, rfl, HO2.out, HZ2.out⟩
set_option maxHeartbeats 4000000 in
theorem bytes_calls (S : Nat → Prop) (w : World) (q : Nat) (m : List UInt8) (H : WriterIs S w q m) (hl : m.length ≤ 140737488355328) :
    Calls Tryd.prog 47 #[.pointer (some ⟨q, 0, none⟩)] w fun e w' => ∃ a c, e = .returned (.slice a m.length c) ∧ OwnB w.heap.size 5 w' (.slice a m.length c) m ∧ Below w.heap.size w w' := by
  obtain ⟨a, c, h1, h2, h3, h4, h5⟩ := H.opened
  have c0 := h1.cell (i := 0) rfl
  have H2 := Lib.hid h2.byt
  clear h1 h2 h3 h4 H
  go_enter Tryd.func47, Tryd.ntmps47
  go_wp2_with fail
  refine (clone_calls _ w _ m H2.out hl).mono ?_
  rintro e w2 ⟨x, y, rfl, g1, g2⟩
  have G1 := Lib.hid g1
  have G2 := Lib.hid g2
  clear g1 g2 c0
  go_wp2
  go_ret
  exact ⟨x, y, rfl, G1.out, G2.out⟩
theorem said_step (y : Nat) (c : UInt8) : bits .or .u64 (IntKind.u64.wrap ((y : Int) * 256)) (IntKind.u64.wrap (c.toNat : Int)) = (((256 * y + c.toNat) % 18446744073709551616 : Nat) : Int) := by
  have hc := c.toNat_lt
  have e1 : IntKind.u64.wrap ((y : Int) * 256) = (((y % 72057594037927936) * 256 : Nat) : Int) := by rw [IntKind.wrap_u64]; omega
  have e2 : IntKind.u64.wrap (c.toNat : Int) = (c.toNat : Int) := by rw [IntKind.wrap_u64]; omega
  rw [e1, e2, u64_or_nat _ _ (by omega) (by omega)]
  have h := Nat.shiftLeft_add_eq_or_of_lt (i := 8) (b := c.toNat) (by omega) (y % 72057594037927936)
  rw [Nat.shiftLeft_eq] at h
  rw [show (2 : Nat) ^ 8 = 256 from rfl] at h
  rw [← h]
  omega
theorem num_lt (r : Rd) (n : Nat) : (r.num n).2 < 18446744073709551616 := said_lt _
theorem num1_lt (r : Rd) : (r.num 1).2 < 256 := by
  have h : (r.take 1).2.length ≤ 1 := by
    unfold Rd.take
    split
    · simp
    · split
      · simp
      · simp; omega
  refine Nat.lt_of_lt_of_le (said_bound _ (by omega)) ?_
  exact Nat.pow_le_pow_right (n := 256) (by omega) h
theorem num4_lt (r : Rd) : (r.num 4).2 < 4294967296 := by
  have h : (r.take 4).2.length ≤ 4 := by
    unfold Rd.take
    split
    · simp
    · split
      · simp
      · simp; omega
  refine Nat.lt_of_lt_of_le (said_bound _ (by omega)) ?_
  exact Nat.pow_le_pow_right (n := 256) (by omega) h
theorem var_lt (r : Rd) (most : Nat) : (r.var most).2 ≤ most := by
  unfold Rd.var
  dsimp only
  split
  · exact Nat.zero_le _
  · split
    · exact Nat.zero_le _
    · split
      · exact Nat.zero_le _
      · rename_i h; exact Nat.le_of_not_lt h
theorem room_le (r : Rd) (most : Int) (h : most < 9223372036854775808) : (r.room most).2 < 9223372036854775808 := by
  unfold Rd.room
  dsimp only
  split
  · simp
  · have := var_lt r most.toNat
    omega
theorem Rd.take_len (r : Rd) (n : Nat) : (r.take n).1.rest.length ≤ r.rest.length ∧ (r.take n).2.length ≤ r.rest.length := by
  unfold Rd.take
  split
  · simp
  · split
    · simp
    · simp; omega
theorem Rd.more_len (s : Rd) (c : Nat) : (s.more c).1.rest.length ≤ s.rest.length := by
  unfold Rd.more
  split
  · exact (Rd.take_len s 2).1
  · split
    · exact (Rd.take_len s 4).1
    · split
      · exact (Rd.take_len s 8).1
      · exact Nat.le_refl _
theorem Rd.var_len (r : Rd) (most : Nat) : (r.var most).1.rest.length ≤ r.rest.length := by
  have h := Nat.le_trans (Rd.more_len (r.num 1).1 (r.num 1).2) (Rd.take_len r 1).1
  unfold Rd.var
  dsimp only
  split
  · exact Nat.le_refl _
  · split
    · exact Nat.le_refl _
    · split
      · exact Nat.le_refl _
      · exact h
theorem Rd.room_len (r : Rd) (most : Int) : (r.room most).1.rest.length ≤ r.rest.length := by
  unfold Rd.room
  dsimp only
  split
  · exact Nat.le_refl _
  · exact Rd.var_len r _
end Go.Proofs.YtmenchnjajpkmaaDoor.CodecR
