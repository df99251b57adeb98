/- Walks of the codec's Writer: New, Byte, Word, Long, Var, Raw, Text, Len. Condition: the bytes together are at most 2^47. -/
import Derived.Test.YtjdohjoljobinaaProg
import Derived.Test.YtjdohjoljobinaaMem3
import Derived.Test.YtjdohjoljobinaaCodecPure
import Derived.Deep.DeepCutAuto
import Derived.Deep.CutBlock
import Derived.Deep.RegionLaw
import Derived.BigRegion
import Derived.RegionTactic
namespace Go.Proofs.Ytjdohjoljobinaa.CodecW
open Go Go.RowKit Mem Codec

theorem elemB : ElemT Try.prog 23 5 (.int .u8 0) 1 1 :=
  ⟨Try.underlying23, ⟨_, (info_parts (P := Try.prog) (e := 5) (z := .int .u8 0) (size := 1) (bytes := 1) (by kernel_rfl)).choose_spec⟩, rfl, by decide⟩
/-- the blocks of S, and those that were made between two worlds -/
def Plus (S : Nat → Prop) (w w' : World) : Nat → Prop := fun k => S k ∨ (w.heap.size ≤ k ∧ k < w'.heap.size)
/-- a writer at block q, its blocks in S, that has m -/
def WriterIs (S : Nat → Prop) (w : World) (q : Nat) (m : List UInt8) : Prop :=
  S q ∧ ∃ wv, Blk w q [wv] 115 ∧ OwnB 0 5 w wv m ∧ ∀ k, wv.ownBlock = some k → S k ∧ k ≠ q
section
variable {S T : Nat → Prop} {w w' : World} {q : Nat} {m : List UInt8}
theorem WriterIs.fr (H : WriterIs S w q m) (hf : Fr T w w') (hn : ∀ k, k < w.heap.size → S k → ¬ T k) : WriterIs S w' q m := by
  obtain ⟨h1, wv, h2, h3, h4⟩ := H
  exact ⟨h1, wv, h2.fr hf (hn q h2.lt h1), h3.fr hf (fun k hk => hn k (h3.lt k hk).2 (h4 k hk).1), h4⟩
theorem WriterIs.mono (H : WriterIs S w q m) (hn : ∀ k, k < w.heap.size → S k → T k) : WriterIs T w q m := by
  obtain ⟨h1, wv, h2, h3, h4⟩ := H
  exact ⟨hn q h2.lt h1, wv, h2, h3, fun k hk => ⟨hn k (h3.lt k hk).2 (h4 k hk).1, (h4 k hk).2⟩⟩
theorem WriterIs.below (H : WriterIs S w q m) (hb : Below w.heap.size w w') : WriterIs S w' q m := H.fr (Fr.ofBelow hb) (fun k hk _ h => by omega)
theorem WriterIs.drew (H : WriterIs S w q m) : WriterIs S w.drew q m := H
theorem WriterIs.lt (H : WriterIs S w q m) : q < w.heap.size := H.2.choose_spec.1.lt
theorem WriterIs.opened (H : WriterIs S w q m) : ∃ a c, Blk w q [.slice a m.length c] 115 ∧ OwnB 0 5 w (.slice a m.length c) m ∧ (∀ k, (Value.slice a m.length c).ownBlock = some k → S k ∧ k ≠ q) ∧ S q ∧ q < w.heap.size := by
  obtain ⟨h1, wv, h2, h3, h4⟩ := H
  obtain ⟨a, c, rfl, _⟩ := id h3.byt
  exact ⟨a, c, h2, h3, h4, h1, h2.lt⟩
/-- behind 'w.b = append(w.b, ..)' -/
theorem appended {w2 : World} {rv v2 : Value} {m2 : List UInt8} (h1 : S q) (h2 : Blk w q [rv] 115) (h4 : ∀ k, rv.ownBlock = some k → S k ∧ k ≠ q)
    (o1 : OwnB 0 5 w2 v2 m2) (o2 : Fr (fun k => rv.ownBlock = some k) w w2) (o3 : v2.ownBlock = rv.ownBlock ∨ ∃ k, v2.ownBlock = some k ∧ w.heap.size ≤ k ∧ k < w2.heap.size) :
    WriterIs (Plus S w (w2.setCell ⟨q, 0, none⟩ v2)) (w2.setCell ⟨q, 0, none⟩ v2) q m2 ∧ Fr S w (w2.setCell ⟨q, 0, none⟩ v2) ∧ w2.cell? ⟨q, 0, none⟩ = some rv ∧ w2.frozen? ⟨q, 0, none⟩ = false := by
  have hne : ¬ rv.ownBlock = some q := fun e => (h4 q e).2 rfl
  have hb2 := h2.fr o2 hne
  have hv2 : ∀ k, v2.ownBlock = some k → Plus S w (w2.setCell ⟨q, 0, none⟩ v2) k ∧ k ≠ q := by
    intro k hk
    have hkl := (o1.lt k hk).2
    rcases o3 with o3 | ⟨k', o3, o4, o5⟩
    · rw [o3] at hk; exact ⟨.inl (h4 k hk).1, (h4 k hk).2⟩
    · rw [o3] at hk; cases hk
      exact ⟨.inr ⟨o4, by simpa [World.setCell] using o5⟩, by have := h2.lt; omega⟩
  refine ⟨⟨.inl h1, v2, by simpa using hb2.set 0 v2, ?_, hv2⟩, ?_, hb2.cell rfl, hb2.free 0⟩
  · exact o1.fr (S := fun k => k = q) (Fr.setCell (S := fun k => k = q) (p := ⟨q, 0, none⟩) (Fr.refl _ w2) (.inr rfl) v2) (fun k hk => (hv2 k hk).2)
  · exact Fr.setCell (S := S) (p := ⟨q, 0, none⟩) (o2.mono fun k _ e => (h4 k e).1) (.inr h1) v2
end
theorem new_calls (w : World) : Calls Try.prog 32 #[] w fun e w' => ∃ q, e = .returned (.pointer (some ⟨q, 0, none⟩)) ∧ w.heap.size ≤ q ∧ WriterIs (fun k => k = q) w' q [] ∧ Below w.heap.size w w' := by
  go_enter Try.func32, Try.ntmps32
  go_wp2
  go_ret
  exact ⟨w.heap.size, rfl, Nat.le_refl _, ⟨rfl, _, Blk.new _ _ _ _ rfl, OwnB.nil _ _ _, fun k hk => by cases hk⟩, (Below.refl _ _).alloc (Nat.le_refl _) _⟩
theorem len_calls (S : Nat → Prop) (w : World) (q : Nat) (m : List UInt8) (H : WriterIs S w q m) :
    Calls Try.prog 35 #[.pointer (some ⟨q, 0, none⟩)] w fun e w' => e = .returned (.int .i64 (m.length : Int)) ∧ w = w' := by
  obtain ⟨a, c, h1, h2, h3, h4, h5⟩ := H.opened
  have c0 := h1.cell (i := 0) rfl
  clear h1 h2 h3 h4 H
  go_enter Try.func35, Try.ntmps35
  go_wp2
  go_ret
  exact ⟨rfl, rfl⟩
set_option maxHeartbeats 4000000 in
theorem raw_calls (S D : Nat → Prop) (w : World) (q : Nat) (m : List UInt8) (v : Value) (b : List UInt8) (H : WriterIs S w q m) (hB : Byt D w v b) (hlen : m.length + b.length ≤ 140737488355328) :
    Calls Try.prog 38 #[.pointer (some ⟨q, 0, none⟩), v] w fun e w' => e = .returned (.tuple #[]) ∧ WriterIs (Plus S w w') w' q (m ++ b) ∧ Fr S w w' := by
  obtain ⟨a, c, h1, h2, h3, h4, h5⟩ := H.opened
  obtain ⟨va, vc, rfl, _⟩ := id hB
  have c0 := h1.cell (i := 0) rfl
  have H1 := Lib.hid h1
  have H2 := Lib.hid h2
  have H3 := Lib.hid h3
  have H4 := Lib.hid h4
  have HB := Lib.hid hB
  clear h1 h2 h3 h4 H hB
  go_enter Try.func38, Try.ntmps38
  go_wp2_with (at_builtin; refine wpList_append_byt _ rfl (.tmp 8) (.tmp 9) 23 rfl 0 5 elemB _ m rfl H2.out _ b rfl HB.out hlen (Nat.zero_le _) ?_)
  intro va2 vc2 w2 o1 o2 o3
  obtain ⟨g1, g2, g3, g4⟩ := appended H4.out H1.out H3.out o1 (Fr.ofGrown o2) (o3.imp_right fun o3 => ⟨_, o3, Nat.le_refl _, by have := (o1.lt _ o3).2; exact this⟩)
  have G1 := Lib.hid g1
  have G2 := Lib.hid g2
  clear o1 o2 o3 g1 g2 c0
  go_wp2
  go_end0
  exact ⟨rfl, G1.out, G2.out⟩
set_option maxHeartbeats 4000000 in
theorem byte_calls (S : Nat → Prop) (w : World) (q : Nat) (m : List UInt8) (n : Int) (c : UInt8) (hn : n = (c.toNat : Int)) (H : WriterIs S w q m) (hlen : m.length + 1 ≤ 140737488355328) :
    Calls Try.prog 70 #[.pointer (some ⟨q, 0, none⟩), .int .u8 n] w fun e w' => e = .returned (.tuple #[]) ∧ WriterIs (Plus S w w') w' q (m ++ [c]) ∧ Fr S w w' := by
  subst hn
  obtain ⟨a, d, h1, h2, h3, h4, h5⟩ := H.opened
  have c0 := h1.cell (i := 0) rfl
  have H1 := Lib.hid h1
  have H2 := Lib.hid h2
  have H3 := Lib.hid h3
  have H4 := Lib.hid h4
  clear h1 h2 h3 h4 H
  go_enter Try.func70, Try.ntmps70
  go_wp2_with (at_builtin; refine wpList_append_one _ rfl (.tmp 8) (.tmp 10) 23 rfl 0 5 elemB _ m rfl H2.out _ c rfl rfl hlen (Nat.zero_le _) ?_)
  intro va2 vc2 w2 o1 o2 o3
  obtain ⟨g1, g2, g3, g4⟩ := appended H4.out H1.out H3.out o1 o2 (o3.imp_right fun o3 => ⟨_, o3.1, by omega, o3.2⟩)
  have G1 := Lib.hid g1
  have G2 := Lib.hid g2
  clear o1 o2 o3 g1 g2 c0
  go_wp2
  go_end0
  exact ⟨rfl, G1.out, G2.out⟩
theorem wrap8 (i : Nat) (h : i < 8) : IntKind.i64.wrap (8 * (i : Int)) = 8 * (i : Int) := by
  rcases (by omega : i = 0 ∨ i = 1 ∨ i = 2 ∨ i = 3 ∨ i = 4 ∨ i = 5 ∨ i = 6 ∨ i = 7) with rfl | rfl | rfl | rfl | rfl | rfl | rfl | rfl <;> rfl
theorem shr8 (n i : Nat) : IntKind.u8.wrap ((n : Int) / 2 ^ (8 * (i : Int)).toNat) = ((UInt8.ofNat (n / 256 ^ i)).toNat : Int) := by
  rw [IntKind.wrap_u8, show (8 * (i : Int)).toNat = 8 * i from by omega, UInt8.toNat_ofNat', show (256 : Nat) ^ i = 2 ^ (8 * i) from by rw [Nat.pow_mul], Int.natCast_emod, Int.natCast_ediv, Int.natCast_pow]
  rfl
set_option maxHeartbeats 4000000 in
set_option maxRecDepth 100000 in
theorem high_calls (S : Nat → Prop) (w : World) (q : Nat) (m : List UInt8) (n k : Nat) (_ : n < 18446744073709551616) (hk : k ≤ 8) (H : WriterIs S w q m) (hlen : m.length + k ≤ 140737488355328) :
    Calls Try.prog 72 #[.pointer (some ⟨q, 0, none⟩), .int .u64 n, .int .i64 k] w fun e w' => e = .returned (.tuple #[]) ∧ WriterIs (Plus S w w') w' q (m ++ num n k) ∧ Fr S w w' := by
  have H0 := Lib.hid H
  clear H
  go_enter Try.func72, Try.ntmps72
  go_wp2
  go_loopw [2] (fun i wx => ∃ (j : Nat) (x : List UInt8), j ≤ k ∧ i = .int .i64 j ∧ m ++ num n k = x ++ num n j ∧ x.length + j = m.length + k ∧ WriterIs (Plus S w wx) wx q x ∧ Fr S w wx) (fun i _ => (intOf i).toNat)
  case atStart => exact ⟨k, m, Nat.le_refl _, rfl, rfl, rfl, H0.out.mono (fun k _ h => .inl h), Fr.refl _ _⟩
  case round =>
    obtain ⟨j, x, hj, rfl, hx, hxl, hW, hF⟩ := hrel
    have HX := Lib.hid hx
    have HF := Lib.hid hF
    obtain ⟨a, d, h1, h2, h3, h4, h5⟩ := hW.opened
    have H1 := Lib.hid h1
    have H2 := Lib.hid h2
    have H3 := Lib.hid h3
    have H4 := Lib.hid h4
    clear hx hF hW
    by_cases h0 : 0 < j
    · obtain ⟨i, rfl⟩ : ∃ i, j = i + 1 := ⟨j - 1, by omega⟩
      have c0 := h1.cell (i := 0) rfl
      have c1 : ∀ o, (wr.alloc o).cell? ⟨q, 0, none⟩ = some (.slice a x.length d) := fun o => (h1.alloc o).cell rfl
      clear h1 h2 h3 h4
      go_upto_region 2 with fail
      have hwr := wrap8 i (by omega)
      have HSH := Lib.hid (shr8 n i)
      have c2 : ∀ o, (wr.alloc o).drew.cell? ⟨q, 0, none⟩ = some (.slice a x.length d) := fun o => c1 o
      have c3 : wr.drew.cell? ⟨q, 0, none⟩ = some (.slice a x.length d) := c0
      go_region_law ((refine step_append_one wr rfl (.tmp 14) (.tmp 20) 23 rfl 0 5 elemB (.slice a x.length d) x rfl H2.out _ _ HSH.out rfl (by omega) (Nat.zero_le _) ?_; intro va2 vc2 w2 o1 o2 o3; obtain ⟨g1, g2, g3, g4⟩ := appended H4.out H1.out H3.out o1 o2 (o3.imp_right fun o3 => ⟨_, o3.1, by omega, o3.2⟩); have G1 := Lib.hid g1; have G2 := Lib.hid g2; clear o1 o2 o3 g1 g2 c0 c1 c2 c3))
      all_goals
        go_wp2
        go_roundw
        case rel =>
          refine ⟨i, _, by omega, rfl, ?_, by simp; omega, G1.out.mono (fun k hk h => ?_), HF.out.trans' G2.out (fun k hk h => ?_)⟩
          · rw [HX.out, List.append_assoc]; rfl
          · have hs := HF.out.size
            rcases h with (h | h) | h
            · exact .inl h
            · exact .inr ⟨h.1, by have := G2.out.size; omega⟩
            · exact .inr ⟨by omega, h.2⟩
          · rcases h with h | h
            · exact h
            · omega
        case measure => simp [intOf]
    · obtain rfl : j = 0 := by omega
      have hxx : m ++ num n k = x := by rw [HX.out]; simp [num]
      have HW := Lib.hid (show WriterIs (Plus S w wr) wr q x from ⟨h4, _, h1, h2, h3⟩)
      clear h1 h2 h3 h4
      go_wp2
      go_end0
      exact ⟨rfl, by rw [hxx]; exact HW.out, HF.out⟩
theorem Plus.two {S : Nat → Prop} {w w1 w2 : World} {q : Nat} {m : List UInt8} (H : WriterIs (Plus (Plus S w w1) w1 w2) w2 q m) (h1 : w.heap.size ≤ w1.heap.size) (_ : w1.heap.size ≤ w2.heap.size) : WriterIs (Plus S w w2) w2 q m :=
  H.mono (fun k hk h => by
    rcases h with (h | h) | h
    · exact .inl h
    · exact .inr ⟨h.1, by omega⟩
    · exact .inr ⟨by omega, h.2⟩)
theorem Fr.two {S : Nat → Prop} {w w1 w2 : World} (h : Fr S w w1) (k : Fr (Plus S w w1) w1 w2) : Fr S w w2 :=
  h.trans' k (fun i hi h => by
    rcases h with h | h
    · exact h
    · omega)
set_option maxHeartbeats 4000000 in
theorem word_calls (S : Nat → Prop) (w : World) (q : Nat) (m : List UInt8) (n : Nat) (hn : n < 4294967296) (H : WriterIs S w q m) (hlen : m.length + 4 ≤ 140737488355328) :
    Calls Try.prog 37 #[.pointer (some ⟨q, 0, none⟩), .int .u32 n] w fun e w' => e = .returned (.tuple #[]) ∧ WriterIs (Plus S w w') w' q (m ++ num n 4) ∧ Fr S w w' := by
  go_enter Try.func37, Try.ntmps37
  go_wp2_with fail
  refine (high_calls S w q m n 4 (by omega) (by omega) H hlen).mono ?_
  rintro e w2 ⟨rfl, h1, h2⟩
  have H1 := Lib.hid h1
  have H2 := Lib.hid h2
  clear h1 h2 H
  go_wp2
  go_end0
  exact ⟨rfl, H1.out, H2.out⟩
set_option maxHeartbeats 4000000 in
set_option maxRecDepth 100000 in
theorem var_calls (S : Nat → Prop) (w : World) (q : Nat) (m : List UInt8) (n : Nat) (hn : n < 18446744073709551616) (H : WriterIs S w q m) (hlen : m.length + 9 ≤ 140737488355328) :
    Calls Try.prog 69 #[.pointer (some ⟨q, 0, none⟩), .int .u64 n] w fun e w' => e = .returned (.tuple #[]) ∧ WriterIs (Plus S w w') w' q (m ++ var n) ∧ Fr S w w' := by
  have H0 := Lib.hid H
  clear H
  go_enter Try.func69, Try.ntmps69
  by_cases h1 : n < 253
  · have hv : var n = [UInt8.ofNat n] := by unfold var; rw [if_pos h1]
    have HC := Lib.hid (show (n : Int) = ((UInt8.ofNat n).toNat : Int) by rw [UInt8.toNat_ofNat']; omega)
    go_wp2_with fail
    refine (byte_calls S w q m _ (UInt8.ofNat n) HC.out H0.out (by omega)).mono ?_
    rintro e w2 ⟨rfl, g1, g2⟩
    have G1 := Lib.hid g1
    have G2 := Lib.hid g2
    clear g1 g2
    go_wp2
    go_end0
    exact ⟨rfl, by rw [hv]; exact G1.out, G2.out⟩
  by_cases h2 : n < 65536
  · have hv : var n = 253 :: num n 2 := by unfold var; rw [if_neg h1, if_pos h2]
    have hz1 : ¬ ((n : Int) < 253) := by omega
    have hz2 : (n : Int) ≤ 65535 := by omega
    go_wp2_with fail
    refine (byte_calls S w q m _ 253 rfl H0.out (by omega)).mono ?_
    rintro e w2 ⟨rfl, g1, g2⟩
    have hz2 := g2.size
    have G1 := Lib.hid g1
    have G2 := Lib.hid g2
    clear g1 g2
    go_wp2_with fail
    refine (high_calls _ w2 q _ n 2 hn (by omega) G1.out (by simp; omega)).mono ?_
    rintro e w3 ⟨rfl, g1, g2⟩
    have hz3 := g2.size
    have G3 := Lib.hid (Plus.two g1 hz2 hz3)
    have G4 := Lib.hid (Fr.two G2.out g2)
    clear g1 g2
    go_wp2
    go_end0
    exact ⟨rfl, by rw [hv]; have := G3.out; rw [List.append_assoc] at this; exact this, G4.out⟩
  by_cases h3 : n < 4294967296
  · have hv : var n = 254 :: num n 4 := by unfold var; rw [if_neg h1, if_neg h2, if_pos h3]
    have hz1 : ¬ ((n : Int) < 253) := by omega
    have hz2 : ¬ ((n : Int) ≤ 65535) := by omega
    have hz3 : (n : Int) ≤ 4294967295 := by omega
    go_wp2_with fail
    refine (byte_calls S w q m _ 254 rfl H0.out (by omega)).mono ?_
    rintro e w2 ⟨rfl, g1, g2⟩
    have hz2 := g2.size
    have G1 := Lib.hid g1
    have G2 := Lib.hid g2
    clear g1 g2
    go_wp2_with fail
    refine (high_calls _ w2 q _ n 4 hn (by omega) G1.out (by simp; omega)).mono ?_
    rintro e w3 ⟨rfl, g1, g2⟩
    have hz3 := g2.size
    have G3 := Lib.hid (Plus.two g1 hz2 hz3)
    have G4 := Lib.hid (Fr.two G2.out g2)
    clear g1 g2
    go_wp2
    go_end0
    exact ⟨rfl, by rw [hv]; have := G3.out; rw [List.append_assoc] at this; exact this, G4.out⟩
  · have hv : var n = 255 :: num n 8 := by unfold var; rw [if_neg h1, if_neg h2, if_neg h3]
    have hz1 : ¬ ((n : Int) < 253) := by omega
    have hz2 : ¬ ((n : Int) ≤ 65535) := by omega
    have hz3 : ¬ ((n : Int) ≤ 4294967295) := by omega
    go_wp2_with fail
    refine (byte_calls S w q m _ 255 rfl H0.out (by omega)).mono ?_
    rintro e w2 ⟨rfl, g1, g2⟩
    have hz2 := g2.size
    have G1 := Lib.hid g1
    have G2 := Lib.hid g2
    clear g1 g2
    go_wp2_with fail
    refine (high_calls _ w2 q _ n 8 hn (by omega) G1.out (by simp; omega)).mono ?_
    rintro e w3 ⟨rfl, g1, g2⟩
    have hz3 := g2.size
    have G3 := Lib.hid (Plus.two g1 hz2 hz3)
    have G4 := Lib.hid (Fr.two G2.out g2)
    clear g1 g2
    go_wp2
    go_end0
    exact ⟨rfl, by rw [hv]; have := G3.out; rw [List.append_assoc] at this; exact this, G4.out⟩
set_option maxHeartbeats 4000000 in
theorem text_calls (S D : Nat → Prop) (w : World) (q : Nat) (m : List UInt8) (v : Value) (b : List UInt8) (H : WriterIs S w q m) (hB : Byt D w v b) (hS : ∀ k, k < w.heap.size → D k → ¬ S k) (hlen : m.length + 9 + b.length ≤ 140737488355328) :
    Calls Try.prog 71 #[.pointer (some ⟨q, 0, none⟩), v] w fun e w' => e = .returned (.tuple #[]) ∧ WriterIs (Plus S w w') w' q (m ++ text b) ∧ Fr S w w' := by
  obtain ⟨va, vc, rfl, _⟩ := id hB
  have H0 := Lib.hid H
  have HB := Lib.hid hB
  have hvl : (var b.length).length ≤ 9 := by rw [var_length]; exact vlen_le _
  clear H hB
  go_enter Try.func71, Try.ntmps71
  go_wp2_with fail
  refine (var_calls S w q m b.length (by omega) H0.out (by omega)).mono ?_
  rintro e w2 ⟨rfl, g1, g2⟩
  have hz2 := g2.size
  have G1 := Lib.hid g1
  have G2 := Lib.hid g2
  clear g1 g2
  go_wp2_with fail
  refine (raw_calls _ D w2 q _ _ b G1.out (HB.out.fr G2.out hS) (by simp; omega)).mono ?_
  rintro e w3 ⟨rfl, g1, g2⟩
  have hz3 := g2.size
  have G3 := Lib.hid (Plus.two g1 hz2 hz3)
  have G4 := Lib.hid (Fr.two G2.out g2)
  clear g1 g2
  go_wp2
  go_end0
  exact ⟨rfl, by have := G3.out; rw [List.append_assoc] at this; exact this, G4.out⟩
end Go.Proofs.Ytjdohjoljobinaa.CodecW
