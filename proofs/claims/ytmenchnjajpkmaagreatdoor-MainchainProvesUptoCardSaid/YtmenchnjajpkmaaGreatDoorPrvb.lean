/- Walks of the codec's Reader: Read, take, high, Byte, Word, Long, Var, room, Raw, Text, Fail, Err, Left, End; and of Writer.Bytes. Condition: the bytes are at most 2^47. How arguments read: a slice of bytes that came in, as the words of Mem. Program-independent; no condition. Walks of the reference's Number, Var, Text (as XCodecN, for seats without the codec's laws). Condition: the bytes together are at most 2^47. Plain laws of the codec: what is read as a number, or as a text, stands at the front as it is written. No program here. -/
import Derived.Test.YtmenchnjajpkmaaGreatDoorPrva
import Derived.WalkLawsBesides
import Derived.Deep.CutBlock
import Derived.Deep.DeepCutAuto
import Derived.ProofKit
import Derived.ChangeOld
import Derived.SizedLaws
section
namespace Go.Proofs.YtmenchnjajpkmaaGreatDoor.CodecR
open Go Go.RowKit Mem Codec CodecW

/-- a reader at block q, its bytes in D -/
def ReaderIs (D : Nat → Prop) (w : World) (q : Nat) (r : Rd) : Prop :=
  ∃ a c, Blk w q [.slice a r.rest.length c, .int .i64 r.e] 160 ∧ Byt D w (.slice a r.rest.length c) r.rest ∧ ¬ D q
section
variable {D T : Nat → Prop} {w w' : World} {q : Nat} {r : Rd}
theorem ReaderIs.fr (H : ReaderIs D w q r) (hf : Fr T w w') (hq : ¬ T q) (hn : ∀ k, k < w.heap.size → D k → ¬ T k) : ReaderIs D w' q r := by
  obtain ⟨a, c, h1, h2, h3⟩ := H
  exact ⟨a, c, h1.fr hf hq, h2.fr hf hn, h3⟩
theorem ReaderIs.lt (H : ReaderIs D w q r) : q < w.heap.size := H.choose_spec.choose_spec.1.lt
theorem ReaderIs.below (H : ReaderIs D w q r) (hb : Below w.heap.size w w') : ReaderIs D w' q r := H.fr (Fr.ofBelow hb) (by have := H.lt; omega) (fun k hk _ h => by omega)
end

set_option maxHeartbeats 4000000 in
theorem clone_calls (D : Nat → Prop) (w : World) (v : Value) (l : List UInt8) (hB : Byt D w v l) (hl : l.length ≤ 140737488355328) :
    Calls Tryz.prog 89 #[v] w fun e w' => ∃ a c, e = .returned (.slice a l.length c) ∧ OwnB w.heap.size 5 w' (.slice a l.length c) l ∧ Below w.heap.size w w' := by
  obtain ⟨a, c, rfl, hk, _⟩ := id hB
  have HB := Lib.hid hB
  have ke := fun w a n c n' c' => Lib.run_eql_slice_nil (P := Tryz.prog) w 25 5 a n c n' c' Tryz.underlying25
  clear hB
  cases a with
  | none =>
    have hl0 : l = [] := by
      have := hk.2.2 rfl
      apply List.length_eq_zero_iff.1; omega
    subst hl0
    obtain rfl := hk.2.2 rfl
    go_enter Tryz.func89, Tryz.ntmps89
    go_wp2
    go_ret
    exact ⟨none, 0, rfl, OwnB.nil _ _ _, Below.refl _ _⟩
  | some a =>
    have hO : OwnB w.heap.size 5 (w.alloc (.cells #[] 5)) (.slice (some ⟨w.heap.size, 0, none⟩) 0 0) [] := World.ownsRow_lit w #[] 0 (Nat.le_refl _) (Nat.zero_le _) rfl
    have hz : Below w.heap.size w (w.alloc (.cells #[] 5)) := (Below.refl _ _).alloc (Nat.le_refl _) _
    have HO := Lib.hid hO
    have HZ := Lib.hid hz
    clear hO hz
    go_enter Tryz.func89, Tryz.ntmps89
    go_wp2_with (at_builtin; refine wpList_append_byt _ rfl (.tmp 5) (.tmp 6) 25 rfl w.heap.size 5 elemB _ [] rfl HO.out _ l rfl (HB.out.below HZ.out) (by simp; omega) (by simp) ?_)
    intro va vc w2 o1 o2 o3
    have HZ2 := Lib.hid (HZ.out.grown o2 (by simp) (fun k hk => (HO.out.lt k hk).1))
    have HO2 := Lib.hid o1
    clear o1 o2 o3 HO HZ
    go_wp2
    go_ret
    exact ⟨va, vc, rfl, HO2.out, HZ2.out⟩
set_option maxHeartbeats 4000000 in
theorem bytes_calls (S : Nat → Prop) (w : World) (q : Nat) (m : List UInt8) (H : WriterIs S w q m) (hl : m.length ≤ 140737488355328) :
    Calls Tryz.prog 95 #[.pointer (some ⟨q, 0, none⟩)] w fun e w' => ∃ a c, e = .returned (.slice a m.length c) ∧ OwnB w.heap.size 5 w' (.slice a m.length c) m ∧ Below w.heap.size w w' := by
  obtain ⟨a, c, h1, h2, h3, h4, h5⟩ := H.opened
  have c0 := h1.cell (i := 0) rfl
  have H2 := Lib.hid h2.byt
  clear h1 h2 h3 h4 H
  go_enter Tryz.func95, Tryz.ntmps95
  go_wp2_with fail
  refine (clone_calls _ w _ m H2.out hl).mono ?_
  rintro e w2 ⟨x, y, rfl, g1, g2⟩
  have G1 := Lib.hid g1
  have G2 := Lib.hid g2
  clear g1 g2 c0
  go_wp2
  go_ret
  exact ⟨x, y, rfl, G1.out, G2.out⟩
set_option maxHeartbeats 4000000 in
theorem read_calls (D : Nat → Prop) (w : World) (v : Value) (l : List UInt8) (hB : Byt D w v l) (hl : l.length ≤ 140737488355328) :
    Calls Tryz.prog 67 #[v] w fun e w' => ∃ q, e = .returned (.pointer (some ⟨q, 0, none⟩)) ∧ w.heap.size ≤ q ∧ ReaderIs (fun k => w.heap.size ≤ k ∧ k < q) w' q ⟨l, 0⟩ ∧ Below w.heap.size w w' := by
  obtain ⟨a, c, rfl, hk, _⟩ := id hB
  have HB := Lib.hid hB
  clear hB
  go_enter Tryz.func67, Tryz.ntmps67
  go_wp2_with fail
  refine (clone_calls D w _ l HB.out hl).mono ?_
  rintro e w2 ⟨x, y, rfl, g1, g2⟩
  have hz := g2.size
  have G := Lib.hid (show ReaderIs (fun k => w.heap.size ≤ k ∧ k < w2.heap.size) (w2.alloc (.cells #[.slice x l.length y, .int .i64 0] 160)) w2.heap.size ⟨l, 0⟩ from
    ⟨x, y, Blk.new _ _ _ _ rfl, ((g1.byt.lt).mono (fun k _ h => ⟨h.2.2, h.1⟩)).below ((Below.refl _ w2).alloc (Nat.le_refl _) _), by omega⟩)
  have G2 := Lib.hid (g2.alloc g2.size (.cells #[.slice x l.length y, .int .i64 0] 160))
  clear g1 g2
  go_wp2
  go_ret
  exact ⟨_, rfl, hz, G.out, G2.out⟩
theorem ReaderIs.setE {D : Nat → Prop} {w : World} {q : Nat} {a : Option Addr} {c : Nat} {l : List UInt8} {e : Int} (h1 : Blk w q [.slice a l.length c, .int .i64 e] 160) (h2 : Byt D w (.slice a l.length c) l) (h3 : ¬ D q) (e2 : Int) :
    ReaderIs D (w.setCell ⟨q, 1, none⟩ (.int .i64 e2)) q ⟨l, e2⟩ ∧ Fr (fun k => k = q) w (w.setCell ⟨q, 1, none⟩ (.int .i64 e2)) := by
  have hf : Fr (fun k => k = q) w (w.setCell ⟨q, 1, none⟩ (.int .i64 e2)) := (Fr.refl (fun k => k = q) w).setCell (p := ⟨q, 1, none⟩) (.inr rfl) _
  exact ⟨⟨a, c, h1.set 1 _, h2.fr hf (fun k _ hd e => h3 (e ▸ hd)), h3⟩, hf⟩
theorem ReaderIs.setB {D : Nat → Prop} {w : World} {q : Nat} {v0 : Value} {a : Option Addr} {n c : Nat} {l : List UInt8} {e : Int} (h1 : Blk w q [v0, .int .i64 e] 160) (h2 : Byt D w (.slice a n c) l) (hn : n = l.length) (h3 : ¬ D q) :
    ReaderIs D (w.setCell ⟨q, 0, none⟩ (.slice a n c)) q ⟨l, e⟩ ∧ Fr (fun k => k = q) w (w.setCell ⟨q, 0, none⟩ (.slice a n c)) := by
  subst hn
  have hf : Fr (fun k => k = q) w (w.setCell ⟨q, 0, none⟩ (.slice a l.length c)) := (Fr.refl (fun k => k = q) w).setCell (p := ⟨q, 0, none⟩) (.inr rfl) _
  exact ⟨⟨a, c, h1.set 0 _, h2.fr hf (fun k _ hd e => h3 (e ▸ hd)), h3⟩, hf⟩
/-- what take hands back -/
def TakeRet (D : Nat → Prop) (q : Nat) (x : Rd × List UInt8) (w : World) (e : Ending) (w' : World) : Prop :=
  ∃ v u, e = .returned (.tuple #[v, u]) ∧ Byt D w' v x.2 ∧ ReaderIs D w' q x.1 ∧ Fr (fun k => k = q) w w'
set_option maxHeartbeats 4000000 in
theorem take_calls (D : Nat → Prop) (w : World) (q : Nat) (r : Rd) (n : Nat) (H : ReaderIs D w q r) (_ : n < 9223372036854775808) :
    Calls Tryz.prog 104 #[.pointer (some ⟨q, 0, none⟩), .int .i64 n] w fun e w' => TakeRet D q (r.take n) w e w' := by
  obtain ⟨l, e⟩ := r
  obtain ⟨a, c, h1, h2, h3⟩ := H
  have c0 := h1.cell (i := 0) rfl
  have c1 := h1.cell (i := 1) rfl
  have f0 := h1.free 0
  have f1 := h1.free 1
  dsimp only at c0 c1 h1 h2
  have H1 := Lib.hid h1
  have H2 := Lib.hid h2
  have H3 := Lib.hid h3
  clear h1 h3
  by_cases he : e = 0
  · subst he
    by_cases hl : l.length < n
    · have ht : Rd.take ⟨l, 0⟩ n = (⟨l, 110⟩, []) := by simp [Rd.take, hl]
      rw [ht]
      have G := Lib.hid (ReaderIs.setE H1.out H2.out H3.out 110)
      have hz : (l.length : Int) < (n : Int) := by omega
      clear h2
      go_enter Tryz.func104, Tryz.ntmps104
      go_wp2
      go_ret2
      exact ⟨.slice none 0 0, .bool false, rfl, Byt.nil _ _, G.out.1, G.out.2⟩
    · have ht : Rd.take ⟨l, 0⟩ n = (⟨l.drop n, 0⟩, l.take n) := by simp [Rd.take, hl]
      rw [ht]
      obtain ⟨sa, scap, hs2, hs3⟩ := run_slice_hi elemB h2 n (by omega)
      obtain ⟨sb, sbc, ht2, ht3⟩ := run_slice_lo elemB h2 n (by omega)
      have hz : ¬ ((l.length : Int) < (n : Int)) := by omega
      have HS3 := Lib.hid hs3
      have G := Lib.hid (ReaderIs.setB H1.out ht3 (by simp) H3.out)
      clear h2 ht3 hs3
      go_enter Tryz.func104, Tryz.ntmps104
      go_wp2
      go_ret2
      exact ⟨.slice sa n scap, .bool true, rfl, HS3.out.fr G.out.2 (fun k _ hd e => H3.out (e ▸ hd)), G.out.1, G.out.2⟩
  · have hb : (e == 0) = false := by simpa using he
    have hb2 : (e != 0) = true := by simpa using he
    have ht : Rd.take ⟨l, e⟩ n = (⟨l, e⟩, []) := by simp [Rd.take, he]
    rw [ht]
    have G := Lib.hid (show ReaderIs D w q ⟨l, e⟩ from ⟨a, c, H1.out, H2.out, H3.out⟩)
    clear h2
    go_enter Tryz.func104, Tryz.ntmps104
    go_wp2
    go_ret2
    exact ⟨.slice none 0 0, .bool false, rfl, Byt.nil _ _, G.out, Fr.refl _ _⟩
theorem said_step (y : Nat) (c : UInt8) : bits .or .u64 (IntKind.u64.wrap ((y : Int) * 256)) (IntKind.u64.wrap (c.toNat : Int)) = (((256 * y + c.toNat) % 18446744073709551616 : Nat) : Int) := by
  have hc := c.toNat_lt
  have e1 : IntKind.u64.wrap ((y : Int) * 256) = (((y % 72057594037927936) * 256 : Nat) : Int) := by rw [IntKind.wrap_u64]; omega
  have e2 : IntKind.u64.wrap (c.toNat : Int) = (c.toNat : Int) := by rw [IntKind.wrap_u64]; omega
  rw [e1, e2, u64_or_nat _ _ (by omega) (by omega)]
  have h := Nat.shiftLeft_add_eq_or_of_lt (i := 8) (b := c.toNat) (by omega) (y % 72057594037927936)
  rw [Nat.shiftLeft_eq] at h
  rw [show (2 : Nat) ^ 8 = 256 from rfl] at h
  rw [← h]
  omega
set_option maxHeartbeats 4000000 in
theorem high_calls (D : Nat → Prop) (w : World) (q : Nat) (r : Rd) (n : Nat) (H : ReaderIs D w q r) (hn : n < 9223372036854775808) :
    Calls Tryz.prog 90 #[.pointer (some ⟨q, 0, none⟩), .int .i64 n] w fun e w' => e = .returned (.int .u64 ((r.num n).2 : Int)) ∧ ReaderIs D w' q (r.num n).1 ∧ Fr (fun k => k = q) w w' := by
  have H0 := Lib.hid H
  clear H
  go_enter Tryz.func90, Tryz.ntmps90
  go_wp2_with fail
  refine (take_calls D w q r n H0.out hn).mono ?_
  rintro e w2 ⟨v, u, rfl, g1, g2, g3⟩
  have hr1 : (r.num n).1 = (r.take n).1 := rfl
  have hr2 : (r.num n).2 = said (r.take n).2 := rfl
  obtain ⟨l, hl⟩ : ∃ l, (r.take n).2 = l := ⟨_, rfl⟩
  rw [hl] at g1 hr2
  rw [← hr1] at g2
  have HR := Lib.hid hr2
  obtain ⟨a, c, rfl, hk, hx⟩ := id g1
  have HX := Lib.hid hx
  have G2 := Lib.hid g2
  have G3 := Lib.hid g3
  clear g1 g2 g3 hr1 hr2 hl hx H0
  go_wp2
  go_loop [7, 18] (fun x i => ∃ k : Nat, k ≤ l.length ∧ i = .int .i64 k ∧ x = .int .u64 (said (l.take k) : Nat)) (fun _ i => l.length - (intOf i).toNat)
  case atStart => exact ⟨0, by omega, rfl, rfl⟩
  case round =>
    obtain ⟨k, hk2, rfl, rfl⟩ := hrel
    by_cases hlt : k < l.length
    · obtain ⟨b, off, rfl, _, hly⟩ := HX.out.resolve_left (by rintro rfl; simp at hlt)
      have c0 := hly k hlt
      have hsn : said (l.take (k + 1)) = (256 * said (l.take k) + (l[k]'hlt).toNat) % 18446744073709551616 := by
        rw [List.take_add_one, List.getElem?_eq_getElem hlt]; exact said_snoc _ _
      have hsl := said_lt (l.take k)
      have HSN := Lib.hid hsn
      clear hly hsn
      generalize said (l.take k) = y at *
      generalize l[k] = cc at *
      have hkm : k + 1 ≤ 9223372036854775807 := by
        have h1 := hk.1
        have h2 := hk.2.1
        unfold maxLen at h2
        omega
      go_wp2
      go_round
      case rel => exact ⟨k + 1, by omega, by go_num, by rw [HSN.out, ← said_step]⟩
      case measure => simp [intOf]; omega
    · obtain rfl : k = l.length := by omega
      go_wp2
      go_ret
      exact ⟨by rw [HR.out]; rfl, G2.out, G3.out⟩
theorem num_lt (r : Rd) (n : Nat) : (r.num n).2 < 18446744073709551616 := said_lt _
theorem num1_lt (r : Rd) : (r.num 1).2 < 256 := by
  have h : (r.take 1).2.length ≤ 1 := by
    unfold Rd.take
    split
    · simp
    · split
      · simp
      · simp; omega
  refine Nat.lt_of_lt_of_le (said_bound _ (by omega)) ?_
  exact Nat.pow_le_pow_right (n := 256) (by omega) h
set_option maxHeartbeats 4000000 in
set_option maxRecDepth 100000 in
theorem var_calls (D : Nat → Prop) (w : World) (q : Nat) (r : Rd) (most : Nat) (H : ReaderIs D w q r) (_ : most < 18446744073709551616) :
    Calls Tryz.prog 119 #[.pointer (some ⟨q, 0, none⟩), .int .u64 most] w fun e w' => e = .returned (.int .u64 ((r.var most).2 : Int)) ∧ ReaderIs D w' q (r.var most).1 ∧ Fr (fun k => k = q) w w' := by
  obtain ⟨a, c, h1, h2, h3⟩ := id H
  have c0 := h1.cell (i := 0) rfl
  have H0 := Lib.hid H
  have H2 := Lib.hid h2
  have H3 := Lib.hid h3
  clear H h1 h2 h3
  go_enter Tryz.func119, Tryz.ntmps119
  go_wp2_with fail
  refine (high_calls D w q r 1 H0.out (by omega)).mono ?_
  rintro e w2 ⟨rfl, g1, g2⟩
  have G1 := Lib.hid g1
  have G2 := Lib.hid g2
  have hc1 := num1_lt r
  clear g1 g2 H0 c0
  obtain ⟨cc, hcc⟩ : ∃ cc, (r.num 1).2 = cc := ⟨_, rfl⟩
  rw [hcc] at hc1 ⊢
  have HCC := Lib.hid hcc
  clear hcc
  go_upto_block 0 with fail
  go_cut [6, 7] (fun x y wx => ∃ nn least : Nat, x = .int .u64 nn ∧ y = .int .u64 least ∧ (r.num 1).1.more (r.num 1).2 = (((r.num 1).1.more (r.num 1).2).1, nn, least) ∧ nn < 18446744073709551616 ∧ ReaderIs D wx q ((r.num 1).1.more (r.num 1).2).1 ∧ Fr (fun k => k = q) w wx)
  case first =>
    by_cases h253 : cc = 253
    · subst h253
      go_wp2_with fail
      refine (high_calls D w2 q _ 2 G1.out (by omega)).mono ?_
      rintro e w3 ⟨rfl, g1, g2⟩
      have HM := Lib.hid (show (r.num 1).1.more (r.num 1).2 = (((r.num 1).1.num 2).1, ((r.num 1).1.num 2).2, 253) by rw [HCC.out]; rfl)
      have G3 := Lib.hid g1
      have G4 := Lib.hid (G2.out.trans g2)
      clear g1 g2
      go_wp2_with fail
      go_meet
      case rel => exact ⟨_, _, rfl, rfl, by rw [HM.out], num_lt _ _, by rw [HM.out]; exact G3.out, G4.out⟩
    by_cases h254 : cc = 254
    · subst h254
      go_wp2_with fail
      refine (high_calls D w2 q _ 4 G1.out (by omega)).mono ?_
      rintro e w3 ⟨rfl, g1, g2⟩
      have HM := Lib.hid (show (r.num 1).1.more (r.num 1).2 = (((r.num 1).1.num 4).1, ((r.num 1).1.num 4).2, 65536) by rw [HCC.out]; rfl)
      have G3 := Lib.hid g1
      have G4 := Lib.hid (G2.out.trans g2)
      clear g1 g2
      go_wp2_with fail
      go_meet
      case rel => exact ⟨_, _, rfl, rfl, by rw [HM.out], num_lt _ _, by rw [HM.out]; exact G3.out, G4.out⟩
    by_cases h255 : cc = 255
    · subst h255
      go_wp2_with fail
      refine (high_calls D w2 q _ 8 G1.out (by omega)).mono ?_
      rintro e w3 ⟨rfl, g1, g2⟩
      have HM := Lib.hid (show (r.num 1).1.more (r.num 1).2 = (((r.num 1).1.num 8).1, ((r.num 1).1.num 8).2, 4294967296) by rw [HCC.out]; rfl)
      have G3 := Lib.hid g1
      have G4 := Lib.hid (G2.out.trans g2)
      clear g1 g2
      go_wp2_with fail
      go_meet
      case rel => exact ⟨_, _, rfl, rfl, by rw [HM.out], num_lt _ _, by rw [HM.out]; exact G3.out, G4.out⟩
    · have hb1 : ((cc : Int) == 253) = false := by simp; omega
      have hb2 : ((cc : Int) == 254) = false := by simp; omega
      have hb3 : ((cc : Int) == 255) = false := by simp; omega
      have HM := Lib.hid (show (r.num 1).1.more (r.num 1).2 = ((r.num 1).1, cc, 0) by rw [HCC.out]; unfold Rd.more; rw [if_neg h253, if_neg h254, if_neg h255])
      go_wp2_with fail
      go_meet
      case rel => exact ⟨cc, 0, rfl, rfl, by rw [HM.out], by omega, by rw [HM.out]; exact G1.out, G2.out⟩
  case rest =>
    obtain ⟨nn, least, rfl, rfl, hmm, hnn, hR, hF⟩ := hcut
    obtain ⟨s, hs⟩ : ∃ s, ((r.num 1).1.more (r.num 1).2).1 = s := ⟨_, rfl⟩
    rw [hs] at hR hmm
    have hv : r.var most = if s.e ≠ 0 then (⟨r.rest, s.e⟩, 0) else if nn < least then (⟨r.rest, 111⟩, 0) else if most < nn then (⟨r.rest, 112⟩, 0) else (s, nn) := by
      unfold Rd.var
      rw [hmm]
    have HV := Lib.hid hv
    have HF := Lib.hid hF
    have HR := Lib.hid hR
    clear hv hmm hs hF HCC
    obtain ⟨l, e⟩ := s
    obtain ⟨a2, c2, h1, h2, h3⟩ := hR
    dsimp only at h1 h2 HV
    have c0 := h1.cell (i := 0) rfl
    have c1 := h1.cell (i := 1) rfl
    have f0 := h1.free 0
    have f1 := h1.free 1
    have H1 := Lib.hid h1
    have HB := Lib.hid (H2.out.fr HF.out (fun k _ hd e => H3.out (e ▸ hd)))
    clear h1 h2 h3
    by_cases he : e = 0
    · subst he
      by_cases hl : nn < least
      · have HT := Lib.hid (show r.var most = (⟨r.rest, 111⟩, 0) by rw [HV.out]; simp [hl])
        have hE := H1.out.set 1 (.int .i64 111)
        have hF2 : Fr (fun k => k = q) wc (wc.setCell ⟨q, 1, none⟩ (.int .i64 111)) := (Fr.refl (fun k => k = q) wc).setCell (p := ⟨q, 1, none⟩) (.inr rfl) _
        have G := Lib.hid (ReaderIs.setB hE (HB.out.fr hF2 (fun k _ hd e => H3.out (e ▸ hd))) rfl H3.out)
        have GF := Lib.hid ((HF.out.trans hF2).trans G.out.2)
        clear hE hF2
        go_wp2
        go_ret
        exact ⟨by rw [HT.out]; rfl, by rw [HT.out]; exact G.out.1, GF.out⟩
      · by_cases hl2 : most < nn
        · have HT := Lib.hid (show r.var most = (⟨r.rest, 112⟩, 0) by rw [HV.out]; simp [hl, hl2])
          have hE := H1.out.set 1 (.int .i64 112)
          have hF2 : Fr (fun k => k = q) wc (wc.setCell ⟨q, 1, none⟩ (.int .i64 112)) := (Fr.refl (fun k => k = q) wc).setCell (p := ⟨q, 1, none⟩) (.inr rfl) _
          have G := Lib.hid (ReaderIs.setB hE (HB.out.fr hF2 (fun k _ hd e => H3.out (e ▸ hd))) rfl H3.out)
          have GF := Lib.hid ((HF.out.trans hF2).trans G.out.2)
          have hz : ¬ ((nn : Int) < (least : Int)) := by omega
          clear hE hF2
          go_wp2
          go_ret
          exact ⟨by rw [HT.out]; rfl, by rw [HT.out]; exact G.out.1, GF.out⟩
        · have HT := Lib.hid (show r.var most = (⟨l, 0⟩, nn) by rw [HV.out]; simp [hl, hl2])
          have hz : ¬ ((nn : Int) < (least : Int)) := by omega
          have hz2 : ¬ ((most : Int) < (nn : Int)) := by omega
          go_wp2
          go_ret
          exact ⟨by rw [HT.out]; rfl, by rw [HT.out]; exact HR.out, HF.out⟩
    · have hb2 : (e != 0) = true := by simpa using he
      have HT := Lib.hid (show r.var most = (⟨r.rest, e⟩, 0) by rw [HV.out]; simp [he])
      have G := Lib.hid (ReaderIs.setB H1.out HB.out rfl H3.out)
      have GF := Lib.hid (HF.out.trans G.out.2)
      go_wp2
      go_ret
      exact ⟨by rw [HT.out]; rfl, by rw [HT.out]; exact G.out.1, GF.out⟩
theorem num4_lt (r : Rd) : (r.num 4).2 < 4294967296 := by
  have h : (r.take 4).2.length ≤ 4 := by
    unfold Rd.take
    split
    · simp
    · split
      · simp
      · simp; omega
  refine Nat.lt_of_lt_of_le (said_bound _ (by omega)) ?_
  exact Nat.pow_le_pow_right (n := 256) (by omega) h
set_option maxHeartbeats 4000000 in
theorem long_calls (D : Nat → Prop) (w : World) (q : Nat) (r : Rd) (H : ReaderIs D w q r) :
    Calls Tryz.prog 69 #[.pointer (some ⟨q, 0, none⟩)] w fun e w' => e = .returned (.int .u64 ((r.num 8).2 : Int)) ∧ ReaderIs D w' q (r.num 8).1 ∧ Fr (fun k => k = q) w w' := by
  have hb : (r.num 8).2 < 18446744073709551616 := num_lt r 8
  have H0 := Lib.hid H
  clear H
  go_enter Tryz.func69, Tryz.ntmps69
  go_wp2_with fail
  refine (high_calls D w q r 8 H0.out (by omega)).mono ?_
  rintro e w2 ⟨rfl, g1, g2⟩
  have G1 := Lib.hid g1
  have G2 := Lib.hid g2
  clear g1 g2
  obtain ⟨y, hy⟩ : ∃ y, (r.num 8).2 = y := ⟨_, rfl⟩
  have HY := Lib.hid hy
  rw [hy] at hb ⊢
  clear hy
  go_wp2
  go_ret
  exact ⟨by rw [HY.out]; rfl, G1.out, G2.out⟩
set_option maxHeartbeats 4000000 in
theorem end_calls (D : Nat → Prop) (w : World) (q : Nat) (r : Rd) (H : ReaderIs D w q r) :
    Calls Tryz.prog 68 #[.pointer (some ⟨q, 0, none⟩)] w fun e w' => e = .returned (.int .i64 r.fin) ∧ w = w' := by
  obtain ⟨l, e⟩ := r
  obtain ⟨a, c, h1, h2, h3⟩ := H
  dsimp only at h1
  have c0 := h1.cell (i := 0) rfl
  have c1 := h1.cell (i := 1) rfl
  clear h1 h2 h3
  by_cases he : e = 0
  · subst he
    by_cases hl : 0 < l.length
    · have ht : Rd.fin ⟨l, 0⟩ = 113 := by unfold Rd.fin; rw [if_pos ⟨rfl, hl⟩]
      rw [ht]
      have hz : (0 : Int) < (l.length : Int) := by omega
      go_enter Tryz.func68, Tryz.ntmps68
      go_wp2
      go_ret
      exact ⟨rfl, rfl⟩
    · have ht : Rd.fin ⟨l, 0⟩ = 0 := by unfold Rd.fin; rw [if_neg (fun h => hl h.2)]
      rw [ht]
      have hz : ¬ ((0 : Int) < (l.length : Int)) := by omega
      go_enter Tryz.func68, Tryz.ntmps68
      go_wp2
      go_ret
      exact ⟨rfl, rfl⟩
  · have ht : Rd.fin ⟨l, e⟩ = e := by unfold Rd.fin; rw [if_neg (fun h => he h.1)]
    rw [ht]
    have hb : (e == 0) = false := by simpa using he
    go_enter Tryz.func68, Tryz.ntmps68
    go_wp2
    go_ret
    exact ⟨rfl, rfl⟩
set_option maxHeartbeats 4000000 in
theorem fail_calls (D : Nat → Prop) (w : World) (q : Nat) (r : Rd) (x : Int) (H : ReaderIs D w q r) :
    Calls Tryz.prog 115 #[.pointer (some ⟨q, 0, none⟩), .int .i64 x] w fun e w' => e = .returned (.tuple #[]) ∧ ReaderIs D w' q (r.fail x) ∧ Fr (fun k => k = q) w w' := by
  obtain ⟨l, e⟩ := r
  have HR := Lib.hid H
  obtain ⟨a, c, h1, h2, h3⟩ := H
  dsimp only at h1 h2
  have c1 := h1.cell (i := 1) rfl
  have f1 := h1.free 1
  by_cases he : e = 0
  · subst he
    have ht : Rd.fail ⟨l, 0⟩ x = ⟨l, x⟩ := by unfold Rd.fail; rw [if_pos rfl]
    rw [ht]
    have G := Lib.hid (ReaderIs.setE h1 h2 h3 x)
    clear h1 h2 h3
    go_enter Tryz.func115, Tryz.ntmps115
    go_wp2
    go_end0
    exact ⟨rfl, G.out.1, G.out.2⟩
  · have ht : Rd.fail ⟨l, e⟩ x = ⟨l, e⟩ := by unfold Rd.fail; rw [if_neg he]
    rw [ht]
    have hb : (e == 0) = false := by simpa using he
    clear h1 h2 h3
    go_enter Tryz.func115, Tryz.ntmps115
    go_wp2
    go_end0
    exact ⟨rfl, HR.out, Fr.refl _ _⟩
theorem var_lt (r : Rd) (most : Nat) : (r.var most).2 ≤ most := by
  unfold Rd.var
  dsimp only
  split
  · exact Nat.zero_le _
  · split
    · exact Nat.zero_le _
    · split
      · exact Nat.zero_le _
      · rename_i h; exact Nat.le_of_not_lt h
theorem room_le (r : Rd) (most : Int) (h : most < 9223372036854775808) : (r.room most).2 < 9223372036854775808 := by
  unfold Rd.room
  dsimp only
  split
  · simp
  · have := var_lt r most.toNat
    omega
set_option maxHeartbeats 4000000 in
set_option maxRecDepth 100000 in
theorem room_calls (D : Nat → Prop) (w : World) (q : Nat) (r : Rd) (most : Int) (H : ReaderIs D w q r) (h1 : -9223372036854775808 ≤ most) (h2 : most < 9223372036854775808) :
    Calls Tryz.prog 114 #[.pointer (some ⟨q, 0, none⟩), .int .i64 most] w fun e w' => e = .returned (.int .u64 ((r.room most).2 : Int)) ∧ ReaderIs D w' q (r.room most).1 ∧ Fr (fun k => k = q) w w' := by
  obtain ⟨a, c, g1, g2, g3⟩ := id H
  have c0 := g1.cell (i := 0) rfl
  have H0 := Lib.hid H
  have H2 := Lib.hid g2
  have H3 := Lib.hid g3
  clear H g1 g2 g3
  by_cases hm : most < 0
  · have HT := Lib.hid (show r.room most = if (r.var 0).1.e = 0 then (⟨r.rest, 112⟩, 0) else r.var 0 by
      unfold Rd.room
      rw [show most.toNat = 0 from by omega]
      dsimp only
      by_cases he : (r.var 0).1.e = 0
      · rw [if_pos he, if_pos ⟨hm, he⟩]
      · rw [if_neg he, if_neg (fun h => he h.2)])
    go_enter Tryz.func114, Tryz.ntmps114
    go_wp2_with fail
    refine (var_calls D w q r 0 H0.out (by omega)).mono ?_
    rintro e w2 ⟨rfl, g1, g2⟩
    have HR := Lib.hid g1
    have HF := Lib.hid g2
    clear c0
    obtain ⟨nn, hnn⟩ : ∃ nn, (r.var 0).2 = nn := ⟨_, rfl⟩
    obtain ⟨s, hs⟩ : ∃ s, (r.var 0).1 = s := ⟨_, rfl⟩
    rw [hs] at g1
    rw [hs] at HR
    have HVV := Lib.hid (show r.var 0 = (s, nn) from Prod.ext hs hnn)
    rw [HVV.out] at HT
    clear g2 H0 hs
    rw [hnn]
    clear hnn
    obtain ⟨l, e⟩ := s
    obtain ⟨a2, c2, x1, x2, x3⟩ := g1
    dsimp only at x1 HT
    have c0 := x1.cell (i := 0) rfl
    have c1 := x1.cell (i := 1) rfl
    have f0 := x1.free 0
    have f1 := x1.free 1
    have X1 := Lib.hid x1
    have HB := Lib.hid (H2.out.fr HF.out (fun k _ hd e => H3.out (e ▸ hd)))
    clear x1 x2 x3
    by_cases he : e = 0
    · subst he
      have hE := X1.out.set 1 (.int .i64 112)
      have hF2 : Fr (fun k => k = q) w2 (w2.setCell ⟨q, 1, none⟩ (.int .i64 112)) := (Fr.refl (fun k => k = q) w2).setCell (p := ⟨q, 1, none⟩) (.inr rfl) _
      have G := Lib.hid (ReaderIs.setB hE (HB.out.fr hF2 (fun k _ hd e => H3.out (e ▸ hd))) rfl H3.out)
      have GF := Lib.hid ((HF.out.trans hF2).trans G.out.2)
      clear hE hF2
      go_wp2
      go_ret
      exact ⟨by rw [HT.out]; rfl, by rw [HT.out]; exact G.out.1, GF.out⟩
    · have hb2 : (e == 0) = false := by simpa using he
      have HT2 := Lib.hid (show r.room most = (⟨l, e⟩, nn) by rw [HT.out, if_neg he])
      go_wp2
      go_ret
      exact ⟨by rw [HT2.out]; rfl, by rw [HT2.out]; exact HR.out, HF.out⟩
  · obtain ⟨n, rfl⟩ : ∃ n : Nat, most = (n : Int) := ⟨most.toNat, by omega⟩
    have HT := Lib.hid (show r.room (n : Int) = r.var n by
      unfold Rd.room
      rw [show (n : Int).toNat = n from by omega]
      dsimp only
      rw [if_neg (fun h => hm h.1)])
    have hz : (0 : Int) ≤ (n : Int) := by omega
    have hd : decide ((n : Int) < 0) = false := by simp
    go_enter Tryz.func114, Tryz.ntmps114
    go_wp2_with fail
    refine (var_calls D w q r n H0.out (by omega)).mono ?_
    rintro e w2 ⟨rfl, g1, g2⟩
    have HR := Lib.hid g1
    have HF := Lib.hid g2
    clear c0 g1 g2 H0
    obtain ⟨nn, hnn⟩ : ∃ nn, (r.var n).2 = nn := ⟨_, rfl⟩
    rw [hnn]
    have HN := Lib.hid hnn
    clear hnn h1 h2
    go_wp2
    go_ret
    exact ⟨by rw [HT.out, HN.out]; rfl, by rw [HT.out]; exact HR.out, HF.out⟩
set_option maxHeartbeats 4000000 in
theorem raw_r_calls (D : Nat → Prop) (w : World) (q : Nat) (r : Rd) (n : Int) (H : ReaderIs D w q r) (h1 : -9223372036854775808 ≤ n) (h2 : n < 9223372036854775808) (hl : r.rest.length ≤ 140737488355328) :
    Calls Tryz.prog 106 #[.pointer (some ⟨q, 0, none⟩), .int .i64 n] w fun e w' => ∃ a c, e = .returned (.slice a (r.raw n).2.length c) ∧ OwnB w.heap.size 5 w' (.slice a (r.raw n).2.length c) (r.raw n).2 ∧ ReaderIs D w' q (r.raw n).1 ∧ Fr (fun k => k = q) w w' := by
  have H0 := Lib.hid H
  clear H
  by_cases hn : n < 0
  · have ht : r.raw n = (r.fail 112, []) := by unfold Rd.raw; rw [if_pos hn]
    rw [ht]
    go_enter Tryz.func106, Tryz.ntmps106
    go_wp2_with fail
    refine (fail_calls D w q r 112 H0.out).mono ?_
    rintro e w2 ⟨rfl, g1, g2⟩
    have HR := Lib.hid g1
    have HF := Lib.hid g2
    clear g1 g2 H0
    go_wp2
    go_ret
    exact ⟨none, 0, rfl, OwnB.nil _ _ _, HR.out, HF.out⟩
  · obtain ⟨m, rfl⟩ : ∃ m : Nat, n = (m : Int) := ⟨n.toNat, by omega⟩
    have ht : r.raw (m : Int) = r.take m := by unfold Rd.raw; rw [if_neg hn, show (m : Int).toNat = m from by omega]
    rw [ht]
    have hz : ¬ ((m : Int) < 0) := by omega
    have hlt : (r.take m).2.length ≤ 140737488355328 := by
      unfold Rd.take
      split
      · simp
      · split
        · simp
        · simp; omega
    go_enter Tryz.func106, Tryz.ntmps106
    go_wp2_with fail
    refine (take_calls D w q r m H0.out (by omega)).mono ?_
    rintro e w2 ⟨v, u, rfl, g0, g1, g2⟩
    have HR := Lib.hid g1
    have HF := Lib.hid g2
    have HV := Lib.hid g0
    have hs := g2.size
    clear g0 g1 g2 H0 ht
    obtain ⟨x, hx⟩ : ∃ x, r.take m = x := ⟨_, rfl⟩
    rw [hx] at HR HV hlt
    have HX := Lib.hid hx
    clear hx
    go_wp2_with fail
    refine (clone_calls D w2 v x.2 HV.out hlt).mono ?_
    rintro e w3 ⟨a, c, rfl, g1, g2⟩
    have G1 := Lib.hid (g1.mono hs)
    have G2 := Lib.hid (HR.out.below g2)
    have G3 := Lib.hid (HF.out.trans (Fr.ofBelowAll g2 (Nat.le_refl _)))
    clear g1 g2
    go_wp2
    go_ret
    exact ⟨a, c, by rw [HX.out]; rfl, by rw [HX.out]; exact G1.out, by rw [HX.out]; exact G2.out, G3.out⟩
theorem Rd.take_len (r : Rd) (n : Nat) : (r.take n).1.rest.length ≤ r.rest.length ∧ (r.take n).2.length ≤ r.rest.length := by
  unfold Rd.take
  split
  · simp
  · split
    · simp
    · simp; omega
theorem Rd.more_len (s : Rd) (c : Nat) : (s.more c).1.rest.length ≤ s.rest.length := by
  unfold Rd.more
  split
  · exact (Rd.take_len s 2).1
  · split
    · exact (Rd.take_len s 4).1
    · split
      · exact (Rd.take_len s 8).1
      · exact Nat.le_refl _
theorem Rd.var_len (r : Rd) (most : Nat) : (r.var most).1.rest.length ≤ r.rest.length := by
  have h := Nat.le_trans (Rd.more_len (r.num 1).1 (r.num 1).2) (Rd.take_len r 1).1
  unfold Rd.var
  dsimp only
  split
  · exact Nat.le_refl _
  · split
    · exact Nat.le_refl _
    · split
      · exact Nat.le_refl _
      · exact h
theorem Rd.room_len (r : Rd) (most : Int) : (r.room most).1.rest.length ≤ r.rest.length := by
  unfold Rd.room
  dsimp only
  split
  · exact Nat.le_refl _
  · exact Rd.var_len r _
end Go.Proofs.YtmenchnjajpkmaaGreatDoor.CodecR
end

section
namespace Go.Proofs.YtmenchnjajpkmaaGreatDoor.Read
open Go Go.RowKit Go.ChangeShapes Go.WideShapes Mem
variable {H : Type} {enc : TypeId × Value → H} {P : Program} {W : World}

def u8of (n : Int) : UInt8 := UInt8.ofNat n.toNat
theorem u8of_eq {n : Int} (h : (Lit.int .u8 n).wf = true) : ((u8of n).toNat : Int) = n := by
  have := bounds_u8 h
  unfold u8of
  rw [UInt8.toNat_ofNat']; omega

theorem read_bytes {t e : TypeId} {v : Value} {d : DataW H} {ps : List MemPlace} {held spare} {base b0 : Nat} (ht : P.underlying t = some (.slice e)) (he : P.underlying e = some (.int .u8)) (hc : P.cellsOf e = 1)
    (hval : Value.okWide P W .any b0 t v) (h : DataW.Trod enc P W base spare held t v d ps) :
    ∃ l, Byt Any W v l ∧ ((d = .nil ∧ l = []) ∨ ∃ el sp, d = .slice el sp ∧ el.length = l.length) := by
  obtain ⟨a, len, cap, rfl⟩ := okWide_slice ht hval
  obtain ⟨fuel, hf⟩ := h
  rcases open_ints ht he hc hf with ⟨hcs, hx⟩ | ⟨x, l, c, zs, hcs, _, hl, hm, hz, hx, hcell, hwz⟩
  · simp [Value.cells] at hcs
    obtain ⟨rfl, rfl, rfl⟩ := hcs
    simp only [Prod.mk.injEq] at hx
    exact ⟨[], Byt.nil _ _, .inl ⟨hx.1, rfl⟩⟩
  · simp [Value.cells] at hcs
    obtain ⟨rfl, rfl, rfl⟩ := hcs
    simp only [Prod.mk.injEq] at hx
    have hzl : len ≤ zs.length := by rw [hz]; split <;> omega
    have hlen : ((zs.take len).map u8of).length = len := by simp; omega
    refine ⟨(zs.take len).map u8of, ⟨some x, cap, by rw [hlen], ⟨by omega, hm, fun h => by cases h⟩, ?_⟩, .inr ⟨_, _, hx.1, by simp [lits]⟩⟩
    by_cases h0 : len = 0
    · left; subst h0; rfl
    · right
      obtain ⟨b, off, rfl, hc2⟩ := ints_at hcell (by omega)
      refine ⟨b, off, rfl, trivial, fun i hi => ?_⟩
      have hi2 : i < len := by omega
      have h3 := hc2 i (by omega)
      rw [h3]
      have hw := hwz (zs[i]'(by omega)) (List.getElem_mem _)
      simp [u8of_eq hw, List.getElem?_eq_getElem (show i < zs.length by omega)]
theorem reach_bytes {ts : List TypeId} {ds : List (DataW H)} (hsz : (DataW.weightsEach P ts ds).all (· ≤ reachBytes) = true) {j : Nat} {t e : TypeId} {d : DataW H} {l : List UInt8}
    (hj : ts[j]? = some t) (hd : ds[j]? = some d) (hu : P.underlying t = some (.slice e)) (hb : P.bytesOf e = 1) (h : (d = .nil ∧ l = []) ∨ ∃ el sp, d = .slice el sp ∧ el.length = l.length) :
    l.length ≤ 140737488351232 := by
  rcases h with ⟨_, rfl⟩ | ⟨el, sp, rfl, hl⟩
  · simp
  · have := sized_slice hsz hj hd hu
    rw [hb] at this
    simp only [reachBytes] at this
    omega
/-- an array of bytes that came in -/
theorem read_arr {t e : TypeId} {n : Nat} {v : Value} {d : DataW H} {ps : List MemPlace} {held spare} {base b0 : Nat} (ht : P.underlying t = some (.array n e)) (he : P.underlying e = some (.int .u8)) (hc : P.cellsOf e = 1) (hct : P.cellsOf t = n)
    (hval : Value.okWide P W .any b0 t v) (h : DataW.Trod enc P W base spare held t v d ps) :
    ∃ l : List UInt8, v = .agg (l.map byt).toArray ∧ l.length = n := by
  simp only [Value.okWide, ht] at hval
  obtain ⟨cs, rfl, hsz, _⟩ := hval
  obtain ⟨fuel, hf⟩ := h
  obtain ⟨xs, m, rfl, _, _, hx, hall⟩ := DataW.trod_array ht hf
  rw [hct] at hsz
  have hcell : ∀ i, (hi : i < n) → ∃ c : UInt8, cs[i]'(by omega) = byt c := by
    intro i hi
    have h1 := hall i hi
    rw [hc, Nat.mul_one, List.getElem?_eq_getElem (by omega : i < xs.length)] at h1
    obtain ⟨z, hz, _, hw⟩ := DataW.trod_int he h1
    refine ⟨u8of z, ?_⟩
    have h2 : (((Value.agg cs).cells.toList).drop i).take 1 = [cs[i]'(by omega)] := by
      simp only [Value.cells]
      rw [List.take_one, List.head?_drop]
      simp [hsz, hi]
    rw [h2] at hz
    simp only [List.cons.injEq, and_true] at hz
    rw [hz, byt, u8of_eq hw]
  refine ⟨(List.range n).map fun i => if h : i < n then (hcell i h).choose else 0, ?_, by simp⟩
  congr 1
  apply Array.ext
  · simp [hsz]
  · intro i h1 h2
    have hi : i < n := by omega
    have := (hcell i hi).choose_spec
    rw [this]
    simp [hi]
end Go.Proofs.YtmenchnjajpkmaaGreatDoor.Read
end

section
namespace Go.Proofs.YtmenchnjajpkmaaGreatDoor.CodecN
open Go Go.RowKit Mem Codec CodecW
set_option maxHeartbeats 4000000 in
set_option maxRecDepth 100000 in
theorem number_calls (w : World) (n many : Nat) (hn : n < 18446744073709551616) (hm : many ≤ 8) :
    Calls Tryz.prog 81 #[.int .u64 n, .int .i64 many] w fun e w' => ∃ a c, e = .returned (.slice a many c) ∧ OwnB w.heap.size 5 w' (.slice a many c) (num n many) ∧ Below w.heap.size w w' := by
  go_enter Tryz.func81, Tryz.ntmps81
  go_wp2
  go_loopw [5, 6] (fun v i wx => ∃ (j : Nat) (x : List UInt8), j ≤ many ∧ i = .int .i64 ((j : Int) - 1) ∧ num n many = x ++ num n j ∧ x.length + j = many ∧ OwnB w.heap.size 5 wx v x ∧ Below w.heap.size w wx) (fun _ i _ => (intOf i + 1).toNat)
  case atStart => exact ⟨many, [], Nat.le_refl _, rfl, rfl, by simp, OwnB.nil _ _ _, Below.refl _ _⟩
  case round =>
    obtain ⟨j, x, hj, rfl, hx, hxl, hO, hB⟩ := hrel
    obtain ⟨xa, xc, rfl, _⟩ := id hO.byt
    have HX := Lib.hid hx
    have HO := Lib.hid hO
    have HB := Lib.hid hB
    have hsz := hB.size
    clear hx hO hB
    by_cases h0 : 0 < j
    · obtain ⟨i, rfl⟩ : ∃ i, j = i + 1 := ⟨j - 1, by omega⟩
      go_wp2
      go_loop [7, 8] (fun k l => ∃ t : Nat, t ≤ i ∧ l = .int .i64 t ∧ k = .int .u64 ((n / 256 ^ t : Nat) : Int)) (fun _ l => i - (intOf l).toNat)
      case atStart => exact ⟨0, by omega, rfl, by simp⟩
      case round =>
        obtain ⟨t, ht, rfl, rfl⟩ := hrel
        have HT := Lib.hid (show n / 256 ^ (t + 1) = n / 256 ^ t / 256 by rw [Nat.pow_succ, Nat.div_div_eq_div_mul])
        have hty : n / 256 ^ t < 18446744073709551616 := Nat.lt_of_le_of_lt (Nat.div_le_self _ _) hn
        by_cases hlt : t < i
        · generalize n / 256 ^ t = y at *
          go_wp2
          go_round
          case rel => exact ⟨t + 1, by omega, by go_num, by rw [HT.out, Int.natCast_ediv]; rfl⟩
          case measure => simp [intOf]; omega
        · obtain rfl : t = i := by omega
          have HC := Lib.hid (show ((n / 256 ^ t : Nat) : Int) % 256 = ((UInt8.ofNat (n / 256 ^ t)).toNat : Int) by rw [UInt8.toNat_ofNat']; omega)
          have HN := Lib.hid (show num n (t + 1) = UInt8.ofNat (n / 256 ^ t) :: num n t from rfl)
          clear HT
          generalize n / 256 ^ t = y at *
          go_wp2_with (at_builtin; refine wpList_append_one _ rfl (.tmp 23) (.tmp 27) 25 rfl w.heap.size 5 elemB _ x rfl HO.out _ (UInt8.ofNat y) HC.out rfl (by omega) hsz ?_)
          intro va2 vc2 w2 o1 o2 o3
          have HB2 := Lib.hid (HB.out.trans (o2.below hsz (fun k hk => (HO.out.lt k hk).1)))
          have HO2 := Lib.hid o1
          clear o1 o2 o3 HO HB HC
          go_wp2
          go_roundw
          case rel => exact ⟨t, x ++ [UInt8.ofNat y], by omega, by simp, by rw [HX.out, HN.out]; simp, by simp; omega, HO2.out, HB2.out⟩
          case measure => simp [intOf]
    · obtain rfl : j = 0 := by omega
      have hxx : num n many = x := by rw [HX.out]; simp [num]
      have hxl2 : x.length = many := by omega
      have HXX := Lib.hid hxx
      have HXL := Lib.hid hxl2
      clear hxx hxl2
      go_wp2
      go_ret
      exact ⟨xa, xc, by rw [← HXL.out]; rfl, by rw [HXX.out, ← HXL.out]; exact HO.out, HB.out⟩
theorem own_one (w : World) (n : Int) (c : UInt8) (h : n = (c.toNat : Int)) : OwnB w.heap.size 5 (w.alloc (.cells #[.int .u8 n] 5)) (.slice (some ⟨w.heap.size, 0, none⟩) 1 1) [c] := by
  subst h
  exact World.ownsRow_lit w #[byt c] 1 (Nat.le_refl _) (by unfold maxLen; omega) rfl
set_option maxHeartbeats 4000000 in
set_option maxRecDepth 100000 in
theorem ref_var_calls (w : World) (n : Nat) (hn : n < 18446744073709551616) :
    Calls Tryz.prog 83 #[.int .u64 n] w fun e w' => ∃ v, e = .returned v ∧ OwnB w.heap.size 5 w' v (var n) ∧ Below w.heap.size w w' := by
  go_enter Tryz.func83, Tryz.ntmps83
  by_cases h1 : n < 253
  · have hv : var n = [UInt8.ofNat n] := by unfold var; rw [if_pos h1]
    have HO := Lib.hid (own_one w (n : Int) (UInt8.ofNat n) (by rw [UInt8.toNat_ofNat']; omega))
    have hz1 : (n : Int) < 253 := by omega
    go_wp2
    go_ret
    exact ⟨_, rfl, by rw [hv]; exact HO.out, (Below.refl _ _).alloc (Nat.le_refl _) _⟩
  by_cases h2 : n < 65536
  · have hv : var n = 253 :: num n 2 := by unfold var; rw [if_neg h1, if_pos h2]
    have hz1 : ¬ ((n : Int) < 253) := by omega
    have hz2 : ¬ ((65536 : Int) ≤ (n : Int)) := by omega
    have hz3 : ¬ ((4294967296 : Int) ≤ (n : Int)) := by omega
    have HO := Lib.hid (own_one w 253 253 rfl)
    have HB := Lib.hid (show Below w.heap.size w (w.alloc (.cells #[.int .u8 253] 5)) from (Below.refl _ _).alloc (Nat.le_refl _) _)
    have HV := Lib.hid hv
    have hs1 : (w.alloc (.cells #[.int .u8 253] 5)).heap.size = w.heap.size + 1 := by simp
    go_upto_region 10 with fail
    generalize (w.alloc (.cells #[.int .u8 253] 5)) = w1 at *
    go_wp2_with fail
    refine (number_calls w1 n 2 hn (by omega)).mono ?_
    rintro e w2 ⟨a, c, rfl, g1, g2⟩
    have hs2 := g2.size
    have HN := Lib.hid g1.byt
    have HO2 := Lib.hid (HO.out.below g2)
    have HB2 := Lib.hid (HB.out.trans (g2.mono (by omega)))
    have hnl : (num n 2).length = 2 := num_length n 2
    clear g1 g2 HO HB
    go_wp2_with (at_builtin; refine wpList_append_byt _ rfl (.tmp 17) (.tmp 20) 25 rfl w.heap.size 5 elemB _ [253] rfl HO2.out _ (num n 2) rfl HN.out (by rw [hnl]; simp) (by omega) ?_)
    intro va vc w3 o1 o2 o3
    have HB3 := Lib.hid (HB2.out.grown o2 (by omega) (fun k hk => (HO2.out.lt k hk).1))
    have HO3 := Lib.hid o1
    clear o1 o2 o3 HO2 HB2
    go_wp2
    go_ret
    exact ⟨_, rfl, by rw [HV.out]; exact HO3.out, HB3.out⟩
  by_cases h3 : n < 4294967296
  · have hv : var n = 254 :: num n 4 := by unfold var; rw [if_neg h1, if_neg h2, if_pos h3]
    have hz1 : ¬ ((n : Int) < 253) := by omega
    have hz2 : (65536 : Int) ≤ (n : Int) := by omega
    have hz3 : ¬ ((4294967296 : Int) ≤ (n : Int)) := by omega
    have HO := Lib.hid (own_one w 254 254 rfl)
    have HB := Lib.hid (show Below w.heap.size w (w.alloc (.cells #[.int .u8 254] 5)) from (Below.refl _ _).alloc (Nat.le_refl _) _)
    have HV := Lib.hid hv
    have hs1 : (w.alloc (.cells #[.int .u8 254] 5)).heap.size = w.heap.size + 1 := by simp
    go_upto_region 10 with fail
    generalize (w.alloc (.cells #[.int .u8 254] 5)) = w1 at *
    go_wp2_with fail
    refine (number_calls w1 n 4 hn (by omega)).mono ?_
    rintro e w2 ⟨a, c, rfl, g1, g2⟩
    have hs2 := g2.size
    have HN := Lib.hid g1.byt
    have HO2 := Lib.hid (HO.out.below g2)
    have HB2 := Lib.hid (HB.out.trans (g2.mono (by omega)))
    have hnl : (num n 4).length = 4 := num_length n 4
    clear g1 g2 HO HB
    go_wp2_with (at_builtin; refine wpList_append_byt _ rfl (.tmp 17) (.tmp 20) 25 rfl w.heap.size 5 elemB _ [254] rfl HO2.out _ (num n 4) rfl HN.out (by rw [hnl]; simp) (by omega) ?_)
    intro va vc w3 o1 o2 o3
    have HB3 := Lib.hid (HB2.out.grown o2 (by omega) (fun k hk => (HO2.out.lt k hk).1))
    have HO3 := Lib.hid o1
    clear o1 o2 o3 HO2 HB2
    go_wp2
    go_ret
    exact ⟨_, rfl, by rw [HV.out]; exact HO3.out, HB3.out⟩
  · have hv : var n = 255 :: num n 8 := by unfold var; rw [if_neg h1, if_neg h2, if_neg h3]
    have hz1 : ¬ ((n : Int) < 253) := by omega
    have hz2 : (65536 : Int) ≤ (n : Int) := by omega
    have hz3 : (4294967296 : Int) ≤ (n : Int) := by omega
    have HO := Lib.hid (own_one w 255 255 rfl)
    have HB := Lib.hid (show Below w.heap.size w (w.alloc (.cells #[.int .u8 255] 5)) from (Below.refl _ _).alloc (Nat.le_refl _) _)
    have HV := Lib.hid hv
    have hs1 : (w.alloc (.cells #[.int .u8 255] 5)).heap.size = w.heap.size + 1 := by simp
    go_upto_region 10 with fail
    generalize (w.alloc (.cells #[.int .u8 255] 5)) = w1 at *
    go_wp2_with fail
    refine (number_calls w1 n 8 hn (by omega)).mono ?_
    rintro e w2 ⟨a, c, rfl, g1, g2⟩
    have hs2 := g2.size
    have HN := Lib.hid g1.byt
    have HO2 := Lib.hid (HO.out.below g2)
    have HB2 := Lib.hid (HB.out.trans (g2.mono (by omega)))
    have hnl : (num n 8).length = 8 := num_length n 8
    clear g1 g2 HO HB
    go_wp2_with (at_builtin; refine wpList_append_byt _ rfl (.tmp 17) (.tmp 20) 25 rfl w.heap.size 5 elemB _ [255] rfl HO2.out _ (num n 8) rfl HN.out (by rw [hnl]; simp) (by omega) ?_)
    intro va vc w3 o1 o2 o3
    have HB3 := Lib.hid (HB2.out.grown o2 (by omega) (fun k hk => (HO2.out.lt k hk).1))
    have HO3 := Lib.hid o1
    clear o1 o2 o3 HO2 HB2
    go_wp2
    go_ret
    exact ⟨_, rfl, by rw [HV.out]; exact HO3.out, HB3.out⟩
end Go.Proofs.YtmenchnjajpkmaaGreatDoor.CodecN
end

section
namespace Go.Proofs.YtmenchnjajpkmaaGreatDoor.Codec
theorem Rd.take_ok {r : Rd} {n : Nat} (h : (r.take n).1.e = 0) : r.e = 0 ∧ r.rest = (r.take n).2 ++ (r.take n).1.rest ∧ (r.take n).2.length = n := by
  unfold Rd.take at *
  by_cases he : r.e = 0
  · by_cases hl : r.rest.length < n
    · simp [he, hl] at h
    · simp [he, hl]
      omega
  · simp [he] at h
theorem Rd.num_ok {r : Rd} {k : Nat} (hk : k ≤ 8) (h : (r.num k).1.e = 0) : r.e = 0 ∧ r.rest = Codec.num (r.num k).2 k ++ (r.num k).1.rest ∧ (r.num k).2 < 256 ^ k := by
  obtain ⟨h1, h2, h3⟩ := Rd.take_ok h
  have h4 := num_said (r.take k).2 (by omega)
  have h5 := said_bound (r.take k).2 (by omega)
  rw [h3] at h4 h5
  refine ⟨h1, ?_, h5⟩
  show _ = Codec.num (said (r.take k).2) k ++ (r.take k).1.rest
  rw [h4]; exact h2
theorem Rd.more_e {s : Rd} {c : Nat} (h : (s.more c).1.e = 0) : s.e = 0 := by
  unfold Rd.more at h
  split at h
  · exact (Rd.num_ok (by omega) h).1
  · split at h
    · exact (Rd.num_ok (by omega) h).1
    · split at h
      · exact (Rd.num_ok (by omega) h).1
      · exact h
theorem Rd.var_ok {r : Rd} {most : Nat} (h : (r.var most).1.e = 0) : r.e = 0 ∧ r.rest = Codec.var (r.var most).2 ++ (r.var most).1.rest ∧ (r.var most).2 ≤ most := by
  have hv : r.var most = (let m := (r.num 1).1.more (r.num 1).2; if m.1.e ≠ 0 then (⟨r.rest, m.1.e⟩, 0) else if m.2.1 < m.2.2 then (⟨r.rest, 111⟩, 0) else if most < m.2.1 then (⟨r.rest, 112⟩, 0) else (m.1, m.2.1)) := rfl
  dsimp only at hv
  by_cases h1 : ((r.num 1).1.more (r.num 1).2).1.e = 0
  · by_cases h2 : ((r.num 1).1.more (r.num 1).2).2.1 < ((r.num 1).1.more (r.num 1).2).2.2
    · rw [hv, if_neg (by simpa using h1), if_pos h2] at h; simp at h
    · by_cases h3 : most < ((r.num 1).1.more (r.num 1).2).2.1
      · rw [hv, if_neg (by simpa using h1), if_neg h2, if_pos h3] at h; simp at h
      · rw [hv, if_neg (by simpa using h1), if_neg h2, if_neg h3]
        obtain ⟨k1, k2, k3⟩ := Rd.num_ok (k := 1) (by omega) (Rd.more_e h1)
        refine ⟨k1, ?_, by simpa using h3⟩
        generalize (r.num 1).1 = s at *
        generalize (r.num 1).2 = c at *
        rw [k2]
        have e1 : Codec.num c 1 = [UInt8.ofNat c] := by simp [Codec.num]
        rw [e1]
        clear hv h k1 k2 e1 h3
        unfold Rd.more at *
        by_cases c1 : c = 253
        · simp only [if_pos c1] at *
          obtain ⟨_, j2, j3⟩ := Rd.num_ok (k := 2) (by omega) h1
          rw [c1, j2]
          have : Codec.var (s.num 2).2 = 253 :: Codec.num (s.num 2).2 2 := by unfold Codec.var; rw [if_neg (by omega), if_pos (by omega)]
          rw [this]; simp
        · simp only [if_neg c1] at *
          by_cases c2 : c = 254
          · simp only [if_pos c2] at *
            obtain ⟨_, j2, j3⟩ := Rd.num_ok (k := 4) (by omega) h1
            rw [c2, j2]
            have : Codec.var (s.num 4).2 = 254 :: Codec.num (s.num 4).2 4 := by unfold Codec.var; rw [if_neg (by omega), if_neg (by omega), if_pos (by omega)]
            rw [this]; simp
          · simp only [if_neg c2] at *
            by_cases c3 : c = 255
            · simp only [if_pos c3] at *
              obtain ⟨_, j2, j3⟩ := Rd.num_ok (k := 8) (by omega) h1
              rw [c3, j2]
              have : Codec.var (s.num 8).2 = 255 :: Codec.num (s.num 8).2 8 := by unfold Codec.var; rw [if_neg (by omega), if_neg (by omega), if_neg (by omega)]
              rw [this]; simp
            · simp only [if_neg c3] at *
              have : Codec.var c = [UInt8.ofNat c] := by unfold Codec.var; rw [if_pos (by omega)]
              rw [this]
  · rw [hv, if_pos h1] at h; exact absurd h h1
theorem Rd.var_bad {r : Rd} {most : Nat} (h : (r.var most).1.e ≠ 0) : (r.var most).2 = 0 ∧ (r.var most).1.rest = r.rest := by
  have hv : r.var most = (let m := (r.num 1).1.more (r.num 1).2; if m.1.e ≠ 0 then (⟨r.rest, m.1.e⟩, 0) else if m.2.1 < m.2.2 then (⟨r.rest, 111⟩, 0) else if most < m.2.1 then (⟨r.rest, 112⟩, 0) else (m.1, m.2.1)) := rfl
  dsimp only at hv
  by_cases h1 : ((r.num 1).1.more (r.num 1).2).1.e = 0
  · by_cases h2 : ((r.num 1).1.more (r.num 1).2).2.1 < ((r.num 1).1.more (r.num 1).2).2.2
    · rw [hv, if_neg (by simpa using h1), if_pos h2]; exact ⟨rfl, rfl⟩
    · by_cases h3 : most < ((r.num 1).1.more (r.num 1).2).2.1
      · rw [hv, if_neg (by simpa using h1), if_neg h2, if_pos h3]; exact ⟨rfl, rfl⟩
      · rw [hv, if_neg (by simpa using h1), if_neg h2, if_neg h3] at h; exact absurd h1 h
  · rw [hv, if_pos h1]; exact ⟨rfl, rfl⟩
theorem Rd.num_zero {r : Rd} {k : Nat} (h : (r.num k).2 ≠ 0) : (r.num k).1.e = 0 := by
  unfold Rd.num at *
  dsimp only at *
  unfold Rd.take at *
  by_cases he : r.e = 0
  · by_cases hl : r.rest.length < k
    · simp [he, hl, said] at h
    · simp [he, hl]
  · simp [he, said] at h
/-- how much is read, against how long the number is -/
theorem Rd.more_len_eq {r : Rd} (h : ((r.num 1).1.more (r.num 1).2).1.e = 0) :
    (vlen ((r.num 1).1.more (r.num 1).2).2.1 ≠ r.rest.length - ((r.num 1).1.more (r.num 1).2).1.rest.length) = (((r.num 1).1.more (r.num 1).2).2.1 < ((r.num 1).1.more (r.num 1).2).2.2) := by
  obtain ⟨k1, k2, k3⟩ := Rd.num_ok (k := 1) (by omega) (Rd.more_e h)
  have hl := congrArg List.length k2
  rw [List.length_append, num_length] at hl
  generalize (r.num 1).1 = s at *
  generalize (r.num 1).2 = c at *
  clear k1 k2
  unfold Rd.more at *
  by_cases c1 : c = 253
  · simp only [if_pos c1] at *
    obtain ⟨_, j2, j3⟩ := Rd.num_ok (k := 2) (by omega) h
    have hl2 := congrArg List.length j2
    rw [List.length_append, num_length] at hl2
    unfold vlen
    apply propext
    constructor
    · intro hh; by_cases h1 : (s.num 2).2 < 253
      · exact h1
      · rw [if_neg h1, if_pos (by omega)] at hh; omega
    · intro hh; rw [if_pos hh]; omega
  · simp only [if_neg c1] at *
    by_cases c2 : c = 254
    · simp only [if_pos c2] at *
      obtain ⟨_, j2, j3⟩ := Rd.num_ok (k := 4) (by omega) h
      have hl2 := congrArg List.length j2
      rw [List.length_append, num_length] at hl2
      unfold vlen
      apply propext
      constructor
      · intro hh; by_cases h1 : (s.num 4).2 < 65536
        · exact h1
        · rw [if_neg (by omega), if_neg h1, if_pos (by omega)] at hh; omega
      · intro hh; by_cases h1 : (s.num 4).2 < 253
        · rw [if_pos h1]; omega
        · rw [if_neg h1, if_pos hh]; omega
    · simp only [if_neg c2] at *
      by_cases c3 : c = 255
      · simp only [if_pos c3] at *
        obtain ⟨_, j2, j3⟩ := Rd.num_ok (k := 8) (by omega) h
        have hl2 := congrArg List.length j2
        rw [List.length_append, num_length] at hl2
        unfold vlen
        apply propext
        constructor
        · intro hh; by_cases h1 : (s.num 8).2 < 4294967296
          · exact h1
          · rw [if_neg (by omega), if_neg (by omega), if_neg h1] at hh; omega
        · intro hh; by_cases h1 : (s.num 8).2 < 253
          · rw [if_pos h1]; omega
          · by_cases h2 : (s.num 8).2 < 65536
            · rw [if_neg h1, if_pos h2]; omega
            · rw [if_neg h1, if_neg h2, if_pos hh]; omega
      · simp only [if_neg c3] at *
        unfold vlen
        rw [if_pos (by omega)]
        apply propext
        constructor
        · intro hh; omega
        · intro hh; omega
/-- a number as the reference reads it -/
def Rd.rvar (r : Rd) (most : Nat) (neg : Bool) : Rd × Nat :=
  let m := (r.num 1).1.more (r.num 1).2
  if m.1.e ≠ 0 then (⟨r.rest, m.1.e⟩, 0) else if m.2.1 < m.2.2 then (⟨r.rest, 111⟩, 0) else if neg = true ∨ most < m.2.1 then (⟨r.rest, 112⟩, 0) else (m.1, m.2.1)
theorem Rd.rvar_false (r : Rd) (most : Nat) : r.rvar most false = r.var most := by
  unfold Rd.rvar Rd.var
  simp
theorem Rd.rvar_room (r : Rd) (most : Int) (m2 : Nat) (h : 0 ≤ most → (m2 : Int) = most) : r.rvar m2 (decide (most < 0)) = r.room most := by
  by_cases hn : most < 0
  · rw [decide_eq_true hn]
    unfold Rd.room
    rw [show most.toNat = 0 by omega]
    unfold Rd.rvar Rd.var
    dsimp only
    generalize (r.num 1).1.more (r.num 1).2 = m
    obtain ⟨s, n, l⟩ := m
    dsimp only
    by_cases h1 : s.e = 0
    · by_cases h2 : n < l
      · simp [h1, h2]
      · by_cases h3 : 0 < n
        · simp [h1, h2, h3]
        · simp [h1, h2, h3, hn]
    · simp [h1]
  · rw [decide_eq_false hn, Rd.rvar_false]
    unfold Rd.room
    rw [show most.toNat = m2 by have := h (by omega); omega]
    simp [hn]
end Go.Proofs.YtmenchnjajpkmaaGreatDoor.Codec
end
