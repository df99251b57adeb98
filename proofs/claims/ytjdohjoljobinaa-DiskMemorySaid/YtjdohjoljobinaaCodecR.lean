/- Walks of the codec's Reader: Read, take, high, Byte, Word, Long, Var, room, Raw, Text, Fail, Err, Left, End; and of Writer.Bytes. Condition: the bytes are at most 2^47. -/
import Derived.Test.YtjdohjoljobinaaCodecW
import Derived.Test.YtjdohjoljobinaaQuiet
import Derived.WalkLawsBesides
import Derived.Deep.CutBlock
import Derived.Deep.DeepCutAuto
namespace Go.Proofs.Ytjdohjoljobinaa.CodecR
open Go Go.RowKit Mem Codec CodecW

/-- a reader at block q, its bytes in D -/
def ReaderIs (D : Nat → Prop) (w : World) (q : Nat) (r : Rd) : Prop :=
  ∃ a c, Blk w q [.slice a r.rest.length c, .int .i64 r.e] 149 ∧ Byt D w (.slice a r.rest.length c) r.rest ∧ ¬ D q
section
variable {D T : Nat → Prop} {w w' : World} {q : Nat} {r : Rd}
theorem ReaderIs.fr (H : ReaderIs D w q r) (hf : Fr T w w') (hq : ¬ T q) (hn : ∀ k, k < w.heap.size → D k → ¬ T k) : ReaderIs D w' q r := by
  obtain ⟨a, c, h1, h2, h3⟩ := H
  exact ⟨a, c, h1.fr hf hq, h2.fr hf hn, h3⟩
theorem ReaderIs.lt (H : ReaderIs D w q r) : q < w.heap.size := H.choose_spec.choose_spec.1.lt
theorem ReaderIs.below (H : ReaderIs D w q r) (hb : Below w.heap.size w w') : ReaderIs D w' q r := H.fr (Fr.ofBelow hb) (by have := H.lt; omega) (fun k hk _ h => by omega)
end

set_option maxHeartbeats 4000000 in
theorem clone_calls (D : Nat → Prop) (w : World) (v : Value) (l : List UInt8) (hB : Byt D w v l) (hl : l.length ≤ 140737488355328) :
    Calls Try.prog 55 #[v] w fun e w' => ∃ a c, e = .returned (.slice a l.length c) ∧ OwnB w.heap.size 5 w' (.slice a l.length c) l ∧ Below w.heap.size w w' := by
  obtain ⟨a, c, rfl, hk, _⟩ := id hB
  have HB := Lib.hid hB
  have ke := fun w a n c n' c' => Lib.run_eql_slice_nil (P := Try.prog) w 23 5 a n c n' c' Try.underlying23
  clear hB
  cases a with
  | none =>
    have hl0 : l = [] := by
      have := hk.2.2 rfl
      apply List.length_eq_zero_iff.1; omega
    subst hl0
    obtain rfl := hk.2.2 rfl
    go_enter Try.func55, Try.ntmps55
    go_wp2
    go_ret
    exact ⟨none, 0, rfl, OwnB.nil _ _ _, Below.refl _ _⟩
  | some a =>
    have hO : OwnB w.heap.size 5 (w.alloc (.cells #[] 5)) (.slice (some ⟨w.heap.size, 0, none⟩) 0 0) [] := World.ownsRow_lit w #[] 0 (Nat.le_refl _) (Nat.zero_le _) rfl
    have hz : Below w.heap.size w (w.alloc (.cells #[] 5)) := (Below.refl _ _).alloc (Nat.le_refl _) _
    have HO := Lib.hid hO
    have HZ := Lib.hid hz
    clear hO hz
    go_enter Try.func55, Try.ntmps55
    go_wp2_with (at_builtin; refine wpList_append_byt _ rfl (.tmp 5) (.tmp 6) 23 rfl w.heap.size 5 elemB _ [] rfl HO.out _ l rfl (HB.out.below HZ.out) (by simp; omega) (by simp) ?_)
    intro va vc w2 o1 o2 o3
    have HZ2 := Lib.hid (HZ.out.grown o2 (by simp) (fun k hk => (HO.out.lt k hk).1))
    have HO2 := Lib.hid o1
    clear o1 o2 o3 HO HZ
    go_wp2
    go_ret
    exact ⟨va, vc, rfl, HO2.out, HZ2.out⟩
set_option maxHeartbeats 4000000 in
theorem bytes_calls (S : Nat → Prop) (w : World) (q : Nat) (m : List UInt8) (H : WriterIs S w q m) (hl : m.length ≤ 140737488355328) :
    Calls Try.prog 36 #[.pointer (some ⟨q, 0, none⟩)] w fun e w' => ∃ a c, e = .returned (.slice a m.length c) ∧ OwnB w.heap.size 5 w' (.slice a m.length c) m ∧ Below w.heap.size w w' := by
  obtain ⟨a, c, h1, h2, h3, h4, h5⟩ := H.opened
  have c0 := h1.cell (i := 0) rfl
  have H2 := Lib.hid h2.byt
  clear h1 h2 h3 h4 H
  go_enter Try.func36, Try.ntmps36
  go_wp2_with fail
  refine (clone_calls _ w _ m H2.out hl).mono ?_
  rintro e w2 ⟨x, y, rfl, g1, g2⟩
  have G1 := Lib.hid g1
  have G2 := Lib.hid g2
  clear g1 g2 c0
  go_wp2
  go_ret
  exact ⟨x, y, rfl, G1.out, G2.out⟩
set_option maxHeartbeats 4000000 in
theorem read_calls (D : Nat → Prop) (w : World) (v : Value) (l : List UInt8) (hB : Byt D w v l) (hl : l.length ≤ 140737488355328) :
    Calls Try.prog 96 #[v] w fun e w' => ∃ q, e = .returned (.pointer (some ⟨q, 0, none⟩)) ∧ w.heap.size ≤ q ∧ ReaderIs (fun k => w.heap.size ≤ k ∧ k < q) w' q ⟨l, 0⟩ ∧ Below w.heap.size w w' := by
  obtain ⟨a, c, rfl, hk, _⟩ := id hB
  have HB := Lib.hid hB
  clear hB
  go_enter Try.func96, Try.ntmps96
  go_wp2_with fail
  refine (clone_calls D w _ l HB.out hl).mono ?_
  rintro e w2 ⟨x, y, rfl, g1, g2⟩
  have hz := g2.size
  have G := Lib.hid (show ReaderIs (fun k => w.heap.size ≤ k ∧ k < w2.heap.size) (w2.alloc (.cells #[.slice x l.length y, .int .i64 0] 149)) w2.heap.size ⟨l, 0⟩ from
    ⟨x, y, Blk.new _ _ _ _ rfl, ((g1.byt.lt).mono (fun k _ h => ⟨h.2.2, h.1⟩)).below ((Below.refl _ w2).alloc (Nat.le_refl _) _), by omega⟩)
  have G2 := Lib.hid (g2.alloc g2.size (.cells #[.slice x l.length y, .int .i64 0] 149))
  clear g1 g2
  go_wp2
  go_ret
  exact ⟨_, rfl, hz, G.out, G2.out⟩
theorem ReaderIs.setE {D : Nat → Prop} {w : World} {q : Nat} {a : Option Addr} {c : Nat} {l : List UInt8} {e : Int} (h1 : Blk w q [.slice a l.length c, .int .i64 e] 149) (h2 : Byt D w (.slice a l.length c) l) (h3 : ¬ D q) (e2 : Int) :
    ReaderIs D (w.setCell ⟨q, 1, none⟩ (.int .i64 e2)) q ⟨l, e2⟩ ∧ Fr (fun k => k = q) w (w.setCell ⟨q, 1, none⟩ (.int .i64 e2)) := by
  have hf : Fr (fun k => k = q) w (w.setCell ⟨q, 1, none⟩ (.int .i64 e2)) := (Fr.refl (fun k => k = q) w).setCell (p := ⟨q, 1, none⟩) (.inr rfl) _
  exact ⟨⟨a, c, h1.set 1 _, h2.fr hf (fun k _ hd e => h3 (e ▸ hd)), h3⟩, hf⟩
theorem ReaderIs.setB {D : Nat → Prop} {w : World} {q : Nat} {v0 : Value} {a : Option Addr} {n c : Nat} {l : List UInt8} {e : Int} (h1 : Blk w q [v0, .int .i64 e] 149) (h2 : Byt D w (.slice a n c) l) (hn : n = l.length) (h3 : ¬ D q) :
    ReaderIs D (w.setCell ⟨q, 0, none⟩ (.slice a n c)) q ⟨l, e⟩ ∧ Fr (fun k => k = q) w (w.setCell ⟨q, 0, none⟩ (.slice a n c)) := by
  subst hn
  have hf : Fr (fun k => k = q) w (w.setCell ⟨q, 0, none⟩ (.slice a l.length c)) := (Fr.refl (fun k => k = q) w).setCell (p := ⟨q, 0, none⟩) (.inr rfl) _
  exact ⟨⟨a, c, h1.set 0 _, h2.fr hf (fun k _ hd e => h3 (e ▸ hd)), h3⟩, hf⟩
/-- what take hands back -/
def TakeRet (D : Nat → Prop) (q : Nat) (x : Rd × List UInt8) (w : World) (e : Ending) (w' : World) : Prop :=
  ∃ v u, e = .returned (.tuple #[v, u]) ∧ Byt D w' v x.2 ∧ ReaderIs D w' q x.1 ∧ Fr (fun k => k = q) w w'
set_option maxHeartbeats 4000000 in
theorem take_calls (D : Nat → Prop) (w : World) (q : Nat) (r : Rd) (n : Nat) (H : ReaderIs D w q r) (_ : n < 9223372036854775808) :
    Calls Try.prog 112 #[.pointer (some ⟨q, 0, none⟩), .int .i64 n] w fun e w' => TakeRet D q (r.take n) w e w' := by
  obtain ⟨l, e⟩ := r
  obtain ⟨a, c, h1, h2, h3⟩ := H
  have c0 := h1.cell (i := 0) rfl
  have c1 := h1.cell (i := 1) rfl
  have f0 := h1.free 0
  have f1 := h1.free 1
  dsimp only at c0 c1 h1 h2
  have H1 := Lib.hid h1
  have H2 := Lib.hid h2
  have H3 := Lib.hid h3
  clear h1 h3
  by_cases he : e = 0
  · subst he
    by_cases hl : l.length < n
    · have ht : Rd.take ⟨l, 0⟩ n = (⟨l, 110⟩, []) := by simp [Rd.take, hl]
      rw [ht]
      have G := Lib.hid (ReaderIs.setE H1.out H2.out H3.out 110)
      have hz : (l.length : Int) < (n : Int) := by omega
      clear h2
      go_enter Try.func112, Try.ntmps112
      go_wp2
      go_ret2
      exact ⟨.slice none 0 0, .bool false, rfl, Byt.nil _ _, G.out.1, G.out.2⟩
    · have ht : Rd.take ⟨l, 0⟩ n = (⟨l.drop n, 0⟩, l.take n) := by simp [Rd.take, hl]
      rw [ht]
      obtain ⟨sa, scap, hs2, hs3⟩ := run_slice_hi elemB h2 n (by omega)
      obtain ⟨sb, sbc, ht2, ht3⟩ := run_slice_lo elemB h2 n (by omega)
      have hz : ¬ ((l.length : Int) < (n : Int)) := by omega
      have HS3 := Lib.hid hs3
      have G := Lib.hid (ReaderIs.setB H1.out ht3 (by simp) H3.out)
      clear h2 ht3 hs3
      go_enter Try.func112, Try.ntmps112
      go_wp2
      go_ret2
      exact ⟨.slice sa n scap, .bool true, rfl, HS3.out.fr G.out.2 (fun k _ hd e => H3.out (e ▸ hd)), G.out.1, G.out.2⟩
  · have hb : (e == 0) = false := by simpa using he
    have hb2 : (e != 0) = true := by simpa using he
    have ht : Rd.take ⟨l, e⟩ n = (⟨l, e⟩, []) := by simp [Rd.take, he]
    rw [ht]
    have G := Lib.hid (show ReaderIs D w q ⟨l, e⟩ from ⟨a, c, H1.out, H2.out, H3.out⟩)
    clear h2
    go_enter Try.func112, Try.ntmps112
    go_wp2
    go_ret2
    exact ⟨.slice none 0 0, .bool false, rfl, Byt.nil _ _, G.out, Fr.refl _ _⟩
theorem said_step (y : Nat) (c : UInt8) : bits .or .u64 (IntKind.u64.wrap ((y : Int) * 256)) (IntKind.u64.wrap (c.toNat : Int)) = (((256 * y + c.toNat) % 18446744073709551616 : Nat) : Int) := by
  have hc := c.toNat_lt
  have e1 : IntKind.u64.wrap ((y : Int) * 256) = (((y % 72057594037927936) * 256 : Nat) : Int) := by rw [IntKind.wrap_u64]; omega
  have e2 : IntKind.u64.wrap (c.toNat : Int) = (c.toNat : Int) := by rw [IntKind.wrap_u64]; omega
  rw [e1, e2, u64_or_nat _ _ (by omega) (by omega)]
  have h := Nat.shiftLeft_add_eq_or_of_lt (i := 8) (b := c.toNat) (by omega) (y % 72057594037927936)
  rw [Nat.shiftLeft_eq] at h
  rw [show (2 : Nat) ^ 8 = 256 from rfl] at h
  rw [← h]
  omega
set_option maxHeartbeats 4000000 in
theorem high_calls (D : Nat → Prop) (w : World) (q : Nat) (r : Rd) (n : Nat) (H : ReaderIs D w q r) (hn : n < 9223372036854775808) :
    Calls Try.prog 104 #[.pointer (some ⟨q, 0, none⟩), .int .i64 n] w fun e w' => e = .returned (.int .u64 ((r.num n).2 : Int)) ∧ ReaderIs D w' q (r.num n).1 ∧ Fr (fun k => k = q) w w' := by
  have H0 := Lib.hid H
  clear H
  go_enter Try.func104, Try.ntmps104
  go_wp2_with fail
  refine (take_calls D w q r n H0.out hn).mono ?_
  rintro e w2 ⟨v, u, rfl, g1, g2, g3⟩
  have hr1 : (r.num n).1 = (r.take n).1 := rfl
  have hr2 : (r.num n).2 = said (r.take n).2 := rfl
  obtain ⟨l, hl⟩ : ∃ l, (r.take n).2 = l := ⟨_, rfl⟩
  rw [hl] at g1 hr2
  rw [← hr1] at g2
  have HR := Lib.hid hr2
  obtain ⟨a, c, rfl, hk, hx⟩ := id g1
  have HX := Lib.hid hx
  have G2 := Lib.hid g2
  have G3 := Lib.hid g3
  clear g1 g2 g3 hr1 hr2 hl hx H0
  go_wp2
  go_loop [7, 18] (fun x i => ∃ k : Nat, k ≤ l.length ∧ i = .int .i64 k ∧ x = .int .u64 (said (l.take k) : Nat)) (fun _ i => l.length - (intOf i).toNat)
  case atStart => exact ⟨0, by omega, rfl, rfl⟩
  case round =>
    obtain ⟨k, hk2, rfl, rfl⟩ := hrel
    by_cases hlt : k < l.length
    · obtain ⟨b, off, rfl, _, hly⟩ := HX.out.resolve_left (by rintro rfl; simp at hlt)
      have c0 := hly k hlt
      have hsn : said (l.take (k + 1)) = (256 * said (l.take k) + (l[k]'hlt).toNat) % 18446744073709551616 := by
        rw [List.take_add_one, List.getElem?_eq_getElem hlt]; exact said_snoc _ _
      have hsl := said_lt (l.take k)
      have HSN := Lib.hid hsn
      clear hly hsn
      generalize said (l.take k) = y at *
      generalize l[k] = cc at *
      have hkm : k + 1 ≤ 9223372036854775807 := by
        have h1 := hk.1
        have h2 := hk.2.1
        unfold maxLen at h2
        omega
      go_wp2
      go_round
      case rel => exact ⟨k + 1, by omega, by go_num, by rw [HSN.out, ← said_step]⟩
      case measure => simp [intOf]; omega
    · obtain rfl : k = l.length := by omega
      go_wp2
      go_ret
      exact ⟨by rw [HR.out]; rfl, G2.out, G3.out⟩
theorem num_lt (r : Rd) (n : Nat) : (r.num n).2 < 18446744073709551616 := said_lt _
theorem num1_lt (r : Rd) : (r.num 1).2 < 256 := by
  have h : (r.take 1).2.length ≤ 1 := by
    unfold Rd.take
    split
    · simp
    · split
      · simp
      · simp; omega
  refine Nat.lt_of_lt_of_le (said_bound _ (by omega)) ?_
  exact Nat.pow_le_pow_right (n := 256) (by omega) h
set_option maxHeartbeats 4000000 in
set_option maxRecDepth 100000 in
theorem var_calls (D : Nat → Prop) (w : World) (q : Nat) (r : Rd) (most : Nat) (H : ReaderIs D w q r) (_ : most < 18446744073709551616) :
    Calls Try.prog 127 #[.pointer (some ⟨q, 0, none⟩), .int .u64 most] w fun e w' => e = .returned (.int .u64 ((r.var most).2 : Int)) ∧ ReaderIs D w' q (r.var most).1 ∧ Fr (fun k => k = q) w w' := by
  obtain ⟨a, c, h1, h2, h3⟩ := id H
  have c0 := h1.cell (i := 0) rfl
  have H0 := Lib.hid H
  have H2 := Lib.hid h2
  have H3 := Lib.hid h3
  clear H h1 h2 h3
  go_enter Try.func127, Try.ntmps127
  go_wp2_with fail
  refine (high_calls D w q r 1 H0.out (by omega)).mono ?_
  rintro e w2 ⟨rfl, g1, g2⟩
  have G1 := Lib.hid g1
  have G2 := Lib.hid g2
  have hc1 := num1_lt r
  clear g1 g2 H0 c0
  obtain ⟨cc, hcc⟩ : ∃ cc, (r.num 1).2 = cc := ⟨_, rfl⟩
  rw [hcc] at hc1 ⊢
  have HCC := Lib.hid hcc
  clear hcc
  go_upto_block 0 with fail
  go_cut [6, 7] (fun x y wx => ∃ nn least : Nat, x = .int .u64 nn ∧ y = .int .u64 least ∧ (r.num 1).1.more (r.num 1).2 = (((r.num 1).1.more (r.num 1).2).1, nn, least) ∧ nn < 18446744073709551616 ∧ ReaderIs D wx q ((r.num 1).1.more (r.num 1).2).1 ∧ Fr (fun k => k = q) w wx)
  case first =>
    by_cases h253 : cc = 253
    · subst h253
      go_wp2_with fail
      refine (high_calls D w2 q _ 2 G1.out (by omega)).mono ?_
      rintro e w3 ⟨rfl, g1, g2⟩
      have HM := Lib.hid (show (r.num 1).1.more (r.num 1).2 = (((r.num 1).1.num 2).1, ((r.num 1).1.num 2).2, 253) by rw [HCC.out]; rfl)
      have G3 := Lib.hid g1
      have G4 := Lib.hid (G2.out.trans g2)
      clear g1 g2
      go_wp2_with fail
      go_meet
      case rel => exact ⟨_, _, rfl, rfl, by rw [HM.out], num_lt _ _, by rw [HM.out]; exact G3.out, G4.out⟩
    by_cases h254 : cc = 254
    · subst h254
      go_wp2_with fail
      refine (high_calls D w2 q _ 4 G1.out (by omega)).mono ?_
      rintro e w3 ⟨rfl, g1, g2⟩
      have HM := Lib.hid (show (r.num 1).1.more (r.num 1).2 = (((r.num 1).1.num 4).1, ((r.num 1).1.num 4).2, 65536) by rw [HCC.out]; rfl)
      have G3 := Lib.hid g1
      have G4 := Lib.hid (G2.out.trans g2)
      clear g1 g2
      go_wp2_with fail
      go_meet
      case rel => exact ⟨_, _, rfl, rfl, by rw [HM.out], num_lt _ _, by rw [HM.out]; exact G3.out, G4.out⟩
    by_cases h255 : cc = 255
    · subst h255
      go_wp2_with fail
      refine (high_calls D w2 q _ 8 G1.out (by omega)).mono ?_
      rintro e w3 ⟨rfl, g1, g2⟩
      have HM := Lib.hid (show (r.num 1).1.more (r.num 1).2 = (((r.num 1).1.num 8).1, ((r.num 1).1.num 8).2, 4294967296) by rw [HCC.out]; rfl)
      have G3 := Lib.hid g1
      have G4 := Lib.hid (G2.out.trans g2)
      clear g1 g2
      go_wp2_with fail
      go_meet
      case rel => exact ⟨_, _, rfl, rfl, by rw [HM.out], num_lt _ _, by rw [HM.out]; exact G3.out, G4.out⟩
    · have hb1 : ((cc : Int) == 253) = false := by simp; omega
      have hb2 : ((cc : Int) == 254) = false := by simp; omega
      have hb3 : ((cc : Int) == 255) = false := by simp; omega
      have HM := Lib.hid (show (r.num 1).1.more (r.num 1).2 = ((r.num 1).1, cc, 0) by rw [HCC.out]; unfold Rd.more; rw [if_neg h253, if_neg h254, if_neg h255])
      go_wp2_with fail
      go_meet
      case rel => exact ⟨cc, 0, rfl, rfl, by rw [HM.out], by omega, by rw [HM.out]; exact G1.out, G2.out⟩
  case rest =>
    obtain ⟨nn, least, rfl, rfl, hmm, hnn, hR, hF⟩ := hcut
    obtain ⟨s, hs⟩ : ∃ s, ((r.num 1).1.more (r.num 1).2).1 = s := ⟨_, rfl⟩
    rw [hs] at hR hmm
    have hv : r.var most = if s.e ≠ 0 then (⟨r.rest, s.e⟩, 0) else if nn < least then (⟨r.rest, 111⟩, 0) else if most < nn then (⟨r.rest, 112⟩, 0) else (s, nn) := by
      unfold Rd.var
      rw [hmm]
    have HV := Lib.hid hv
    have HF := Lib.hid hF
    have HR := Lib.hid hR
    clear hv hmm hs hF HCC
    obtain ⟨l, e⟩ := s
    obtain ⟨a2, c2, h1, h2, h3⟩ := hR
    dsimp only at h1 h2 HV
    have c0 := h1.cell (i := 0) rfl
    have c1 := h1.cell (i := 1) rfl
    have f0 := h1.free 0
    have f1 := h1.free 1
    have H1 := Lib.hid h1
    have HB := Lib.hid (H2.out.fr HF.out (fun k _ hd e => H3.out (e ▸ hd)))
    clear h1 h2 h3
    by_cases he : e = 0
    · subst he
      by_cases hl : nn < least
      · have HT := Lib.hid (show r.var most = (⟨r.rest, 111⟩, 0) by rw [HV.out]; simp [hl])
        have hE := H1.out.set 1 (.int .i64 111)
        have hF2 : Fr (fun k => k = q) wc (wc.setCell ⟨q, 1, none⟩ (.int .i64 111)) := (Fr.refl (fun k => k = q) wc).setCell (p := ⟨q, 1, none⟩) (.inr rfl) _
        have G := Lib.hid (ReaderIs.setB hE (HB.out.fr hF2 (fun k _ hd e => H3.out (e ▸ hd))) rfl H3.out)
        have GF := Lib.hid ((HF.out.trans hF2).trans G.out.2)
        clear hE hF2
        go_wp2
        go_ret
        exact ⟨by rw [HT.out]; rfl, by rw [HT.out]; exact G.out.1, GF.out⟩
      · by_cases hl2 : most < nn
        · have HT := Lib.hid (show r.var most = (⟨r.rest, 112⟩, 0) by rw [HV.out]; simp [hl, hl2])
          have hE := H1.out.set 1 (.int .i64 112)
          have hF2 : Fr (fun k => k = q) wc (wc.setCell ⟨q, 1, none⟩ (.int .i64 112)) := (Fr.refl (fun k => k = q) wc).setCell (p := ⟨q, 1, none⟩) (.inr rfl) _
          have G := Lib.hid (ReaderIs.setB hE (HB.out.fr hF2 (fun k _ hd e => H3.out (e ▸ hd))) rfl H3.out)
          have GF := Lib.hid ((HF.out.trans hF2).trans G.out.2)
          have hz : ¬ ((nn : Int) < (least : Int)) := by omega
          clear hE hF2
          go_wp2
          go_ret
          exact ⟨by rw [HT.out]; rfl, by rw [HT.out]; exact G.out.1, GF.out⟩
        · have HT := Lib.hid (show r.var most = (⟨l, 0⟩, nn) by rw [HV.out]; simp [hl, hl2])
          have hz : ¬ ((nn : Int) < (least : Int)) := by omega
          have hz2 : ¬ ((most : Int) < (nn : Int)) := by omega
          go_wp2
          go_ret
          exact ⟨by rw [HT.out]; rfl, by rw [HT.out]; exact HR.out, HF.out⟩
    · have hb2 : (e != 0) = true := by simpa using he
      have HT := Lib.hid (show r.var most = (⟨r.rest, e⟩, 0) by rw [HV.out]; simp [he])
      have G := Lib.hid (ReaderIs.setB H1.out HB.out rfl H3.out)
      have GF := Lib.hid (HF.out.trans G.out.2)
      go_wp2
      go_ret
      exact ⟨by rw [HT.out]; rfl, by rw [HT.out]; exact G.out.1, GF.out⟩
theorem num4_lt (r : Rd) : (r.num 4).2 < 4294967296 := by
  have h : (r.take 4).2.length ≤ 4 := by
    unfold Rd.take
    split
    · simp
    · split
      · simp
      · simp; omega
  refine Nat.lt_of_lt_of_le (said_bound _ (by omega)) ?_
  exact Nat.pow_le_pow_right (n := 256) (by omega) h
set_option maxHeartbeats 4000000 in
theorem byte_calls (D : Nat → Prop) (w : World) (q : Nat) (r : Rd) (H : ReaderIs D w q r) :
    Calls Try.prog 106 #[.pointer (some ⟨q, 0, none⟩)] w fun e w' => e = .returned (.int .u8 ((r.num 1).2 : Int)) ∧ ReaderIs D w' q (r.num 1).1 ∧ Fr (fun k => k = q) w w' := by
  have hb : (r.num 1).2 < 256 := num1_lt r
  have H0 := Lib.hid H
  clear H
  go_enter Try.func106, Try.ntmps106
  go_wp2_with fail
  refine (high_calls D w q r 1 H0.out (by omega)).mono ?_
  rintro e w2 ⟨rfl, g1, g2⟩
  have G1 := Lib.hid g1
  have G2 := Lib.hid g2
  clear g1 g2
  obtain ⟨y, hy⟩ : ∃ y, (r.num 1).2 = y := ⟨_, rfl⟩
  have HY := Lib.hid hy
  rw [hy] at hb ⊢
  clear hy
  go_wp2
  go_ret
  exact ⟨by rw [HY.out]; rfl, G1.out, G2.out⟩
set_option maxHeartbeats 4000000 in
theorem word_calls (D : Nat → Prop) (w : World) (q : Nat) (r : Rd) (H : ReaderIs D w q r) :
    Calls Try.prog 97 #[.pointer (some ⟨q, 0, none⟩)] w fun e w' => e = .returned (.int .u32 ((r.num 4).2 : Int)) ∧ ReaderIs D w' q (r.num 4).1 ∧ Fr (fun k => k = q) w w' := by
  have hb : (r.num 4).2 < 4294967296 := num4_lt r
  have H0 := Lib.hid H
  clear H
  go_enter Try.func97, Try.ntmps97
  go_wp2_with fail
  refine (high_calls D w q r 4 H0.out (by omega)).mono ?_
  rintro e w2 ⟨rfl, g1, g2⟩
  have G1 := Lib.hid g1
  have G2 := Lib.hid g2
  clear g1 g2
  obtain ⟨y, hy⟩ : ∃ y, (r.num 4).2 = y := ⟨_, rfl⟩
  have HY := Lib.hid hy
  rw [hy] at hb ⊢
  clear hy
  go_wp2
  go_ret
  exact ⟨by rw [HY.out]; rfl, G1.out, G2.out⟩
set_option maxHeartbeats 4000000 in
theorem end_calls (D : Nat → Prop) (w : World) (q : Nat) (r : Rd) (H : ReaderIs D w q r) :
    Calls Try.prog 100 #[.pointer (some ⟨q, 0, none⟩)] w fun e w' => e = .returned (.int .i64 r.fin) ∧ w = w' := by
  obtain ⟨l, e⟩ := r
  obtain ⟨a, c, h1, h2, h3⟩ := H
  dsimp only at h1
  have c0 := h1.cell (i := 0) rfl
  have c1 := h1.cell (i := 1) rfl
  clear h1 h2 h3
  by_cases he : e = 0
  · subst he
    by_cases hl : 0 < l.length
    · have ht : Rd.fin ⟨l, 0⟩ = 113 := by unfold Rd.fin; rw [if_pos ⟨rfl, hl⟩]
      rw [ht]
      have hz : (0 : Int) < (l.length : Int) := by omega
      go_enter Try.func100, Try.ntmps100
      go_wp2
      go_ret
      exact ⟨rfl, rfl⟩
    · have ht : Rd.fin ⟨l, 0⟩ = 0 := by unfold Rd.fin; rw [if_neg (fun h => hl h.2)]
      rw [ht]
      have hz : ¬ ((0 : Int) < (l.length : Int)) := by omega
      go_enter Try.func100, Try.ntmps100
      go_wp2
      go_ret
      exact ⟨rfl, rfl⟩
  · have ht : Rd.fin ⟨l, e⟩ = e := by unfold Rd.fin; rw [if_neg (fun h => he h.1)]
    rw [ht]
    have hb : (e == 0) = false := by simpa using he
    go_enter Try.func100, Try.ntmps100
    go_wp2
    go_ret
    exact ⟨rfl, rfl⟩
set_option maxHeartbeats 4000000 in
theorem fail_calls (D : Nat → Prop) (w : World) (q : Nat) (r : Rd) (x : Int) (H : ReaderIs D w q r) :
    Calls Try.prog 108 #[.pointer (some ⟨q, 0, none⟩), .int .i64 x] w fun e w' => e = .returned (.tuple #[]) ∧ ReaderIs D w' q (r.fail x) ∧ Fr (fun k => k = q) w w' := by
  obtain ⟨l, e⟩ := r
  have HR := Lib.hid H
  obtain ⟨a, c, h1, h2, h3⟩ := H
  dsimp only at h1 h2
  have c1 := h1.cell (i := 1) rfl
  have f1 := h1.free 1
  by_cases he : e = 0
  · subst he
    have ht : Rd.fail ⟨l, 0⟩ x = ⟨l, x⟩ := by unfold Rd.fail; rw [if_pos rfl]
    rw [ht]
    have G := Lib.hid (ReaderIs.setE h1 h2 h3 x)
    clear h1 h2 h3
    go_enter Try.func108, Try.ntmps108
    go_wp2
    go_end0
    exact ⟨rfl, G.out.1, G.out.2⟩
  · have ht : Rd.fail ⟨l, e⟩ x = ⟨l, e⟩ := by unfold Rd.fail; rw [if_neg he]
    rw [ht]
    have hb : (e == 0) = false := by simpa using he
    clear h1 h2 h3
    go_enter Try.func108, Try.ntmps108
    go_wp2
    go_end0
    exact ⟨rfl, HR.out, Fr.refl _ _⟩
theorem var_lt (r : Rd) (most : Nat) : (r.var most).2 ≤ most := by
  unfold Rd.var
  dsimp only
  split
  · exact Nat.zero_le _
  · split
    · exact Nat.zero_le _
    · split
      · exact Nat.zero_le _
      · rename_i h; exact Nat.le_of_not_lt h
theorem room_le (r : Rd) (most : Int) (h : most < 9223372036854775808) : (r.room most).2 < 9223372036854775808 := by
  unfold Rd.room
  dsimp only
  split
  · simp
  · have := var_lt r most.toNat
    omega
set_option maxHeartbeats 4000000 in
set_option maxRecDepth 100000 in
theorem room_calls (D : Nat → Prop) (w : World) (q : Nat) (r : Rd) (most : Int) (H : ReaderIs D w q r) (h1 : -9223372036854775808 ≤ most) (h2 : most < 9223372036854775808) :
    Calls Try.prog 114 #[.pointer (some ⟨q, 0, none⟩), .int .i64 most] w fun e w' => e = .returned (.int .u64 ((r.room most).2 : Int)) ∧ ReaderIs D w' q (r.room most).1 ∧ Fr (fun k => k = q) w w' := by
  obtain ⟨a, c, g1, g2, g3⟩ := id H
  have c0 := g1.cell (i := 0) rfl
  have H0 := Lib.hid H
  have H2 := Lib.hid g2
  have H3 := Lib.hid g3
  clear H g1 g2 g3
  by_cases hm : most < 0
  · have HT := Lib.hid (show r.room most = if (r.var 0).1.e = 0 then (⟨r.rest, 112⟩, 0) else r.var 0 by
      unfold Rd.room
      rw [show most.toNat = 0 from by omega]
      dsimp only
      by_cases he : (r.var 0).1.e = 0
      · rw [if_pos he, if_pos ⟨hm, he⟩]
      · rw [if_neg he, if_neg (fun h => he h.2)])
    go_enter Try.func114, Try.ntmps114
    go_wp2_with fail
    refine (var_calls D w q r 0 H0.out (by omega)).mono ?_
    rintro e w2 ⟨rfl, g1, g2⟩
    have HR := Lib.hid g1
    have HF := Lib.hid g2
    clear c0
    obtain ⟨nn, hnn⟩ : ∃ nn, (r.var 0).2 = nn := ⟨_, rfl⟩
    obtain ⟨s, hs⟩ : ∃ s, (r.var 0).1 = s := ⟨_, rfl⟩
    rw [hs] at g1
    rw [hs] at HR
    have HVV := Lib.hid (show r.var 0 = (s, nn) from Prod.ext hs hnn)
    rw [HVV.out] at HT
    clear g2 H0 hs
    rw [hnn]
    clear hnn
    obtain ⟨l, e⟩ := s
    obtain ⟨a2, c2, x1, x2, x3⟩ := g1
    dsimp only at x1 HT
    have c0 := x1.cell (i := 0) rfl
    have c1 := x1.cell (i := 1) rfl
    have f0 := x1.free 0
    have f1 := x1.free 1
    have X1 := Lib.hid x1
    have HB := Lib.hid (H2.out.fr HF.out (fun k _ hd e => H3.out (e ▸ hd)))
    clear x1 x2 x3
    by_cases he : e = 0
    · subst he
      have hE := X1.out.set 1 (.int .i64 112)
      have hF2 : Fr (fun k => k = q) w2 (w2.setCell ⟨q, 1, none⟩ (.int .i64 112)) := (Fr.refl (fun k => k = q) w2).setCell (p := ⟨q, 1, none⟩) (.inr rfl) _
      have G := Lib.hid (ReaderIs.setB hE (HB.out.fr hF2 (fun k _ hd e => H3.out (e ▸ hd))) rfl H3.out)
      have GF := Lib.hid ((HF.out.trans hF2).trans G.out.2)
      clear hE hF2
      go_wp2
      go_ret
      exact ⟨by rw [HT.out]; rfl, by rw [HT.out]; exact G.out.1, GF.out⟩
    · have hb2 : (e == 0) = false := by simpa using he
      have HT2 := Lib.hid (show r.room most = (⟨l, e⟩, nn) by rw [HT.out, if_neg he])
      go_wp2
      go_ret
      exact ⟨by rw [HT2.out]; rfl, by rw [HT2.out]; exact HR.out, HF.out⟩
  · obtain ⟨n, rfl⟩ : ∃ n : Nat, most = (n : Int) := ⟨most.toNat, by omega⟩
    have HT := Lib.hid (show r.room (n : Int) = r.var n by
      unfold Rd.room
      rw [show (n : Int).toNat = n from by omega]
      dsimp only
      rw [if_neg (fun h => hm h.1)])
    have hz : (0 : Int) ≤ (n : Int) := by omega
    have hd : decide ((n : Int) < 0) = false := by simp
    go_enter Try.func114, Try.ntmps114
    go_wp2_with fail
    refine (var_calls D w q r n H0.out (by omega)).mono ?_
    rintro e w2 ⟨rfl, g1, g2⟩
    have HR := Lib.hid g1
    have HF := Lib.hid g2
    clear c0 g1 g2 H0
    obtain ⟨nn, hnn⟩ : ∃ nn, (r.var n).2 = nn := ⟨_, rfl⟩
    rw [hnn]
    have HN := Lib.hid hnn
    clear hnn h1 h2
    go_wp2
    go_ret
    exact ⟨by rw [HT.out, HN.out]; rfl, by rw [HT.out]; exact HR.out, HF.out⟩
set_option maxHeartbeats 4000000 in
theorem raw_r_calls (D : Nat → Prop) (w : World) (q : Nat) (r : Rd) (n : Int) (H : ReaderIs D w q r) (h1 : -9223372036854775808 ≤ n) (h2 : n < 9223372036854775808) (hl : r.rest.length ≤ 140737488355328) :
    Calls Try.prog 115 #[.pointer (some ⟨q, 0, none⟩), .int .i64 n] w fun e w' => ∃ a c, e = .returned (.slice a (r.raw n).2.length c) ∧ OwnB w.heap.size 5 w' (.slice a (r.raw n).2.length c) (r.raw n).2 ∧ ReaderIs D w' q (r.raw n).1 ∧ Fr (fun k => k = q) w w' := by
  have H0 := Lib.hid H
  clear H
  by_cases hn : n < 0
  · have ht : r.raw n = (r.fail 112, []) := by unfold Rd.raw; rw [if_pos hn]
    rw [ht]
    go_enter Try.func115, Try.ntmps115
    go_wp2_with fail
    refine (fail_calls D w q r 112 H0.out).mono ?_
    rintro e w2 ⟨rfl, g1, g2⟩
    have HR := Lib.hid g1
    have HF := Lib.hid g2
    clear g1 g2 H0
    go_wp2
    go_ret
    exact ⟨none, 0, rfl, OwnB.nil _ _ _, HR.out, HF.out⟩
  · obtain ⟨m, rfl⟩ : ∃ m : Nat, n = (m : Int) := ⟨n.toNat, by omega⟩
    have ht : r.raw (m : Int) = r.take m := by unfold Rd.raw; rw [if_neg hn, show (m : Int).toNat = m from by omega]
    rw [ht]
    have hz : ¬ ((m : Int) < 0) := by omega
    have hlt : (r.take m).2.length ≤ 140737488355328 := by
      unfold Rd.take
      split
      · simp
      · split
        · simp
        · simp; omega
    go_enter Try.func115, Try.ntmps115
    go_wp2_with fail
    refine (take_calls D w q r m H0.out (by omega)).mono ?_
    rintro e w2 ⟨v, u, rfl, g0, g1, g2⟩
    have HR := Lib.hid g1
    have HF := Lib.hid g2
    have HV := Lib.hid g0
    have hs := g2.size
    clear g0 g1 g2 H0 ht
    obtain ⟨x, hx⟩ : ∃ x, r.take m = x := ⟨_, rfl⟩
    rw [hx] at HR HV hlt
    have HX := Lib.hid hx
    clear hx
    go_wp2_with fail
    refine (clone_calls D w2 v x.2 HV.out hlt).mono ?_
    rintro e w3 ⟨a, c, rfl, g1, g2⟩
    have G1 := Lib.hid (g1.mono hs)
    have G2 := Lib.hid (HR.out.below g2)
    have G3 := Lib.hid (HF.out.trans (Fr.ofBelowAll g2 (Nat.le_refl _)))
    clear g1 g2
    go_wp2
    go_ret
    exact ⟨a, c, by rw [HX.out]; rfl, by rw [HX.out]; exact G1.out, by rw [HX.out]; exact G2.out, G3.out⟩
theorem Rd.take_len (r : Rd) (n : Nat) : (r.take n).1.rest.length ≤ r.rest.length ∧ (r.take n).2.length ≤ r.rest.length := by
  unfold Rd.take
  split
  · simp
  · split
    · simp
    · simp; omega
theorem Rd.more_len (s : Rd) (c : Nat) : (s.more c).1.rest.length ≤ s.rest.length := by
  unfold Rd.more
  split
  · exact (Rd.take_len s 2).1
  · split
    · exact (Rd.take_len s 4).1
    · split
      · exact (Rd.take_len s 8).1
      · exact Nat.le_refl _
theorem Rd.var_len (r : Rd) (most : Nat) : (r.var most).1.rest.length ≤ r.rest.length := by
  have h := Nat.le_trans (Rd.more_len (r.num 1).1 (r.num 1).2) (Rd.take_len r 1).1
  unfold Rd.var
  dsimp only
  split
  · exact Nat.le_refl _
  · split
    · exact Nat.le_refl _
    · split
      · exact Nat.le_refl _
      · exact h
theorem Rd.room_len (r : Rd) (most : Int) : (r.room most).1.rest.length ≤ r.rest.length := by
  unfold Rd.room
  dsimp only
  split
  · exact Nat.le_refl _
  · exact Rd.var_len r _
set_option maxHeartbeats 4000000 in
set_option maxRecDepth 100000 in
theorem text_r_calls (D : Nat → Prop) (w : World) (q : Nat) (r : Rd) (most : Int) (H : ReaderIs D w q r) (h1 : -9223372036854775808 ≤ most) (h2 : most < 9223372036854775808) (hl : r.rest.length ≤ 140737488355328) :
    Calls Try.prog 107 #[.pointer (some ⟨q, 0, none⟩), .int .i64 most] w fun e w' => ∃ a c, e = .returned (.slice a (r.text most).2.length c) ∧ OwnB w.heap.size 5 w' (.slice a (r.text most).2.length c) (r.text most).2 ∧ ReaderIs D w' q (r.text most).1 ∧ Fr (fun k => k = q) w w' := by
  obtain ⟨a, c, g1, g2, g3⟩ := id H
  have c0 := g1.cell (i := 0) rfl
  have H0 := Lib.hid H
  have H2 := Lib.hid g2
  have H3 := Lib.hid g3
  have hnl := room_le r most h2
  have hrl := Rd.room_len r most
  have HL := Lib.hid hl
  have hb1 := h1
  have hb2 := h2
  clear H g1 g2 g3 hl
  go_enter Try.func107, Try.ntmps107
  go_wp2_with fail
  refine (room_calls D w q r most H0.out h1 h2).mono ?_
  rintro e w2 ⟨rfl, g1, g2⟩
  have HR := Lib.hid g1
  have HF := Lib.hid g2
  have hsz := g2.size
  clear c0 h1 h2 hb1 hb2
  have HT := Lib.hid (show r.text most = (if (r.room most).1.e = 0 ∧ (r.room most).1.rest.length < (r.room most).2 then (⟨r.rest, 110⟩ : Rd) else (r.room most).1).take (r.room most).2 from rfl)
  obtain ⟨nn, hnn⟩ : ∃ nn, (r.room most).2 = nn := ⟨_, rfl⟩
  obtain ⟨s, hs⟩ : ∃ s, (r.room most).1 = s := ⟨_, rfl⟩
  rw [hs] at g1 hrl
  rw [hs] at HR HT
  rw [hnn] at hnl HT ⊢
  clear g2 H0 hs hnn
  obtain ⟨l, e⟩ := s
  obtain ⟨a2, c2, x1, x2, x3⟩ := g1
  dsimp only at x1 HT hrl
  have c0 := x1.cell (i := 0) rfl
  have c1 := x1.cell (i := 1) rfl
  have f0 := x1.free 0
  have f1 := x1.free 1
  have X1 := Lib.hid x1
  have HB := Lib.hid (H2.out.fr HF.out (fun k _ hd e => H3.out (e ▸ hd)))
  have hll : l.length ≤ 140737488355328 := Nat.le_trans hrl HL.out
  clear x1 x2 x3
  by_cases he : e = 0
  · subst he
    by_cases hlt : l.length < nn
    · have HT2 := Lib.hid (show r.text most = Rd.raw ⟨r.rest, 110⟩ nn by rw [HT.out, if_pos ⟨rfl, hlt⟩]; unfold Rd.raw; rw [if_neg (by omega), Int.toNat_natCast])
      have hE := X1.out.set 1 (.int .i64 110)
      have hF2 : Fr (fun k => k = q) w2 (w2.setCell ⟨q, 1, none⟩ (.int .i64 110)) := (Fr.refl (fun k => k = q) w2).setCell (p := ⟨q, 1, none⟩) (.inr rfl) _
      have G := Lib.hid (ReaderIs.setB hE (HB.out.fr hF2 (fun k _ hd e => H3.out (e ▸ hd))) rfl H3.out)
      have GF := Lib.hid ((HF.out.trans hF2).trans G.out.2)
      have hz : (l.length : Int) < (nn : Int) := by omega
      clear hE hF2
      go_wp2_with fail
      refine (raw_r_calls D _ q ⟨r.rest, 110⟩ nn G.out.1 (by omega) (by omega) HL.out).mono ?_
      rintro e w3 ⟨x, y, rfl, k1, k2, k3⟩
      have K1 := Lib.hid (k1.mono (base' := w.heap.size) (by have := GF.out.size; omega))
      have K2 := Lib.hid k2
      have K3 := Lib.hid (GF.out.trans k3)
      clear k1 k2 k3 c0 c1 f0 f1
      go_wp2
      go_ret
      exact ⟨x, y, by rw [HT2.out]; rfl, by rw [HT2.out]; exact K1.out, by rw [HT2.out]; exact K2.out, K3.out⟩
    · have HT2 := Lib.hid (show r.text most = Rd.raw ⟨l, 0⟩ nn by rw [HT.out, if_neg (fun h => hlt h.2)]; unfold Rd.raw; rw [if_neg (by omega), Int.toNat_natCast])
      have hz : ¬ ((l.length : Int) < (nn : Int)) := by omega
      go_wp2_with fail
      refine (raw_r_calls D _ q ⟨l, 0⟩ nn HR.out (by omega) (by omega) hll).mono ?_
      rintro e w3 ⟨x, y, rfl, k1, k2, k3⟩
      have K1 := Lib.hid (k1.mono (base' := w.heap.size) hsz)
      have K2 := Lib.hid k2
      have K3 := Lib.hid (HF.out.trans k3)
      clear k1 k2 k3 c0 c1 f0 f1
      go_wp2
      go_ret
      exact ⟨x, y, by rw [HT2.out]; rfl, by rw [HT2.out]; exact K1.out, by rw [HT2.out]; exact K2.out, K3.out⟩
  · have hb2 : (e == 0) = false := by simpa using he
    have HT2 := Lib.hid (show r.text most = Rd.raw ⟨l, e⟩ nn by rw [HT.out, if_neg (fun h => he h.1)]; unfold Rd.raw; rw [if_neg (by omega), Int.toNat_natCast])
    go_wp2_with fail
    refine (raw_r_calls D _ q ⟨l, e⟩ nn HR.out (by omega) (by omega) hll).mono ?_
    rintro e w3 ⟨x, y, rfl, k1, k2, k3⟩
    have K1 := Lib.hid (k1.mono (base' := w.heap.size) hsz)
    have K2 := Lib.hid k2
    have K3 := Lib.hid (HF.out.trans k3)
    clear k1 k2 k3 c0 c1 f0 f1
    go_wp2
    go_ret
    exact ⟨x, y, by rw [HT2.out]; rfl, by rw [HT2.out]; exact K1.out, by rw [HT2.out]; exact K2.out, K3.out⟩
end Go.Proofs.Ytjdohjoljobinaa.CodecR
