/- Walks of the codec laws' write and bytes: a thing that is written, and its bytes. Condition: the bytes together are at most 2^47. -/
import Derived.Test.YtodhhejliijdmabCodecN
namespace Go.Proofs.Ytodhhejliijdmab.CodecN
open Go Go.RowKit Mem Codec CodecW CodecR CodecL CodecTh

/-- a thing's bytes -/
def tbytes (t : Th) : List UInt8 :=
  if t.kind = 0 then num (t.n % 256) 1 else if t.kind = 1 then num (t.n % 4294967296) 4 else if t.kind = 2 then num t.n 8 else if t.kind = 3 then var t.n else if t.kind = 4 then t.b else if t.kind = 5 then text t.b else []
theorem tbytes_length (t : Th) : (tbytes t).length ≤ 9 + t.b.length := by
  have h1 := vlen_le t.n
  have h2 := vlen_le t.b.length
  unfold tbytes
  split
  · rw [num_length]; omega
  · split
    · rw [num_length]; omega
    · split
      · rw [num_length]; omega
      · split
        · rw [var_length]; omega
        · split
          · omega
          · split
            · unfold text; rw [List.length_append, var_length]; omega
            · simp
abbrev thv (t : Th) (bv : Value) : Value := .agg #[.int .i64 t.kind, .int .u64 (t.n : Int), .int .u64 (t.m : Int), bv]
set_option maxHeartbeats 4000000 in
set_option maxRecDepth 100000 in
theorem write_calls (S D : Nat → Prop) (w : World) (q : Nat) (m : List UInt8) (t : Th) (bv : Value) (hw : t.wf) (H : WriterIs S w q m) (hB : Byt D w bv t.b) (hS : ∀ k, k < w.heap.size → D k → ¬ S k) (hlen : m.length + 9 + t.b.length ≤ 140737488355328) :
    Calls Try.prog 19 #[.pointer (some ⟨q, 0, none⟩), thv t bv] w fun e w' => e = .returned (.tuple #[]) ∧ WriterIs (Plus S w w') w' q (m ++ tbytes t) ∧ Fr S w w' := by
  obtain ⟨bk, bn, bm, bl⟩ := t
  obtain ⟨x0, x1, x2, x3⟩ := hw
  dsimp only at *
  obtain ⟨ba, bc, rfl, _⟩ := id hB
  have hlb : bl.length ≤ 140737488355328 := by omega
  have hbox : Below w.heap.size w (w.alloc (.cells #[.int .i64 bk, .int .u64 (bn : Int), .int .u64 (bm : Int), .slice ba bl.length bc] 39)) := (Below.refl _ _).alloc (Nat.le_refl _) _
  have hblk := Blk.new w #[.int .i64 bk, .int .u64 (bn : Int), .int .u64 (bm : Int), .slice ba bl.length bc] 39 [.int .i64 bk, .int .u64 (bn : Int), .int .u64 (bm : Int), .slice ba bl.length bc] rfl
  have hs1 : (w.alloc (.cells #[.int .i64 bk, .int .u64 (bn : Int), .int .u64 (bm : Int), .slice ba bl.length bc] 39)).heap.size = w.heap.size + 1 := by simp
  have HW := Lib.hid (H.below hbox)
  have HBb := Lib.hid (hB.below hbox)
  have HBX := Lib.hid hbox
  have HBl := Lib.hid (hB.lt.below hbox)
  have HS := Lib.hid hS
  clear H hB hS hbox
  go_enter Try.func19, Try.ntmps19
  go_upto_region 1 with fail
  generalize (w.alloc (.cells #[.int .i64 bk, .int .u64 (bn : Int), .int .u64 (bm : Int), .slice ba bl.length bc] 39)) = w1 at *
  have c0 := hblk.cell (i := 0) rfl
  have c1 := hblk.cell (i := 1) rfl
  have c3 := hblk.cell (i := 3) rfl
  clear hblk
  have done : ∀ (x : List UInt8) (w2 : World), WriterIs (Plus S w1 w2) w2 q (m ++ x) → Fr S w1 w2 → WriterIs (Plus S w w2) w2 q (m ++ x) ∧ Fr S w w2 := fun x w2 h1 h2 => by
    have := h2.size
    exact ⟨h1.mono (fun k hk h => by
      rcases h with h | h
      · exact .inl h
      · exact .inr ⟨by omega, h.2⟩), (Fr.ofBelowAll HBX.out (Nat.le_refl _)).trans h2⟩
  have HDN := Lib.hid done
  clear done
  by_cases h0 : bk = 0
  · subst h0
    have HC := Lib.hid (show IntKind.u8.wrap (bn : Int) = ((UInt8.ofNat bn).toNat : Int) by rw [IntKind.wrap_u8, UInt8.toNat_ofNat']; omega)
    have HE := Lib.hid (show tbytes ⟨0, bn, bm, bl⟩ = [UInt8.ofNat bn] from by show num (bn % 256) 1 = _; simp [num]; exact UInt8.toNat_inj.1 (by simp))
    go_wp2_with fail
    refine (CodecW.byte_calls S w1 q m _ (UInt8.ofNat bn) HC.out HW.out (by omega)).mono ?_
    rintro e w2 ⟨rfl, g1, g2⟩
    have HR := Lib.hid (HDN.out _ _ g1 g2)
    clear g1 g2 c0 c1 c3
    go_wp2
    go_end0
    exact ⟨rfl, by rw [HE.out]; exact HR.out.1, HR.out.2⟩
  by_cases h1 : bk = 1
  · subst h1
    have hwd : IntKind.u32.wrap (bn : Int) = ((bn % 4294967296 : Nat) : Int) := by rw [IntKind.wrap_u32]; omega
    have HE := Lib.hid (show tbytes ⟨1, bn, bm, bl⟩ = num (bn % 4294967296) 4 from rfl)
    go_wp2_with fail
    refine (CodecW.word_calls S w1 q m (bn % 4294967296) (by omega) HW.out (by omega)).mono ?_
    rintro e w2 ⟨rfl, g1, g2⟩
    have HR := Lib.hid (HDN.out _ _ g1 g2)
    clear g1 g2 c0 c1 c3
    go_wp2
    go_end0
    exact ⟨rfl, by rw [HE.out]; exact HR.out.1, HR.out.2⟩
  by_cases h2 : bk = 2
  · subst h2
    have HE := Lib.hid (show tbytes ⟨2, bn, bm, bl⟩ = num bn 8 from rfl)
    go_wp2_with fail
    refine (CodecW.long_calls S w1 q m bn (by omega) HW.out (by omega)).mono ?_
    rintro e w2 ⟨rfl, g1, g2⟩
    have HR := Lib.hid (HDN.out _ _ g1 g2)
    clear g1 g2 c0 c1 c3
    go_wp2
    go_end0
    exact ⟨rfl, by rw [HE.out]; exact HR.out.1, HR.out.2⟩
  by_cases h3 : bk = 3
  · subst h3
    have HE := Lib.hid (show tbytes ⟨3, bn, bm, bl⟩ = var bn from rfl)
    go_wp2_with fail
    refine (CodecW.var_calls S w1 q m bn (by omega) HW.out (by omega)).mono ?_
    rintro e w2 ⟨rfl, g1, g2⟩
    have HR := Lib.hid (HDN.out _ _ g1 g2)
    clear g1 g2 c0 c1 c3
    go_wp2
    go_end0
    exact ⟨rfl, by rw [HE.out]; exact HR.out.1, HR.out.2⟩
  by_cases h4 : bk = 4
  · subst h4
    have HE := Lib.hid (show tbytes ⟨4, bn, bm, bl⟩ = bl from rfl)
    go_wp2_with fail
    refine (CodecW.raw_calls S D w1 q m _ bl HW.out HBb.out (by omega)).mono ?_
    rintro e w2 ⟨rfl, g1, g2⟩
    have HR := Lib.hid (HDN.out _ _ g1 g2)
    clear g1 g2 c0 c1 c3
    go_wp2
    go_end0
    exact ⟨rfl, by rw [HE.out]; exact HR.out.1, HR.out.2⟩
  by_cases h5 : bk = 5
  · subst h5
    have HE := Lib.hid (show tbytes ⟨5, bn, bm, bl⟩ = text bl from rfl)
    go_wp2_with fail
    refine (CodecW.text_calls S (fun k => k < w.heap.size ∧ D k) w1 q m _ bl HW.out HBl.out (fun k _ h => HS.out k h.1 h.2) (by omega)).mono ?_
    rintro e w2 ⟨rfl, g1, g2⟩
    have HR := Lib.hid (HDN.out _ _ g1 g2)
    clear g1 g2 c0 c1 c3
    go_wp2
    go_end0
    exact ⟨rfl, by rw [HE.out]; exact HR.out.1, HR.out.2⟩
  · have hb0 : (bk == 0) = false := by simpa using h0
    have hb1 : (bk == 1) = false := by simpa using h1
    have hb2 : (bk == 2) = false := by simpa using h2
    have hb3 : (bk == 3) = false := by simpa using h3
    have hb4 : (bk == 4) = false := by simpa using h4
    have hb5 : (bk == 5) = false := by simpa using h5
    have HE := Lib.hid (show tbytes ⟨bk, bn, bm, bl⟩ = [] by unfold tbytes; dsimp only; rw [if_neg h0, if_neg h1, if_neg h2, if_neg h3, if_neg h4, if_neg h5])
    have HR := Lib.hid (HDN.out [] w1 (by rw [List.append_nil]; exact HW.out.mono (fun k _ h => .inl h)) (Fr.refl _ _))
    go_wp2
    go_end0
    exact ⟨rfl, by rw [HE.out]; exact HR.out.1, HR.out.2⟩
set_option maxHeartbeats 4000000 in
set_option maxRecDepth 100000 in
theorem bytes_calls (D : Nat → Prop) (w : World) (t : Th) (bv : Value) (hw : t.wf) (hB : Byt D w bv t.b) (hlen : 9 + t.b.length ≤ 140737488355328) :
    Calls Try.prog 20 #[thv t bv] w fun e w' => ∃ v, e = .returned v ∧ Byt Any w' v (tbytes t) ∧ Below w.heap.size w w' := by
  obtain ⟨bk, bn, bm, bl⟩ := t
  obtain ⟨x0, x1, x2, x3⟩ := hw
  dsimp only at *
  obtain ⟨ba, bc, rfl, _⟩ := id hB
  have hbox : Below w.heap.size w (w.alloc (.cells #[.int .i64 bk, .int .u64 (bn : Int), .int .u64 (bm : Int), .slice ba bl.length bc] 39)) := (Below.refl _ _).alloc (Nat.le_refl _) _
  have hblk := Blk.new w #[.int .i64 bk, .int .u64 (bn : Int), .int .u64 (bm : Int), .slice ba bl.length bc] 39 [.int .i64 bk, .int .u64 (bn : Int), .int .u64 (bm : Int), .slice ba bl.length bc] rfl
  have hs1 : (w.alloc (.cells #[.int .i64 bk, .int .u64 (bn : Int), .int .u64 (bm : Int), .slice ba bl.length bc] 39)).heap.size = w.heap.size + 1 := by simp
  have HBb := Lib.hid (hB.any.below hbox)
  have HBX := Lib.hid hbox
  clear hB hbox
  go_enter Try.func20, Try.ntmps20
  go_upto_region 1 with fail
  generalize (w.alloc (.cells #[.int .i64 bk, .int .u64 (bn : Int), .int .u64 (bm : Int), .slice ba bl.length bc] 39)) = w1 at *
  have c0 := hblk.cell (i := 0) rfl
  have c1 := hblk.cell (i := 1) rfl
  have c3 := hblk.cell (i := 3) rfl
  clear hblk
  by_cases h0 : bk = 0
  · subst h0
    obtain ⟨y, hy⟩ : ∃ y, y = bn % 256 := ⟨_, rfl⟩
    have hyl : y < 256 := by omega
    have hrm : (bn : Int) % 256 = (y : Int) := by omega
    have HE := Lib.hid (show tbytes ⟨0, bn, bm, bl⟩ = num y 1 from by rw [hy]; rfl)
    clear hy
    go_wp2_with fail
    refine (number_calls w1 y 1 (by omega) (by omega)).mono ?_
    rintro e w2 ⟨xa, xc, rfl, g1, g2⟩
    have HR := Lib.hid g1.byt.any
    have HB2 := Lib.hid (HBX.out.trans (g2.mono (by omega)))
    clear g1 g2 c0 c1 c3
    go_wp2
    go_ret
    exact ⟨_, rfl, by rw [HE.out]; exact HR.out, HB2.out⟩
  by_cases h1 : bk = 1
  · subst h1
    obtain ⟨y, hy⟩ : ∃ y, y = bn % 4294967296 := ⟨_, rfl⟩
    have hyl : y < 4294967296 := by omega
    have hrm : (bn : Int) % 4294967296 = (y : Int) := by omega
    have HE := Lib.hid (show tbytes ⟨1, bn, bm, bl⟩ = num y 4 from by rw [hy]; rfl)
    clear hy
    go_wp2_with fail
    refine (number_calls w1 y 4 (by omega) (by omega)).mono ?_
    rintro e w2 ⟨xa, xc, rfl, g1, g2⟩
    have HR := Lib.hid g1.byt.any
    have HB2 := Lib.hid (HBX.out.trans (g2.mono (by omega)))
    clear g1 g2 c0 c1 c3
    go_wp2
    go_ret
    exact ⟨_, rfl, by rw [HE.out]; exact HR.out, HB2.out⟩
  by_cases h2 : bk = 2
  · subst h2
    have HE := Lib.hid (show tbytes ⟨2, bn, bm, bl⟩ = num bn 8 from rfl)
    go_wp2_with fail
    refine (number_calls w1 bn 8 (by omega) (by omega)).mono ?_
    rintro e w2 ⟨xa, xc, rfl, g1, g2⟩
    have HR := Lib.hid g1.byt.any
    have HB2 := Lib.hid (HBX.out.trans (g2.mono (by omega)))
    clear g1 g2 c0 c1 c3
    go_wp2
    go_ret
    exact ⟨_, rfl, by rw [HE.out]; exact HR.out, HB2.out⟩
  by_cases h3 : bk = 3
  · subst h3
    have HE := Lib.hid (show tbytes ⟨3, bn, bm, bl⟩ = var bn from rfl)
    go_wp2_with fail
    refine (ref_var_calls w1 bn (by omega)).mono ?_
    rintro e w2 ⟨xv, rfl, g1, g2⟩
    have HR := Lib.hid g1.byt.any
    have HB2 := Lib.hid (HBX.out.trans (g2.mono (by omega)))
    clear g1 g2 c0 c1 c3
    go_wp2
    go_ret
    exact ⟨_, rfl, by rw [HE.out]; exact HR.out, HB2.out⟩
  by_cases h4 : bk = 4
  · subst h4
    have HE := Lib.hid (show tbytes ⟨4, bn, bm, bl⟩ = bl from rfl)
    go_wp2
    go_ret
    exact ⟨_, rfl, by rw [HE.out]; exact HBb.out, HBX.out⟩
  by_cases h5 : bk = 5
  · subst h5
    have HE := Lib.hid (show tbytes ⟨5, bn, bm, bl⟩ = text bl from rfl)
    go_wp2_with fail
    refine (ref_text_calls w1 _ _ bl HBb.out (by omega)).mono ?_
    rintro e w2 ⟨xv, rfl, g1, g2⟩
    have HR := Lib.hid g1.byt.any
    have HB2 := Lib.hid (HBX.out.trans (g2.mono (by omega)))
    clear g1 g2 c0 c1 c3
    go_wp2
    go_ret
    exact ⟨_, rfl, by rw [HE.out]; exact HR.out, HB2.out⟩
  · have hb0 : (bk == 0) = false := by simpa using h0
    have hb1 : (bk == 1) = false := by simpa using h1
    have hb2 : (bk == 2) = false := by simpa using h2
    have hb3 : (bk == 3) = false := by simpa using h3
    have hb4 : (bk == 4) = false := by simpa using h4
    have hb5 : (bk == 5) = false := by simpa using h5
    have HE := Lib.hid (show tbytes ⟨bk, bn, bm, bl⟩ = [] by unfold tbytes; dsimp only; rw [if_neg h0, if_neg h1, if_neg h2, if_neg h3, if_neg h4, if_neg h5])
    go_wp2
    go_ret
    exact ⟨_, rfl, by rw [HE.out]; exact Byt.nil _ _, HBX.out⟩
end Go.Proofs.Ytodhhejliijdmab.CodecN
