/- Walks of the wire's mainHeader, written, MainHeader and MainId, the program's and the reference's. Conditions: a header as it reads; for the ids: the tables are laid. -/
import Derived.Test.YtmenchnjajpkmaaDoorWw
import Derived.Test.YtmenchnjajpkmaaDoorRw
import Derived.Test.YtmenchnjajpkmaaDoorCodecR
import Derived.Test.YtmenchnjajpkmaaDoorMhPure
namespace Go.Proofs.YtmenchnjajpkmaaDoor.Wh
open Go Go.RowKit Mem Codec CodecW Mh Ww ShaW
set_option linter.unusedVariables false

theorem szH {h : Hd} (ok : h.Ok) : (Tryd.prog.info? 32).map (·.size) = some h.cells.length := by rw [ok.len]; kernel_rfl
theorem range_prev {w : World} {b : Nat} {h : Hd} {e : TypeId} (hB : Blk w b h.cells e) : w.rangeAt b 0 (h.prev.map byt) := fun j v hv => by
  rw [Nat.zero_add]; have := Hd.at_prev (h := h) hv; rw [Nat.zero_add] at this; exact hB.cell this
theorem range_root {w : World} {b : Nat} {h : Hd} {e : TypeId} (ok : h.Ok) (hB : Blk w b h.cells e) : w.rangeAt b 32 (h.root.map byt) := fun j v hv => hB.cell (Hd.at_root ok hv)
set_option maxHeartbeats 4000000 in
set_option maxRecDepth 100000 in
theorem header_to (S : Nat → Prop) (w0 w : World) (q : Nat) (m : List UInt8) (bad : Bool) (h : Hd) (ok : h.Ok) (H : At S w0 w q m bad) (hlen : m.length + 80 ≤ 140737488355328) :
    Calls Tryd.prog 41 #[.pointer (some ⟨q, 0, none⟩), hv h] w fun e w' => e = .returned (.tuple #[]) ∧ At S w0 w' q (m ++ encH h) bad := by
  obtain ⟨cs, hcs⟩ : ∃ cs, h.cells.toArray = cs := ⟨_, rfl⟩
  show Calls _ _ #[_, .agg h.cells.toArray] _ _
  have HB := Lib.hid (show Blk (w.alloc (.cells cs 32)) w.heap.size h.cells 32 from Blk.new w _ _ _ hcs.symm)
  have HX := Lib.hid (fun w' m' => @At.box S w0 w w' q m bad (.cells cs 32) m' bad h.cells 32 H)
  have H1 := Lib.hid (H.enter (.cells cs 32))
  have HL := Lib.hid (fun w' m' => @At.leave S w0 w w' q m bad (.cells cs 32) m' bad H)
  have HP := Lib.hid (szD ok.1)
  have HR := Lib.hid (szD ok.2.1)
  have OK := Lib.hid ok
  have hz : (w.alloc (.cells cs 32)).heap.size = w.heap.size + 1 := by simp
  have hpl : h.prev.length = 32 := ok.1
  have hrl : h.root.length = 32 := ok.2.1
  have HPL := Lib.hid hpl
  have HRL := Lib.hid hrl
  rw [hcs]
  clear H hcs hpl hrl ok
  go_enter Tryd.func41, Tryd.ntmps41
  go_upto_region 1 with fail
  have HB0 := Lib.hid (fun w' m' g => HX.out w' m' g HB.out)
  generalize (w.alloc (.cells cs 32)) = w1 at *
  go_wp2_with (first | (with_reducible refine wpList_load_mid rfl _ _ rfl w.heap.size 0 rfl (h.prev.map byt) _ (range_prev HB.out) Tryd.underlying24 rfl HP.out ?_))
  refine (digest_calls _ _ w1 q m bad h.prev HPL.out H1.out (by omega)).mono ?_
  rintro e w2 ⟨rfl, g1⟩
  have B2 := Lib.hid (HB0.out _ _ g1)
  have H2 := Lib.hid g1
  clear g1 H1
  go_wp2_with (first | (with_reducible refine wpList_load_mid rfl _ _ rfl w.heap.size 32 rfl (h.root.map byt) _ (range_root OK.out B2.out) Tryd.underlying24 rfl HR.out ?_))
  refine (digest_calls _ _ w2 q _ bad h.root HRL.out H2.out (by rw [List.length_append, HPL.out]; omega)).mono ?_
  rintro e w3 ⟨rfl, g1⟩
  have B3 := Lib.hid (HB0.out _ _ g1)
  have H3 := Lib.hid g1
  clear g1 H2 B2
  obtain ⟨p, h1, h2, h3⟩ := H3.out.drew.opened
  have HW := Lib.hid h2
  have HQ := Lib.hid h1
  have c0 := h1.cell (i := 0) rfl
  have c1 : w3.cell? ⟨q, 0, none⟩ = some (.pointer (some ⟨p, 0, none⟩)) := c0
  have d0 : w3.cell? ⟨w.heap.size, 64, none⟩ = some (.int .u64 (h.height : Int)) := B3.out.cell (Hd.cell_height OK.out)
  clear h1 h2 h3
  go_wp2_with fail
  go_still_tail 6, (by kernel_rfl)
  change wpList _ _ _ _ _ w3.drew
  go_wp2_with fail
  refine (long_calls _ w3.drew p _ h.height OK.out.2.2.1 HW.out (by rw [List.length_append, List.length_append, HPL.out, HRL.out]; omega)).mono ?_
  rintro e w4 ⟨rfl, g1, g2⟩
  have H4 := Lib.hid (H3.out.drew.shut HQ.out g1 g2)
  have B4 := Lib.hid (HB0.out _ _ H4.out)
  clear g1 g2 H3 B3 HW HQ c0 c1 d0
  obtain ⟨p, h1, h2, h3⟩ := H4.out.drew.opened
  have HW := Lib.hid h2
  have HQ := Lib.hid h1
  have c0 := h1.cell (i := 0) rfl
  have c1 : w4.cell? ⟨q, 0, none⟩ = some (.pointer (some ⟨p, 0, none⟩)) := c0
  have d0 : w4.cell? ⟨w.heap.size, 65, none⟩ = some (.int .u64 (h.nonce : Int)) := B4.out.cell (Hd.cell_nonce OK.out)
  clear h1 h2 h3
  go_wp2_with fail
  go_still_tail 6, (by kernel_rfl)
  change wpList _ _ _ _ _ w4.drew
  go_wp2_with fail
  refine (long_calls _ w4.drew p _ h.nonce OK.out.2.2.2 HW.out (by simp only [List.length_append, HPL.out, HRL.out, num_length]; omega)).mono ?_
  rintro e w5 ⟨rfl, g1, g2⟩
  have H5 := Lib.hid (H4.out.drew.shut HQ.out g1 g2)
  have HF := Lib.hid (HL.out _ _ H5.out)
  clear g1 g2 H4 B4 HW HQ c0 c1 d0 HL HB0 HX HB
  go_wp2
  go_end0
  refine ⟨rfl, ?_⟩
  have := HF.out
  simp only [List.append_assoc] at this
  exact this
theorem encH_length {h : Hd} (ok : h.Ok) : (encH h).length = 80 := by simp [encH, ok.1, ok.2.1, num_length]
/-- a new writer's box -/
theorem made {w w1 : World} {p : Nat} (hp : WriterIs (fun k => k = p) w1 p []) : WwIs (fun k => k = p ∨ k = w1.heap.size) (w1.alloc (.cells #[.pointer (some ⟨p, 0, none⟩), .bool false] 97)) w1.heap.size [] false := by
  have hlt := hp.lt
  exact ⟨.inr rfl, p, Blk.new _ _ _ _ rfl, (hp.below ((Below.refl _ _).alloc (Nat.le_refl _) _)).mono (fun k _ h => ⟨.inl h, by omega⟩)⟩
theorem made_at {w1 : World} {p : Nat} (hp : WriterIs (fun k => k = p) w1 p []) : At (fun k => k = p ∨ k = w1.heap.size) (w1.alloc (.cells #[.pointer (some ⟨p, 0, none⟩), .bool false] 97)) (w1.alloc (.cells #[.pointer (some ⟨p, 0, none⟩), .bool false] 97)) w1.heap.size [] false :=
  At.start (made (w := w1) hp) (fun k h => by have := hp.lt; simp; omega)
set_option maxHeartbeats 4000000 in
set_option maxRecDepth 100000 in
theorem written_calls (w : World) (h : Hd) (ok : h.Ok) :
    Calls Tryd.prog 40 #[hv h, .func (.func 41) #[] #[]] w fun e w' => ∃ a c, e = .returned (.tuple #[.slice a 80 c, .int .i64 0]) ∧ OwnB w.heap.size 5 w' (.slice a 80 c) (encH h) ∧ Below w.heap.size w w' := by
  obtain ⟨cs, hcs⟩ : ∃ cs, h.cells.toArray = cs := ⟨_, rfl⟩
  show Calls _ _ #[.agg h.cells.toArray, _] _ _
  have HB := Lib.hid (show Blk (w.alloc (.cells cs 32)) w.heap.size h.cells 32 from Blk.new w _ _ _ hcs.symm)
  have B1 := Lib.hid (show Below w.heap.size w (w.alloc (.cells cs 32)) from (Below.refl _ _).alloc (Nat.le_refl _) _)
  have hz : w.heap.size + 1 ≤ (w.alloc (.cells cs 32)).heap.size := by simp
  have HZ := Lib.hid (szH ok)
  have HE := Lib.hid (encH_length ok)
  rw [hcs]
  have HC := Lib.hid hcs
  clear hcs
  go_enter Tryd.func40, Tryd.ntmps40
  go_upto_region 1 with fail
  generalize (w.alloc (.cells cs 32)) = w1 at *
  go_wp2_with fail
  refine (CodecW.new_calls w1).mono ?_
  rintro e w2 ⟨p, rfl, hp1, hp2, hp3⟩
  have hs2 := hp3.size
  have H2 := Lib.hid (made_at hp2)
  have HB2 := Lib.hid ((HB.out.below hp3).alloc (.cells #[.pointer (some ⟨p, 0, none⟩), .bool false] 97))
  have B2 := Lib.hid ((B1.out.trans (hp3.mono (by omega))).alloc (by have := B1.out.size; omega) (.cells #[.pointer (some ⟨p, 0, none⟩), .bool false] 97))
  have hs3 : (w2.alloc (.cells #[.pointer (some ⟨p, 0, none⟩), .bool false] 97)).heap.size = w2.heap.size + 1 := by simp
  have hpw : w.heap.size < p := by omega
  clear hp2 hp3 HB B1
  go_upto_region 2 with fail
  generalize (w2.alloc (.cells #[.pointer (some ⟨p, 0, none⟩), .bool false] 97)) = w3 at *
  go_wp2_with (first | (with_reducible refine wpList_load_blk rfl _ _ rfl w.heap.size h.cells rfl HB2.out _ Tryd.underlying32 rfl HZ.out ?_))
  rw [← HC.out]
  refine (header_to _ w3 w3 w2.heap.size [] false h ok H2.out (by simp)).mono ?_
  rintro e w4 ⟨rfl, g1⟩
  obtain ⟨⟨g2, p2, g3, g4⟩, g5, g6⟩ := id g1
  have hg5 := g5.size
  have c1 := g3.cell (i := 1) rfl
  have c0 := g3.cell (i := 0) rfl
  have HW := Lib.hid g4
  have B4 := Lib.hid (B2.out.trans (show Below w.heap.size w3 w4 from g5.below (by omega) (fun k h => by omega)))
  have hb4 := B4.out.size
  rw [List.nil_append] at HW
  clear g1 g2 g3 g4 g5 g6 H2 HB2 B2
  go_wp2_with fail
  refine (CodecR.bytes_calls _ w4 p2 _ HW.out (by rw [HE.out]; omega)).mono ?_
  rintro e w5 ⟨a, c, rfl, g1, g2⟩
  rw [HE.out] at g1
  rw [HE.out]
  have G1 := Lib.hid g1
  have BF := Lib.hid (B4.out.trans (g2.mono hb4))
  clear g1 g2 c0 c1 HW B4
  go_wp2
  go_ret2
  exact ⟨a, c, rfl, G1.out.mono hb4, BF.out⟩
set_option maxHeartbeats 4000000 in
set_option maxRecDepth 100000 in
theorem mainHeader_calls (w : World) (h : Hd) (ok : h.Ok) :
    Calls Tryd.prog 31 #[hv h] w fun e w' => ∃ a c, e = .returned (.slice a 80 c) ∧ OwnB w.heap.size 5 w' (.slice a 80 c) (encH h) ∧ Below w.heap.size w w' := by
  obtain ⟨cs, hcs⟩ : ∃ cs, h.cells.toArray = cs := ⟨_, rfl⟩
  show Calls _ _ #[.agg h.cells.toArray] _ _
  have HB := Lib.hid (show Blk (w.alloc (.cells cs 32)) w.heap.size h.cells 32 from Blk.new w _ _ _ hcs.symm)
  have B1 := Lib.hid (show Below w.heap.size w (w.alloc (.cells cs 32)) from (Below.refl _ _).alloc (Nat.le_refl _) _)
  have hz : (w.alloc (.cells cs 32)).heap.size = w.heap.size + 1 := by simp
  have HZ := Lib.hid (szH ok)
  rw [hcs]
  have HC := Lib.hid hcs
  clear hcs
  go_enter Tryd.func31, Tryd.ntmps31
  go_upto_region 1 with fail
  generalize (w.alloc (.cells cs 32)) = w1 at *
  go_wp2_with (first | (with_reducible refine wpList_load_blk rfl _ _ rfl w.heap.size h.cells rfl HB.out _ Tryd.underlying32 rfl HZ.out ?_))
  rw [← HC.out]
  refine (written_calls w1 h ok).mono ?_
  rintro e w2 ⟨a, c, rfl, g1, g2⟩
  have G1 := Lib.hid g1
  have G2 := Lib.hid (B1.out.trans (g2.mono (by omega)))
  clear g1 g2 B1 HB
  go_wp2
  go_ret
  exact ⟨a, c, rfl, G1.out.mono (by omega), G2.out⟩
/-- a digest's block, as it is made -/
theorem start32 (w : World) : ∃ W, w.alloc (.cells #[.int .u8 0, .int .u8 0, .int .u8 0, .int .u8 0, .int .u8 0, .int .u8 0, .int .u8 0, .int .u8 0, .int .u8 0, .int .u8 0, .int .u8 0, .int .u8 0, .int .u8 0, .int .u8 0, .int .u8 0, .int .u8 0, .int .u8 0, .int .u8 0, .int .u8 0, .int .u8 0, .int .u8 0, .int .u8 0, .int .u8 0, .int .u8 0, .int .u8 0, .int .u8 0, .int .u8 0, .int .u8 0, .int .u8 0, .int .u8 0, .int .u8 0, .int .u8 0] 24) = W ∧ Hid (Blk W w.heap.size (List.replicate 32 (.int .u8 0)) 24) ∧ Hid (Below w.heap.size w W) ∧ w.heap.size + 1 = W.heap.size :=
  ⟨_, rfl, Lib.hid (ShaW.new32 w), Lib.hid ((Below.refl _ _).alloc (Nat.le_refl _) _), by simp⟩
theorem byts_one (w : World) (v : Value) (l : List UInt8) (e : TypeId) (hv : Byt Any w v l) : Byts (w.alloc (.cells #[v] e)) (.slice (some ⟨w.heap.size, 0, none⟩) 1 1) [l] := by
  refine ⟨_, 1, rfl, ⟨by simp, by unfold maxLen; omega, fun h => by cases h⟩, .inr ⟨w.heap.size, 0, rfl, fun i hi => ?_⟩⟩
  obtain rfl : i = 0 := by simpa using hi
  exact ⟨v, (Blk.new w #[v] e [v] rfl).cell (i := 0) rfl, hv.below ((Below.refl _ _).alloc (Nat.le_refl _) _)⟩
theorem szDA {m : List UInt8} (h : m.length = 32) : (Tryd.prog.info? 24).map (·.size) = some (m.map byt).toArray.size := by rw [List.size_toArray, List.length_map, h]; kernel_rfl
set_option maxHeartbeats 4000000 in
set_option maxRecDepth 100000 in
theorem ref_header_to (S : Nat → Prop) (w0 w : World) (q : Nat) (m : List UInt8) (bad : Bool) (h : Hd) (ok : h.Ok) (H : Rw.RAt S w0 w q m bad) (hlen : m.length + 80 ≤ 140737488355328) :
    Calls Tryd.prog 28 #[.pointer (some ⟨q, 0, none⟩), hv h] w fun e w' => e = .returned (.tuple #[]) ∧ Rw.RAt S w0 w' q (m ++ encH h) bad := by
  obtain ⟨cs, hcs⟩ : ∃ cs, h.cells.toArray = cs := ⟨_, rfl⟩
  show Calls _ _ #[_, .agg h.cells.toArray] _ _
  have HB := Lib.hid (show Blk (w.alloc (.cells cs 32)) w.heap.size h.cells 32 from Blk.new w _ _ _ hcs.symm)
  have HX := Lib.hid (fun w' m' => @Rw.RAt.box S w0 w w' q m bad (.cells cs 32) m' bad h.cells 32 H)
  have H1 := Lib.hid (H.enter (.cells cs 32))
  have HL := Lib.hid (fun w' m' => @Rw.RAt.leave S w0 w w' q m bad (.cells cs 32) m' bad H)
  have HP := Lib.hid (szD ok.1)
  have HR := Lib.hid (szD ok.2.1)
  have OK := Lib.hid ok
  have hz : (w.alloc (.cells cs 32)).heap.size = w.heap.size + 1 := by simp
  have HPL := Lib.hid ok.1
  have HRL := Lib.hid ok.2.1
  rw [hcs]
  clear H hcs ok
  go_enter Tryd.func28, Tryd.ntmps28
  go_upto_region 1 with fail
  have HB0 := Lib.hid (fun w' m' g => HX.out w' m' g HB.out)
  generalize (w.alloc (.cells cs 32)) = w1 at *
  go_wp2_with (first | (with_reducible refine wpList_load_mid rfl _ _ rfl w.heap.size 0 rfl (h.prev.map byt) _ (range_prev HB.out) Tryd.underlying24 rfl HP.out ?_))
  refine (Rw.digest_to _ _ w1 q m bad h.prev HPL.out H1.out (by omega)).mono ?_
  rintro e w2 ⟨rfl, g1⟩
  have B2 := Lib.hid (HB0.out _ _ g1)
  have H2 := Lib.hid g1
  clear g1 H1
  go_wp2_with (first | (with_reducible refine wpList_load_mid rfl _ _ rfl w.heap.size 32 rfl (h.root.map byt) _ (range_root OK.out B2.out) Tryd.underlying24 rfl HR.out ?_))
  refine (Rw.digest_to _ _ w2 q _ bad h.root HRL.out H2.out (by rw [List.length_append, HPL.out]; omega)).mono ?_
  rintro e w3 ⟨rfl, g1⟩
  have B3 := Lib.hid (HB0.out _ _ g1)
  have H3 := Lib.hid g1
  have d0 : w3.cell? ⟨w.heap.size, 64, none⟩ = some (.int .u64 (h.height : Int)) := B3.out.cell (Hd.cell_height OK.out)
  clear g1 H2 B2
  go_wp2_with fail
  refine (Rw.num_to _ _ w3 q _ bad h.height 8 OK.out.2.2.1 (by omega) H3.out (by rw [List.length_append, List.length_append, HPL.out, HRL.out]; omega)).mono ?_
  rintro e w4 ⟨rfl, g1⟩
  have B4 := Lib.hid (HB0.out _ _ g1)
  have H4 := Lib.hid g1
  have d1 : w4.cell? ⟨w.heap.size, 65, none⟩ = some (.int .u64 (h.nonce : Int)) := B4.out.cell (Hd.cell_nonce OK.out)
  clear g1 H3 B3 d0
  go_wp2_with fail
  refine (Rw.num_to _ _ w4 q _ bad h.nonce 8 OK.out.2.2.2 (by omega) H4.out (by simp only [List.length_append, HPL.out, HRL.out, num_length]; omega)).mono ?_
  rintro e w5 ⟨rfl, g1⟩
  have HF := Lib.hid (HL.out _ _ g1)
  clear g1 H4 B4 d1 HL HB0 HX HB
  go_wp2
  go_end0
  refine ⟨rfl, ?_⟩
  have := HF.out
  simp only [List.append_assoc] at this
  exact this
set_option maxHeartbeats 4000000 in
set_option maxRecDepth 100000 in
theorem ref_mainHeader_calls (w : World) (h : Hd) (ok : h.Ok) :
    Calls Tryd.prog 21 #[hv h] w fun e w' => ∃ a c, e = .returned (.slice a 80 c) ∧ OwnB 0 5 w' (.slice a 80 c) (encH h) ∧ Below w.heap.size w w' := by
  obtain ⟨cs, hcs⟩ : ∃ cs, h.cells.toArray = cs := ⟨_, rfl⟩
  show Calls _ _ #[.agg h.cells.toArray] _ _
  have HB := Lib.hid (show Blk (w.alloc (.cells cs 32)) w.heap.size h.cells 32 from Blk.new w _ _ _ hcs.symm)
  have B1 := Lib.hid (show Below w.heap.size w (w.alloc (.cells cs 32)) from (Below.refl _ _).alloc (Nat.le_refl _) _)
  have hz : w.heap.size + 1 ≤ (w.alloc (.cells cs 32)).heap.size := by simp
  have HZ := Lib.hid (szH ok)
  have HE := Lib.hid (encH_length ok)
  rw [hcs]
  have HC := Lib.hid hcs
  clear hcs
  go_enter Tryd.func21, Tryd.ntmps21
  go_upto_region 1 with fail
  generalize (w.alloc (.cells cs 32)) = w1 at *
  have H2 := Lib.hid (Rw.RAt.start (RfW.RefIs.new w1) (fun k h => by simp; omega))
  have HB2 := Lib.hid (HB.out.alloc (.cells #[.slice none 0 0, .bool false] 69))
  have B2 := Lib.hid (B1.out.alloc (by omega) (.cells #[.slice none 0 0, .bool false] 69))
  have hs3 : w1.heap.size + 1 ≤ (w1.alloc (.cells #[.slice none 0 0, .bool false] 69)).heap.size := by simp
  clear HB B1
  go_upto_region 2 with fail
  generalize (w1.alloc (.cells #[.slice none 0 0, .bool false] 69)) = w3 at *
  go_wp2_with (first | (with_reducible refine wpList_load_blk rfl _ _ rfl w.heap.size h.cells rfl HB2.out _ Tryd.underlying32 rfl HZ.out ?_))
  rw [← HC.out]
  refine (ref_header_to _ w3 w3 w1.heap.size [] false h ok H2.out (by simp)).mono ?_
  rintro e w4 ⟨rfl, g1⟩
  obtain ⟨a, c, g2, g3, g4, _, _⟩ := g1.1.opened
  have g5 := g1.2.1
  have c0 := g2.cell (i := 0) rfl
  rw [List.nil_append, HE.out] at c0 g3
  have G3 := Lib.hid g3
  have BF := Lib.hid (B2.out.trans (show Below w.heap.size w3 w4 from g5.below (by omega) (fun k h => by omega)))
  clear g1 g2 g3 g4 g5 H2 B2 HB2
  go_wp2
  go_ret
  exact ⟨a, c, rfl, G3.out, BF.out⟩
set_option maxHeartbeats 4000000 in
set_option maxRecDepth 100000 in
theorem mainId_calls (w : World) (h : Hd) (ok : h.Ok) (hT : TabB w 1) :
    Calls Tryd.prog 25 #[hv h] w fun e w' => e = .returned (dv (mainId h)) ∧ Below w.heap.size w w' := by
  obtain ⟨cs, hcs⟩ : ∃ cs, h.cells.toArray = cs := ⟨_, rfl⟩
  show Calls _ _ #[.agg h.cells.toArray] _ _
  obtain ⟨w1, hw1⟩ : ∃ w1, w.alloc (.cells cs 32) = w1 := ⟨_, rfl⟩
  have HB := Lib.hid (show Blk w1 w.heap.size h.cells 32 from by rw [← hw1]; exact Blk.new w _ _ _ hcs.symm)
  have B1 := Lib.hid (show Below w.heap.size w w1 from by rw [← hw1]; exact (Below.refl _ _).alloc (Nat.le_refl _) _)
  have hz : w.heap.size + 1 = w1.heap.size := by rw [← hw1]; simp
  obtain ⟨W, hW, H0, BW, hs⟩ := start32 w1
  have HB2 := Lib.hid (HB.out.below BW.out)
  have B2 := Lib.hid (B1.out.trans (BW.out.mono (by omega)))
  have HT := Lib.hid (hT.below B2.out)
  have HZ := Lib.hid (szH ok)
  have hsz := BW.out.size
  rw [hcs]
  have HC := Lib.hid hcs
  clear hcs hT HB B1
  go_enter Tryd.func25, Tryd.ntmps25
  go_upto_region 1 with fail
  clear hw1 hW
  go_wp2_with (first | (with_reducible refine wpList_load_blk rfl _ _ rfl w.heap.size h.cells rfl HB2.out _ Tryd.underlying32 rfl HZ.out ?_))
  rw [← HC.out]
  refine (mainHeader_calls W h ok).mono ?_
  rintro e w2 ⟨a, c, rfl, g1, g2⟩
  have HBW := Lib.hid (show Byt Any w2 (.slice a 80 c) (encH h) from g1.byt.any)
  have H2 := Lib.hid (H0.out.below g2)
  have HT2 := Lib.hid (HT.out.below g2)
  have B3 := Lib.hid (B2.out.trans (g2.mono (by omega)))
  have hs2 := g2.size
  clear g1 g2 HB2 H0
  have HAL := Lib.hid (show Below w2.heap.size w2 (w2.alloc (.cells #[.slice a 80 c] 56)) from (Below.refl _ _).alloc (Nat.le_refl _) _)
  have HY := Lib.hid (byts_one w2 (.slice a 80 c) (encH h) 56 HBW.out)
  have HT3 := Lib.hid (HT2.out.below HAL.out)
  have HLE := Lib.hid (encH_length ok)
  go_wp2_with fail
  refine (tagged_calls _ idName _ [encH h] HY.out (by decide) (by simp [HLE.out]) (by simp) HT3.out).mono ?_
  rintro e w3 ⟨rfl, g⟩
  have H3 := Lib.hid ((H2.out.below HAL.out).below g)
  have B4 := Lib.hid (B3.out.trans ((HAL.out.trans (g.mono HAL.out.size)).mono (by omega)))
  have HML := Lib.hid (mainId_length h)
  have HONE := Lib.hid (one_cells (mainId h))
  have HE := Lib.hid (show mainId h = tagged idName [encH h] from rfl)
  rw [← HE.out]
  obtain ⟨m, hm⟩ : ∃ m, mainId h = m := ⟨_, rfl⟩
  rw [hm] at HML HONE ⊢
  have HM := Lib.hid hm
  clear g H2 B2 B3 HAL HY HBW hm HE
  go_wp2_with (with_reducible refine wpList_store_blk rfl _ _ _ rfl w1.heap.size (m.map byt) _ rfl _ rfl rfl H3.out (szD HML.out) (by simp [HML.out]) HONE.out ?_)
  exact bodyPost_ret (v := dv m) (results_cell_row Tryd.results25 _ _ w1.heap.size 24 _ (0, 0) _ rfl (H3.out.row _) Tryd.underlying24 rfl (szDA HML.out)) rfl ⟨by rw [HM.out], below_setRow B4.out (by omega) _⟩
set_option maxHeartbeats 4000000 in
set_option maxRecDepth 100000 in
theorem ref_mainId_calls (w : World) (h : Hd) (ok : h.Ok) (hT : TabB w 0) :
    Calls Tryd.prog 7 #[hv h] w fun e w' => e = .returned (dv (mainId h)) ∧ Below w.heap.size w w' := by
  obtain ⟨cs, hcs⟩ : ∃ cs, h.cells.toArray = cs := ⟨_, rfl⟩
  show Calls _ _ #[.agg h.cells.toArray] _ _
  obtain ⟨w1, hw1⟩ : ∃ w1, w.alloc (.cells cs 32) = w1 := ⟨_, rfl⟩
  have HB := Lib.hid (show Blk w1 w.heap.size h.cells 32 from by rw [← hw1]; exact Blk.new w _ _ _ hcs.symm)
  have B1 := Lib.hid (show Below w.heap.size w w1 from by rw [← hw1]; exact (Below.refl _ _).alloc (Nat.le_refl _) _)
  have hz : w.heap.size + 1 = w1.heap.size := by rw [← hw1]; simp
  obtain ⟨W, hW, H0, BW, hs⟩ := start32 w1
  have HB2 := Lib.hid (HB.out.below BW.out)
  have B2 := Lib.hid (B1.out.trans (BW.out.mono (by omega)))
  have HT := Lib.hid (hT.below B2.out)
  have HZ := Lib.hid (szH ok)
  have hsz := BW.out.size
  rw [hcs]
  have HC := Lib.hid hcs
  clear hcs hT HB B1
  go_enter Tryd.func7, Tryd.ntmps7
  go_upto_region 1 with fail
  clear hw1 hW
  go_wp2_with (first | (with_reducible refine wpList_load_blk rfl _ _ rfl w.heap.size h.cells rfl HB2.out _ Tryd.underlying32 rfl HZ.out ?_))
  rw [← HC.out]
  refine (ref_mainHeader_calls W h ok).mono ?_
  rintro e w2 ⟨a, c, rfl, g1, g2⟩
  have HBW := Lib.hid (show Byt Any w2 (.slice a 80 c) (encH h) from g1.byt.any)
  have H2 := Lib.hid (H0.out.below g2)
  have HT2 := Lib.hid (HT.out.below g2)
  have B3 := Lib.hid (B2.out.trans (g2.mono (by omega)))
  have hs2 := g2.size
  clear g1 g2 HB2 H0
  have HAL := Lib.hid (show Below w2.heap.size w2 (w2.alloc (.cells #[.slice a 80 c] 56)) from (Below.refl _ _).alloc (Nat.le_refl _) _)
  have HY := Lib.hid (byts_one w2 (.slice a 80 c) (encH h) 56 HBW.out)
  have HT3 := Lib.hid (HT2.out.below HAL.out)
  have HLE := Lib.hid (encH_length ok)
  go_wp2_with fail
  refine (ref_tagged_calls _ idName _ [encH h] HY.out (by decide) (by simp [HLE.out]) (by simp) HT3.out).mono ?_
  rintro e w3 ⟨rfl, g⟩
  have H3 := Lib.hid ((H2.out.below HAL.out).below g)
  have B4 := Lib.hid (B3.out.trans ((HAL.out.trans (g.mono HAL.out.size)).mono (by omega)))
  have HML := Lib.hid (mainId_length h)
  have HONE := Lib.hid (one_cells (mainId h))
  have HE := Lib.hid (show mainId h = tagged idName [encH h] from rfl)
  rw [← HE.out]
  obtain ⟨m, hm⟩ : ∃ m, mainId h = m := ⟨_, rfl⟩
  rw [hm] at HML HONE ⊢
  have HM := Lib.hid hm
  clear g H2 B2 B3 HAL HY HBW hm HE
  go_wp2_with (with_reducible refine wpList_store_blk rfl _ _ _ rfl w1.heap.size (m.map byt) _ rfl _ rfl rfl H3.out (szD HML.out) (by simp [HML.out]) HONE.out ?_)
  exact bodyPost_ret (v := dv m) (results_cell_row Tryd.results7 _ _ w1.heap.size 24 _ (0, 0) _ rfl (H3.out.row _) Tryd.underlying24 rfl (szDA HML.out)) rfl ⟨by rw [HM.out], below_setRow B4.out (by omega) _⟩
end Go.Proofs.YtmenchnjajpkmaaDoor.Wh
