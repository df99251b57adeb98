/- Walks of the wire's mainHeader, written, MainHeader and MainId, the program's and the reference's. Conditions: a header as it reads; for the ids: the tables are laid. Words for slices of values of the call's own: what they hold, and what append does. Program-independent; no condition. Words for slices whose elements are so many cells each: what they read as, pieces of them, what the call's own hold. Program-independent; no condition. Words for slices whose elements are written: two elements change places; a slice is turned round. Program-independent; no condition. What a struct's literal is made of: its parts' cells, side by side. Program-independent; no condition. Laws at single operations, in lists and in regions that draw: a variable is made, a value is boxed, a row is stored: the world behind it is known by what it holds, not by how it was made. Program-independent; no condition. Walks of the wire's writer: must, kind, key, a list of keys, params. Condition: the bytes together are at most 2^47. Walks of the program's Params (bytes of a federation). Condition: the keys are read at most 2^41. -/
import Derived.Test.YtmenchnjajpkmaaGreatDoorPrvd
import Derived.Test.YtmenchnjajpkmaaGreatDoorPrvb
import Derived.Test.YtmenchnjajpkmaaGreatDoorPrve
import Derived.Test.YtmenchnjajpkmaaGreatDoorPrva
import Derived.OwnWalkIn
import Derived.Deep.MidRow
import Derived.Great.FillDense
import Derived.Laws.Tables
import Derived.OrdersHeld
import Derived.BigFrame
section
namespace Go.Proofs.YtmenchnjajpkmaaGreatDoor.Wh
open Go Go.RowKit Mem Codec CodecW Mh Ww ShaW
set_option linter.unusedVariables false

theorem szH {h : Hd} (ok : h.Ok) : (Tryz.prog.info? 41).map (·.size) = some h.cells.length := by rw [ok.len]; kernel_rfl
theorem range_prev {w : World} {b : Nat} {h : Hd} {e : TypeId} (hB : Blk w b h.cells e) : w.rangeAt b 0 (h.prev.map byt) := fun j v hv => by
  rw [Nat.zero_add]; have := Hd.at_prev (h := h) hv; rw [Nat.zero_add] at this; exact hB.cell this
theorem range_root {w : World} {b : Nat} {h : Hd} {e : TypeId} (ok : h.Ok) (hB : Blk w b h.cells e) : w.rangeAt b 32 (h.root.map byt) := fun j v hv => hB.cell (Hd.at_root ok hv)
set_option maxHeartbeats 4000000 in
set_option maxRecDepth 100000 in
theorem header_to (S : Nat → Prop) (w0 w : World) (q : Nat) (m : List UInt8) (bad : Bool) (h : Hd) (ok : h.Ok) (H : At S w0 w q m bad) (hlen : m.length + 80 ≤ 140737488355328) :
    Calls Tryz.prog 85 #[.pointer (some ⟨q, 0, none⟩), hv h] w fun e w' => e = .returned (.tuple #[]) ∧ At S w0 w' q (m ++ encH h) bad := by
  obtain ⟨cs, hcs⟩ : ∃ cs, h.cells.toArray = cs := ⟨_, rfl⟩
  show Calls _ _ #[_, .agg h.cells.toArray] _ _
  have HB := Lib.hid (show Blk (w.alloc (.cells cs 41)) w.heap.size h.cells 41 from Blk.new w _ _ _ hcs.symm)
  have HX := Lib.hid (fun w' m' => @At.box S w0 w w' q m bad (.cells cs 41) m' bad h.cells 41 H)
  have H1 := Lib.hid (H.enter (.cells cs 41))
  have HL := Lib.hid (fun w' m' => @At.leave S w0 w w' q m bad (.cells cs 41) m' bad H)
  have HP := Lib.hid (szD ok.1)
  have HR := Lib.hid (szD ok.2.1)
  have OK := Lib.hid ok
  have hz : (w.alloc (.cells cs 41)).heap.size = w.heap.size + 1 := by simp
  have hpl : h.prev.length = 32 := ok.1
  have hrl : h.root.length = 32 := ok.2.1
  have HPL := Lib.hid hpl
  have HRL := Lib.hid hrl
  rw [hcs]
  clear H hcs hpl hrl ok
  go_enter Tryz.func85, Tryz.ntmps85
  go_upto_region 1 with fail
  have HB0 := Lib.hid (fun w' m' g => HX.out w' m' g HB.out)
  generalize (w.alloc (.cells cs 41)) = w1 at *
  go_wp2_with (first | (with_reducible refine wpList_load_mid rfl _ _ rfl w.heap.size 0 rfl (h.prev.map byt) _ (range_prev HB.out) Tryz.underlying24 rfl HP.out ?_))
  refine (digest_calls _ _ w1 q m bad h.prev HPL.out H1.out (by omega)).mono ?_
  rintro e w2 ⟨rfl, g1⟩
  have B2 := Lib.hid (HB0.out _ _ g1)
  have H2 := Lib.hid g1
  clear g1 H1
  go_wp2_with (first | (with_reducible refine wpList_load_mid rfl _ _ rfl w.heap.size 32 rfl (h.root.map byt) _ (range_root OK.out B2.out) Tryz.underlying24 rfl HR.out ?_))
  refine (digest_calls _ _ w2 q _ bad h.root HRL.out H2.out (by rw [List.length_append, HPL.out]; omega)).mono ?_
  rintro e w3 ⟨rfl, g1⟩
  have B3 := Lib.hid (HB0.out _ _ g1)
  have H3 := Lib.hid g1
  clear g1 H2 B2
  obtain ⟨p, h1, h2, h3⟩ := H3.out.drew.opened
  have HW := Lib.hid h2
  have HQ := Lib.hid h1
  have c0 := h1.cell (i := 0) rfl
  have c1 : w3.cell? ⟨q, 0, none⟩ = some (.pointer (some ⟨p, 0, none⟩)) := c0
  have d0 : w3.cell? ⟨w.heap.size, 64, none⟩ = some (.int .u64 (h.height : Int)) := B3.out.cell (Hd.cell_height OK.out)
  clear h1 h2 h3
  go_wp2_with fail
  go_still_tail 6, (by kernel_rfl)
  change wpList _ _ _ _ _ w3.drew
  go_wp2_with fail
  refine (long_calls _ w3.drew p _ h.height OK.out.2.2.1 HW.out (by rw [List.length_append, List.length_append, HPL.out, HRL.out]; omega)).mono ?_
  rintro e w4 ⟨rfl, g1, g2⟩
  have H4 := Lib.hid (H3.out.drew.shut HQ.out g1 g2)
  have B4 := Lib.hid (HB0.out _ _ H4.out)
  clear g1 g2 H3 B3 HW HQ c0 c1 d0
  obtain ⟨p, h1, h2, h3⟩ := H4.out.drew.opened
  have HW := Lib.hid h2
  have HQ := Lib.hid h1
  have c0 := h1.cell (i := 0) rfl
  have c1 : w4.cell? ⟨q, 0, none⟩ = some (.pointer (some ⟨p, 0, none⟩)) := c0
  have d0 : w4.cell? ⟨w.heap.size, 65, none⟩ = some (.int .u64 (h.nonce : Int)) := B4.out.cell (Hd.cell_nonce OK.out)
  clear h1 h2 h3
  go_wp2_with fail
  go_still_tail 6, (by kernel_rfl)
  change wpList _ _ _ _ _ w4.drew
  go_wp2_with fail
  refine (long_calls _ w4.drew p _ h.nonce OK.out.2.2.2 HW.out (by simp only [List.length_append, HPL.out, HRL.out, num_length]; omega)).mono ?_
  rintro e w5 ⟨rfl, g1, g2⟩
  have H5 := Lib.hid (H4.out.drew.shut HQ.out g1 g2)
  have HF := Lib.hid (HL.out _ _ H5.out)
  clear g1 g2 H4 B4 HW HQ c0 c1 d0 HL HB0 HX HB
  go_wp2
  go_end0
  refine ⟨rfl, ?_⟩
  have := HF.out
  simp only [List.append_assoc] at this
  exact this
theorem encH_length {h : Hd} (ok : h.Ok) : (encH h).length = 80 := by simp [encH, ok.1, ok.2.1, num_length]
/-- a new writer's box -/
theorem made {w w1 : World} {p : Nat} (hp : WriterIs (fun k => k = p) w1 p []) : WwIs (fun k => k = p ∨ k = w1.heap.size) (w1.alloc (.cells #[.pointer (some ⟨p, 0, none⟩), .bool false] 166)) w1.heap.size [] false := by
  have hlt := hp.lt
  exact ⟨.inr rfl, p, Blk.new _ _ _ _ rfl, (hp.below ((Below.refl _ _).alloc (Nat.le_refl _) _)).mono (fun k _ h => ⟨.inl h, by omega⟩)⟩
theorem made_at {w1 : World} {p : Nat} (hp : WriterIs (fun k => k = p) w1 p []) : At (fun k => k = p ∨ k = w1.heap.size) (w1.alloc (.cells #[.pointer (some ⟨p, 0, none⟩), .bool false] 166)) (w1.alloc (.cells #[.pointer (some ⟨p, 0, none⟩), .bool false] 166)) w1.heap.size [] false :=
  At.start (made (w := w1) hp) (fun k h => by have := hp.lt; simp; omega)
set_option maxHeartbeats 4000000 in
set_option maxRecDepth 100000 in
theorem written_calls (w : World) (h : Hd) (ok : h.Ok) :
    Calls Tryz.prog 84 #[hv h, .func (.func 85) #[] #[]] w fun e w' => ∃ a c, e = .returned (.tuple #[.slice a 80 c, .int .i64 0]) ∧ OwnB w.heap.size 5 w' (.slice a 80 c) (encH h) ∧ Below w.heap.size w w' := by
  obtain ⟨cs, hcs⟩ : ∃ cs, h.cells.toArray = cs := ⟨_, rfl⟩
  show Calls _ _ #[.agg h.cells.toArray, _] _ _
  have HB := Lib.hid (show Blk (w.alloc (.cells cs 41)) w.heap.size h.cells 41 from Blk.new w _ _ _ hcs.symm)
  have B1 := Lib.hid (show Below w.heap.size w (w.alloc (.cells cs 41)) from (Below.refl _ _).alloc (Nat.le_refl _) _)
  have hz : w.heap.size + 1 ≤ (w.alloc (.cells cs 41)).heap.size := by simp
  have HZ := Lib.hid (szH ok)
  have HE := Lib.hid (encH_length ok)
  rw [hcs]
  have HC := Lib.hid hcs
  clear hcs
  go_enter Tryz.func84, Tryz.ntmps84
  go_upto_region 1 with fail
  generalize (w.alloc (.cells cs 41)) = w1 at *
  go_wp2_with fail
  refine (CodecW.new_calls w1).mono ?_
  rintro e w2 ⟨p, rfl, hp1, hp2, hp3⟩
  have hs2 := hp3.size
  have H2 := Lib.hid (made_at hp2)
  have HB2 := Lib.hid ((HB.out.below hp3).alloc (.cells #[.pointer (some ⟨p, 0, none⟩), .bool false] 166))
  have B2 := Lib.hid ((B1.out.trans (hp3.mono (by omega))).alloc (by have := B1.out.size; omega) (.cells #[.pointer (some ⟨p, 0, none⟩), .bool false] 166))
  have hs3 : (w2.alloc (.cells #[.pointer (some ⟨p, 0, none⟩), .bool false] 166)).heap.size = w2.heap.size + 1 := by simp
  have hpw : w.heap.size < p := by omega
  clear hp2 hp3 HB B1
  go_upto_region 2 with fail
  generalize (w2.alloc (.cells #[.pointer (some ⟨p, 0, none⟩), .bool false] 166)) = w3 at *
  go_wp2_with (first | (with_reducible refine wpList_load_blk rfl _ _ rfl w.heap.size h.cells rfl HB2.out _ Tryz.underlying41 rfl HZ.out ?_))
  rw [← HC.out]
  refine (header_to _ w3 w3 w2.heap.size [] false h ok H2.out (by simp)).mono ?_
  rintro e w4 ⟨rfl, g1⟩
  obtain ⟨⟨g2, p2, g3, g4⟩, g5, g6⟩ := id g1
  have hg5 := g5.size
  have c1 := g3.cell (i := 1) rfl
  have c0 := g3.cell (i := 0) rfl
  have HW := Lib.hid g4
  have B4 := Lib.hid (B2.out.trans (show Below w.heap.size w3 w4 from g5.below (by omega) (fun k h => by omega)))
  have hb4 := B4.out.size
  rw [List.nil_append] at HW
  clear g1 g2 g3 g4 g5 g6 H2 HB2 B2
  go_wp2_with fail
  refine (CodecR.bytes_calls _ w4 p2 _ HW.out (by rw [HE.out]; omega)).mono ?_
  rintro e w5 ⟨a, c, rfl, g1, g2⟩
  rw [HE.out] at g1
  rw [HE.out]
  have G1 := Lib.hid g1
  have BF := Lib.hid (B4.out.trans (g2.mono hb4))
  clear g1 g2 c0 c1 HW B4
  go_wp2
  go_ret2
  exact ⟨a, c, rfl, G1.out.mono hb4, BF.out⟩
set_option maxHeartbeats 4000000 in
set_option maxRecDepth 100000 in
theorem mainHeader_calls (w : World) (h : Hd) (ok : h.Ok) :
    Calls Tryz.prog 61 #[hv h] w fun e w' => ∃ a c, e = .returned (.slice a 80 c) ∧ OwnB w.heap.size 5 w' (.slice a 80 c) (encH h) ∧ Below w.heap.size w w' := by
  obtain ⟨cs, hcs⟩ : ∃ cs, h.cells.toArray = cs := ⟨_, rfl⟩
  show Calls _ _ #[.agg h.cells.toArray] _ _
  have HB := Lib.hid (show Blk (w.alloc (.cells cs 41)) w.heap.size h.cells 41 from Blk.new w _ _ _ hcs.symm)
  have B1 := Lib.hid (show Below w.heap.size w (w.alloc (.cells cs 41)) from (Below.refl _ _).alloc (Nat.le_refl _) _)
  have hz : (w.alloc (.cells cs 41)).heap.size = w.heap.size + 1 := by simp
  have HZ := Lib.hid (szH ok)
  rw [hcs]
  have HC := Lib.hid hcs
  clear hcs
  go_enter Tryz.func61, Tryz.ntmps61
  go_upto_region 1 with fail
  generalize (w.alloc (.cells cs 41)) = w1 at *
  go_wp2_with (first | (with_reducible refine wpList_load_blk rfl _ _ rfl w.heap.size h.cells rfl HB.out _ Tryz.underlying41 rfl HZ.out ?_))
  rw [← HC.out]
  refine (written_calls w1 h ok).mono ?_
  rintro e w2 ⟨a, c, rfl, g1, g2⟩
  have G1 := Lib.hid g1
  have G2 := Lib.hid (B1.out.trans (g2.mono (by omega)))
  clear g1 g2 B1 HB
  go_wp2
  go_ret
  exact ⟨a, c, rfl, G1.out.mono (by omega), G2.out⟩
/-- a digest's block, as it is made -/
theorem start32 (w : World) : ∃ W, w.alloc (.cells #[.int .u8 0, .int .u8 0, .int .u8 0, .int .u8 0, .int .u8 0, .int .u8 0, .int .u8 0, .int .u8 0, .int .u8 0, .int .u8 0, .int .u8 0, .int .u8 0, .int .u8 0, .int .u8 0, .int .u8 0, .int .u8 0, .int .u8 0, .int .u8 0, .int .u8 0, .int .u8 0, .int .u8 0, .int .u8 0, .int .u8 0, .int .u8 0, .int .u8 0, .int .u8 0, .int .u8 0, .int .u8 0, .int .u8 0, .int .u8 0, .int .u8 0, .int .u8 0] 24) = W ∧ Hid (Blk W w.heap.size (List.replicate 32 (.int .u8 0)) 24) ∧ Hid (Below w.heap.size w W) ∧ w.heap.size + 1 = W.heap.size :=
  ⟨_, rfl, Lib.hid (ShaW.new32 w), Lib.hid ((Below.refl _ _).alloc (Nat.le_refl _) _), by simp⟩
theorem byts_one (w : World) (v : Value) (l : List UInt8) (e : TypeId) (hv : Byt Any w v l) : Byts (w.alloc (.cells #[v] e)) (.slice (some ⟨w.heap.size, 0, none⟩) 1 1) [l] := by
  refine ⟨_, 1, rfl, ⟨by simp, by unfold maxLen; omega, fun h => by cases h⟩, .inr ⟨w.heap.size, 0, rfl, fun i hi => ?_⟩⟩
  obtain rfl : i = 0 := by simpa using hi
  exact ⟨v, (Blk.new w #[v] e [v] rfl).cell (i := 0) rfl, hv.below ((Below.refl _ _).alloc (Nat.le_refl _) _)⟩
theorem szDA {m : List UInt8} (h : m.length = 32) : (Tryz.prog.info? 24).map (·.size) = some (m.map byt).toArray.size := by rw [List.size_toArray, List.length_map, h]; kernel_rfl
set_option maxHeartbeats 4000000 in
set_option maxRecDepth 100000 in
theorem ref_header_to (S : Nat → Prop) (w0 w : World) (q : Nat) (m : List UInt8) (bad : Bool) (h : Hd) (ok : h.Ok) (H : Rw.RAt S w0 w q m bad) (hlen : m.length + 80 ≤ 140737488355328) :
    Calls Tryz.prog 60 #[.pointer (some ⟨q, 0, none⟩), hv h] w fun e w' => e = .returned (.tuple #[]) ∧ Rw.RAt S w0 w' q (m ++ encH h) bad := by
  obtain ⟨cs, hcs⟩ : ∃ cs, h.cells.toArray = cs := ⟨_, rfl⟩
  show Calls _ _ #[_, .agg h.cells.toArray] _ _
  have HB := Lib.hid (show Blk (w.alloc (.cells cs 41)) w.heap.size h.cells 41 from Blk.new w _ _ _ hcs.symm)
  have HX := Lib.hid (fun w' m' => @Rw.RAt.box S w0 w w' q m bad (.cells cs 41) m' bad h.cells 41 H)
  have H1 := Lib.hid (H.enter (.cells cs 41))
  have HL := Lib.hid (fun w' m' => @Rw.RAt.leave S w0 w w' q m bad (.cells cs 41) m' bad H)
  have HP := Lib.hid (szD ok.1)
  have HR := Lib.hid (szD ok.2.1)
  have OK := Lib.hid ok
  have hz : (w.alloc (.cells cs 41)).heap.size = w.heap.size + 1 := by simp
  have HPL := Lib.hid ok.1
  have HRL := Lib.hid ok.2.1
  rw [hcs]
  clear H hcs ok
  go_enter Tryz.func60, Tryz.ntmps60
  go_upto_region 1 with fail
  have HB0 := Lib.hid (fun w' m' g => HX.out w' m' g HB.out)
  generalize (w.alloc (.cells cs 41)) = w1 at *
  go_wp2_with (first | (with_reducible refine wpList_load_mid rfl _ _ rfl w.heap.size 0 rfl (h.prev.map byt) _ (range_prev HB.out) Tryz.underlying24 rfl HP.out ?_))
  refine (Rw.digest_to _ _ w1 q m bad h.prev HPL.out H1.out (by omega)).mono ?_
  rintro e w2 ⟨rfl, g1⟩
  have B2 := Lib.hid (HB0.out _ _ g1)
  have H2 := Lib.hid g1
  clear g1 H1
  go_wp2_with (first | (with_reducible refine wpList_load_mid rfl _ _ rfl w.heap.size 32 rfl (h.root.map byt) _ (range_root OK.out B2.out) Tryz.underlying24 rfl HR.out ?_))
  refine (Rw.digest_to _ _ w2 q _ bad h.root HRL.out H2.out (by rw [List.length_append, HPL.out]; omega)).mono ?_
  rintro e w3 ⟨rfl, g1⟩
  have B3 := Lib.hid (HB0.out _ _ g1)
  have H3 := Lib.hid g1
  have d0 : w3.cell? ⟨w.heap.size, 64, none⟩ = some (.int .u64 (h.height : Int)) := B3.out.cell (Hd.cell_height OK.out)
  clear g1 H2 B2
  go_wp2_with fail
  refine (Rw.num_to _ _ w3 q _ bad h.height 8 OK.out.2.2.1 (by omega) H3.out (by rw [List.length_append, List.length_append, HPL.out, HRL.out]; omega)).mono ?_
  rintro e w4 ⟨rfl, g1⟩
  have B4 := Lib.hid (HB0.out _ _ g1)
  have H4 := Lib.hid g1
  have d1 : w4.cell? ⟨w.heap.size, 65, none⟩ = some (.int .u64 (h.nonce : Int)) := B4.out.cell (Hd.cell_nonce OK.out)
  clear g1 H3 B3 d0
  go_wp2_with fail
  refine (Rw.num_to _ _ w4 q _ bad h.nonce 8 OK.out.2.2.2 (by omega) H4.out (by simp only [List.length_append, HPL.out, HRL.out, num_length]; omega)).mono ?_
  rintro e w5 ⟨rfl, g1⟩
  have HF := Lib.hid (HL.out _ _ g1)
  clear g1 H4 B4 d1 HL HB0 HX HB
  go_wp2
  go_end0
  refine ⟨rfl, ?_⟩
  have := HF.out
  simp only [List.append_assoc] at this
  exact this
set_option maxHeartbeats 4000000 in
set_option maxRecDepth 100000 in
theorem ref_mainHeader_calls (w : World) (h : Hd) (ok : h.Ok) :
    Calls Tryz.prog 38 #[hv h] w fun e w' => ∃ a c, e = .returned (.slice a 80 c) ∧ OwnB 0 5 w' (.slice a 80 c) (encH h) ∧ Below w.heap.size w w' := by
  obtain ⟨cs, hcs⟩ : ∃ cs, h.cells.toArray = cs := ⟨_, rfl⟩
  show Calls _ _ #[.agg h.cells.toArray] _ _
  have HB := Lib.hid (show Blk (w.alloc (.cells cs 41)) w.heap.size h.cells 41 from Blk.new w _ _ _ hcs.symm)
  have B1 := Lib.hid (show Below w.heap.size w (w.alloc (.cells cs 41)) from (Below.refl _ _).alloc (Nat.le_refl _) _)
  have hz : w.heap.size + 1 ≤ (w.alloc (.cells cs 41)).heap.size := by simp
  have HZ := Lib.hid (szH ok)
  have HE := Lib.hid (encH_length ok)
  rw [hcs]
  have HC := Lib.hid hcs
  clear hcs
  go_enter Tryz.func38, Tryz.ntmps38
  go_upto_region 1 with fail
  generalize (w.alloc (.cells cs 41)) = w1 at *
  have H2 := Lib.hid (Rw.RAt.start (RfW.RefIs.new w1) (fun k h => by simp; omega))
  have HB2 := Lib.hid (HB.out.alloc (.cells #[.slice none 0 0, .bool false] 91))
  have B2 := Lib.hid (B1.out.alloc (by omega) (.cells #[.slice none 0 0, .bool false] 91))
  have hs3 : w1.heap.size + 1 ≤ (w1.alloc (.cells #[.slice none 0 0, .bool false] 91)).heap.size := by simp
  clear HB B1
  go_upto_region 2 with fail
  generalize (w1.alloc (.cells #[.slice none 0 0, .bool false] 91)) = w3 at *
  go_wp2_with (first | (with_reducible refine wpList_load_blk rfl _ _ rfl w.heap.size h.cells rfl HB2.out _ Tryz.underlying41 rfl HZ.out ?_))
  rw [← HC.out]
  refine (ref_header_to _ w3 w3 w1.heap.size [] false h ok H2.out (by simp)).mono ?_
  rintro e w4 ⟨rfl, g1⟩
  obtain ⟨a, c, g2, g3, g4, _, _⟩ := g1.1.opened
  have g5 := g1.2.1
  have c0 := g2.cell (i := 0) rfl
  rw [List.nil_append, HE.out] at c0 g3
  have G3 := Lib.hid g3
  have BF := Lib.hid (B2.out.trans (show Below w.heap.size w3 w4 from g5.below (by omega) (fun k h => by omega)))
  clear g1 g2 g3 g4 g5 H2 B2 HB2
  go_wp2
  go_ret
  exact ⟨a, c, rfl, G3.out, BF.out⟩
set_option maxHeartbeats 4000000 in
set_option maxRecDepth 100000 in
theorem mainId_calls (w : World) (h : Hd) (ok : h.Ok) (hT : TabB w 1) :
    Calls Tryz.prog 41 #[hv h] w fun e w' => e = .returned (dv (mainId h)) ∧ Below w.heap.size w w' := by
  obtain ⟨cs, hcs⟩ : ∃ cs, h.cells.toArray = cs := ⟨_, rfl⟩
  show Calls _ _ #[.agg h.cells.toArray] _ _
  obtain ⟨w1, hw1⟩ : ∃ w1, w.alloc (.cells cs 41) = w1 := ⟨_, rfl⟩
  have HB := Lib.hid (show Blk w1 w.heap.size h.cells 41 from by rw [← hw1]; exact Blk.new w _ _ _ hcs.symm)
  have B1 := Lib.hid (show Below w.heap.size w w1 from by rw [← hw1]; exact (Below.refl _ _).alloc (Nat.le_refl _) _)
  have hz : w.heap.size + 1 = w1.heap.size := by rw [← hw1]; simp
  obtain ⟨W, hW, H0, BW, hs⟩ := start32 w1
  have HB2 := Lib.hid (HB.out.below BW.out)
  have B2 := Lib.hid (B1.out.trans (BW.out.mono (by omega)))
  have HT := Lib.hid (hT.below B2.out)
  have HZ := Lib.hid (szH ok)
  have hsz := BW.out.size
  rw [hcs]
  have HC := Lib.hid hcs
  clear hcs hT HB B1
  go_enter Tryz.func41, Tryz.ntmps41
  go_upto_region 1 with fail
  clear hw1 hW
  go_wp2_with (first | (with_reducible refine wpList_load_blk rfl _ _ rfl w.heap.size h.cells rfl HB2.out _ Tryz.underlying41 rfl HZ.out ?_))
  rw [← HC.out]
  refine (mainHeader_calls W h ok).mono ?_
  rintro e w2 ⟨a, c, rfl, g1, g2⟩
  have HBW := Lib.hid (show Byt Any w2 (.slice a 80 c) (encH h) from g1.byt.any)
  have H2 := Lib.hid (H0.out.below g2)
  have HT2 := Lib.hid (HT.out.below g2)
  have B3 := Lib.hid (B2.out.trans (g2.mono (by omega)))
  have hs2 := g2.size
  clear g1 g2 HB2 H0
  have HAL := Lib.hid (show Below w2.heap.size w2 (w2.alloc (.cells #[.slice a 80 c] 25)) from (Below.refl _ _).alloc (Nat.le_refl _) _)
  have HY := Lib.hid (byts_one w2 (.slice a 80 c) (encH h) 25 HBW.out)
  have HT3 := Lib.hid (HT2.out.below HAL.out)
  have HLE := Lib.hid (encH_length ok)
  go_wp2_with fail
  refine (tagged_calls _ idName _ [encH h] HY.out (by decide) (by simp [HLE.out]) (by simp) HT3.out).mono ?_
  rintro e w3 ⟨rfl, g⟩
  have H3 := Lib.hid ((H2.out.below HAL.out).below g)
  have B4 := Lib.hid (B3.out.trans ((HAL.out.trans (g.mono HAL.out.size)).mono (by omega)))
  have HML := Lib.hid (mainId_length h)
  have HONE := Lib.hid (one_cells (mainId h))
  have HE := Lib.hid (show mainId h = tagged idName [encH h] from rfl)
  rw [← HE.out]
  obtain ⟨m, hm⟩ : ∃ m, mainId h = m := ⟨_, rfl⟩
  rw [hm] at HML HONE ⊢
  have HM := Lib.hid hm
  clear g H2 B2 B3 HAL HY HBW hm HE
  go_wp2_with (with_reducible refine wpList_store_blk rfl _ _ _ rfl w1.heap.size (m.map byt) _ rfl _ rfl rfl H3.out (szD HML.out) (by simp [HML.out]) HONE.out ?_)
  exact bodyPost_ret (v := dv m) (results_cell_row Tryz.results41 _ _ w1.heap.size 24 _ (0, 0) _ rfl (H3.out.row _) Tryz.underlying24 rfl (szDA HML.out)) rfl ⟨by rw [HM.out], below_setRow B4.out (by omega) _⟩
set_option maxHeartbeats 4000000 in
set_option maxRecDepth 100000 in
theorem ref_mainId_calls (w : World) (h : Hd) (ok : h.Ok) (hT : TabB w 0) :
    Calls Tryz.prog 13 #[hv h] w fun e w' => e = .returned (dv (mainId h)) ∧ Below w.heap.size w w' := by
  obtain ⟨cs, hcs⟩ : ∃ cs, h.cells.toArray = cs := ⟨_, rfl⟩
  show Calls _ _ #[.agg h.cells.toArray] _ _
  obtain ⟨w1, hw1⟩ : ∃ w1, w.alloc (.cells cs 41) = w1 := ⟨_, rfl⟩
  have HB := Lib.hid (show Blk w1 w.heap.size h.cells 41 from by rw [← hw1]; exact Blk.new w _ _ _ hcs.symm)
  have B1 := Lib.hid (show Below w.heap.size w w1 from by rw [← hw1]; exact (Below.refl _ _).alloc (Nat.le_refl _) _)
  have hz : w.heap.size + 1 = w1.heap.size := by rw [← hw1]; simp
  obtain ⟨W, hW, H0, BW, hs⟩ := start32 w1
  have HB2 := Lib.hid (HB.out.below BW.out)
  have B2 := Lib.hid (B1.out.trans (BW.out.mono (by omega)))
  have HT := Lib.hid (hT.below B2.out)
  have HZ := Lib.hid (szH ok)
  have hsz := BW.out.size
  rw [hcs]
  have HC := Lib.hid hcs
  clear hcs hT HB B1
  go_enter Tryz.func13, Tryz.ntmps13
  go_upto_region 1 with fail
  clear hw1 hW
  go_wp2_with (first | (with_reducible refine wpList_load_blk rfl _ _ rfl w.heap.size h.cells rfl HB2.out _ Tryz.underlying41 rfl HZ.out ?_))
  rw [← HC.out]
  refine (ref_mainHeader_calls W h ok).mono ?_
  rintro e w2 ⟨a, c, rfl, g1, g2⟩
  have HBW := Lib.hid (show Byt Any w2 (.slice a 80 c) (encH h) from g1.byt.any)
  have H2 := Lib.hid (H0.out.below g2)
  have HT2 := Lib.hid (HT.out.below g2)
  have B3 := Lib.hid (B2.out.trans (g2.mono (by omega)))
  have hs2 := g2.size
  clear g1 g2 HB2 H0
  have HAL := Lib.hid (show Below w2.heap.size w2 (w2.alloc (.cells #[.slice a 80 c] 25)) from (Below.refl _ _).alloc (Nat.le_refl _) _)
  have HY := Lib.hid (byts_one w2 (.slice a 80 c) (encH h) 25 HBW.out)
  have HT3 := Lib.hid (HT2.out.below HAL.out)
  have HLE := Lib.hid (encH_length ok)
  go_wp2_with fail
  refine (ref_tagged_calls _ idName _ [encH h] HY.out (by decide) (by simp [HLE.out]) (by simp) HT3.out).mono ?_
  rintro e w3 ⟨rfl, g⟩
  have H3 := Lib.hid ((H2.out.below HAL.out).below g)
  have B4 := Lib.hid (B3.out.trans ((HAL.out.trans (g.mono HAL.out.size)).mono (by omega)))
  have HML := Lib.hid (mainId_length h)
  have HONE := Lib.hid (one_cells (mainId h))
  have HE := Lib.hid (show mainId h = tagged idName [encH h] from rfl)
  rw [← HE.out]
  obtain ⟨m, hm⟩ : ∃ m, mainId h = m := ⟨_, rfl⟩
  rw [hm] at HML HONE ⊢
  have HM := Lib.hid hm
  clear g H2 B2 B3 HAL HY HBW hm HE
  go_wp2_with (with_reducible refine wpList_store_blk rfl _ _ _ rfl w1.heap.size (m.map byt) _ rfl _ rfl rfl H3.out (szD HML.out) (by simp [HML.out]) HONE.out ?_)
  exact bodyPost_ret (v := dv m) (results_cell_row Tryz.results13 _ _ w1.heap.size 24 _ (0, 0) _ rfl (H3.out.row _) Tryz.underlying24 rfl (szDA HML.out)) rfl ⟨by rw [HM.out], below_setRow B4.out (by omega) _⟩
end Go.Proofs.YtmenchnjajpkmaaGreatDoor.Wh
end

section
namespace Go.Proofs.YtmenchnjajpkmaaGreatDoor.Row
open Go Go.RowKit Mem

/-- a slice of the call's own that holds n values of so many cells, in a block from base on -/
def OwnV (size base : Nat) (e : TypeId) (w : World) (v : Value) (n : Nat) (vals : List Value) : Prop := w.ownsRow base e size v n vals
section
variable {size base base' : Nat} {e : TypeId} {w w' : World} {v : Value} {n : Nat} {vals : List Value}
theorem OwnV.nil (size base : Nat) (e : TypeId) (w : World) : OwnV size base e w (.slice none 0 0) 0 [] := World.ownsRow_nil _ _ _ _
theorem OwnV.drew (h : OwnV size base e w v n vals) : OwnV size base e w.drew v n vals := h
theorem OwnV.alloc (h : OwnV size base e w v n vals) (o : Obj) : OwnV size base e (w.alloc o) v n vals := World.ownsRow.alloc h o
theorem OwnV.fr {S : Nat → Prop} (h : OwnV size base e w v n vals) (hf : Fr S w w') (hn : ∀ k, v.ownBlock = some k → ¬ S k) : OwnV size base e w' v n vals := by
  refine ⟨h.1, ?_⟩
  rcases h.2 with h2 | ⟨g, cap, cur, rfl, hb, hgg, rest⟩
  · exact .inl h2
  · exact .inr ⟨g, cap, cur, rfl, hb, (hf.block g (Array.getElem?_eq_some_iff.1 hgg).1 (hn g rfl)).trans hgg, rest⟩
theorem OwnV.below (h : OwnV size base e w v n vals) (hf : Below w.heap.size w w') : OwnV size base e w' v n vals :=
  h.fr (Fr.ofBelow hf) (fun k hk h2 => by have := (World.ownsRow.lt h k hk).2; omega)
theorem OwnV.mono (h : OwnV size base e w v n vals) (hb : base' ≤ base) : OwnV size base' e w v n vals := by
  refine ⟨h.1, ?_⟩
  rcases h.2 with h2 | ⟨g, cap, cur, hv, hg, r⟩
  · exact .inl h2
  · exact .inr ⟨g, cap, cur, hv, by omega, r⟩
theorem OwnV.lt (h : OwnV size base e w v n vals) : ∀ k, v.ownBlock = some k → base ≤ k ∧ k < w.heap.size := World.ownsRow.lt h
theorem OwnV.len (h : OwnV size base e w v n vals) : vals.length = n * size := h.1
theorem OwnV.form (h : OwnV size base e w v n vals) : ∃ a cap, v = .slice a n cap ∧ n ≤ cap ∧ cap ≤ maxLen ∧ (a = none → cap = 0) := by
  rcases h.2 with ⟨rfl, rfl⟩ | ⟨g, cap, cur, hv, _, _, hc, hm, _⟩
  · exact ⟨none, 0, rfl, Nat.le_refl _, Nat.zero_le _, fun _ => rfl⟩
  · exact ⟨_, cap, hv, hc, hm, fun h => by cases h⟩
theorem OwnV.at (h : OwnV size base e w v n vals) (hn : 0 < n) : ∃ g cap, v = .slice (some ⟨g, 0, none⟩) n cap ∧ base ≤ g ∧ g < w.heap.size ∧ ∀ i (hi : i < n * size), w.cell? ⟨g, i, none⟩ = some (vals[i]'(by rw [h.len]; exact hi)) := by
  rcases h.2 with ⟨rfl, rfl⟩ | ⟨g, cap, cur, hv, hg, hh, hc, hm, hs, ht⟩
  · omega
  · subst hv
    refine ⟨g, cap, rfl, hg, (Array.getElem?_eq_some_iff.1 hh).1, fun i hi => ?_⟩
    have := h.cellAt i hi
    rw [this, List.getElem?_eq_getElem (by rw [h.len]; exact hi)]

/-- 'append(s, ..)' of a slice of the call's own and as many new values as lie at an address -/
theorem run_append_val {P : Program} (w : World) (t ty base e : TypeId) {z : Value} {bytes : Nat} (T : ElemT P t e z size bytes) (v : Value) (n : Nat) (vals : List Value) (hown : OwnV size base e w v n vals)
    (ad : Addr) (m c : Nat) (news : List Value) (hl : news.length = m * size) (hnews : ∀ j u, news[j]? = some u → w.cell? (ad.add j) = some u) (h1 : ∀ u ∈ news, u.oneCell' = true)
    (h63 : n + m ≤ maxLen) (hbytes : (n + m) * bytes ≤ 140737488355328) (hb : base ≤ w.heap.size) :
    ∃ a' cap' w', (Builtin.append_ #[t, t] ty #[v, .slice (some ad) m c]).run P w = .ok (.slice a' (n + m) cap') w' ∧ OwnV size base e w' (.slice a' (n + m) cap') (n + m) (vals ++ news) ∧ w.grownBy w' v.ownBlock ∧
      ((Value.slice a' (n + m) cap').ownBlock = v.ownBlock ∨ (Value.slice a' (n + m) cap').ownBlock = some w.heap.size) := by
  obtain ⟨i, hi, hz, hsz, hby⟩ := T.info
  obtain ⟨v', w', h0, h1, h2, h3, h4⟩ := run_append_own_at (P := P) w base t ty e i z size bytes T.und hi hz hsz hby T.zsz T.pos v n vals hown ad m c news hl hnews h1 h63 hbytes hb
  obtain ⟨a', cap', rfl, _⟩ := OwnV.form h1
  exact ⟨a', cap', w', h0, h1, h2, h4⟩

theorem wpList_append_val {P : Program} (w : World) {ops : Array Oper} {rest : List Oper} {o : Oper} {a : Act} {Q : Exit → Act → World → Prop} (hgd : o.guard = none) (s x : Operand) (t : TypeId)
    (ho : o.op = .call { callee := .builtin .append, args := #[s, x], argTypes := #[t, t] }) (base : Nat) (e : TypeId) {z : Value} {bytes : Nat} (T : ElemT P t e z size bytes)
    (v : Value) (n : Nat) (vals : List Value) (hs : a.eval s = v) (hown : OwnV size base e w v n vals) (ad : Addr) (m c : Nat) (news : List Value) (hx : a.eval x = .slice (some ad) m c) (hl : news.length = m * size)
    (hnews : ∀ j u, news[j]? = some u → w.cell? (ad.add j) = some u) (h1 : ∀ u ∈ news, u.oneCell' = true) (h63 : n + m ≤ maxLen) (hbytes : (n + m) * bytes ≤ 140737488355328) (hb : base ≤ w.heap.size)
    (h : ∀ (a' : Option Addr) (cap' : Nat) (w' : World), OwnV size base e w' (.slice a' (n + m) cap') (n + m) (vals ++ news) → w.grownBy w' v.ownBlock → ((Value.slice a' (n + m) cap').ownBlock = v.ownBlock ∨ (Value.slice a' (n + m) cap').ownBlock = some w.heap.size) → wpList P ops Q rest (a.put o.dst (.slice a' (n + m) cap')) w') :
    wpList P ops Q (o :: rest) a w := by
  obtain ⟨a', cap', w', h0, h1, h2, h4⟩ := run_append_val (P := P) w t o.type base e T v n vals hown ad m c news hl hnews h1 h63 hbytes hb
  refine wpList_plain hgd fun K hK => ?_
  unfold Oper.wp
  simp [execOp, ho, resolve, invoke, builtin, hs, hx, h0, Result.andThen]
  exact hK _ _ (h a' cap' w' h1 h2 h4)
/-- the same inside a fence -/
theorem wpListIn_append_val {F : Fence} {k : Nat} {P : Program} (w : World) {ops : Array Oper} {rest : List Oper} {o : Oper} {a : Act} {Q : Exit → Act → World → Prop} (hgd : o.guard = none) (s x : Operand) (t : TypeId)
    (ho : o.op = .call { callee := .builtin .append, args := #[s, x], argTypes := #[t, t] }) (base : Nat) (e : TypeId) {z : Value} {bytes : Nat} (T : ElemT P t e z size bytes)
    (v : Value) (n : Nat) (vals : List Value) (hs : a.eval s = v) (hown : OwnV size base e w v n vals) (ad : Addr) (m c : Nat) (news : List Value) (hx : a.eval x = .slice (some ad) m c) (hl : news.length = m * size)
    (hnews : ∀ j u, news[j]? = some u → w.cell? (ad.add j) = some u) (h1 : ∀ u ∈ news, u.oneCell' = true) (h63 : n + m ≤ maxLen) (hbytes : (n + m) * bytes ≤ 140737488355328) (hb : base ≤ w.heap.size)
    (h : ∀ (a' : Option Addr) (cap' : Nat) (w' : World), OwnV size base e w' (.slice a' (n + m) cap') (n + m) (vals ++ news) → w.grownBy w' v.ownBlock → ((Value.slice a' (n + m) cap').ownBlock = v.ownBlock ∨ (Value.slice a' (n + m) cap').ownBlock = some w.heap.size) → wpListIn F k P ops Q rest (a.put o.dst (.slice a' (n + m) cap')) w') :
    wpListIn F k P ops Q (o :: rest) a w := by
  obtain ⟨a', cap', w', h0, h1, h2, h4⟩ := run_append_val (P := P) w t o.type base e T v n vals hown ad m c news hl hnews h1 h63 hbytes hb
  refine wpListIn_plain hgd fun K hK => ?_
  unfold Oper.wpIn
  refine ⟨?_, ?_⟩
  · simp [Oper.about, ho, resolve, Target.leads, Sem.run_pure]
  · rw [Oper.semAt_plain F _ _ (by rw [ho]; intro c hc'; cases hc')]
    simp [execOp, ho, resolve, invoke, builtin, hs, hx, h0, Result.andThen]
    exact hK _ _ (h a' cap' w' h1 h2 h4)
end

/-- a list of texts: a slice of the call's own (or nil), in a block from base on, each of whose elements reads as a text that lies in another block from base on -/
def Texts (base : Nat) (e : TypeId) (w : World) (v : Value) (ls : List (List UInt8)) : Prop :=
  ∃ vals, OwnV 1 base e w v ls.length vals ∧ ∀ i (h : i < ls.length), ∃ x, vals[i]? = some x ∧ Byt (fun k => base ≤ k ∧ v.ownBlock ≠ some k) w x (ls[i]'h)
theorem Texts.nil (base : Nat) (e : TypeId) (w : World) : Texts base e w (.slice none 0 0) [] := ⟨[], OwnV.nil _ _ _ _, fun i h => by simp at h⟩
theorem Texts.fr {base : Nat} {e : TypeId} {w w' : World} {v : Value} {ls : List (List UInt8)} {S : Nat → Prop} (h : Texts base e w v ls) (hf : Fr S w w') (hn : ∀ k, k < w.heap.size → base ≤ k → ¬ S k) : Texts base e w' v ls := by
  obtain ⟨vals, h1, h2⟩ := h
  refine ⟨vals, h1.fr hf (fun k hk => hn k (h1.lt k hk).2 (h1.lt k hk).1), fun i hi => ?_⟩
  obtain ⟨x, hx, hb⟩ := h2 i hi
  exact ⟨x, hx, hb.fr hf (fun k hk h => hn k hk h.1)⟩
theorem Texts.below {base : Nat} {e : TypeId} {w w' : World} {v : Value} {ls : List (List UInt8)} (h : Texts base e w v ls) (hf : Below w.heap.size w w') : Texts base e w' v ls := by
  obtain ⟨vals, h1, h2⟩ := h
  refine ⟨vals, h1.below hf, fun i hi => ?_⟩
  obtain ⟨x, hx, hb⟩ := h2 i hi
  exact ⟨x, hx, hb.below hf⟩
theorem Texts.mono {base base' : Nat} {e : TypeId} {w : World} {v : Value} {ls : List (List UInt8)} (h : Texts base e w v ls) (hb : base' ≤ base) : Texts base' e w v ls := by
  obtain ⟨vals, h1, h2⟩ := h
  refine ⟨vals, h1.mono hb, fun i hi => ?_⟩
  obtain ⟨x, hx, hb'⟩ := h2 i hi
  exact ⟨x, hx, hb'.mono (fun k _ h => ⟨by omega, h.2⟩)⟩
theorem Texts.form {base : Nat} {e : TypeId} {w : World} {v : Value} {ls : List (List UInt8)} (h : Texts base e w v ls) : ∃ a cap, v = .slice a ls.length cap ∧ ls.length ≤ cap ∧ cap ≤ maxLen ∧ (a = none → cap = 0) := by
  obtain ⟨vals, h1, _⟩ := h
  exact h1.form
/-- one more, appended -/
theorem Texts.append {base : Nat} {e : TypeId} {w w1 w' : World} {v v' : Value} {ls : List (List UInt8)} {x : Value} {l : List UInt8} {vals : List Value} (hv : OwnV 1 base e w v ls.length vals)
    (hvals : ∀ i (h : i < ls.length), ∃ x, vals[i]? = some x ∧ Byt (fun k => base ≤ k ∧ v.ownBlock ≠ some k) w x (ls[i]'h)) (hx : Byt (fun k => base ≤ k ∧ v.ownBlock ≠ some k) w x l)
    (hw : Below w.heap.size w w1) (h1 : OwnV 1 base e w' v' (ls.length + 1) (vals ++ [x])) (h2 : w1.grownBy w' v.ownBlock) (h3 : v'.ownBlock = v.ownBlock ∨ v'.ownBlock = some w1.heap.size) : Texts base e w' v' (ls ++ [l]) := by
  have hs := hw.size
  have keep : ∀ (y : Value) (m : List UInt8), Byt (fun k => base ≤ k ∧ v.ownBlock ≠ some k) w y m → Byt (fun k => base ≤ k ∧ v'.ownBlock ≠ some k) w' y m := fun y m hy => by
    refine (((hy.lt.below hw).mono (E := fun k => k < w.heap.size ∧ base ≤ k ∧ v.ownBlock ≠ some k) (fun k _ h => h)).fr (Fr.ofGrown h2) (fun k _ h e => h.2.2 e)).mono (fun k _ h => ⟨h.2.1, fun e => ?_⟩)
    rcases h3 with h3 | h3
    · exact h.2.2 (h3 ▸ e)
    · rw [h3] at e; injection e with e; have := h.1; omega
  refine ⟨vals ++ [x], by rw [List.length_append]; exact h1, fun i hi => ?_⟩
  have hl := hv.len
  rw [List.length_append, List.length_singleton] at hi
  by_cases hlt : i < ls.length
  · obtain ⟨y, hy, hb⟩ := hvals i hlt
    refine ⟨y, by rw [List.getElem?_append_left (by omega)]; exact hy, ?_⟩
    rw [List.getElem_append_left hlt]
    exact keep _ _ hb
  · obtain rfl : i = ls.length := by omega
    refine ⟨x, by rw [List.getElem?_append_right (by omega)]; simp [hl], ?_⟩
    rw [List.getElem_append_right (by omega)]
    simp only [Nat.sub_self, List.getElem_cons_zero]
    exact keep _ _ hx
end Go.Proofs.YtmenchnjajpkmaaGreatDoor.Row
end

section
namespace Go.Proofs.YtmenchnjajpkmaaGreatDoor.Arr
open Go Go.RowKit Mem Row

/-- a slice whose elements are k cells each, which lie in a block of D -/
def Arr (k : Nat) (D : Nat → Prop) (w : World) (v : Value) (xs : List (List Value)) : Prop :=
  ∃ a cap, v = .slice a xs.length cap ∧ (xs.length ≤ cap ∧ cap ≤ maxLen ∧ (a = none → cap = 0)) ∧ (∀ x ∈ xs, x.length = k) ∧ (xs = [] ∨ ∃ b off, a = some ⟨b, off, none⟩ ∧ D b ∧ ∀ i (h : i < xs.length), w.rangeAt b (off + i * k) (xs[i]'h))
section
variable {k : Nat} {D E : Nat → Prop} {w w' : World} {v : Value} {xs : List (List Value)}
theorem rangeAt_fr {S : Nat → Prop} {b o : Nat} {cs : List Value} (h : w.rangeAt b o cs) (hf : Fr S w w') (hn : ¬ S b) : w'.rangeAt b o cs := fun j u hu => hf.cell (h j u hu) hn
theorem rangeAt_lt {b o : Nat} {cs : List Value} (h : w.rangeAt b o cs) (hc : cs ≠ []) : b < w.heap.size := by
  have h0 := h 0 (cs[0]'(List.length_pos_iff.2 hc)) (by simp)
  exact World.block_lt_of_cell? w _ h0
theorem Arr.len (h : Arr k D w v xs) : ∀ x ∈ xs, x.length = k := h.choose_spec.choose_spec.2.2.1
theorem Arr.form (h : Arr k D w v xs) : ∃ a cap, v = .slice a xs.length cap ∧ xs.length ≤ cap ∧ cap ≤ maxLen ∧ (a = none → cap = 0) := by
  obtain ⟨a, cap, h1, h2, _⟩ := h; exact ⟨a, cap, h1, h2⟩
theorem Arr.at (h : Arr k D w v xs) (i : Nat) (hi : i < xs.length) : ∃ b off cap, v = .slice (some ⟨b, off, none⟩) xs.length cap ∧ D b ∧ w.rangeAt b (off + i * k) (xs[i]'hi) := by
  obtain ⟨a, cap, h1, h2, _, h | ⟨b, off, rfl, hd, h⟩⟩ := h
  · subst h; simp at hi
  · exact ⟨b, off, cap, h1, hd, h i hi⟩
theorem Arr.mono (h : Arr k D w v xs) (hk : 0 < k) (hd : ∀ b, b < w.heap.size → D b → E b) : Arr k E w v xs := by
  obtain ⟨a, cap, h1, h2, h3, h⟩ := h
  refine ⟨a, cap, h1, h2, h3, ?_⟩
  by_cases hx : xs = []
  · exact .inl hx
  · rcases h with h | ⟨b, off, rfl, hb, h⟩
    · exact .inl h
    · have h0 : 0 < xs.length := List.length_pos_iff.2 hx
      have hl := h3 (xs[0]'h0) (List.getElem_mem h0)
      exact .inr ⟨b, off, rfl, hd b (rangeAt_lt (h 0 h0) (fun e => by rw [e] at hl; simp at hl; omega)) hb, h⟩
theorem Arr.fr {S : Nat → Prop} (h : Arr k D w v xs) (hk : 0 < k) (hf : Fr S w w') (hn : ∀ b, b < w.heap.size → D b → ¬ S b) : Arr k D w' v xs := by
  obtain ⟨a, cap, h1, h2, h3, h⟩ := h.mono (E := fun b => b < w.heap.size ∧ D b) hk (fun _ h1 h2 => ⟨h1, h2⟩)
  refine ⟨a, cap, h1, h2, h3, h.imp_right ?_⟩
  rintro ⟨b, off, rfl, hb, h⟩
  exact ⟨b, off, rfl, hb.2, fun i hi => rangeAt_fr (h i hi) hf (hn b hb.1 hb.2)⟩
theorem Arr.below (h : Arr k D w v xs) (hk : 0 < k) (hf : Below w.heap.size w w') : Arr k D w' v xs := h.fr hk (Fr.ofBelow hf) (fun b h1 _ h2 => by omega)
theorem Arr.drew (h : Arr k D w v xs) : Arr k D w.drew v xs := h
theorem Arr.drewN (h : Arr k D w v xs) (n : Nat) : Arr k D (w.drewN n) v xs := h
theorem Arr.nil (k : Nat) (D : Nat → Prop) (w : World) : Arr k D w (.slice none 0 0) [] := ⟨none, 0, rfl, ⟨Nat.le_refl _, Nat.zero_le _, fun _ => rfl⟩, by simp, .inl rfl⟩
theorem Arr.any (h : Arr k D w v xs) : Arr k Any w v xs := by
  obtain ⟨a, cap, h1, h2, h3, h⟩ := h
  exact ⟨a, cap, h1, h2, h3, h.imp_right fun ⟨b, off, e, _, h⟩ => ⟨b, off, e, trivial, h⟩⟩
end

theorem flatten_getElem? {k : Nat} : ∀ (xs : List (List Value)), (∀ x ∈ xs, x.length = k) → ∀ (i : Nat) (hi : i < xs.length) (j : Nat), j < k → xs.flatten[i * k + j]? = (xs[i]'hi)[j]?
  | [], _, i, hi, _, _ => by simp at hi
  | x :: r, hx, i, hi, j, hj => by
    have h0 := hx x (by simp)
    rw [List.flatten_cons]
    cases i with
    | zero => rw [List.getElem?_append_left (by omega)]; simp
    | succ i =>
      rw [List.getElem?_append_right (by rw [h0, Nat.succ_mul]; omega), h0, show (i + 1) * k + j - k = i * k + j by rw [Nat.succ_mul]; omega]
      exact flatten_getElem? r (fun y hy => hx y (by simp [hy])) i (by simpa using hi) j hj
theorem flatten_length {k : Nat} : ∀ (xs : List (List Value)), (∀ x ∈ xs, x.length = k) → xs.flatten.length = xs.length * k
  | [], _ => by simp
  | x :: r, hx => by
    have h0 := hx x (by simp)
    have h1 := flatten_length r (fun y hy => hx y (by simp [hy]))
    rw [List.flatten_cons, List.length_append, h0, h1, List.length_cons, Nat.succ_mul]; omega

/-- what the call's own slice holds -/
def OwnA (k base : Nat) (e : TypeId) (w : World) (v : Value) (xs : List (List Value)) : Prop := OwnV k base e w v xs.length xs.flatten ∧ (∀ x ∈ xs, x.length = k)
section
variable {k base base' : Nat} {e : TypeId} {w w' : World} {v : Value} {xs : List (List Value)}
theorem OwnA.nil (k base : Nat) (e : TypeId) (w : World) : OwnA k base e w (.slice none 0 0) [] := ⟨OwnV.nil _ _ _ _, by simp⟩
theorem OwnA.drew (h : OwnA k base e w v xs) : OwnA k base e w.drew v xs := h
theorem OwnA.alloc (h : OwnA k base e w v xs) (o : Obj) : OwnA k base e (w.alloc o) v xs := ⟨h.1.alloc o, h.2⟩
theorem OwnA.fr {S : Nat → Prop} (h : OwnA k base e w v xs) (hf : Fr S w w') (hn : ∀ b, v.ownBlock = some b → ¬ S b) : OwnA k base e w' v xs := ⟨h.1.fr hf hn, h.2⟩
theorem OwnA.below (h : OwnA k base e w v xs) (hf : Below w.heap.size w w') : OwnA k base e w' v xs := ⟨h.1.below hf, h.2⟩
theorem OwnA.mono (h : OwnA k base e w v xs) (hb : base' ≤ base) : OwnA k base' e w v xs := ⟨h.1.mono hb, h.2⟩
theorem OwnA.lt (h : OwnA k base e w v xs) : ∀ b, v.ownBlock = some b → base ≤ b ∧ b < w.heap.size := h.1.lt
theorem OwnA.form (h : OwnA k base e w v xs) : ∃ a cap, v = .slice a xs.length cap ∧ xs.length ≤ cap ∧ cap ≤ maxLen ∧ (a = none → cap = 0) := h.1.form
theorem OwnA.arr (h : OwnA k base e w v xs) : Arr k (fun b => v.ownBlock = some b ∧ base ≤ b) w v xs := by
  obtain ⟨a, cap, h1, h2, h3, h4⟩ := h.form
  refine ⟨a, cap, h1, ⟨h2, h3, h4⟩, h.2, ?_⟩
  by_cases hx : xs = []
  · exact .inl hx
  · obtain ⟨g, cap', e1, hg, hlt, hc⟩ := h.1.at (List.length_pos_iff.2 hx)
    rw [h1] at e1
    cases e1
    refine .inr ⟨g, 0, rfl, ⟨by rw [h1]; rfl, hg⟩, fun i hi j u hu => ?_⟩
    have hk := h.2 (xs[i]'hi) (List.getElem_mem hi)
    have hj : j < k := by rw [← hk]; exact (List.getElem?_eq_some_iff.1 hu).1
    have hl := flatten_length xs h.2
    have hik : i * k + j < xs.length * k := by
      have : (i + 1) * k ≤ xs.length * k := Nat.mul_le_mul_right k hi
      rw [Nat.succ_mul] at this; omega
    rw [Nat.zero_add, hc (i * k + j) hik]
    have := flatten_getElem? xs h.2 i hi j hj
    rw [hu, List.getElem?_eq_getElem (by omega)] at this
    exact this
/-- one more element, appended: as the law for append of one new value leaves it -/
theorem OwnA.push {v' : Value} {x : List Value} (h : OwnA k base e w v xs) (hx : x.length = k) (h1 : OwnV k base e w' v' (xs.length + 1) (xs.flatten ++ x)) : OwnA k base e w' v' (xs ++ [x]) := by
  refine ⟨by rw [List.length_append, List.length_singleton, List.flatten_append]; simpa using h1, ?_⟩
  intro y hy
  rcases List.mem_append.1 hy with hy | hy
  · exact h.2 y hy
  · rw [List.mem_singleton.1 hy]; exact hx
end

/-- a slice of one new element -/
theorem arr_one {k : Nat} {D : Nat → Prop} (w : World) (cs : Array Value) (e : TypeId) (f : Nat × Nat) (x : List Value) (hx : x.length = k) (hcs : cs = x.toArray) (hd : D w.heap.size) : Arr k D (w.alloc (.cells cs e f)) (.slice (some ⟨w.heap.size, 0, none⟩) 1 1) [x] := by
  subst hcs
  refine ⟨_, 1, rfl, ⟨by simp, by unfold maxLen; omega, fun h => by cases h⟩, by simpa using hx, .inr ⟨_, 0, rfl, hd, fun i hi j u hu => ?_⟩⟩
  obtain rfl : i = 0 := by simpa using hi
  have e1 : (w.alloc (.cells x.toArray e f)).heap[w.heap.size]? = some (.cells x.toArray e f) := heap_alloc_new w _
  simp only [World.cell?, e1]
  simpa using hu

/-- a piece of a slice -/
theorem run_slice_arr {P : Program} {t e : TypeId} {k : Nat} {D : Nat → Prop} {w : World} {v : Value} {xs : List (List Value)} {z : Value} {bytes : Nat} (T : ElemT P t e z k bytes) (h : Arr k D w v xs) (lo hi : Nat) (h1 : lo ≤ hi) (h2 : hi ≤ xs.length) :
    ∃ a cap, (∀ (kl kh : IntKind) (w' : World), (Instr.sliceAt t v (some (.int kl (lo : Int))) (some (.int kh (hi : Int))) none).run P w' = .ok (.slice a (hi - lo) cap) w') ∧
      (lo = 0 → ∀ (kh : IntKind) (w' : World), (Instr.sliceAt t v none (some (.int kh (hi : Int))) none).run P w' = .ok (.slice a (hi - lo) cap) w') ∧
      (hi = xs.length → ∀ (kl : IntKind) (w' : World), (Instr.sliceAt t v (some (.int kl (lo : Int))) none none).run P w' = .ok (.slice a (hi - lo) cap) w') ∧
      Arr k D w (.slice a (hi - lo) cap) ((xs.take hi).drop lo) := by
  have hlen := h.len
  obtain ⟨a, c, rfl, ⟨hlc, hcm, hnone⟩, _, hb⟩ := h
  obtain ⟨i, hi1, hz, hsz, hby⟩ := T.info
  have hsize : ∀ w', (sizeOf e).run P w' = .ok k w' := fun w' => by simp [sizeOf, typeInfo, hi1, hsz]
  have el : ((lo : Int)).toNat = lo := rfl
  refine ⟨if c = lo then a else a.map (·.add (lo * k)), c - lo, ?_, ?_, ?_, ?_⟩
  · intro kl kh w'
    have : ((lo : Int) ≤ hi) := by omega
    simp [Instr.sliceAt, Instr.slice, run_underlying T.und, Instr.sliceBounds, run_sliceBound, hsize, show (hi : Int) ≤ c from by omega, this]
  · intro h0 kh w'
    subst h0
    simp [Instr.sliceAt, Instr.slice, run_underlying T.und, Instr.sliceBounds, run_sliceBound, hsize, show (hi : Int) ≤ c from by omega]
  · intro h0 kl w'
    subst h0
    simp [Instr.sliceAt, Instr.slice, run_underlying T.und, Instr.sliceBounds, run_sliceBound, hsize, show (lo : Int) ≤ xs.length from by omega]
  · have hlen2 : ((xs.take hi).drop lo).length = hi - lo := by simp; omega
    refine ⟨_, c - lo, by rw [hlen2], ⟨by omega, by omega, ?_⟩, fun x hx => hlen x (List.mem_of_mem_take (List.mem_of_mem_drop hx)), ?_⟩
    · intro hn
      split at hn
      · omega
      · cases a with
        | none => have := hnone rfl; omega
        | some x => simp at hn
    · by_cases he : hi - lo = 0
      · left; apply List.length_eq_zero_iff.1; omega
      · right
        rcases hb with hb | ⟨b, off, rfl, hd, hl⟩
        · subst hb; simp at h2; omega
        · have hne : c ≠ lo := by omega
          refine ⟨b, off + lo * k, ?_, hd, fun i hi2 => ?_⟩
          · rw [if_neg hne]
            simp only [Option.map_some, Option.some.injEq]
            unfold Addr.add
            split
            · rename_i h0; rw [h0]; rfl
            · rfl
          · have := hl (lo + i) (by omega)
            rw [Nat.add_assoc, ← Nat.add_mul]
            simpa [List.getElem_drop, List.getElem_take] using this
/-- a beginning of a slice whose room ends with it -/
theorem run_slice_arr3 {P : Program} {t e : TypeId} {k : Nat} {D : Nat → Prop} {w : World} {v : Value} {xs : List (List Value)} {z : Value} {bytes : Nat} (T : ElemT P t e z k bytes) (h : Arr k D w v xs) (hi : Nat) (h2 : hi ≤ xs.length) :
    ∃ a, (∀ (kh km : IntKind) (w' : World), (Instr.sliceAt t v none (some (.int kh (hi : Int))) (some (.int km (hi : Int)))).run P w' = .ok (.slice a hi hi) w') ∧ Arr k D w (.slice a hi hi) (xs.take hi) := by
  have hlen := h.len
  obtain ⟨a, c, rfl, ⟨hlc, hcm, hnone⟩, _, hb⟩ := h
  obtain ⟨i, hi1, hz, hsz, hby⟩ := T.info
  have hsize : ∀ w', (sizeOf e).run P w' = .ok k w' := fun w' => by simp [sizeOf, typeInfo, hi1, hsz]
  refine ⟨a, ?_, ?_⟩
  · intro kh km w'
    simp [Instr.sliceAt, Instr.slice, run_underlying T.und, Instr.sliceBounds, run_sliceBound, hsize, show (hi : Int) ≤ c from by omega]
    intro _
    cases a <;> simp [Addr.add]
  · have hl2 : (xs.take hi).length = hi := by simp; omega
    refine ⟨a, hi, by rw [hl2], ⟨by omega, by omega, fun h => by have := hnone h; omega⟩, fun x hx => hlen x (List.mem_of_mem_take hx), ?_⟩
    rcases hb with hb | ⟨b, off, rfl, hd, hl⟩
    · left; subst hb; simp
    · right; exact ⟨b, off, rfl, hd, fun i hi3 => by simpa [List.getElem_take] using hl i (by omega)⟩
end Go.Proofs.YtmenchnjajpkmaaGreatDoor.Arr
end

section
namespace Go.Proofs.YtmenchnjajpkmaaGreatDoor.Arr
open Go Go.RowKit Mem Row

/-- elements of k cells each that lie in block b from off on and may be written -/
def Wr (k : Nat) (w : World) (b off : Nat) (xs : List (List Value)) : Prop := (∀ x ∈ xs, x.length = k) ∧ ∀ i (h : i < xs.length), w.rangeAt b (off + i * k) (xs[i]'h) ∧ w.there b (off + i * k) k
section
variable {k : Nat} {w w' : World} {b off : Nat} {xs : List (List Value)}
theorem Wr.drew (h : Wr k w b off xs) : Wr k w.drew b off xs := ⟨h.1, fun i hi => ⟨(World.rangeAt_drew _ _ _ _).2 (h.2 i hi).1, (World.there_drew _ _ _ _).2 (h.2 i hi).2⟩⟩
theorem Wr.arr {D : Nat → Prop} (h : Wr k w b off xs) (hd : D b) {cap : Nat} (hc : xs.length ≤ cap) (hm : cap ≤ maxLen) : Arr k D w (.slice (some ⟨b, off, none⟩) xs.length cap) xs :=
  ⟨_, cap, rfl, ⟨hc, hm, fun h => by cases h⟩, h.1, .inr ⟨b, off, rfl, hd, fun i hi => (h.2 i hi).1⟩⟩
theorem mul_apart {i j k : Nat} (h : i < j) : i * k + k ≤ j * k := by have := Nat.mul_le_mul_right k h; rw [Nat.succ_mul] at this; exact this
/-- one element is stored -/
theorem Wr.set (h : Wr k w b off xs) (i : Nat) (hi : i < xs.length) (x : List Value) (hx : x.length = k) : Wr k (w.setCells b (off + i * k) x) b off (xs.set i x) := by
  refine ⟨fun y hy => ?_, fun j hj => ⟨?_, World.there_setCells (h.2 j (by simpa using hj)).2 _ _ _⟩⟩
  · rcases List.mem_or_eq_of_mem_set hy with hy | hy
    · exact h.1 y hy
    · rw [hy]; exact hx
  · rw [List.length_set] at hj
    rw [List.getElem_set]
    by_cases e : i = j
    · subst e
      rw [if_pos rfl]
      exact World.rangeAt_setCells_same w b _ x (by rw [hx]; exact (h.2 i hi).2)
    · rw [if_neg e]
      refine World.rangeAt_setCells_apart (h.2 j hj).1 _ _ _ (.inr ?_)
      rw [h.1 _ (List.getElem_mem hj), hx]
      rcases Nat.lt_or_gt_of_ne e with h1 | h1
      · right; have := mul_apart (k := k) h1; omega
      · left; have := mul_apart (k := k) h1; omega
theorem Fr.setCells {S : Nat → Prop} {a w : World} (h : Fr S a w) {b : Nat} (hb : a.heap.size ≤ b ∨ S b) : ∀ (o : Nat) (vs : List Value), Fr S a (w.setCells b o vs) := by
  intro o vs
  induction vs generalizing w o with
  | nil => exact h
  | cons v r ih => exact ih (h.setCell (p := ⟨b, o, none⟩) hb v) (o + 1)
theorem OwnV.wr {base : Nat} {e : TypeId} {v : Value} (h : OwnA k base e w v xs) (hx : xs ≠ []) : ∃ g cap, v = .slice (some ⟨g, 0, none⟩) xs.length cap ∧ xs.length ≤ cap ∧ cap ≤ maxLen ∧ base ≤ g ∧ g < w.heap.size ∧ Wr k w g 0 xs := by
  obtain ⟨a, cap, h1, h2, h3, _⟩ := h.form
  obtain ⟨g, cap', e1, hg, hlt, hc⟩ := h.1.at (List.length_pos_iff.2 hx)
  have har := h.arr
  rw [h1] at e1
  cases e1
  refine ⟨g, cap, h1, h2, h3, hg, hlt, h.2, fun i hi => ?_⟩
  obtain ⟨b, off, cap2, e2, _, hr⟩ := har.at i hi
  rw [h1] at e2
  cases e2
  refine ⟨hr, fun j hj => ⟨hr.isSome j (by rw [h.2 _ (List.getElem_mem hi)]; exact hj), ?_⟩⟩
  subst h1
  exact h.1.frozenAt _
end
theorem dg_flat (m : List UInt8) : (m.map byt).toArray = ([Value.agg (m.map byt).toArray].flatMap fun v => v.cells.toList).toArray := by simp [Value.cells]
/-- '[]T{..}' (or the values behind an append's slice): the elements' cells, side by side, in a new block -/
theorem run_buildSlice {P : Program} {t e : TypeId} {z : Value} {k bytes : Nat} (T : ElemT P t e z k bytes) (vs : List Value) (hv : ∀ v ∈ vs, v.cells.size = k) (hn : vs.length * k ≤ 16777216) (h0 : 0 < vs.length) (w : World) :
    (Instr.buildSlice t vs.length ((vs.zipIdx 0).map fun x => (x.2, x.1)).toArray).run P w = .ok (.slice (some ⟨w.heap.size, 0, none⟩) vs.length vs.length) (w.alloc (.cells (vs.flatMap fun v => v.cells.toList).toArray e)) := by
  obtain ⟨i, hi, hz, hsz, hby⟩ := T.info
  have hpos := T.pos
  have hmul : vs.length * k ≠ 0 := Nat.mul_ne_zero (by omega) (by omega)
  have hfill := Great.fill_whole T.pos vs ((Array.range (vs.length * k)).map (fun x => z.cells[x % z.cells.size]!)) hv (by simp)
  have hsize : (sizeOf e).run P w = .ok k w := by simp [sizeOf, typeInfo, hi, hsz]
  have hzero : (zeroValue e).run P w = .ok z w := by simp [zeroValue, typeInfo, hi, hz]
  unfold Instr.buildSlice
  rw [Sem.run_bind, run_underlying T.und]
  simp only [Result.andThen_ok]
  rw [Sem.run_bind, hsize]
  simp only [Result.andThen_ok]
  rw [if_neg (by omega)]
  rw [if_neg hmul]
  simp only [Sem.run_bind, hzero, Result.andThen_ok, Sem.run_pure]
  simp only [hfill]
  simp [newRow, Result.andThen]
theorem wpList_buildSlice {P : Program} (w : World) {ops : Array Oper} {rest : List Oper} {o : Oper} {a : Act} {Q : Exit → Act → World → Prop} (hgd : o.guard = none) {t e : TypeId} {z : Value} {k bytes : Nat} (T : ElemT P t e z k bytes) (n : Nat) (parts : List (Nat × Operand))
    (ho : o.op = .buildSlice t n parts.toArray) (vs : List Value) (hp : parts.map (fun p => (p.1, a.eval p.2)) = (vs.zipIdx 0).map fun x => (x.2, x.1)) (hl : n = vs.length) (hv : ∀ v ∈ vs, v.cells.size = k) (hn : vs.length * k ≤ 16777216) (h0 : 0 < vs.length)
    (cs : Array Value) (hcs : cs = (vs.flatMap fun v => v.cells.toList).toArray)
    (h : wpList P ops Q rest (a.put o.dst (.slice (some ⟨w.heap.size, 0, none⟩) n n)) (w.alloc (.cells cs e))) : wpList P ops Q (o :: rest) a w := by
  subst hl hcs
  refine wpList_plain hgd fun K hK => ?_
  have hr := run_buildSlice T vs hv hn h0 w
  unfold Oper.wp
  simp [execOp, ho, List.map_toArray, hp, hr, Result.andThen]
  exact hK _ _ h
/-- one element, a value of many cells -/
theorem wpList_buildSlice1 {P : Program} (w : World) {ops : Array Oper} {rest : List Oper} {o : Oper} {a : Act} {Q : Exit → Act → World → Prop} (hgd : o.guard = none) {t e : TypeId} {z : Value} {k bytes : Nat} (T : ElemT P t e z k bytes) (x : Operand)
    (ho : o.op = .buildSlice t 1 #[(0, x)]) (cs : Array Value) (hx : a.eval x = .agg cs) (hs : cs.size = k) (hk : k ≤ 16777216)
    (h : wpList P ops Q rest (a.put o.dst (.slice (some ⟨w.heap.size, 0, none⟩) 1 1)) (w.alloc (.cells cs e))) : wpList P ops Q (o :: rest) a w :=
  wpList_buildSlice w hgd T 1 [(0, x)] ho [.agg cs] (by simp [hx]) rfl (by simpa [Value.cells] using hs) (by simpa using hk) (by simp) cs (by simp [Value.cells]) h
/-- two elements, values of many cells -/
theorem wpList_buildSlice2 {P : Program} (w : World) {ops : Array Oper} {rest : List Oper} {o : Oper} {a : Act} {Q : Exit → Act → World → Prop} (hgd : o.guard = none) {t e : TypeId} {z : Value} {k bytes : Nat} (T : ElemT P t e z k bytes) (x y : Operand)
    (ho : o.op = .buildSlice t 2 #[(0, x), (1, y)]) (cs ds : Array Value) (hx : a.eval x = .agg cs) (hy : a.eval y = .agg ds) (hs : cs.size = k) (hd : ds.size = k) (hk : 2 * k ≤ 16777216)
    (h : wpList P ops Q rest (a.put o.dst (.slice (some ⟨w.heap.size, 0, none⟩) 2 2)) (w.alloc (.cells (cs ++ ds) e))) : wpList P ops Q (o :: rest) a w :=
  wpList_buildSlice w hgd T 2 [(0, x), (1, y)] ho [.agg cs, .agg ds] (by simp [hx, hy]) rfl (by intro v hv; rcases List.mem_cons.1 hv with rfl | hv; exact hs; rw [List.mem_singleton.1 hv]; exact hd) (by simpa using hk) (by simp) (cs ++ ds) (by simp [Value.cells]) h
/-- 'append(s, x...)', s the call's own (or nil), x any slice of such elements -/
theorem run_append_arr {P : Program} (w : World) (t ty base e : TypeId) {z : Value} {k bytes : Nat} (T : ElemT P t e z k bytes) (v : Value) (xs : List (List Value)) (hown : OwnA k base e w v xs) {D : Nat → Prop} (y : Value) (ys : List (List Value)) (hy : Arr k D w y ys)
    (h1 : ∀ x ∈ ys, ∀ c ∈ x, c.oneCell' = true) (h63 : xs.length + ys.length ≤ maxLen) (hbytes : (xs.length + ys.length) * bytes ≤ 140737488355328) (hb : base ≤ w.heap.size) :
    ∃ a' cap' w', (Builtin.append_ #[t, t] ty #[v, y]).run P w = .ok (.slice a' (xs.length + ys.length) cap') w' ∧ OwnA k base e w' (.slice a' (xs.length + ys.length) cap') (xs ++ ys) ∧ w.grownBy w' v.ownBlock ∧
      ((Value.slice a' (xs.length + ys.length) cap').ownBlock = v.ownBlock ∨ (Value.slice a' (xs.length + ys.length) cap').ownBlock = some w.heap.size) := by
  obtain ⟨i, hi, hz, hsz, hby⟩ := T.info
  have hlen := hy.len
  have hfl := flatten_length ys hlen
  obtain ⟨ad, c, rfl, hk, _, hm⟩ := hy
  cases ad with
  | none =>
    have hm0 : ys = [] := by
      rcases hm with hm | ⟨b, off, hc, _⟩
      · exact hm
      · cases hc
    subst hm0
    obtain rfl := hk.2.2 rfl
    obtain ⟨va, vc, rfl, _⟩ := hown.form
    exact ⟨va, vc, w, run_append_owned_none (P := P) (w := w) base t ty e i k T.und hi _ _ _ hown.1, by simpa using hown, World.grownBy.refl _ _, .inl rfl⟩
  | some ad =>
    obtain ⟨a', cap', w', q0, q1, q2, q3⟩ := run_append_val (P := P) w t ty base e T v xs.length xs.flatten hown.1 ad ys.length c ys.flatten (by rw [hfl]) (by
      intro j u hj
      rcases hm with hm | ⟨b, off, hc, _, hl⟩
      · subst hm; simp at hj
      · simp only [Option.some.injEq] at hc; subst hc
        have hjl : j < ys.length * k := by rw [← hfl]; exact (List.getElem?_eq_some_iff.1 hj).1
        have hq : j / k < ys.length := Nat.div_lt_of_lt_mul (by rw [Nat.mul_comm]; exact hjl)
        have hr := Nat.mod_lt j T.pos
        have hd : j / k * k + j % k = j := by rw [Nat.mul_comm]; exact Nat.div_add_mod j k
        have h2 := flatten_getElem? ys hlen (j / k) hq (j % k) hr
        rw [hd, hj] at h2
        have h3 := hl (j / k) hq (j % k) u h2.symm
        rw [Addr.add_mid]
        rw [Nat.add_assoc, hd] at h3
        exact h3) (by
      intro u hu
      obtain ⟨x, hx, hc⟩ := List.mem_flatten.1 hu
      exact h1 x hx u hc) h63 hbytes hb
    refine ⟨a', cap', w', q0, ⟨by rw [List.length_append, List.flatten_append]; exact q1, ?_⟩, q2, q3⟩
    intro x hx
    rcases List.mem_append.1 hx with hx | hx
    · exact hown.2 x hx
    · exact hlen x hx
theorem wpList_append_arr {P : Program} (w : World) {ops : Array Oper} {rest : List Oper} {o : Oper} {a : Act} {Q : Exit → Act → World → Prop} (hgd : o.guard = none) (s x : Operand) (t : TypeId)
    (ho : o.op = .call { callee := .builtin .append, args := #[s, x], argTypes := #[t, t] }) (base : Nat) (e : TypeId) {z : Value} {k bytes : Nat} (T : ElemT P t e z k bytes)
    (v : Value) (xs : List (List Value)) (hs : a.eval s = v) (hown : OwnA k base e w v xs) {D : Nat → Prop} (y : Value) (ys : List (List Value)) (hx : a.eval x = y) (hy : Arr k D w y ys)
    (h1 : ∀ x ∈ ys, ∀ c ∈ x, c.oneCell' = true) (h63 : xs.length + ys.length ≤ maxLen) (hbytes : (xs.length + ys.length) * bytes ≤ 140737488355328) (hb : base ≤ w.heap.size) (n : Nat) (hn : n = xs.length + ys.length)
    (h : ∀ (a' : Option Addr) (cap' : Nat) (w' : World), OwnA k base e w' (.slice a' n cap') (xs ++ ys) → w.grownBy w' v.ownBlock → ((Value.slice a' n cap').ownBlock = v.ownBlock ∨ (Value.slice a' n cap').ownBlock = some w.heap.size) → wpList P ops Q rest (a.put o.dst (.slice a' n cap')) w') :
    wpList P ops Q (o :: rest) a w := by
  subst hn
  obtain ⟨a', cap', w', h0, q1, q2, q4⟩ := run_append_arr (P := P) w t o.type base e T v xs hown y ys hy h1 h63 hbytes hb
  refine wpList_plain hgd fun K hK => ?_
  unfold Oper.wp
  simp [execOp, ho, resolve, invoke, builtin, hs, hx, h0, Result.andThen]
  exact hK _ _ (h a' cap' w' q1 q2 q4)
/-- elements i and j change places -/
def swp (xs : List (List Value)) (i j : Nat) : List (List Value) := (xs.set i (xs.getD j [])).set j (xs.getD i [])
/-- the first i elements and the last i have changed places -/
def Half (xs ys : List (List Value)) (i : Nat) : Prop := ys.length = xs.length ∧ ∀ p, p < xs.length → ys[p]? = if p < i ∨ xs.length - i ≤ p then xs[xs.length - 1 - p]? else xs[p]?
theorem Half.zero (xs : List (List Value)) : Half xs xs 0 := ⟨rfl, fun p hp => by rw [if_neg (by omega)]⟩
theorem Half.step {xs ys : List (List Value)} {i : Nat} (h : Half xs ys i) (hi : i < xs.length - 1 - i) : Half xs (swp ys i (xs.length - 1 - i)) (i + 1) := by
  obtain ⟨hl, h⟩ := h
  refine ⟨by simp [swp, hl], fun p hp => ?_⟩
  have gi := h i (by omega)
  have gj := h (xs.length - 1 - i) (by omega)
  rw [if_neg (by omega)] at gi gj
  unfold swp
  rw [List.getElem?_set, List.getElem?_set]
  by_cases e1 : xs.length - 1 - i = p
  · rw [if_pos e1, if_pos (by simp; omega), if_pos (by omega), List.getD_eq_getElem?_getD, gi]
    subst e1
    rw [show xs.length - 1 - (xs.length - 1 - i) = i by omega, List.getElem?_eq_getElem (by omega)]; rfl
  · rw [if_neg e1]
    by_cases e2 : i = p
    · subst e2
      rw [if_pos rfl, if_pos (by omega), if_pos (by omega), List.getD_eq_getElem?_getD, gj, List.getElem?_eq_getElem (by omega)]; rfl
    · rw [if_neg e2, h p hp]
      by_cases c : p < i ∨ xs.length - i ≤ p
      · rw [if_pos c, if_pos (by omega)]
      · rw [if_neg c, if_neg (by omega)]
theorem Half.done {xs ys : List (List Value)} {i : Nat} (h : Half xs ys i) (hi : ¬ (i : Int) < (xs.length : Int) - 1 - i) (h2 : (i : Int) ≤ xs.length) : ys = xs.reverse := by
  obtain ⟨hl, h⟩ := h
  apply List.ext_getElem?
  intro p
  by_cases hp : p < xs.length
  · rw [h p hp, List.getElem?_reverse hp]
    by_cases c : p < i ∨ xs.length - i ≤ p
    · rw [if_pos c]
    · rw [if_neg c]
      rw [show xs.length - 1 - p = p by omega]
  · rw [List.getElem?_eq_none (by omega), List.getElem?_eq_none (by simp; omega)]
end Go.Proofs.YtmenchnjajpkmaaGreatDoor.Arr
end

section
namespace Go.Proofs.YtmenchnjajpkmaaGreatDoor.Arr
open Go Go.RowKit Mem Row

/-- where parts of so many cells lie, side by side -/
def offs : Nat → List Nat → List (Nat × Nat)
  | _, [] => []
  | o, s :: r => (o, s) :: offs (o + s) r
theorem set_run (off : Nat) (l : List Value) (cs : Array Value) (h : off + l.length ≤ cs.size) :
    ((l.zipIdx 0).foldl (fun cs (x : Value × Nat) => cs.setIfInBounds (off + x.2) x.1) cs).toList = cs.toList.take off ++ l ++ cs.toList.drop (off + l.length) := by
  obtain ⟨h1, h2⟩ := Great.foldl_set off l 0 cs
  apply List.ext_getElem?
  intro k
  rw [Array.getElem?_toList, h2 k, Nat.add_zero]
  by_cases c1 : k < off
  · rw [if_neg (by omega), List.append_assoc, List.getElem?_append_left (by simp; omega), List.getElem?_take, if_pos c1, Array.getElem?_toList]
  · by_cases c2 : k < off + l.length
    · rw [if_pos (by omega), List.append_assoc, List.getElem?_append_right (by simp; omega), List.getElem?_append_left (by simp; omega)]
      congr 1
      simp; omega
    · rw [if_neg (by omega), List.getElem?_append_right (by simp; omega), List.getElem?_drop]
      rw [← Array.getElem?_toList]
      congr 1
      simp; omega
theorem fill_seq (place : Nat → Option (Nat × Nat)) : ∀ (vs : List Value) (i0 off : Nat) (cells : Array Value),
    (∀ j p, (offs off (vs.map (·.cells.size)))[j]? = some p → place (i0 + j) = some p) → off + (vs.map (·.cells.size)).sum ≤ cells.size →
    ∃ r, Instr.fill place cells ((vs.zipIdx i0).map fun x => (x.2, x.1)) = some r ∧ r.toList = cells.toList.take off ++ (vs.flatMap fun v => v.cells.toList) ++ cells.toList.drop (off + (vs.map (·.cells.size)).sum)
  | [], i0, off, cells, _, _ => by
    refine ⟨cells, rfl, ?_⟩
    simp
  | v :: vs, i0, off, cells, hp, hs => by
    have h0 := hp 0 (off, v.cells.size) (by simp [offs])
    simp only [List.map_cons, List.sum_cons] at hs
    have hz : ((v.cells.toList.zipIdx 0).foldl (fun cs (x : Value × Nat) => cs.setIfInBounds (off + x.2) x.1) cells).size = cells.size := (Great.foldl_set off v.cells.toList 0 cells).1
    have hset := set_run off v.cells.toList cells (by simp; omega)
    obtain ⟨r, hr, hl⟩ := fill_seq place vs (i0 + 1) (off + v.cells.size) ((v.cells.toList.zipIdx 0).foldl (fun cs (x : Value × Nat) => cs.setIfInBounds (off + x.2) x.1) cells)
      (fun j p hj => by rw [show i0 + 1 + j = i0 + (j + 1) by omega]; exact hp (j + 1) p (by simpa [offs] using hj)) (by rw [hz]; omega)
    refine ⟨r, ?_, ?_⟩
    · simp only [List.zipIdx_cons, List.map_cons]
      unfold Instr.fill
      rw [Nat.add_zero] at h0
      simp only [h0]
      rw [if_neg (by simp; omega)]
      rw [← hr]
      congr 1
      rw [← Array.foldl_toList, Array.toList_zipIdx]
    · rw [hl, hset]
      simp only [List.map_cons, List.sum_cons, List.flatMap_cons]
      have e1 : (cells.toList.take off ++ v.cells.toList ++ cells.toList.drop (off + v.cells.toList.length)).take (off + v.cells.size) = cells.toList.take off ++ v.cells.toList := by
        rw [List.take_append_of_le_length (by simp; omega), List.take_of_length_le (by simp; omega)]
      have e2 : (cells.toList.take off ++ v.cells.toList ++ cells.toList.drop (off + v.cells.toList.length)).drop (off + v.cells.size + (vs.map (·.cells.size)).sum) = cells.toList.drop (off + (v.cells.size + (vs.map (·.cells.size)).sum)) := by
        rw [List.drop_append, List.drop_of_length_le (by simp; omega), List.nil_append, List.drop_drop]
        congr 1
        simp; omega
      rw [e1, e2]
      simp only [List.append_assoc]
/-- what a program's tables say of a struct type whose fields have so many cells -/
structure StructT (P : Program) (t : TypeId) (sizes : List Nat) : Prop where
  info : ∃ it fields z, P.info? t = some it ∧ P.underlying t = some (.struct fields) ∧ it.zero = some z ∧ fields.toList.mapM (fun f => (P.info? f.type).map fun i => (f.offset, i.size)) = some (offs 0 sizes) ∧ z.cells.size = sizes.sum
theorem built_all {P : Program} {t : TypeId} {sizes : List Nat} (T : StructT P t sizes) (vs : List Value) (hv : vs.map (·.cells.size) = sizes) : P.built t ((vs.zipIdx 0).map fun x => (x.2, x.1)) = some (vs.flatMap fun v => v.cells.toList).toArray := by
  obtain ⟨it, fields, z, h1, h2, h3, h4, h5⟩ := T.info
  obtain ⟨r, hr, hl⟩ := fill_seq ((offs 0 sizes).toArray[·]?) vs 0 0 z.cells (fun j p hj => by rw [hv] at hj; simpa using hj) (by rw [hv, Nat.zero_add, h5]; exact Nat.le_refl _)
  unfold Program.built
  simp only [h1, h2, h3, h4]
  rw [hr]
  congr 1
  apply Array.toList_inj.1
  rw [hl, hv]
  have : z.cells.toList.drop (0 + sizes.sum) = [] := List.drop_of_length_le (by simp [h5])
  rw [this]
  simp
theorem wpList_build {P : Program} (w : World) {ops : Array Oper} {rest : List Oper} {o : Oper} {a : Act} {Q : Exit → Act → World → Prop} (hgd : o.guard = none) {t : TypeId} {sizes : List Nat} (T : StructT P t sizes) (parts : List (Nat × Operand)) (ho : o.op = .build t parts.toArray)
    (vs : List Value) (hp : parts.map (fun p => (p.1, a.eval p.2)) = (vs.zipIdx 0).map fun x => (x.2, x.1)) (hv : vs.map (·.cells.size) = sizes) (cs : Array Value) (hcs : cs = (vs.flatMap fun v => v.cells.toList).toArray)
    (h : wpList P ops Q rest (a.put o.dst (.agg cs)) w) : wpList P ops Q (o :: rest) a w := by
  subst hcs
  refine wpList_plain hgd fun K hK => ?_
  have hb : P.built t (parts.toArray.map fun (i, x) => (i, a.eval x)).toList = some (vs.flatMap fun v => v.cells.toList).toArray := by
    rw [← built_all T vs hv, ← hp]
    simp
  refine wp_build t parts.toArray ho (by rw [hb]; rfl) ?_
  rw [hb]
  exact hK _ _ h
/-- a struct of two many-celled parts -/
theorem wpList_build2 {P : Program} (w : World) {ops : Array Oper} {rest : List Oper} {o : Oper} {a : Act} {Q : Exit → Act → World → Prop} (hgd : o.guard = none) {t : TypeId} {m n : Nat} (T : StructT P t [m, n]) (x y : Operand) (ho : o.op = .build t #[(0, x), (1, y)])
    (cs ds : List Value) (hx : a.eval x = .agg cs.toArray) (hy : a.eval y = .agg ds.toArray) (hm : cs.length = m) (hn : ds.length = n)
    (h : wpList P ops Q rest (a.put o.dst (.agg (cs ++ ds).toArray)) w) : wpList P ops Q (o :: rest) a w :=
  wpList_build w hgd T [(0, x), (1, y)] ho [.agg cs.toArray, .agg ds.toArray] (by simp [hx, hy]) (by simp [Value.cells, hm, hn]) _ (by simp [Value.cells]) h
end Go.Proofs.YtmenchnjajpkmaaGreatDoor.Arr
end

section
namespace Go.Proofs.YtmenchnjajpkmaaGreatDoor.Ops
open Go Go.RowKit Mem
section
variable {P : Program} {w : World} {ops : Array Oper} {rest : List Oper} {o : Oper} {a : Act} {K : Act → World → Prop} {Q : Exit → Act → World → Prop}
theorem below_alloc (w : World) (ob : Obj) : Below w.heap.size w (w.alloc ob) := (Below.refl _ _).alloc (Nat.le_refl _) _
/-- a variable of many cells is made -/
theorem wp_alloc (t : TypeId) (ho : o.op = .alloc t) (zs : List Value) (hz : (zeroValue t).run P w = .ok (.agg zs.toArray) w)
    (h : ∀ w', Blk w' w.heap.size zs t → Below w.heap.size w w' → w.heap.size + 1 = w'.heap.size → K (a.put o.dst (.pointer (some ⟨w.heap.size, 0, none⟩))) w') : Oper.wp P o a w K Q := by
  unfold Oper.wp
  simp [execOp, ho, Instr.alloc, hz, newVar, newRow, Value.cells, Result.andThen]
  exact h _ (Blk.new w _ _ _ rfl) (below_alloc _ _) (by simp)
theorem wpList_alloc (hgd : o.guard = none) (t : TypeId) (ho : o.op = .alloc t) (zs : List Value) (hz : (zeroValue t).run P w = .ok (.agg zs.toArray) w)
    (h : ∀ w', Blk w' w.heap.size zs t → Below w.heap.size w w' → w.heap.size + 1 = w'.heap.size → wpList P ops Q rest (a.put o.dst (.pointer (some ⟨w.heap.size, 0, none⟩))) w') : wpList P ops Q (o :: rest) a w :=
  wpList_plain hgd fun _ hK => wp_alloc t ho zs hz (fun w' h1 h2 h3 => hK _ _ (h w' h1 h2 h3))
/-- a value is boxed -/
theorem wp_box (t : TypeId) (x : Operand) (ho : o.op = .box t x) (cs : List Value) (hx : a.eval x = .agg cs.toArray)
    (h : ∀ w', Blk w' w.heap.size cs t → Below w.heap.size w w' → w.heap.size + 1 = w'.heap.size → K (a.put o.dst (.pointer (some ⟨w.heap.size, 0, none⟩))) w') : Oper.wp P o a w K Q := by
  unfold Oper.wp
  simp [execOp, ho, Instr.box, hx, newVar, newRow, Value.cells, Result.andThen]
  exact h _ (Blk.new w _ _ _ rfl) (below_alloc _ _) (by simp)
theorem wpList_box (hgd : o.guard = none) (t : TypeId) (x : Operand) (ho : o.op = .box t x) (cs : List Value) (hx : a.eval x = .agg cs.toArray)
    (h : ∀ w', Blk w' w.heap.size cs t → Below w.heap.size w w' → w.heap.size + 1 = w'.heap.size → wpList P ops Q rest (a.put o.dst (.pointer (some ⟨w.heap.size, 0, none⟩))) w') : wpList P ops Q (o :: rest) a w :=
  wpList_plain hgd fun _ hK => wp_box t x ho cs hx (fun w' h1 h2 h3 => hK _ _ (h w' h1 h2 h3))
/-- a whole row is stored -/
theorem wp_put (ty : TypeId) (x y : Operand) (ho : o.op = .store ty x y) (g : Nat) (l old : List Value) (hx : a.eval x = .pointer (some ⟨g, 0, none⟩)) (hy : a.eval y = .agg l.toArray) {t : TypeId} (hB : Blk w g old t)
    (hi : (P.info? ty).map (·.size) = some l.length) (hl : old.length = l.length) (h1 : ∀ v ∈ l, v.oneCell' = true)
    (h : ∀ w', Blk w' g l t → Fr (fun k => k = g) w w' → w'.heap.size = w.heap.size → K (a.put o.dst undef) w') : Oper.wp P o a w K Q := by
  refine wp_store_row ty x y ho g l.toArray hx hy t old.toArray hB (by simpa using hi) (by simpa using hl) ?_ (h _ (hB.row l) (Fr.setRow (S := fun k => k = g) (Fr.refl _ w) (.inr rfl) _) (by simp))
  rw [Array.all_eq_true']
  intro v hv
  exact h1 v (by simpa using hv)
theorem wpList_put (hgd : o.guard = none) (ty : TypeId) (x y : Operand) (ho : o.op = .store ty x y) (g : Nat) (l old : List Value) (hx : a.eval x = .pointer (some ⟨g, 0, none⟩)) (hy : a.eval y = .agg l.toArray) {t : TypeId} (hB : Blk w g old t)
    (hi : (P.info? ty).map (·.size) = some l.length) (hl : old.length = l.length) (h1 : ∀ v ∈ l, v.oneCell' = true)
    (h : ∀ w', Blk w' g l t → Fr (fun k => k = g) w w' → w'.heap.size = w.heap.size → wpList P ops Q rest (a.put o.dst undef) w') : wpList P ops Q (o :: rest) a w :=
  wpList_plain hgd fun _ hK => wp_put ty x y ho g l old hx hy hB hi hl h1 (fun w' h1 h2 h3 => hK _ _ (h w' h1 h2 h3))
theorem below_drew {B : Nat} {w w' : World} (h : Below B w w') : Below B w w'.drew := ⟨h.os, h.tape, h.output, h.size, h.block⟩
/-- a struct of parts, in a region that draws -/
theorem yieldsIf_build {S : World → Prop} (hw : Region.wanted o (yielded ops a.tmps) = true) {t : TypeId} {sizes : List Nat} (T : Arr.StructT P t sizes) (parts : List (Nat × Operand)) (ho : o.op = .build t parts.toArray)
    (vs : List Value) (hp : parts.map (fun p => (p.1, a.eval p.2)) = (vs.zipIdx 0).map fun x => (x.2, x.1)) (hv : vs.map (·.cells.size) = sizes) (cs : Array Value) (hcs : cs = (vs.flatMap fun v => v.cells.toList).toArray) : YieldsIf P ops S o (.agg cs) a :=
  .inl ⟨hw, fun w _ => by
    subst hcs
    have hb : P.built t (parts.toArray.map fun (i, x) => (i, a.eval x)).toList = some (vs.flatMap fun v => v.cells.toList).toArray := by
      rw [← Arr.built_all T vs hv, ← hp]
      simp
    unfold execOp
    simp only [ho, Sem.run_bind, run_build w t _ _ hb, Result.andThen_ok, Sem.run_pure]⟩
theorem blk_range {w : World} {b : Nat} {l : List Value} {e : TypeId} (h : Blk w b l e) : w.rangeAt b 0 l := fun j v hv => by rw [Nat.zero_add]; exact h.cell hv
/-- a part of a block -/
theorem blk_part {w : World} {b : Nat} {l : List Value} {e : TypeId} (h : Blk w b l e) (pre mid post : List Value) (hl : l = pre ++ (mid ++ post)) (n : Nat) (hn : pre.length = n) : w.rangeAt b n mid := fun j v hv => by
  refine h.cell ?_
  subst hl; subst hn
  have hj := (List.getElem?_eq_some_iff.1 hv).1
  rw [List.getElem?_append_right (by omega), Nat.add_sub_cancel_left, List.getElem?_append_left hj]
  exact hv
/-- a struct some of whose fields are told -/
theorem wpList_built (hgd : o.guard = none) (t : TypeId) (parts : List (Nat × Operand)) (ho : o.op = .build t parts.toArray) (cs : List Value) (hb : P.built t (parts.map fun p => (p.1, a.eval p.2)) = some cs.toArray)
    (h : wpList P ops Q rest (a.put o.dst (.agg cs.toArray)) w) : wpList P ops Q (o :: rest) a w :=
  wpList_plain hgd fun _ hK => by
    have e : (parts.toArray.map fun (i, x) => (i, a.eval x)).toList = parts.map fun p => (p.1, a.eval p.2) := by simp
    exact wp_build t parts.toArray ho (by rw [e, hb]; rfl) (by rw [e, hb]; exact hK _ _ h)
/-- a part of a row is stored -/
theorem blk_setCells {g : Nat} {t : TypeId} : ∀ (vs : List Value) (w : World) (pre mid post : List Value), mid.length = vs.length → Blk w g (pre ++ (mid ++ post)) t → Blk (w.setCells g pre.length vs) g (pre ++ (vs ++ post)) t
  | [], w, pre, mid, post, hl, h => by
    obtain rfl := List.length_eq_zero_iff.1 hl
    exact h
  | v :: r, w, pre, [], post, hl, h => by simp at hl
  | v :: r, w, pre, u :: mid, post, hl, h => by
    have h1 := h.set pre.length v
    have e : (pre ++ (u :: mid ++ post)).set pre.length v = (pre ++ [v]) ++ (mid ++ post) := by
      rw [List.set_append_right _ _ (Nat.le_refl _)]
      simp
    rw [e] at h1
    have h2 := blk_setCells r _ (pre ++ [v]) mid post (by simpa using hl) h1
    rw [List.length_append, List.length_singleton] at h2
    show Blk ((w.setCell ⟨g, pre.length, none⟩ v).setCells g (pre.length + 1) r) g _ t
    simpa using h2
theorem there_blk {g n : Nat} {t : TypeId} {l : List Value} (h : Blk w g l t) (o : Nat) (hn : o + n ≤ l.length) : w.there g o n := fun j hj => by
  refine ⟨?_, h.free _⟩
  have : l[o + j]? = some (l[o + j]'(by omega)) := List.getElem?_eq_getElem (by omega)
  rw [h.cell this]
  rfl
theorem wp_putMid (ty : TypeId) (x y : Operand) (ho : o.op = .store ty x y) (g : Nat) (pre mid post new : List Value) (n : Nat) (hn : pre.length = n) (hx : a.eval x = .pointer (some ⟨g, n, none⟩)) (hy : a.eval y = .agg new.toArray) {t : TypeId} (hB : Blk w g (pre ++ (mid ++ post)) t)
    (hi : (P.info? ty).map (·.size) = some new.length) (hl : mid.length = new.length) (h1 : ∀ v ∈ new, v.oneCell' = true)
    (h : ∀ w', Blk w' g (pre ++ (new ++ post)) t → Fr (fun k => k = g) w w' → w'.heap.size = w.heap.size → K (a.put o.dst undef) w') : Oper.wp P o a w K Q := by
  subst hn
  refine wp_store_mid ty x y ho g pre.length new.toArray hx hy (there_blk hB _ (by simp; omega)) (by simpa using hi) ?_ (h _ ?_ ?_ ?_)
  · rw [Array.all_eq_true']
    intro v hv
    exact h1 v (by simpa using hv)
  · exact blk_setCells new w pre mid post hl hB
  · exact Arr.Fr.setCells (S := fun k => k = g) (Fr.refl _ w) (.inr rfl) _ _
  · rw [show new.toArray.toList = new from rfl]
    generalize pre.length = q
    clear h hi hl h1 hB hy hx ho
    induction new generalizing w q with
    | nil => rfl
    | cons v r ih => exact (ih (w := w.setCell ⟨g, q, none⟩ v) (q + 1)).trans (by simp [World.setCell])
theorem wpList_putMid (hgd : o.guard = none) (ty : TypeId) (x y : Operand) (ho : o.op = .store ty x y) (g : Nat) (pre mid post new : List Value) (n : Nat) (hn : pre.length = n) (hx : a.eval x = .pointer (some ⟨g, n, none⟩)) (hy : a.eval y = .agg new.toArray) {t : TypeId} (hB : Blk w g (pre ++ (mid ++ post)) t)
    (hi : (P.info? ty).map (·.size) = some new.length) (hl : mid.length = new.length) (h1 : ∀ v ∈ new, v.oneCell' = true)
    (h : ∀ w', Blk w' g (pre ++ (new ++ post)) t → Fr (fun k => k = g) w w' → w'.heap.size = w.heap.size → wpList P ops Q rest (a.put o.dst undef) w') : wpList P ops Q (o :: rest) a w :=
  wpList_plain hgd fun _ hK => wp_putMid ty x y ho g pre mid post new n hn hx hy hB hi hl h1 (fun w' h1 h2 h3 => hK _ _ (h w' h1 h2 h3))
/-- a field of one cell of a value -/
theorem run_field_cell {T : TypeId} {fields : Array Field} {f : Field} {i : Nat} {cs : List Value} {v : Value} (hu : P.underlying T = some (.struct fields)) (hf : fields[i]? = some f) (hg : (isAgg f.type).run P w = .ok false w) (hc : cs[f.offset]? = some v) : (Instr.field T (.agg cs.toArray) i).run P w = .ok v w := by
  simp [Instr.field, run_underlying hu, hf, part, Sem.run_bind, hg, Result.andThen, asAgg, hc]
theorem yieldsIf_run {S : World → Prop} (hw : Region.wanted o (yielded ops a.tmps) = true) (v : Value) (h : ∀ w, S w → (execOp a.eval o).run P w = .ok (.value v) w) : YieldsIf P ops S o v a := .inl ⟨hw, h⟩
theorem exec_field {T : TypeId} {i : Nat} {x : Operand} (ho : o.op = .field T x i) {u v : Value} (hx : a.eval x = u) (hr : (Instr.field T u i).run P w = .ok v w) : (execOp a.eval o).run P w = .ok (.value v) w := by
  unfold execOp
  simp [ho, hx, hr, Result.andThen]
/-- a row and a slot are handed back -/
theorem results_row2 {fn : Func} {p u : Tmp} {ty : TypeId} (h : fn.results = #[.cell p ty, .tmp u]) (tmps : Array Value) (w : World) (g : Nat) (l : List Value) {t : TypeId} (d : TypeDesc)
    (hp : tmps.getD p undef = .pointer (some ⟨g, 0, none⟩)) (hB : Blk w g l t) (hu : P.underlying ty = some d) (hd : (match d with | .struct _ | .array _ _ => true | _ => false) = true) (hi : (P.info? ty).map (·.size) = some l.length) (v : Value) (hv : tmps.getD u undef = v) :
    (results fn tmps).run P w = .ok (.tuple #[.agg l.toArray, v]) w := by
  have hp' : tmps[p]?.getD undef = .pointer (some ⟨g, 0, none⟩) := by simpa using hp
  have hv' : tmps[u]?.getD undef = v := by simpa using hv
  simp [results, h, hp', hv', asAddr, run_loadVar_row w g t ty l.toArray (0, 0) d hB hu hd (by simpa using hi)]
theorem results_row3 {fn : Func} {q p u : Tmp} {ty : TypeId} (h : fn.results = #[.tmp q, .cell p ty, .tmp u]) (tmps : Array Value) (w : World) (g : Nat) (l : List Value) {t : TypeId} (d : TypeDesc)
    (hp : tmps.getD p undef = .pointer (some ⟨g, 0, none⟩)) (hB : Blk w g l t) (hu : P.underlying ty = some d) (hd : (match d with | .struct _ | .array _ _ => true | _ => false) = true) (hi : (P.info? ty).map (·.size) = some l.length) (v : Value) (hv : tmps.getD u undef = v) (x : Value) (hx : tmps.getD q undef = x) :
    (results fn tmps).run P w = .ok (.tuple #[x, .agg l.toArray, v]) w := by
  have hp' : tmps[p]?.getD undef = .pointer (some ⟨g, 0, none⟩) := by simpa using hp
  have hv' : tmps[u]?.getD undef = v := by simpa using hv
  have hx' : tmps[q]?.getD undef = x := by simpa using hx
  simp [results, h, hp', hv', hx', asAddr, run_loadVar_row w g t ty l.toArray (0, 0) d hB hu hd (by simpa using hi)]
theorem results_row1 {fn : Func} {p : Tmp} {ty : TypeId} (h : fn.results = #[.cell p ty]) (tmps : Array Value) (w : World) (g : Nat) (l : List Value) {t : TypeId} (d : TypeDesc)
    (hp : tmps.getD p undef = .pointer (some ⟨g, 0, none⟩)) (hB : Blk w g l t) (hu : P.underlying ty = some d) (hd : (match d with | .struct _ | .array _ _ => true | _ => false) = true) (hi : (P.info? ty).map (·.size) = some l.length) :
    (results fn tmps).run P w = .ok (.agg l.toArray) w :=
  results_cell_row h tmps w g t l.toArray (0, 0) d hp hB hu hd (by simpa using hi)
end
end Go.Proofs.YtmenchnjajpkmaaGreatDoor.Ops
end

section
namespace Go.Proofs.YtmenchnjajpkmaaGreatDoor.Wt
open Go Go.RowKit Mem Codec CodecW Ww Arr Ops
set_option linter.unusedVariables false

section
variable {S : Nat → Prop} {w0 w w' : World} {q : Nat} {m m' : List UInt8} {bad bad' : Bool}
theorem At.below (H : At S w0 w q m bad) (hb : Below w.heap.size w w') : At S w0 w' q m bad := by
  have h1 := hb.size
  refine ⟨(H.1.below hb).mono (fun k _ h => ?_), ?_, H.2.2⟩
  · rcases h with h | h
    · exact .inl h
    · exact .inr ⟨h.1, by omega⟩
  · exact H.2.1.trans' (Fr.ofBelow hb) (fun i hi h => by have := H.2.1.size; have h : w.heap.size ≤ i := h; omega)
/-- a call that leaves other memory behind than the writer's -/
theorem At.back (H : At S w0 w q m bad) (K : At (Plus S w0 w) w w' q m' bad') : At S w0 w' q m' bad' := Ww.At.leave0 H K
theorem At.must (H : At S w0 w q m bad) (b : Bool) : At S w0 (w.setCell ⟨q, 1, none⟩ (.bool b)) q m b ∧ w.cell? ⟨q, 1, none⟩ = some (.bool bad) ∧ w.frozen? ⟨q, 1, none⟩ = false := by
  obtain ⟨⟨h1, p, h2, h3⟩, h4, h5⟩ := H
  have hsz : (w.setCell ⟨q, 1, none⟩ (.bool b)).heap.size = w.heap.size := by simp [World.setCell]
  have hpl : ∀ k, Plus S w0 w k → Plus S w0 (w.setCell ⟨q, 1, none⟩ (.bool b)) k := fun k h => by
    rcases h with h | h
    · exact .inl h
    · exact .inr ⟨h.1, by rw [hsz]; exact h.2⟩
  have hf : Fr (fun k => k = q) w (w.setCell ⟨q, 1, none⟩ (.bool b)) := Fr.setCell (S := fun k => k = q) (p := ⟨q, 1, none⟩) (Fr.refl _ w) (.inr rfl) _
  refine ⟨⟨⟨hpl q h1, p, by simpa using h2.set 1 (.bool b), ?_⟩, h4.trans' hf (fun i hi h => ?_), h5⟩, h2.cell rfl, h2.free 1⟩
  · exact (h3.fr hf (fun k _ h => h.2)).mono (fun k _ h => ⟨hpl k h.1, h.2⟩)
  · have h : i = q := h
    subst h
    rcases h1 with h1 | h1
    · exact h1
    · omega
end
set_option maxHeartbeats 4000000 in
theorem must_calls (S : Nat → Prop) (w0 w : World) (q : Nat) (m : List UInt8) (bad ok : Bool) (H : At S w0 w q m bad) :
    Calls Tryz.prog 108 #[.pointer (some ⟨q, 0, none⟩), .bool ok] w fun e w' => e = .returned (.tuple #[]) ∧ At S w0 w' q m (bad || !ok) := by
  obtain ⟨h1, c1, f1⟩ := At.must H (bad || !ok)
  have H1 := Lib.hid h1
  clear h1 H
  cases bad <;> cases ok <;>
  · go_enter Tryz.func108, Tryz.ntmps108
    go_wp2
    go_end0
    exact ⟨rfl, H1.out⟩
theorem oneK (d : List UInt8) : ∀ v ∈ d.map byt, v.oneCell' = true := fun v hv => by obtain ⟨_, _, rfl⟩ := List.mem_map.1 hv; rfl

theorem var_len9 (n : Nat) : (var n).length ≤ 9 := by rw [var_length]; exact vlen_le n
end Go.Proofs.YtmenchnjajpkmaaGreatDoor.Wt
end

section
namespace Go.Proofs.YtmenchnjajpkmaaGreatDoor.Wt
open Go Go.RowKit Mem Codec CodecW Ww Arr Ops
set_option linter.unusedVariables false

def u8 (t : Int) : UInt8 := UInt8.ofNat (t % 256).toNat
theorem u8_wrap (t : Int) : IntKind.u8.wrap t = ((u8 t).toNat : Int) := by
  rw [IntKind.wrap_u8]
  unfold u8
  rw [UInt8.toNat_ofNat']
  omega
/-- a federation's bytes, and whether it has none -/
def encP (t : Int) (l : List (List UInt8)) : List UInt8 := u8 t :: (var l.length ++ l.flatten)
def badP (t : Int) (l : List (List UInt8)) : Bool := !(decide (0 ≤ t) && decide (t ≤ 255)) || !decide ((l.length : Int) ≤ 16)
theorem flat_len {n : Nat} : ∀ (x : List (List UInt8)), (∀ d ∈ x, d.length = n) → x.flatten.length = x.length * n
  | [], _ => by simp
  | d :: r, hx => by rw [List.flatten_cons, List.length_append, hx d (by simp), flat_len r (fun y hy => hx y (by simp [hy])), List.length_cons, Nat.succ_mul]; omega
/-- what a thing's bytes are told as -/
def told (enc : List UInt8) : Bool → List UInt8
  | true => []
  | false => enc
def toldE : Bool → Int
  | true => 120
  | false => 0
def Told (B : Nat) (enc : List UInt8) (bad : Bool) (e : Ending) (w' : World) : Prop :=
  ∃ a c, e = .returned (.tuple #[.slice a (told enc bad).length c, .int .i64 (toldE bad)]) ∧ OwnB B 5 w' (.slice a (told enc bad).length c) (told enc bad)
end Go.Proofs.YtmenchnjajpkmaaGreatDoor.Wt
end
