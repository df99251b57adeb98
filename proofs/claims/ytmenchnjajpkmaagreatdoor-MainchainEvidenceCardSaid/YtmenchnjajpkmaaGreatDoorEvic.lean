/- Words for the wire's writer, and walks of its digest and of the codec's Bytes. Condition: the bytes together are at most 2^47. Words for the reference's writer (layer 12) on its way, and walks of its raw, number, digest. Condition: the bytes together are at most 2^47. Walks of the codec's Reader: Read, take, high, Byte, Word, Long, Var, room, Raw, Text, Fail, Err, Left, End; and of Writer.Bytes. Condition: the bytes are at most 2^47. Walks of the reference of SHA-256. No condition. A loop over a great frame: the slots that are forgotten are one function, not a letter each. Program-independent; no condition. The walk of the reference's digest: Of comes to Sha.sha. Condition: the text is shorter than 2^47 - 128 bytes. A hash that lies from a block on: New and Write as steps that keep all below. Conditions: as Write's. A string turned to bytes, as the words of Mem. Program-independent; no condition. What the second form's bulk says of arguments that are slices of bytes. No condition. -/
import Derived.Test.YtmenchnjajpkmaaGreatDoorEvia
import Derived.Test.YtmenchnjajpkmaaGreatDoorEvib
import Derived.StillTailTactics
import Derived.Deep.MidRow
import Derived.WalkLawsBesides
import Derived.Deep.CutBlock
import Derived.Deep.DeepCutAuto
import Derived.WalkKit
import Derived.Lib.ConvBytes
import Derived.Test.YtmenchnjajpkmaaGreatDoorRows
section
namespace Go.Proofs.YtmenchnjajpkmaaGreatDoor.Ww
open Go Go.RowKit Mem Codec CodecW
set_option linter.unusedVariables false

/-- the wire's writer at block q, its blocks in S, that has m; bad: something may not be written -/
def WwIs (S : Nat → Prop) (w : World) (q : Nat) (m : List UInt8) (bad : Bool) : Prop :=
  S q ∧ ∃ p, Blk w q [.pointer (some ⟨p, 0, none⟩), .bool bad] 166 ∧ WriterIs (fun k => S k ∧ k ≠ q) w p m
section
variable {S T : Nat → Prop} {w w' : World} {q : Nat} {m : List UInt8} {bad : Bool}
theorem WwIs.fr (H : WwIs S w q m bad) (hf : Fr T w w') (hn : ∀ k, k < w.heap.size → S k → ¬ T k) : WwIs S w' q m bad := by
  obtain ⟨h1, p, h2, h3⟩ := H
  exact ⟨h1, p, h2.fr hf (hn q h2.lt h1), h3.fr hf (fun k hk h => hn k hk h.1)⟩
theorem WwIs.mono (H : WwIs S w q m bad) (hn : ∀ k, k < w.heap.size → S k → T k) : WwIs T w q m bad := by
  obtain ⟨h1, p, h2, h3⟩ := H
  exact ⟨hn q h2.lt h1, p, h2, h3.mono (fun k hk h => ⟨hn k hk h.1, h.2⟩)⟩
theorem WwIs.below (H : WwIs S w q m bad) (hb : Below w.heap.size w w') : WwIs S w' q m bad := H.fr (Fr.ofBelow hb) (fun k hk _ h => by omega)
theorem WwIs.drew (H : WwIs S w q m bad) : WwIs S w.drew q m bad := H
theorem WwIs.lt (H : WwIs S w q m bad) : q < w.heap.size := H.2.choose_spec.1.lt
end
/-- on the way from w0 on: the writer, its blocks being S's and new ones; nothing else has turned -/
def At (S : Nat → Prop) (w0 w : World) (q : Nat) (m : List UInt8) (bad : Bool) : Prop := WwIs (Plus S w0 w) w q m bad ∧ Fr S w0 w ∧ ∀ k, S k → k < w0.heap.size
section
variable {S : Nat → Prop} {w0 w w' : World} {q : Nat} {m : List UInt8} {bad : Bool}
theorem At.start (H : WwIs S w q m bad) (hS : ∀ k, S k → k < w.heap.size) : At S w w q m bad := ⟨H.mono (fun k _ h => .inl h), Fr.refl _ _, hS⟩
theorem At.out (H : At S w0 w q m bad) : ∀ k, Plus S w0 w k → k < w.heap.size := fun k h => by
  have h1 := H.2.1.size
  rcases h with h | h
  · have := H.2.2 k h; omega
  · exact h.2
theorem At.lt (H : At S w0 w q m bad) : q < w.heap.size := H.1.lt
theorem At.drew (H : At S w0 w q m bad) : At S w0 w.drew q m bad := ⟨H.1.drew, H.2.1.drew, H.2.2⟩
/-- what the callee has made for itself is no block of the writer's -/
theorem At.enter (H : At S w0 w q m bad) (o : Obj) : At (Plus S w0 w) (w.alloc o) (w.alloc o) q m bad :=
  At.start (H.1.below ((Below.refl _ _).alloc (Nat.le_refl _) _)) (fun k h => by have := H.out k h; simp; omega)
theorem At.leave {o : Obj} {m' : List UInt8} {bad' : Bool} (H : At S w0 w q m bad) (K : At (Plus S w0 w) (w.alloc o) w' q m' bad') : At S w0 w' q m' bad' := by
  have h1 := H.2.1.size
  have h2 := K.2.1.size
  have hz : (w.alloc o).heap.size = w.heap.size + 1 := by simp
  refine ⟨K.1.mono (fun k hk h => ?_), H.2.1.trans' (((Fr.refl _ w).alloc o).trans K.2.1) (fun i hi h => ?_), H.2.2⟩
  · rcases h with (h | h) | h
    · exact .inl h
    · exact .inr ⟨h.1, by omega⟩
    · exact .inr ⟨by omega, h.2⟩
  · rcases h with h | h
    · exact h
    · omega
theorem At.enter0 (H : At S w0 w q m bad) : At (Plus S w0 w) w w q m bad := At.start H.1 H.out
theorem At.leave0 {m' : List UInt8} {bad' : Bool} (H : At S w0 w q m bad) (K : At (Plus S w0 w) w w' q m' bad') : At S w0 w' q m' bad' := by
  have h1 := H.2.1.size
  have h2 := K.2.1.size
  refine ⟨K.1.mono (fun k hk h => ?_), H.2.1.trans' K.2.1 (fun i hi h => ?_), H.2.2⟩
  · rcases h with (h | h) | h
    · exact .inl h
    · exact .inr ⟨h.1, by omega⟩
    · exact .inr ⟨by omega, h.2⟩
  · rcases h with h | h
    · exact h
    · omega
/-- the codec's writer under it, and back -/
theorem At.opened (H : At S w0 w q m bad) : ∃ p, Blk w q [.pointer (some ⟨p, 0, none⟩), .bool bad] 166 ∧ WriterIs (fun k => Plus S w0 w k ∧ k ≠ q) w p m ∧ Plus S w0 w q := by
  obtain ⟨⟨h1, p, h2, h3⟩, _, _⟩ := H
  exact ⟨p, h2, h3, h1⟩
theorem At.shut {p : Nat} {m' : List UInt8} (H : At S w0 w q m bad) (hB : Blk w q [.pointer (some ⟨p, 0, none⟩), .bool bad] 166)
    (h : WriterIs (Plus (fun k => Plus S w0 w k ∧ k ≠ q) w w') w' p m') (hf : Fr (fun k => Plus S w0 w k ∧ k ≠ q) w w') : At S w0 w' q m' bad := by
  have h1 := H.2.1.size
  have h2 := hf.size
  have hq := hB.lt
  refine ⟨⟨?_, p, hB.fr hf (fun h => h.2 rfl), h.mono (fun k hk h => ?_)⟩, H.2.1.trans' hf (fun i hi h => ?_), H.2.2⟩
  · rcases H.1.1 with h | h
    · exact .inl h
    · exact .inr ⟨h.1, by omega⟩
  · rcases h with ⟨h | h, hne⟩ | h
    · exact ⟨.inl h, hne⟩
    · exact ⟨.inr ⟨h.1, by omega⟩, hne⟩
    · exact ⟨.inr ⟨by omega, h.2⟩, by omega⟩
  · rcases h.1 with h | h
    · exact h
    · omega
/-- the box that the callee has made stays -/
theorem At.box {o : Obj} {m' : List UInt8} {bad' : Bool} {l : List Value} {e : TypeId} (H : At S w0 w q m bad) (K : At (Plus S w0 w) (w.alloc o) w' q m' bad') (h : Blk (w.alloc o) w.heap.size l e) : Blk w' w.heap.size l e :=
  h.fr K.2.1 (fun h => by have := H.out _ h; omega)
/-- data that lie elsewhere stay -/
theorem At.blk {b : Nat} {l : List Value} {e : TypeId} (H : At S w0 w q m bad) (h : Blk w0 b l e) (hn : ¬ S b) : Blk w b l e := h.fr H.2.1 hn
theorem At.byt {D : Nat → Prop} {v : Value} {l : List UInt8} (H : At S w0 w q m bad) (h : Byt D w0 v l) (hn : ∀ k, k < w0.heap.size → D k → ¬ S k) : Byt D w v l := h.fr H.2.1 hn
end
theorem szD {d : List UInt8} (hd : d.length = 32) : (Tryz.prog.info? 24).map (·.size) = some (d.map byt).length := by rw [List.length_map, hd]; kernel_rfl

set_option maxHeartbeats 4000000 in
set_option maxRecDepth 100000 in
theorem digest_calls (S : Nat → Prop) (w0 w : World) (q : Nat) (m : List UInt8) (bad : Bool) (d : List UInt8) (hd : d.length = 32) (H : At S w0 w q m bad) (hlen : m.length + 32 ≤ 140737488355328) :
    Calls Tryz.prog 101 #[.pointer (some ⟨q, 0, none⟩), .agg (d.map byt).toArray] w fun e w' => e = .returned (.tuple #[]) ∧ At S w0 w' q (m ++ d) bad := by
  obtain ⟨cs, hcs⟩ : ∃ cs, (d.map byt).toArray = cs := ⟨_, rfl⟩
  have HB := Lib.hid (show Blk (w.alloc (.cells cs 24)) w.heap.size (d.map byt) 24 from Blk.new w _ _ _ hcs.symm)
  have H1 := Lib.hid (H.enter (.cells cs 24))
  have HL := Lib.hid (fun w' m' => @At.leave S w0 w w' q m bad (.cells cs 24) m' bad H)
  have hnw : ¬ Plus S w0 w w.heap.size ∨ True := .inr trivial
  have hql := H.lt
  have hz : (w.alloc (.cells cs 24)).heap.size = w.heap.size + 1 := by simp
  have hd32 : d.length ≤ 32 := by omega
  rw [hcs]
  clear H hcs hnw
  go_enter Tryz.func101, Tryz.ntmps101
  go_upto_region 1 with fail
  generalize (w.alloc (.cells cs 24)) = w1 at *
  obtain ⟨p, h1, h2, h3⟩ := H1.out.drew.opened
  have H2 := Lib.hid h2
  have HQ := Lib.hid h1
  have c0 := h1.cell (i := 0) rfl
  have c1 : w1.cell? ⟨q, 0, none⟩ = some (.pointer (some ⟨p, 0, none⟩)) := c0
  clear h1 h2 h3
  go_still_tail 5, (by kernel_rfl)
  change wpList _ _ _ _ _ w1.drew
  go_wp2_with fail
  refine (raw_calls _ Any w1.drew p m _ d H2.out (((HB.out.byt hd (by unfold maxLen; omega) trivial).drew)) (by omega)).mono ?_
  rintro e w2 ⟨rfl, g1, g2⟩
  have HF := Lib.hid (HL.out _ _ (H1.out.drew.shut HQ.out g1 g2))
  clear g1 g2 HL H1 H2 HB HQ c0 c1
  go_wp2
  go_end0
  exact ⟨rfl, HF.out⟩
end Go.Proofs.YtmenchnjajpkmaaGreatDoor.Ww
end

section
namespace Go.Proofs.YtmenchnjajpkmaaGreatDoor.Rw
open Go Go.RowKit Mem Codec CodecW RfW
set_option linter.unusedVariables false

/-- on the way from w0 on: the writer, its blocks being S's and new ones; nothing else has turned -/
def RAt (S : Nat → Prop) (w0 w : World) (q : Nat) (m : List UInt8) (bad : Bool) : Prop := RefIs (Plus S w0 w) w q m bad ∧ Fr S w0 w ∧ ∀ k, S k → k < w0.heap.size
section
variable {S : Nat → Prop} {w0 w w' : World} {q : Nat} {m : List UInt8} {bad : Bool}
theorem RAt.start (H : RefIs S w q m bad) (hS : ∀ k, S k → k < w.heap.size) : RAt S w w q m bad := ⟨H.mono (fun k _ h => .inl h), Fr.refl _ _, hS⟩
theorem RAt.out (H : RAt S w0 w q m bad) : ∀ k, Plus S w0 w k → k < w.heap.size := fun k h => by
  have h1 := H.2.1.size
  rcases h with h | h
  · have := H.2.2 k h; omega
  · exact h.2
theorem RAt.lt (H : RAt S w0 w q m bad) : q < w.heap.size := H.1.lt
theorem RAt.drew (H : RAt S w0 w q m bad) : RAt S w0 w.drew q m bad := ⟨H.1.drew, H.2.1.drew, H.2.2⟩
/-- what the callee has made for itself is no block of the writer's -/
theorem RAt.enter (H : RAt S w0 w q m bad) (o : Obj) : RAt (Plus S w0 w) (w.alloc o) (w.alloc o) q m bad :=
  RAt.start (H.1.below ((Below.refl _ _).alloc (Nat.le_refl _) _)) (fun k h => by have := H.out k h; simp; omega)
theorem RAt.leave {o : Obj} {m' : List UInt8} {bad' : Bool} (H : RAt S w0 w q m bad) (K : RAt (Plus S w0 w) (w.alloc o) w' q m' bad') : RAt S w0 w' q m' bad' := by
  have h1 := H.2.1.size
  have h2 := K.2.1.size
  have hz : (w.alloc o).heap.size = w.heap.size + 1 := by simp
  refine ⟨K.1.mono (fun k hk h => ?_), H.2.1.trans' (((Fr.refl _ w).alloc o).trans K.2.1) (fun i hi h => ?_), H.2.2⟩
  · rcases h with (h | h) | h
    · exact .inl h
    · exact .inr ⟨h.1, by omega⟩
    · exact .inr ⟨by omega, h.2⟩
  · rcases h with h | h
    · exact h
    · omega
theorem RAt.enter0 (H : RAt S w0 w q m bad) : RAt (Plus S w0 w) w w q m bad := RAt.start H.1 H.out
theorem RAt.leave0 {m' : List UInt8} {bad' : Bool} (H : RAt S w0 w q m bad) (K : RAt (Plus S w0 w) w w' q m' bad') : RAt S w0 w' q m' bad' := by
  have h1 := H.2.1.size
  have h2 := K.2.1.size
  refine ⟨K.1.mono (fun k hk h => ?_), H.2.1.trans' K.2.1 (fun i hi h => ?_), H.2.2⟩
  · rcases h with (h | h) | h
    · exact .inl h
    · exact .inr ⟨h.1, by omega⟩
    · exact .inr ⟨by omega, h.2⟩
  · rcases h with h | h
    · exact h
    · omega
/-- the box that the callee has made stays -/
theorem RAt.box {o : Obj} {m' : List UInt8} {bad' : Bool} {l : List Value} {e : TypeId} (H : RAt S w0 w q m bad) (K : RAt (Plus S w0 w) (w.alloc o) w' q m' bad') (h : Blk (w.alloc o) w.heap.size l e) : Blk w' w.heap.size l e :=
  h.fr K.2.1 (fun h => by have := H.out _ h; omega)
/-- data that lie elsewhere stay -/
theorem RAt.blk {b : Nat} {l : List Value} {e : TypeId} (H : RAt S w0 w q m bad) (h : Blk w0 b l e) (hn : ¬ S b) : Blk w b l e := h.fr H.2.1 hn
theorem RAt.byt {D : Nat → Prop} {v : Value} {l : List UInt8} (H : RAt S w0 w q m bad) (h : Byt D w0 v l) (hn : ∀ k, k < w0.heap.size → D k → ¬ S k) : Byt D w v l := h.fr H.2.1 hn
end
theorem RAt.put {m' : List UInt8} {S : Nat → Prop} {w0 w w' : World} {q : Nat} {m : List UInt8} {bad bad' : Bool} (H : RAt S w0 w q m bad) (h : RefIs (Plus (Plus S w0 w) w w') w' q m' bad') (hf : Fr (Plus S w0 w) w w') : RAt S w0 w' q m' bad' :=
  H.leave0 ⟨h, hf, H.out⟩
theorem RAt.below {S : Nat → Prop} {w0 w w' : World} {q : Nat} {m : List UInt8} {bad : Bool} (H : RAt S w0 w q m bad) (hb : Below w.heap.size w w') : RAt S w0 w' q m bad :=
  H.put (H.1.below hb |>.mono (fun k hk h => .inl h)) (Fr.ofBelowAll hb (Nat.le_refl _))
theorem raw_to (S D : Nat → Prop) (w0 w : World) (q : Nat) (m : List UInt8) (bad : Bool) (v : Value) (b : List UInt8) (H : RAt S w0 w q m bad) (hB : Byt D w v b) (hlen : m.length + b.length ≤ 140737488355328) :
    Calls Tryz.prog 80 #[.pointer (some ⟨q, 0, none⟩), v] w fun e w' => e = .returned (.tuple #[]) ∧ RAt S w0 w' q (m ++ b) bad :=
  (RfW.raw_calls _ D w q m bad v b H.1 hB hlen).mono fun e w' ⟨h1, h2, h3⟩ => ⟨h1, H.put h2 h3⟩
theorem num_to (S : Nat → Prop) (w0 w : World) (q : Nat) (m : List UInt8) (bad : Bool) (n k : Nat) (hn : n < 18446744073709551616) (hk : k ≤ 8) (H : RAt S w0 w q m bad) (hlen : m.length + k ≤ 140737488355328) :
    Calls Tryz.prog 57 #[.pointer (some ⟨q, 0, none⟩), .int .u64 (n : Int), .int .i64 (k : Int)] w fun e w' => e = .returned (.tuple #[]) ∧ RAt S w0 w' q (m ++ num n k) bad :=
  (RfW.num_calls _ w q m bad n k hn hk H.1 hlen).mono fun e w' ⟨h1, h2, h3⟩ => ⟨h1, H.put h2 h3⟩
theorem szD {d : List UInt8} (hd : d.length = 32) : (Tryz.prog.info? 24).map (·.size) = some (d.map byt).length := by rw [List.length_map, hd]; kernel_rfl

set_option maxHeartbeats 4000000 in
set_option maxRecDepth 100000 in
theorem digest_to (S : Nat → Prop) (w0 w : World) (q : Nat) (m : List UInt8) (bad : Bool) (d : List UInt8) (hd : d.length = 32) (H : RAt S w0 w q m bad) (hlen : m.length + 32 ≤ 140737488355328) :
    Calls Tryz.prog 59 #[.pointer (some ⟨q, 0, none⟩), .agg (d.map byt).toArray] w fun e w' => e = .returned (.tuple #[]) ∧ RAt S w0 w' q (m ++ d) bad := by
  obtain ⟨cs, hcs⟩ : ∃ cs, (d.map byt).toArray = cs := ⟨_, rfl⟩
  have HB := Lib.hid (show Blk (w.alloc (.cells cs 24)) w.heap.size (d.map byt) 24 from Blk.new w _ _ _ hcs.symm)
  have H1 := Lib.hid (H.enter (.cells cs 24))
  have HL := Lib.hid (fun w' m' => @RAt.leave S w0 w w' q m bad (.cells cs 24) m' bad H)
  have HS := Lib.hid (szD hd)
  have HC := Lib.hid hcs
  have hz : (w.alloc (.cells cs 24)).heap.size = w.heap.size + 1 := by simp
  rw [hcs]
  clear H hcs
  go_enter Tryz.func59, Tryz.ntmps59
  go_upto_region 1 with fail
  generalize (w.alloc (.cells cs 24)) = w1 at *
  go_wp2_with (first | (with_reducible refine wpList_load_blk rfl _ _ rfl w.heap.size (d.map byt) rfl HB.out _ Tryz.underlying24 rfl HS.out ?_))
  refine (ShaW.text_calls w1 d hd).mono ?_
  rintro e w2 ⟨a, c, rfl, g1, g2⟩
  have H2 := Lib.hid (H1.out.below g2)
  have HO := Lib.hid g1.byt
  have hl2 : d.length ≤ 32 := by omega
  clear g1 g2
  have HO2 := Lib.hid (show Byt Any w2 (.slice a 32 c) d from HO.out.any)
  go_wp2_with fail
  refine (raw_to _ _ _ w2 q m bad _ d H2.out HO2.out (by omega)).mono ?_
  rintro e w3 ⟨rfl, g1⟩
  have HF := Lib.hid (HL.out _ _ g1)
  clear g1 HL H1 H2 HB HC HO HO2
  go_wp2
  go_end0
  exact ⟨rfl, HF.out⟩
end Go.Proofs.YtmenchnjajpkmaaGreatDoor.Rw
end

section
namespace Go.Proofs.YtmenchnjajpkmaaGreatDoor.CodecR
open Go Go.RowKit Mem Codec CodecW

/-- a reader at block q, its bytes in D -/
def ReaderIs (D : Nat → Prop) (w : World) (q : Nat) (r : Rd) : Prop :=
  ∃ a c, Blk w q [.slice a r.rest.length c, .int .i64 r.e] 160 ∧ Byt D w (.slice a r.rest.length c) r.rest ∧ ¬ D q
section
variable {D T : Nat → Prop} {w w' : World} {q : Nat} {r : Rd}
theorem ReaderIs.fr (H : ReaderIs D w q r) (hf : Fr T w w') (hq : ¬ T q) (hn : ∀ k, k < w.heap.size → D k → ¬ T k) : ReaderIs D w' q r := by
  obtain ⟨a, c, h1, h2, h3⟩ := H
  exact ⟨a, c, h1.fr hf hq, h2.fr hf hn, h3⟩
theorem ReaderIs.lt (H : ReaderIs D w q r) : q < w.heap.size := H.choose_spec.choose_spec.1.lt
theorem ReaderIs.below (H : ReaderIs D w q r) (hb : Below w.heap.size w w') : ReaderIs D w' q r := H.fr (Fr.ofBelow hb) (by have := H.lt; omega) (fun k hk _ h => by omega)
end

set_option maxHeartbeats 4000000 in
theorem clone_calls (D : Nat → Prop) (w : World) (v : Value) (l : List UInt8) (hB : Byt D w v l) (hl : l.length ≤ 140737488355328) :
    Calls Tryz.prog 89 #[v] w fun e w' => ∃ a c, e = .returned (.slice a l.length c) ∧ OwnB w.heap.size 5 w' (.slice a l.length c) l ∧ Below w.heap.size w w' := by
  obtain ⟨a, c, rfl, hk, _⟩ := id hB
  have HB := Lib.hid hB
  have ke := fun w a n c n' c' => Lib.run_eql_slice_nil (P := Tryz.prog) w 25 5 a n c n' c' Tryz.underlying25
  clear hB
  cases a with
  | none =>
    have hl0 : l = [] := by
      have := hk.2.2 rfl
      apply List.length_eq_zero_iff.1; omega
    subst hl0
    obtain rfl := hk.2.2 rfl
    go_enter Tryz.func89, Tryz.ntmps89
    go_wp2
    go_ret
    exact ⟨none, 0, rfl, OwnB.nil _ _ _, Below.refl _ _⟩
  | some a =>
    have hO : OwnB w.heap.size 5 (w.alloc (.cells #[] 5)) (.slice (some ⟨w.heap.size, 0, none⟩) 0 0) [] := World.ownsRow_lit w #[] 0 (Nat.le_refl _) (Nat.zero_le _) rfl
    have hz : Below w.heap.size w (w.alloc (.cells #[] 5)) := (Below.refl _ _).alloc (Nat.le_refl _) _
    have HO := Lib.hid hO
    have HZ := Lib.hid hz
    clear hO hz
    go_enter Tryz.func89, Tryz.ntmps89
    go_wp2_with (at_builtin; refine wpList_append_byt _ rfl (.tmp 5) (.tmp 6) 25 rfl w.heap.size 5 elemB _ [] rfl HO.out _ l rfl (HB.out.below HZ.out) (by simp; omega) (by simp) ?_)
    intro va vc w2 o1 o2 o3
    have HZ2 := Lib.hid (HZ.out.grown o2 (by simp) (fun k hk => (HO.out.lt k hk).1))
    have HO2 := Lib.hid o1
    clear o1 o2 o3 HO HZ
    go_wp2
    go_ret
    exact ⟨va, vc, rfl, HO2.out, HZ2.out⟩
set_option maxHeartbeats 4000000 in
theorem bytes_calls (S : Nat → Prop) (w : World) (q : Nat) (m : List UInt8) (H : WriterIs S w q m) (hl : m.length ≤ 140737488355328) :
    Calls Tryz.prog 95 #[.pointer (some ⟨q, 0, none⟩)] w fun e w' => ∃ a c, e = .returned (.slice a m.length c) ∧ OwnB w.heap.size 5 w' (.slice a m.length c) m ∧ Below w.heap.size w w' := by
  obtain ⟨a, c, h1, h2, h3, h4, h5⟩ := H.opened
  have c0 := h1.cell (i := 0) rfl
  have H2 := Lib.hid h2.byt
  clear h1 h2 h3 h4 H
  go_enter Tryz.func95, Tryz.ntmps95
  go_wp2_with fail
  refine (clone_calls _ w _ m H2.out hl).mono ?_
  rintro e w2 ⟨x, y, rfl, g1, g2⟩
  have G1 := Lib.hid g1
  have G2 := Lib.hid g2
  clear g1 g2 c0
  go_wp2
  go_ret
  exact ⟨x, y, rfl, G1.out, G2.out⟩
set_option maxHeartbeats 4000000 in
theorem read_calls (D : Nat → Prop) (w : World) (v : Value) (l : List UInt8) (hB : Byt D w v l) (hl : l.length ≤ 140737488355328) :
    Calls Tryz.prog 67 #[v] w fun e w' => ∃ q, e = .returned (.pointer (some ⟨q, 0, none⟩)) ∧ w.heap.size ≤ q ∧ ReaderIs (fun k => w.heap.size ≤ k ∧ k < q) w' q ⟨l, 0⟩ ∧ Below w.heap.size w w' := by
  obtain ⟨a, c, rfl, hk, _⟩ := id hB
  have HB := Lib.hid hB
  clear hB
  go_enter Tryz.func67, Tryz.ntmps67
  go_wp2_with fail
  refine (clone_calls D w _ l HB.out hl).mono ?_
  rintro e w2 ⟨x, y, rfl, g1, g2⟩
  have hz := g2.size
  have G := Lib.hid (show ReaderIs (fun k => w.heap.size ≤ k ∧ k < w2.heap.size) (w2.alloc (.cells #[.slice x l.length y, .int .i64 0] 160)) w2.heap.size ⟨l, 0⟩ from
    ⟨x, y, Blk.new _ _ _ _ rfl, ((g1.byt.lt).mono (fun k _ h => ⟨h.2.2, h.1⟩)).below ((Below.refl _ w2).alloc (Nat.le_refl _) _), by omega⟩)
  have G2 := Lib.hid (g2.alloc g2.size (.cells #[.slice x l.length y, .int .i64 0] 160))
  clear g1 g2
  go_wp2
  go_ret
  exact ⟨_, rfl, hz, G.out, G2.out⟩
theorem ReaderIs.setE {D : Nat → Prop} {w : World} {q : Nat} {a : Option Addr} {c : Nat} {l : List UInt8} {e : Int} (h1 : Blk w q [.slice a l.length c, .int .i64 e] 160) (h2 : Byt D w (.slice a l.length c) l) (h3 : ¬ D q) (e2 : Int) :
    ReaderIs D (w.setCell ⟨q, 1, none⟩ (.int .i64 e2)) q ⟨l, e2⟩ ∧ Fr (fun k => k = q) w (w.setCell ⟨q, 1, none⟩ (.int .i64 e2)) := by
  have hf : Fr (fun k => k = q) w (w.setCell ⟨q, 1, none⟩ (.int .i64 e2)) := (Fr.refl (fun k => k = q) w).setCell (p := ⟨q, 1, none⟩) (.inr rfl) _
  exact ⟨⟨a, c, h1.set 1 _, h2.fr hf (fun k _ hd e => h3 (e ▸ hd)), h3⟩, hf⟩
theorem ReaderIs.setB {D : Nat → Prop} {w : World} {q : Nat} {v0 : Value} {a : Option Addr} {n c : Nat} {l : List UInt8} {e : Int} (h1 : Blk w q [v0, .int .i64 e] 160) (h2 : Byt D w (.slice a n c) l) (hn : n = l.length) (h3 : ¬ D q) :
    ReaderIs D (w.setCell ⟨q, 0, none⟩ (.slice a n c)) q ⟨l, e⟩ ∧ Fr (fun k => k = q) w (w.setCell ⟨q, 0, none⟩ (.slice a n c)) := by
  subst hn
  have hf : Fr (fun k => k = q) w (w.setCell ⟨q, 0, none⟩ (.slice a l.length c)) := (Fr.refl (fun k => k = q) w).setCell (p := ⟨q, 0, none⟩) (.inr rfl) _
  exact ⟨⟨a, c, h1.set 0 _, h2.fr hf (fun k _ hd e => h3 (e ▸ hd)), h3⟩, hf⟩
/-- what take hands back -/
def TakeRet (D : Nat → Prop) (q : Nat) (x : Rd × List UInt8) (w : World) (e : Ending) (w' : World) : Prop :=
  ∃ v u, e = .returned (.tuple #[v, u]) ∧ Byt D w' v x.2 ∧ ReaderIs D w' q x.1 ∧ Fr (fun k => k = q) w w'
set_option maxHeartbeats 4000000 in
theorem take_calls (D : Nat → Prop) (w : World) (q : Nat) (r : Rd) (n : Nat) (H : ReaderIs D w q r) (_ : n < 9223372036854775808) :
    Calls Tryz.prog 104 #[.pointer (some ⟨q, 0, none⟩), .int .i64 n] w fun e w' => TakeRet D q (r.take n) w e w' := by
  obtain ⟨l, e⟩ := r
  obtain ⟨a, c, h1, h2, h3⟩ := H
  have c0 := h1.cell (i := 0) rfl
  have c1 := h1.cell (i := 1) rfl
  have f0 := h1.free 0
  have f1 := h1.free 1
  dsimp only at c0 c1 h1 h2
  have H1 := Lib.hid h1
  have H2 := Lib.hid h2
  have H3 := Lib.hid h3
  clear h1 h3
  by_cases he : e = 0
  · subst he
    by_cases hl : l.length < n
    · have ht : Rd.take ⟨l, 0⟩ n = (⟨l, 110⟩, []) := by simp [Rd.take, hl]
      rw [ht]
      have G := Lib.hid (ReaderIs.setE H1.out H2.out H3.out 110)
      have hz : (l.length : Int) < (n : Int) := by omega
      clear h2
      go_enter Tryz.func104, Tryz.ntmps104
      go_wp2
      go_ret2
      exact ⟨.slice none 0 0, .bool false, rfl, Byt.nil _ _, G.out.1, G.out.2⟩
    · have ht : Rd.take ⟨l, 0⟩ n = (⟨l.drop n, 0⟩, l.take n) := by simp [Rd.take, hl]
      rw [ht]
      obtain ⟨sa, scap, hs2, hs3⟩ := run_slice_hi elemB h2 n (by omega)
      obtain ⟨sb, sbc, ht2, ht3⟩ := run_slice_lo elemB h2 n (by omega)
      have hz : ¬ ((l.length : Int) < (n : Int)) := by omega
      have HS3 := Lib.hid hs3
      have G := Lib.hid (ReaderIs.setB H1.out ht3 (by simp) H3.out)
      clear h2 ht3 hs3
      go_enter Tryz.func104, Tryz.ntmps104
      go_wp2
      go_ret2
      exact ⟨.slice sa n scap, .bool true, rfl, HS3.out.fr G.out.2 (fun k _ hd e => H3.out (e ▸ hd)), G.out.1, G.out.2⟩
  · have hb : (e == 0) = false := by simpa using he
    have hb2 : (e != 0) = true := by simpa using he
    have ht : Rd.take ⟨l, e⟩ n = (⟨l, e⟩, []) := by simp [Rd.take, he]
    rw [ht]
    have G := Lib.hid (show ReaderIs D w q ⟨l, e⟩ from ⟨a, c, H1.out, H2.out, H3.out⟩)
    clear h2
    go_enter Tryz.func104, Tryz.ntmps104
    go_wp2
    go_ret2
    exact ⟨.slice none 0 0, .bool false, rfl, Byt.nil _ _, G.out, Fr.refl _ _⟩
theorem said_step (y : Nat) (c : UInt8) : bits .or .u64 (IntKind.u64.wrap ((y : Int) * 256)) (IntKind.u64.wrap (c.toNat : Int)) = (((256 * y + c.toNat) % 18446744073709551616 : Nat) : Int) := by
  have hc := c.toNat_lt
  have e1 : IntKind.u64.wrap ((y : Int) * 256) = (((y % 72057594037927936) * 256 : Nat) : Int) := by rw [IntKind.wrap_u64]; omega
  have e2 : IntKind.u64.wrap (c.toNat : Int) = (c.toNat : Int) := by rw [IntKind.wrap_u64]; omega
  rw [e1, e2, u64_or_nat _ _ (by omega) (by omega)]
  have h := Nat.shiftLeft_add_eq_or_of_lt (i := 8) (b := c.toNat) (by omega) (y % 72057594037927936)
  rw [Nat.shiftLeft_eq] at h
  rw [show (2 : Nat) ^ 8 = 256 from rfl] at h
  rw [← h]
  omega
set_option maxHeartbeats 4000000 in
theorem high_calls (D : Nat → Prop) (w : World) (q : Nat) (r : Rd) (n : Nat) (H : ReaderIs D w q r) (hn : n < 9223372036854775808) :
    Calls Tryz.prog 90 #[.pointer (some ⟨q, 0, none⟩), .int .i64 n] w fun e w' => e = .returned (.int .u64 ((r.num n).2 : Int)) ∧ ReaderIs D w' q (r.num n).1 ∧ Fr (fun k => k = q) w w' := by
  have H0 := Lib.hid H
  clear H
  go_enter Tryz.func90, Tryz.ntmps90
  go_wp2_with fail
  refine (take_calls D w q r n H0.out hn).mono ?_
  rintro e w2 ⟨v, u, rfl, g1, g2, g3⟩
  have hr1 : (r.num n).1 = (r.take n).1 := rfl
  have hr2 : (r.num n).2 = said (r.take n).2 := rfl
  obtain ⟨l, hl⟩ : ∃ l, (r.take n).2 = l := ⟨_, rfl⟩
  rw [hl] at g1 hr2
  rw [← hr1] at g2
  have HR := Lib.hid hr2
  obtain ⟨a, c, rfl, hk, hx⟩ := id g1
  have HX := Lib.hid hx
  have G2 := Lib.hid g2
  have G3 := Lib.hid g3
  clear g1 g2 g3 hr1 hr2 hl hx H0
  go_wp2
  go_loop [7, 18] (fun x i => ∃ k : Nat, k ≤ l.length ∧ i = .int .i64 k ∧ x = .int .u64 (said (l.take k) : Nat)) (fun _ i => l.length - (intOf i).toNat)
  case atStart => exact ⟨0, by omega, rfl, rfl⟩
  case round =>
    obtain ⟨k, hk2, rfl, rfl⟩ := hrel
    by_cases hlt : k < l.length
    · obtain ⟨b, off, rfl, _, hly⟩ := HX.out.resolve_left (by rintro rfl; simp at hlt)
      have c0 := hly k hlt
      have hsn : said (l.take (k + 1)) = (256 * said (l.take k) + (l[k]'hlt).toNat) % 18446744073709551616 := by
        rw [List.take_add_one, List.getElem?_eq_getElem hlt]; exact said_snoc _ _
      have hsl := said_lt (l.take k)
      have HSN := Lib.hid hsn
      clear hly hsn
      generalize said (l.take k) = y at *
      generalize l[k] = cc at *
      have hkm : k + 1 ≤ 9223372036854775807 := by
        have h1 := hk.1
        have h2 := hk.2.1
        unfold maxLen at h2
        omega
      go_wp2
      go_round
      case rel => exact ⟨k + 1, by omega, by go_num, by rw [HSN.out, ← said_step]⟩
      case measure => simp [intOf]; omega
    · obtain rfl : k = l.length := by omega
      go_wp2
      go_ret
      exact ⟨by rw [HR.out]; rfl, G2.out, G3.out⟩
theorem num_lt (r : Rd) (n : Nat) : (r.num n).2 < 18446744073709551616 := said_lt _
theorem num1_lt (r : Rd) : (r.num 1).2 < 256 := by
  have h : (r.take 1).2.length ≤ 1 := by
    unfold Rd.take
    split
    · simp
    · split
      · simp
      · simp; omega
  refine Nat.lt_of_lt_of_le (said_bound _ (by omega)) ?_
  exact Nat.pow_le_pow_right (n := 256) (by omega) h
set_option maxHeartbeats 4000000 in
set_option maxRecDepth 100000 in
theorem var_calls (D : Nat → Prop) (w : World) (q : Nat) (r : Rd) (most : Nat) (H : ReaderIs D w q r) (_ : most < 18446744073709551616) :
    Calls Tryz.prog 119 #[.pointer (some ⟨q, 0, none⟩), .int .u64 most] w fun e w' => e = .returned (.int .u64 ((r.var most).2 : Int)) ∧ ReaderIs D w' q (r.var most).1 ∧ Fr (fun k => k = q) w w' := by
  obtain ⟨a, c, h1, h2, h3⟩ := id H
  have c0 := h1.cell (i := 0) rfl
  have H0 := Lib.hid H
  have H2 := Lib.hid h2
  have H3 := Lib.hid h3
  clear H h1 h2 h3
  go_enter Tryz.func119, Tryz.ntmps119
  go_wp2_with fail
  refine (high_calls D w q r 1 H0.out (by omega)).mono ?_
  rintro e w2 ⟨rfl, g1, g2⟩
  have G1 := Lib.hid g1
  have G2 := Lib.hid g2
  have hc1 := num1_lt r
  clear g1 g2 H0 c0
  obtain ⟨cc, hcc⟩ : ∃ cc, (r.num 1).2 = cc := ⟨_, rfl⟩
  rw [hcc] at hc1 ⊢
  have HCC := Lib.hid hcc
  clear hcc
  go_upto_block 0 with fail
  go_cut [6, 7] (fun x y wx => ∃ nn least : Nat, x = .int .u64 nn ∧ y = .int .u64 least ∧ (r.num 1).1.more (r.num 1).2 = (((r.num 1).1.more (r.num 1).2).1, nn, least) ∧ nn < 18446744073709551616 ∧ ReaderIs D wx q ((r.num 1).1.more (r.num 1).2).1 ∧ Fr (fun k => k = q) w wx)
  case first =>
    by_cases h253 : cc = 253
    · subst h253
      go_wp2_with fail
      refine (high_calls D w2 q _ 2 G1.out (by omega)).mono ?_
      rintro e w3 ⟨rfl, g1, g2⟩
      have HM := Lib.hid (show (r.num 1).1.more (r.num 1).2 = (((r.num 1).1.num 2).1, ((r.num 1).1.num 2).2, 253) by rw [HCC.out]; rfl)
      have G3 := Lib.hid g1
      have G4 := Lib.hid (G2.out.trans g2)
      clear g1 g2
      go_wp2_with fail
      go_meet
      case rel => exact ⟨_, _, rfl, rfl, by rw [HM.out], num_lt _ _, by rw [HM.out]; exact G3.out, G4.out⟩
    by_cases h254 : cc = 254
    · subst h254
      go_wp2_with fail
      refine (high_calls D w2 q _ 4 G1.out (by omega)).mono ?_
      rintro e w3 ⟨rfl, g1, g2⟩
      have HM := Lib.hid (show (r.num 1).1.more (r.num 1).2 = (((r.num 1).1.num 4).1, ((r.num 1).1.num 4).2, 65536) by rw [HCC.out]; rfl)
      have G3 := Lib.hid g1
      have G4 := Lib.hid (G2.out.trans g2)
      clear g1 g2
      go_wp2_with fail
      go_meet
      case rel => exact ⟨_, _, rfl, rfl, by rw [HM.out], num_lt _ _, by rw [HM.out]; exact G3.out, G4.out⟩
    by_cases h255 : cc = 255
    · subst h255
      go_wp2_with fail
      refine (high_calls D w2 q _ 8 G1.out (by omega)).mono ?_
      rintro e w3 ⟨rfl, g1, g2⟩
      have HM := Lib.hid (show (r.num 1).1.more (r.num 1).2 = (((r.num 1).1.num 8).1, ((r.num 1).1.num 8).2, 4294967296) by rw [HCC.out]; rfl)
      have G3 := Lib.hid g1
      have G4 := Lib.hid (G2.out.trans g2)
      clear g1 g2
      go_wp2_with fail
      go_meet
      case rel => exact ⟨_, _, rfl, rfl, by rw [HM.out], num_lt _ _, by rw [HM.out]; exact G3.out, G4.out⟩
    · have hb1 : ((cc : Int) == 253) = false := by simp; omega
      have hb2 : ((cc : Int) == 254) = false := by simp; omega
      have hb3 : ((cc : Int) == 255) = false := by simp; omega
      have HM := Lib.hid (show (r.num 1).1.more (r.num 1).2 = ((r.num 1).1, cc, 0) by rw [HCC.out]; unfold Rd.more; rw [if_neg h253, if_neg h254, if_neg h255])
      go_wp2_with fail
      go_meet
      case rel => exact ⟨cc, 0, rfl, rfl, by rw [HM.out], by omega, by rw [HM.out]; exact G1.out, G2.out⟩
  case rest =>
    obtain ⟨nn, least, rfl, rfl, hmm, hnn, hR, hF⟩ := hcut
    obtain ⟨s, hs⟩ : ∃ s, ((r.num 1).1.more (r.num 1).2).1 = s := ⟨_, rfl⟩
    rw [hs] at hR hmm
    have hv : r.var most = if s.e ≠ 0 then (⟨r.rest, s.e⟩, 0) else if nn < least then (⟨r.rest, 111⟩, 0) else if most < nn then (⟨r.rest, 112⟩, 0) else (s, nn) := by
      unfold Rd.var
      rw [hmm]
    have HV := Lib.hid hv
    have HF := Lib.hid hF
    have HR := Lib.hid hR
    clear hv hmm hs hF HCC
    obtain ⟨l, e⟩ := s
    obtain ⟨a2, c2, h1, h2, h3⟩ := hR
    dsimp only at h1 h2 HV
    have c0 := h1.cell (i := 0) rfl
    have c1 := h1.cell (i := 1) rfl
    have f0 := h1.free 0
    have f1 := h1.free 1
    have H1 := Lib.hid h1
    have HB := Lib.hid (H2.out.fr HF.out (fun k _ hd e => H3.out (e ▸ hd)))
    clear h1 h2 h3
    by_cases he : e = 0
    · subst he
      by_cases hl : nn < least
      · have HT := Lib.hid (show r.var most = (⟨r.rest, 111⟩, 0) by rw [HV.out]; simp [hl])
        have hE := H1.out.set 1 (.int .i64 111)
        have hF2 : Fr (fun k => k = q) wc (wc.setCell ⟨q, 1, none⟩ (.int .i64 111)) := (Fr.refl (fun k => k = q) wc).setCell (p := ⟨q, 1, none⟩) (.inr rfl) _
        have G := Lib.hid (ReaderIs.setB hE (HB.out.fr hF2 (fun k _ hd e => H3.out (e ▸ hd))) rfl H3.out)
        have GF := Lib.hid ((HF.out.trans hF2).trans G.out.2)
        clear hE hF2
        go_wp2
        go_ret
        exact ⟨by rw [HT.out]; rfl, by rw [HT.out]; exact G.out.1, GF.out⟩
      · by_cases hl2 : most < nn
        · have HT := Lib.hid (show r.var most = (⟨r.rest, 112⟩, 0) by rw [HV.out]; simp [hl, hl2])
          have hE := H1.out.set 1 (.int .i64 112)
          have hF2 : Fr (fun k => k = q) wc (wc.setCell ⟨q, 1, none⟩ (.int .i64 112)) := (Fr.refl (fun k => k = q) wc).setCell (p := ⟨q, 1, none⟩) (.inr rfl) _
          have G := Lib.hid (ReaderIs.setB hE (HB.out.fr hF2 (fun k _ hd e => H3.out (e ▸ hd))) rfl H3.out)
          have GF := Lib.hid ((HF.out.trans hF2).trans G.out.2)
          have hz : ¬ ((nn : Int) < (least : Int)) := by omega
          clear hE hF2
          go_wp2
          go_ret
          exact ⟨by rw [HT.out]; rfl, by rw [HT.out]; exact G.out.1, GF.out⟩
        · have HT := Lib.hid (show r.var most = (⟨l, 0⟩, nn) by rw [HV.out]; simp [hl, hl2])
          have hz : ¬ ((nn : Int) < (least : Int)) := by omega
          have hz2 : ¬ ((most : Int) < (nn : Int)) := by omega
          go_wp2
          go_ret
          exact ⟨by rw [HT.out]; rfl, by rw [HT.out]; exact HR.out, HF.out⟩
    · have hb2 : (e != 0) = true := by simpa using he
      have HT := Lib.hid (show r.var most = (⟨r.rest, e⟩, 0) by rw [HV.out]; simp [he])
      have G := Lib.hid (ReaderIs.setB H1.out HB.out rfl H3.out)
      have GF := Lib.hid (HF.out.trans G.out.2)
      go_wp2
      go_ret
      exact ⟨by rw [HT.out]; rfl, by rw [HT.out]; exact G.out.1, GF.out⟩
theorem num4_lt (r : Rd) : (r.num 4).2 < 4294967296 := by
  have h : (r.take 4).2.length ≤ 4 := by
    unfold Rd.take
    split
    · simp
    · split
      · simp
      · simp; omega
  refine Nat.lt_of_lt_of_le (said_bound _ (by omega)) ?_
  exact Nat.pow_le_pow_right (n := 256) (by omega) h
set_option maxHeartbeats 4000000 in
theorem long_calls (D : Nat → Prop) (w : World) (q : Nat) (r : Rd) (H : ReaderIs D w q r) :
    Calls Tryz.prog 69 #[.pointer (some ⟨q, 0, none⟩)] w fun e w' => e = .returned (.int .u64 ((r.num 8).2 : Int)) ∧ ReaderIs D w' q (r.num 8).1 ∧ Fr (fun k => k = q) w w' := by
  have hb : (r.num 8).2 < 18446744073709551616 := num_lt r 8
  have H0 := Lib.hid H
  clear H
  go_enter Tryz.func69, Tryz.ntmps69
  go_wp2_with fail
  refine (high_calls D w q r 8 H0.out (by omega)).mono ?_
  rintro e w2 ⟨rfl, g1, g2⟩
  have G1 := Lib.hid g1
  have G2 := Lib.hid g2
  clear g1 g2
  obtain ⟨y, hy⟩ : ∃ y, (r.num 8).2 = y := ⟨_, rfl⟩
  have HY := Lib.hid hy
  rw [hy] at hb ⊢
  clear hy
  go_wp2
  go_ret
  exact ⟨by rw [HY.out]; rfl, G1.out, G2.out⟩
set_option maxHeartbeats 4000000 in
theorem end_calls (D : Nat → Prop) (w : World) (q : Nat) (r : Rd) (H : ReaderIs D w q r) :
    Calls Tryz.prog 68 #[.pointer (some ⟨q, 0, none⟩)] w fun e w' => e = .returned (.int .i64 r.fin) ∧ w = w' := by
  obtain ⟨l, e⟩ := r
  obtain ⟨a, c, h1, h2, h3⟩ := H
  dsimp only at h1
  have c0 := h1.cell (i := 0) rfl
  have c1 := h1.cell (i := 1) rfl
  clear h1 h2 h3
  by_cases he : e = 0
  · subst he
    by_cases hl : 0 < l.length
    · have ht : Rd.fin ⟨l, 0⟩ = 113 := by unfold Rd.fin; rw [if_pos ⟨rfl, hl⟩]
      rw [ht]
      have hz : (0 : Int) < (l.length : Int) := by omega
      go_enter Tryz.func68, Tryz.ntmps68
      go_wp2
      go_ret
      exact ⟨rfl, rfl⟩
    · have ht : Rd.fin ⟨l, 0⟩ = 0 := by unfold Rd.fin; rw [if_neg (fun h => hl h.2)]
      rw [ht]
      have hz : ¬ ((0 : Int) < (l.length : Int)) := by omega
      go_enter Tryz.func68, Tryz.ntmps68
      go_wp2
      go_ret
      exact ⟨rfl, rfl⟩
  · have ht : Rd.fin ⟨l, e⟩ = e := by unfold Rd.fin; rw [if_neg (fun h => he h.1)]
    rw [ht]
    have hb : (e == 0) = false := by simpa using he
    go_enter Tryz.func68, Tryz.ntmps68
    go_wp2
    go_ret
    exact ⟨rfl, rfl⟩
set_option maxHeartbeats 4000000 in
theorem fail_calls (D : Nat → Prop) (w : World) (q : Nat) (r : Rd) (x : Int) (H : ReaderIs D w q r) :
    Calls Tryz.prog 115 #[.pointer (some ⟨q, 0, none⟩), .int .i64 x] w fun e w' => e = .returned (.tuple #[]) ∧ ReaderIs D w' q (r.fail x) ∧ Fr (fun k => k = q) w w' := by
  obtain ⟨l, e⟩ := r
  have HR := Lib.hid H
  obtain ⟨a, c, h1, h2, h3⟩ := H
  dsimp only at h1 h2
  have c1 := h1.cell (i := 1) rfl
  have f1 := h1.free 1
  by_cases he : e = 0
  · subst he
    have ht : Rd.fail ⟨l, 0⟩ x = ⟨l, x⟩ := by unfold Rd.fail; rw [if_pos rfl]
    rw [ht]
    have G := Lib.hid (ReaderIs.setE h1 h2 h3 x)
    clear h1 h2 h3
    go_enter Tryz.func115, Tryz.ntmps115
    go_wp2
    go_end0
    exact ⟨rfl, G.out.1, G.out.2⟩
  · have ht : Rd.fail ⟨l, e⟩ x = ⟨l, e⟩ := by unfold Rd.fail; rw [if_neg he]
    rw [ht]
    have hb : (e == 0) = false := by simpa using he
    clear h1 h2 h3
    go_enter Tryz.func115, Tryz.ntmps115
    go_wp2
    go_end0
    exact ⟨rfl, HR.out, Fr.refl _ _⟩
theorem var_lt (r : Rd) (most : Nat) : (r.var most).2 ≤ most := by
  unfold Rd.var
  dsimp only
  split
  · exact Nat.zero_le _
  · split
    · exact Nat.zero_le _
    · split
      · exact Nat.zero_le _
      · rename_i h; exact Nat.le_of_not_lt h
theorem room_le (r : Rd) (most : Int) (h : most < 9223372036854775808) : (r.room most).2 < 9223372036854775808 := by
  unfold Rd.room
  dsimp only
  split
  · simp
  · have := var_lt r most.toNat
    omega
set_option maxHeartbeats 4000000 in
set_option maxRecDepth 100000 in
theorem room_calls (D : Nat → Prop) (w : World) (q : Nat) (r : Rd) (most : Int) (H : ReaderIs D w q r) (h1 : -9223372036854775808 ≤ most) (h2 : most < 9223372036854775808) :
    Calls Tryz.prog 114 #[.pointer (some ⟨q, 0, none⟩), .int .i64 most] w fun e w' => e = .returned (.int .u64 ((r.room most).2 : Int)) ∧ ReaderIs D w' q (r.room most).1 ∧ Fr (fun k => k = q) w w' := by
  obtain ⟨a, c, g1, g2, g3⟩ := id H
  have c0 := g1.cell (i := 0) rfl
  have H0 := Lib.hid H
  have H2 := Lib.hid g2
  have H3 := Lib.hid g3
  clear H g1 g2 g3
  by_cases hm : most < 0
  · have HT := Lib.hid (show r.room most = if (r.var 0).1.e = 0 then (⟨r.rest, 112⟩, 0) else r.var 0 by
      unfold Rd.room
      rw [show most.toNat = 0 from by omega]
      dsimp only
      by_cases he : (r.var 0).1.e = 0
      · rw [if_pos he, if_pos ⟨hm, he⟩]
      · rw [if_neg he, if_neg (fun h => he h.2)])
    go_enter Tryz.func114, Tryz.ntmps114
    go_wp2_with fail
    refine (var_calls D w q r 0 H0.out (by omega)).mono ?_
    rintro e w2 ⟨rfl, g1, g2⟩
    have HR := Lib.hid g1
    have HF := Lib.hid g2
    clear c0
    obtain ⟨nn, hnn⟩ : ∃ nn, (r.var 0).2 = nn := ⟨_, rfl⟩
    obtain ⟨s, hs⟩ : ∃ s, (r.var 0).1 = s := ⟨_, rfl⟩
    rw [hs] at g1
    rw [hs] at HR
    have HVV := Lib.hid (show r.var 0 = (s, nn) from Prod.ext hs hnn)
    rw [HVV.out] at HT
    clear g2 H0 hs
    rw [hnn]
    clear hnn
    obtain ⟨l, e⟩ := s
    obtain ⟨a2, c2, x1, x2, x3⟩ := g1
    dsimp only at x1 HT
    have c0 := x1.cell (i := 0) rfl
    have c1 := x1.cell (i := 1) rfl
    have f0 := x1.free 0
    have f1 := x1.free 1
    have X1 := Lib.hid x1
    have HB := Lib.hid (H2.out.fr HF.out (fun k _ hd e => H3.out (e ▸ hd)))
    clear x1 x2 x3
    by_cases he : e = 0
    · subst he
      have hE := X1.out.set 1 (.int .i64 112)
      have hF2 : Fr (fun k => k = q) w2 (w2.setCell ⟨q, 1, none⟩ (.int .i64 112)) := (Fr.refl (fun k => k = q) w2).setCell (p := ⟨q, 1, none⟩) (.inr rfl) _
      have G := Lib.hid (ReaderIs.setB hE (HB.out.fr hF2 (fun k _ hd e => H3.out (e ▸ hd))) rfl H3.out)
      have GF := Lib.hid ((HF.out.trans hF2).trans G.out.2)
      clear hE hF2
      go_wp2
      go_ret
      exact ⟨by rw [HT.out]; rfl, by rw [HT.out]; exact G.out.1, GF.out⟩
    · have hb2 : (e == 0) = false := by simpa using he
      have HT2 := Lib.hid (show r.room most = (⟨l, e⟩, nn) by rw [HT.out, if_neg he])
      go_wp2
      go_ret
      exact ⟨by rw [HT2.out]; rfl, by rw [HT2.out]; exact HR.out, HF.out⟩
  · obtain ⟨n, rfl⟩ : ∃ n : Nat, most = (n : Int) := ⟨most.toNat, by omega⟩
    have HT := Lib.hid (show r.room (n : Int) = r.var n by
      unfold Rd.room
      rw [show (n : Int).toNat = n from by omega]
      dsimp only
      rw [if_neg (fun h => hm h.1)])
    have hz : (0 : Int) ≤ (n : Int) := by omega
    have hd : decide ((n : Int) < 0) = false := by simp
    go_enter Tryz.func114, Tryz.ntmps114
    go_wp2_with fail
    refine (var_calls D w q r n H0.out (by omega)).mono ?_
    rintro e w2 ⟨rfl, g1, g2⟩
    have HR := Lib.hid g1
    have HF := Lib.hid g2
    clear c0 g1 g2 H0
    obtain ⟨nn, hnn⟩ : ∃ nn, (r.var n).2 = nn := ⟨_, rfl⟩
    rw [hnn]
    have HN := Lib.hid hnn
    clear hnn h1 h2
    go_wp2
    go_ret
    exact ⟨by rw [HT.out, HN.out]; rfl, by rw [HT.out]; exact HR.out, HF.out⟩
set_option maxHeartbeats 4000000 in
theorem raw_r_calls (D : Nat → Prop) (w : World) (q : Nat) (r : Rd) (n : Int) (H : ReaderIs D w q r) (h1 : -9223372036854775808 ≤ n) (h2 : n < 9223372036854775808) (hl : r.rest.length ≤ 140737488355328) :
    Calls Tryz.prog 106 #[.pointer (some ⟨q, 0, none⟩), .int .i64 n] w fun e w' => ∃ a c, e = .returned (.slice a (r.raw n).2.length c) ∧ OwnB w.heap.size 5 w' (.slice a (r.raw n).2.length c) (r.raw n).2 ∧ ReaderIs D w' q (r.raw n).1 ∧ Fr (fun k => k = q) w w' := by
  have H0 := Lib.hid H
  clear H
  by_cases hn : n < 0
  · have ht : r.raw n = (r.fail 112, []) := by unfold Rd.raw; rw [if_pos hn]
    rw [ht]
    go_enter Tryz.func106, Tryz.ntmps106
    go_wp2_with fail
    refine (fail_calls D w q r 112 H0.out).mono ?_
    rintro e w2 ⟨rfl, g1, g2⟩
    have HR := Lib.hid g1
    have HF := Lib.hid g2
    clear g1 g2 H0
    go_wp2
    go_ret
    exact ⟨none, 0, rfl, OwnB.nil _ _ _, HR.out, HF.out⟩
  · obtain ⟨m, rfl⟩ : ∃ m : Nat, n = (m : Int) := ⟨n.toNat, by omega⟩
    have ht : r.raw (m : Int) = r.take m := by unfold Rd.raw; rw [if_neg hn, show (m : Int).toNat = m from by omega]
    rw [ht]
    have hz : ¬ ((m : Int) < 0) := by omega
    have hlt : (r.take m).2.length ≤ 140737488355328 := by
      unfold Rd.take
      split
      · simp
      · split
        · simp
        · simp; omega
    go_enter Tryz.func106, Tryz.ntmps106
    go_wp2_with fail
    refine (take_calls D w q r m H0.out (by omega)).mono ?_
    rintro e w2 ⟨v, u, rfl, g0, g1, g2⟩
    have HR := Lib.hid g1
    have HF := Lib.hid g2
    have HV := Lib.hid g0
    have hs := g2.size
    clear g0 g1 g2 H0 ht
    obtain ⟨x, hx⟩ : ∃ x, r.take m = x := ⟨_, rfl⟩
    rw [hx] at HR HV hlt
    have HX := Lib.hid hx
    clear hx
    go_wp2_with fail
    refine (clone_calls D w2 v x.2 HV.out hlt).mono ?_
    rintro e w3 ⟨a, c, rfl, g1, g2⟩
    have G1 := Lib.hid (g1.mono hs)
    have G2 := Lib.hid (HR.out.below g2)
    have G3 := Lib.hid (HF.out.trans (Fr.ofBelowAll g2 (Nat.le_refl _)))
    clear g1 g2
    go_wp2
    go_ret
    exact ⟨a, c, by rw [HX.out]; rfl, by rw [HX.out]; exact G1.out, by rw [HX.out]; exact G2.out, G3.out⟩
theorem Rd.take_len (r : Rd) (n : Nat) : (r.take n).1.rest.length ≤ r.rest.length ∧ (r.take n).2.length ≤ r.rest.length := by
  unfold Rd.take
  split
  · simp
  · split
    · simp
    · simp; omega
theorem Rd.more_len (s : Rd) (c : Nat) : (s.more c).1.rest.length ≤ s.rest.length := by
  unfold Rd.more
  split
  · exact (Rd.take_len s 2).1
  · split
    · exact (Rd.take_len s 4).1
    · split
      · exact (Rd.take_len s 8).1
      · exact Nat.le_refl _
theorem Rd.var_len (r : Rd) (most : Nat) : (r.var most).1.rest.length ≤ r.rest.length := by
  have h := Nat.le_trans (Rd.more_len (r.num 1).1 (r.num 1).2) (Rd.take_len r 1).1
  unfold Rd.var
  dsimp only
  split
  · exact Nat.le_refl _
  · split
    · exact Nat.le_refl _
    · split
      · exact Nat.le_refl _
      · exact h
theorem Rd.room_len (r : Rd) (most : Int) : (r.room most).1.rest.length ≤ r.rest.length := by
  unfold Rd.room
  dsimp only
  split
  · exact Nat.le_refl _
  · exact Rd.var_len r _
end Go.Proofs.YtmenchnjajpkmaaGreatDoor.CodecR
end

section
namespace Go.Proofs.YtmenchnjajpkmaaGreatDoor.ShaW
open Go Go.RowKit Mem Sha

theorem rot (x : W) (k : Int) (w : World) (h1 : 1 ≤ k) (h2 : k ≤ 31) :
    Calls Tryz.prog 79 #[.int .u32 (x.toNat : Int), .int .i64 k] w fun e w' => e = .returned (.int .u32 ((rotr x k.toNat).toNat : Int)) ∧ ∃ n, w' = w.drewN n := by
  have hx := x.isLt
  obtain ⟨n, rfl⟩ := Int.eq_ofNat_of_zero_le (by omega : 0 ≤ k)
  go_enter Tryz.func79, Tryz.ntmps79
  go_wp2
  go_quiet (fail)
  go_wp2
  go_ret
  exact ⟨ret_int (by rw [shl_int, shr_int, or_int, BitVec.or_comm]; rfl), _, rfl⟩

def PadR (B : Nat) (w : World) (v : Value) (bs : List UInt8) (wx : World) : Prop := OwnB B 5 wx v bs ∧ Below B w wx ∧ B ≤ wx.heap.size
theorem PadR.grows {B : Nat} {w w1 w2 : World} {v v2 : Value} {bs b2 : List UInt8} (h : PadR B w v bs w1) (o1 : OwnB B 5 w2 v2 b2) (o2 : Fr (fun k => v.ownBlock = some k) w1 w2) : PadR B w v2 b2 w2 :=
  ⟨o1, h.2.1.trans (o2.below h.2.2 (fun k hk => (h.1.lt k hk).1)), Nat.le_trans h.2.2 o2.size⟩

set_option maxHeartbeats 4000000 in
set_option maxRecDepth 100000 in
theorem padded_calls (w : World) (D : Nat → Prop) (v : Value) (l : List UInt8) (hB : Byt D w v l) (hlen : l.length ≤ 140737488355200) :
    Calls Tryz.prog 78 #[v] w fun e w' => ∃ a n c, e = .returned (.slice a n c) ∧ Byt (fun k => w.heap.size ≤ k) w' (.slice a n c) (l ++ padTail l.length) ∧ Below w.heap.size w w' := by
  obtain ⟨a, c, rfl, hk, _⟩ := id hB
  have HB0 := Lib.hid (hB.lt.below ((Below.refl _ _).alloc (Nat.le_refl _) (.cells #[] 5)))
  have hP0 : PadR w.heap.size w (.slice (some ⟨w.heap.size, 0, none⟩) 0 0) [] (w.alloc (.cells #[] 5)) :=
    ⟨World.ownsRow_lit w #[] 0 (Nat.le_refl _) (Nat.zero_le _) rfl, (Below.refl _ _).alloc (Nat.le_refl _) _, by simp⟩
  have HP0 := Lib.hid hP0
  clear hP0 hB
  go_enter Tryz.func78, Tryz.ntmps78
  go_wp2_with (at_builtin; refine wpList_append_byt _ rfl (.tmp 6) (.tmp 7) 25 rfl w.heap.size 5 elemB _ [] rfl HP0.out.1 _ l rfl HB0.out (by simp; omega) (by simp) ?_)
  intro va vc w1 o1 o2 o3
  have HP1 := Lib.hid (HP0.out.grows o1 (Fr.ofGrown o2))
  clear o1 o2 o3 HP0
  go_wp2_with (at_builtin; refine wpList_append_one _ rfl (.tmp 9) (.tmp 10) 25 rfl w.heap.size 5 elemB _ l rfl HP1.out.1 _ 128 rfl rfl (by omega) (by have := HP1.out.2.2; omega) ?_)
  intro va2 vc2 w2 o1 o2 o3
  have HP2 := Lib.hid (HP1.out.grows o1 o2)
  clear o1 o2 o3 HP1
  go_wp2
  go_loopw [3] (fun v wx => ∃ j bs, j ≤ zs l ∧ bs = l ++ [128] ++ List.replicate j 0 ∧ PadR w.heap.size w v bs wx) (fun v _ => l.length + 200 - vlen v)
  case atStart => exact ⟨0, _, Nat.zero_le _, by simp, HP2.out⟩
  case round =>
    obtain ⟨j, bs, hj, hbs, hP⟩ := hrel
    obtain ⟨xa, xc, rfl, _⟩ := id hP.1.byt
    have hz := hP.2.2
    have hb1 : bs.length = l.length + 1 + j := by rw [hbs]; simp; omega
    have hb2 : bs.length ≤ l.length + 1 + j := by omega
    have hb3 : l.length + 1 + j ≤ bs.length := by omega
    have hzs : zs l = (119 - l.length % 64) % 64 := rfl
    have hz63 : zs l ≤ 63 := by omega
    have HBS := Lib.hid hbs
    have HP := Lib.hid hP
    by_cases hjz : j = zs l
    · have ht : ((bs.length : Int) % 64 != 56) = false := by rw [bne_eq_false_iff_eq]; omega
      have hbz : bs = l ++ [128] ++ List.replicate (zs l) 0 := by rw [hbs, hjz]
      have hb4 : bs.length ≤ l.length + 64 := by omega
      have HBZ := Lib.hid hbz
      clear hbs hP hb1 hzs hjz HBS hbz hb2 hb3
      go_wp2
      go_loopw [3, 5] (fun v i wx => ∃ (k : Nat) (cs : List UInt8), k ≤ 8 ∧ i = .int .i64 k ∧ cs = bs ++ (be8 (8 * l.length)).take k ∧ PadR w.heap.size w v cs wx) (fun _ i _ => 8 - (intOf i).toNat)
      case atStart => exact ⟨0, _, by omega, rfl, by simp, HP.out⟩
      case round =>
        obtain ⟨k, cs, hk8, rfl, hcs, hP⟩ := hrel
        obtain ⟨ya, yc, rfl, _⟩ := id hP.1.byt
        have hz2 := hP.2.2
        have hcl : cs.length ≤ l.length + 72 := by rw [hcs]; simp; omega
        have HP2 := Lib.hid hP
        have HCS := Lib.hid hcs
        clear hP hcs HP
        by_cases hlt : k < 8
        · go_wp2_with (at_builtin; refine wpList_append_one _ rfl (.tmp 27) (.tmp 34) 25 rfl w.heap.size 5 elemB _ cs rfl HP2.out.1 _ (UInt8.ofNat (8 * l.length / 2 ^ (56 - 8 * k))) (byte_int _ _) rfl (by omega) (by omega) ?_)
          intro va2 vc2 w2 o1 o2 o3
          have HP3 := Lib.hid (HP2.out.grows o1 o2)
          clear o1 o2 o3 HP2
          go_wp2
          go_roundw
          case rel => exact ⟨k + 1, _, by omega, by go_num, by rw [HCS.out, be8_take _ k hlt, ← List.append_assoc], HP3.out⟩
          case measure => simp [intOf]; omega
        · obtain rfl : k = 8 := by omega
          have hfin : cs = l ++ padTail l.length := by
            rw [HCS.out, HBZ.out]
            unfold padTail zs
            rw [show 8 * l.length % 18446744073709551616 = 8 * l.length from by omega, show (be8 (8 * l.length)).take 8 = be8 (8 * l.length) from List.take_of_length_le (by rw [be8_length]; omega)]
            simp
          have HFIN := Lib.hid hfin
          clear hfin HBZ HCS
          go_wp2
          go_ret
          refine ⟨ya, cs.length, yc, rfl, ?_, HP2.out.2.1⟩
          rw [← HFIN.out]
          exact HP2.out.1.byt.mono fun k _ h => h.2
    · have ht : ((bs.length : Int) % 64 != 56) = true := by rw [bne_iff_ne]; omega
      have hm1 : j + 1 ≤ zs l := by omega
      clear hbs hP hb1 hzs
      go_wp2_with (at_builtin; refine wpList_append_one _ rfl (.tmp 16) (.tmp 17) 25 rfl w.heap.size 5 elemB _ bs rfl HP.out.1 _ 0 rfl rfl (by omega) (by omega) ?_)
      intro va2 vc2 w2 o1 o2 o3
      have HP2 := Lib.hid (HP.out.grows o1 o2)
      clear o1 o2 o3 HP
      go_wp2
      go_roundw
      case rel => exact ⟨j + 1, _, hm1, by rw [HBS.out, List.replicate_succ', ← List.append_assoc], HP2.out⟩
      case measure => simp [vlen]; omega
end Go.Proofs.YtmenchnjajpkmaaGreatDoor.ShaW
end

section
namespace Go.Proofs.YtmenchnjajpkmaaGreatDoor.Mem
open Go
theorem wp_loop_fr {P : Program} {c : Code} {Q : Exit → Act → World → Prop} (F : (Nat → Value) → Act) (R : Act → World → Prop) (μ : Act → Nat) {a : Act} {w : World} (ha : a = F (fun j => a.tmps.getD j undef)) (h0 : R a w)
    (round : ∀ u w, R (F u) w → c.wp P (Exit.then (fun a' w' => (R a' w' ∧ μ a' < μ (F u)) ∧ a' = F (fun j => a'.tmps.getD j undef)) Q) (F u) w) : (Code.loop c).wp P Q a w := by
  refine wp_loop (fun a w => R a w ∧ a = F (fun j => a.tmps.getD j undef)) (fun a _ => μ a) ⟨h0, ha⟩ ?_
  rintro a w ⟨hR, hF⟩
  have := round (fun j => a.tmps.getD j undef) w (by rw [← hF]; exact hR)
  rw [← hF] at this
  have e : (fun a' w' => (R a' w' ∧ a' = F (fun j => a'.tmps.getD j undef)) ∧ μ a' < μ a) = (fun a' w' => (R a' w' ∧ μ a' < μ a) ∧ a' = F (fun j => a'.tmps.getD j undef)) := by
    funext a' w'
    exact propext ⟨fun h => ⟨⟨h.1.1, h.2⟩, h.1.2⟩, fun h => ⟨⟨h.1.1, h.2⟩, h.1.2⟩⟩
  rw [e]
  exact this
end Go.Proofs.YtmenchnjajpkmaaGreatDoor.Mem
end

section
namespace Go.Proofs.YtmenchnjajpkmaaGreatDoor.ShaW
open Go Go.RowKit Mem Sha

/-- what the rounds of the reference keep -/
def Base (B G : Nat) (w : World) (v : Value) (P : List UInt8) (st : St) (wx : World) : Prop :=
  Below B w wx ∧ Blk wx B (List.replicate 32 (.int .u8 0)) 24 ∧ Blk wx G (st.l.map word) 140 ∧ B < G ∧ Byt (fun k => B < k ∧ k < G) wx v P
theorem Base.fr {S : Nat → Prop} {B G : Nat} {w : World} {v : Value} {P : List UInt8} {st : St} {wx w' : World} (h : Base B G w v P st wx) (f : Fr S wx w') (hS : ∀ k, S k → G < k) : Base B G w v P st w' := by
  obtain ⟨h1, h2, h3, h4, h5⟩ := h
  refine ⟨h1.trans (f.below (by have := h2.lt; omega) (fun k hk => by have := hS k hk; omega)), h2.fr f (fun e => by have := hS _ e; omega), h3.fr f (fun e => by have := hS _ e; omega), h4, h5.fr f (fun k _ hk e => by have := hS _ e; omega)⟩
theorem Base.drew {B G : Nat} {w : World} {v : Value} {P : List UInt8} {st : St} {wx : World} (h : Base B G w v P st wx) : Base B G w v P st wx.drew := ⟨h.1.drew, h.2⟩
theorem Base.drewN {B G : Nat} {w : World} {v : Value} {P : List UInt8} {st : St} {wx : World} (h : Base B G w v P st wx) (n : Nat) : Base B G w v P st (wx.drewN n) := ⟨below_drewN h.1 n, h.2⟩

/-- the schedule's block -/
def SchRel (B G W : Nat) (w : World) (v : Value) (P p : List UInt8) (st : St) (t : Nat) (wx : World) : Prop :=
  Base B G w v P st wx ∧ Blk wx W ((sched p t).map word ++ List.replicate (64 - t) (.int .u32 0)) 147 ∧ G < W
theorem SchRel.drew {B G W : Nat} {w : World} {v : Value} {P p : List UInt8} {st : St} {t : Nat} {wx : World} (h : SchRel B G W w v P p st t wx) : SchRel B G W w v P p st t wx.drew := ⟨h.1.drew, h.2⟩
theorem SchRel.drewN {B G W : Nat} {w : World} {v : Value} {P p : List UInt8} {st : St} {t : Nat} {wx : World} (h : SchRel B G W w v P p st t wx) (n : Nat) : SchRel B G W w v P p st t (wx.drewN n) := ⟨h.1.drewN n, h.2⟩
theorem sch_set (l : List UInt8) (t : Nat) (ht : t < 64) : ((sched l t).map word ++ List.replicate (64 - t) (Value.int .u32 0)).set t (.int .u32 ((wd l t).toNat : Int)) = (sched l (t + 1)).map word ++ List.replicate (64 - (t + 1)) (.int .u32 0) := by
  have hl := sched_length l t
  rw [List.set_append_right _ _ (by simp [hl]), sched_succ, List.map_append, List.append_assoc]
  congr 1
  rw [List.length_map, hl, Nat.sub_self]
  obtain ⟨m, hm⟩ : ∃ m, 64 - t = m + 1 := ⟨63 - t, by omega⟩
  rw [hm, show 64 - (t + 1) = m from by omega]
  rfl
theorem sch_step {B G W : Nat} {w : World} {v : Value} {P p : List UInt8} {st : St} {t : Nat} {wx : World} (ht : t < 64) (h : SchRel B G W w v P p st t wx) :
    SchRel B G W w v P p st (t + 1) (wx.setCell ⟨W, t, none⟩ (.int .u32 ((wd p t).toNat : Int))) := by
  obtain ⟨h1, h2, h3⟩ := h
  refine ⟨h1.fr (S := fun k => k = W) (Fr.setCell (S := fun k => k = W) (p := ⟨W, t, none⟩) (Fr.refl _ _) (.inr rfl) _) (fun k hk => by omega), ?_, h3⟩
  rw [← sch_set p t ht]
  exact h2.set t _
theorem sch_old {B G W : Nat} {w : World} {v : Value} {P p : List UInt8} {st : St} {t : Nat} {wx : World} (ht : t < 64) (h : SchRel B G W w v P p st t wx) : wx.cell? ⟨W, t, none⟩ = some (.int .u32 0) := by
  refine h.2.1.cell ?_
  rw [List.getElem?_append_right (by simp [sched_length])]
  simp [sched_length, List.getElem?_replicate]; omega
theorem sch_cell {B G W : Nat} {w : World} {v : Value} {P p : List UInt8} {st : St} {t : Nat} {wx : World} (h : SchRel B G W w v P p st t wx) (j : Nat) (hj : j < t) : wx.cell? ⟨W, j, none⟩ = some (.int .u32 ((wd p j).toNat : Int)) := by
  refine h.2.1.cell ?_
  have hl := sched_length p t
  rw [List.getElem?_append_left (by simp [hl]; omega)]
  have := sched_getD p t j hj
  rw [List.getD_eq_getElem?_getD, List.getElem?_eq_getElem (by omega)] at this
  simp [hl, hj]
  rw [← this]; rfl
theorem be_nat (x y z u : UInt8) : (be x y z u).toNat = x.toNat * 16777216 + y.toNat * 65536 + z.toNat * 256 + u.toNat := by
  have hx := x.toNat_lt
  have hy := y.toNat_lt
  have hz := z.toNat_lt
  have hu := u.toNat_lt
  have sh : ∀ (c : UInt8) (m : Nat), m ≤ 24 → (BitVec.ofNat 32 c.toNat <<< m).toNat = c.toNat * 2 ^ m := by
    intro c m hm
    have hc := c.toNat_lt
    have h2 : 2 ^ m ≤ 2 ^ 24 := Nat.pow_le_pow_right (by omega) hm
    have h3 : c.toNat * 2 ^ m ≤ 255 * 2 ^ 24 := Nat.mul_le_mul (by omega) h2
    rw [BitVec.toNat_shiftLeft, Nat.shiftLeft_eq, BitVec.toNat_ofNat, Nat.mod_eq_of_lt (a := c.toNat) (by omega), Nat.mod_eq_of_lt (by omega)]
  unfold be
  rw [BitVec.toNat_or, BitVec.toNat_or, BitVec.toNat_or, sh x 24 (by omega), sh y 16 (by omega), sh z 8 (by omega), BitVec.toNat_ofNat, Nat.mod_eq_of_lt (a := u.toNat) (by omega)]
  rw [nat_join 24 (x.toNat * 2 ^ 24) (y.toNat * 2 ^ 16) (by omega) (by omega), nat_join 16 (x.toNat * 2 ^ 24 + y.toNat * 2 ^ 16) (z.toNat * 2 ^ 8) (by omega) (by omega),
    nat_join 8 (x.toNat * 2 ^ 24 + y.toNat * 2 ^ 16 + z.toNat * 2 ^ 8) u.toNat (by omega) (by omega)]
theorem be_sum (x y z u : UInt8) : (x.toNat : Int) * 16777216 + (y.toNat : Int) * 65536 + (z.toNat : Int) * 256 + (u.toNat : Int) = ((be x y z u).toNat : Int) := by
  rw [be_nat]; omega
theorem rot_quiet (x : W) (k : Int) (w : World) (h1 : 1 ≤ k) (h2 : k ≤ 31) {n : Nat} :
    Calls Tryz.prog 79 #[.int .u32 (x.toNat : Int), .int .i64 k] (w.drewN n) fun e w'' => e = .returned (.int .u32 ((rotr x k.toNat).toNat : Int)) ∧ ∃ m, w'' = w.drewN m :=
  Calls.quiet_of (rot x k (w.drewN n) h1 h2)

theorem sch_start {B G : Nat} {w wr : World} {v : Value} {P : List UInt8} {st : St} (h : Base B G w v P st wr) (p : List UInt8) :
    SchRel B G wr.heap.size w v P p st 0 (wr.alloc (.cells (List.replicate 64 (.int .u32 0)).toArray 147)) :=
  ⟨h.fr (S := fun _ => False) ((Fr.refl _ _).alloc _) (fun _ hk => hk.elim), Blk.new _ _ _ _ rfl, h.2.2.1.lt⟩
/-- a round of the reference's last inner loop -/
def RrRel (B G W A : Nat) (w : World) (v : Value) (P p : List UInt8) (st : St) (t : Nat) (wx : World) : Prop :=
  Base B G w v P st wx ∧ Blk wx W ((sched p 64).map word) 147 ∧ Blk wx A ((rounds p st t).l.map word) 140 ∧ G < W ∧ W < A

theorem not_int' (v : W) : bits .xor .u32 (v.toNat : Int) 4294967295 = ((~~~v).toNat : Int) := by
  have h := v.isLt
  show bits .xor .u32 (v.toNat : Int) ((4294967295 : Nat) : Int) = _
  rw [u32_xor_nat _ _ h (by omega)]
  rw [show (4294967295 : Nat) = (BitVec.allOnes 32).toNat from rfl, ← BitVec.toNat_xor, BitVec.xor_allOnes]
theorem wx_int' (s : St) (k w : W) : (((s.h.toNat : Int) + bits .xor .u32 (bits .xor .u32 ((rotr s.e 6).toNat : Int) ((rotr s.e 11).toNat : Int)) ((rotr s.e 25).toNat : Int) +
    bits .xor .u32 (bits .and .u32 (s.e.toNat : Int) (s.f.toNat : Int)) (bits .and .u32 (bits .xor .u32 (s.e.toNat : Int) 4294967295) (s.g.toNat : Int)) + (k.toNat : Int)) % 4294967296 + (w.toNat : Int)) % 4294967296 = ((wx s k w).toNat : Int) := by
  rw [not_int', and_int, and_int, xor_int, xor_int, xor_int]
  show (((s.h.toNat : Int) + ((Sig1 s.e).toNat : Int) + ((ch s.e s.f s.g).toNat : Int) + (k.toNat : Int)) % 4294967296 + (w.toNat : Int)) % 4294967296 = _
  unfold wx
  simp only [BitVec.toNat_add]; omega
theorem TabB.cell {w : World} {g : Nat} (h : TabB w g) (t : Nat) (ht : t < 64) : w.cell? ⟨g, t, none⟩ = some (.int .u32 ((K t).toNat : Int)) := by
  obtain ⟨tt, fr, h⟩ := h
  have := tab_at t ht
  simp [World.cell?, h, this]
theorem rr_step {B G W A : Nat} {w wr : World} {v : Value} {P p : List UInt8} {st : St} {t : Nat} (h : RrRel B G W A w v P p st t wr) {a b c d e f g i : Sha.W} (hr : rnd (rounds p st t) (K t) (wd p t) = ⟨a, b, c, d, e, f, g, i⟩) :
    RrRel B G W A w v P p st (t + 1) ((((((((wr.setCell ⟨A, 7, none⟩ (word i)).setCell ⟨A, 6, none⟩ (word g)).setCell ⟨A, 5, none⟩ (word f)).setCell ⟨A, 4, none⟩ (word e)).setCell ⟨A, 3, none⟩ (word d)).setCell ⟨A, 2, none⟩ (word c)).setCell ⟨A, 1, none⟩ (word b)).setCell ⟨A, 0, none⟩ (word a)) := by
  obtain ⟨h1, h2, h3, h4, h5⟩ := h
  have fr0 : ∀ {T : Nat → Prop} (_ : T A), Fr T wr ((((((((wr.setCell ⟨A, 7, none⟩ (word i)).setCell ⟨A, 6, none⟩ (word g)).setCell ⟨A, 5, none⟩ (word f)).setCell ⟨A, 4, none⟩ (word e)).setCell ⟨A, 3, none⟩ (word d)).setCell ⟨A, 2, none⟩ (word c)).setCell ⟨A, 1, none⟩ (word b)).setCell ⟨A, 0, none⟩ (word a)) := by
    intro T ht
    iterate 8 (refine Fr.setCell ?_ (.inr ht) _)
    exact Fr.refl _ _
  have fr := fr0 (T := fun k => k = A) rfl
  refine ⟨h1.fr fr (fun k hk => by omega), h2.fr fr (by omega), ?_, h4, h5⟩
  have := (((((((h3.set 7 (word i)).set 6 (word g)).set 5 (word f)).set 4 (word e)).set 3 (word d)).set 2 (word c)).set 1 (word b)).set 0 (word a)
  have e1 : rounds p st (t + 1) = ⟨a, b, c, d, e, f, g, i⟩ := hr
  rw [e1]
  exact this
/-- the reference's sums -/
def SsRel (B G A : Nat) (w : World) (v : Value) (P : List UInt8) (st r : St) (t : Nat) (wx : World) : Prop :=
  Below B w wx ∧ Blk wx B (List.replicate 32 (.int .u8 0)) 24 ∧ Blk wx G ((part st r t).map word) 140 ∧ B < G ∧ Byt (fun k => B < k ∧ k < G) wx v P ∧ Blk wx A (r.l.map word) 140 ∧ G < A
theorem SsRel.drew {B G A : Nat} {w : World} {v : Value} {P : List UInt8} {st r : St} {t : Nat} {wx : World} (h : SsRel B G A w v P st r t wx) : SsRel B G A w v P st r t wx.drew := ⟨h.1.drew, h.2⟩
theorem ss_step {B G A : Nat} {w : World} {v : Value} {P : List UInt8} {st r : St} {t : Nat} {wx : World} (ht : t < 8) (h : SsRel B G A w v P st r t wx) :
    SsRel B G A w v P st r (t + 1) (wx.setCell ⟨G, t, none⟩ (.int .u32 ((st.l.getD t 0 + r.l.getD t 0).toNat : Int))) := by
  obtain ⟨h1, h2, h3, h4, h5, h6, h7⟩ := h
  have fr : Fr (fun k => k = G) wx (wx.setCell ⟨G, t, none⟩ (.int .u32 ((st.l.getD t 0 + r.l.getD t 0).toNat : Int))) := Fr.setCell (S := fun k => k = G) (p := ⟨G, t, none⟩) (Fr.refl _ _) (.inr rfl) _
  refine ⟨h1.setCell (by show B ≤ G; omega) _, h2.fr fr (by omega), ?_, h4, h5.fr fr (fun k _ hk e => by omega), h6.fr fr (by omega), h7⟩
  rw [← part_set st r t ht]
  exact h3.set _ _
theorem ss_end {B G A : Nat} {w : World} {v : Value} {P : List UInt8} {st r : St} {wx : World} (h : SsRel B G A w v P st r 8 wx) : Base B G w v P (st.add r) wx := by
  obtain ⟨h1, h2, h3, h4, h5, h6, h7⟩ := h
  exact ⟨h1, h2, h3, h4, h5⟩
theorem RrRel.drewN {B G W A : Nat} {w wr : World} {v : Value} {P p : List UInt8} {st : St} {t : Nat} (h : RrRel B G W A w v P p st t wr) (n : Nat) : RrRel B G W A w v P p st t (wr.drewN n) := ⟨h.1.drewN n, h.2⟩

set_option maxHeartbeats 8000000 in
set_option maxRecDepth 200000 in
theorem ref_of_calls (w : World) (D : Nat → Prop) (v : Value) (l : List UInt8) (hB : Byt D w v l) (hlen : l.length ≤ 140737488355200) (hT : TabB w 0) :
    Calls Tryz.prog 56 #[v] w fun e w' => e = .returned (.agg ((sha l).map byt).toArray) ∧ Below w.heap.size w w' := by
  obtain ⟨a, c, rfl, _⟩ := id hB
  have hblk := Blk.new w _ 24 (List.replicate 32 (.int .u8 0)) rfl
  have hb0 : Below w.heap.size w (w.alloc (.cells (List.replicate 32 (.int .u8 0)).toArray 24)) := (Below.refl _ _).alloc (Nat.le_refl _) _
  have hB0 := hB.lt.below hb0
  have hgl : 0 < w.heap.size := (Array.getElem?_eq_some_iff.1 hT.choose_spec.choose_spec).1
  have HBLK := Lib.hid hblk
  have HB0 := Lib.hid hb0
  clear hblk hb0 hB
  go_enter Tryz.func56, Tryz.ntmps56
  go_upto_region 1 with fail
  go_cut [3] from 19 to 20 (fun v wx => ∃ P, P = l ++ padTail l.length ∧ Byt (fun k => w.heap.size < k ∧ k < wx.heap.size) wx v P ∧ Below w.heap.size w wx ∧ Blk wx w.heap.size (List.replicate 32 (.int .u8 0)) 24)
  case first =>
    go_wp2_with fail
    refine (padded_calls _ _ _ l hB0 hlen).mono ?_
    rintro e w1 ⟨pa, pn, pc, rfl, hP, hb1⟩
    have HP := Lib.hid hP
    have HB1 := Lib.hid hb1
    clear hP hb1
    go_wp2_with fail
    go_meet
    case rel => exact ⟨_, rfl, HP.out.lt.mono fun k _ h => ⟨by have := HBLK.out.lt; have := h.2; simp at this; omega, h.1⟩, HB0.out.trans (HB1.out.mono (by simp)), HBLK.out.below HB1.out⟩
  case rest =>
    obtain ⟨P, hP, hPb, hb1, hz1⟩ := hcut
    obtain ⟨pa, pc, rfl, _⟩ := id hPb
    have hPl : P.length % 64 = 0 := by rw [hP, List.length_append]; exact padTail_length _
    have hPm : P.length ≤ 140737488355328 := by
      rw [hP, List.length_append]; have : (padTail l.length).length ≤ 72 := by simp [padTail, be8_length]; omega
      omega
    have hbase : Base w.heap.size wc.heap.size w (.slice pa P.length pc) P ini (wc.alloc (.cells (ini.l.map word).toArray 140)) :=
      ⟨hb1.alloc (by have := hz1.lt; omega) _, hz1.alloc _, Blk.new _ _ _ _ rfl, hz1.lt, hPb.below ((Below.refl _ _).alloc (Nat.le_refl _) _)⟩
    have HBASE := Lib.hid hbase
    have HPL := Lib.hid hPl
    have HP := Lib.hid hP
    clear hP hPb hb1 hz1 hPl hbase HBLK HB0 hB0
    go_upto_region 3 with fail
    have hgB := HBASE.out.2.2.2.1
    generalize wc.heap.size = G at *
    go_wp2
    refine wp_loop_fr (fun u => ⟨(Value.slice a l.length c :: undef :: Value.pointer (some ⟨w.heap.size, 0, none⟩) :: Value.slice pa P.length pc :: Value.pointer (some ⟨G, 0, none⟩) :: u 5 :: u 6 :: u 7 :: u 8 :: u 9 :: u 10 :: u 11 :: u 12 :: u 13 :: u 14 :: u 15 :: u 16 :: u 17 :: u 18 :: u 19 :: u 20 :: u 21 :: u 22 :: u 23 :: u 24 :: u 25 :: u 26 :: u 27 :: u 28 :: u 29 :: u 30 :: u 31 :: u 32 :: u 33 :: u 34 :: u 35 :: u 36 :: u 37 :: u 38 :: u 39 :: u 40 :: u 41 :: u 42 :: u 43 :: u 44 :: u 45 :: u 46 :: u 47 :: u 48 :: u 49 :: u 50 :: u 51 :: u 52 :: u 53 :: u 54 :: u 55 :: u 56 :: u 57 :: u 58 :: u 59 :: u 60 :: u 61 :: u 62 :: u 63 :: u 64 :: u 65 :: u 66 :: u 67 :: u 68 :: u 69 :: u 70 :: u 71 :: u 72 :: u 73 :: u 74 :: u 75 :: u 76 :: u 77 :: u 78 :: u 79 :: u 80 :: u 81 :: u 82 :: u 83 :: u 84 :: u 85 :: u 86 :: u 87 :: u 88 :: u 89 :: u 90 :: u 91 :: u 92 :: u 93 :: u 94 :: u 95 :: u 96 :: u 97 :: u 98 :: u 99 :: u 100 :: u 101 :: u 102 :: u 103 :: u 104 :: u 105 :: u 106 :: u 107 :: u 108 :: u 109 :: u 110 :: u 111 :: u 112 :: u 113 :: u 114 :: u 115 :: u 116 :: u 117 :: u 118 :: u 119 :: u 120 :: u 121 :: u 122 :: u 123 :: u 124 :: u 125 :: u 126 :: u 127 :: u 128 :: u 129 :: u 130 :: u 131 :: u 132 :: u 133 :: u 134 :: u 135 :: u 136 :: u 137 :: u 138 :: u 139 :: u 140 :: u 141 :: u 142 :: u 143 :: u 144 :: u 145 :: u 146 :: u 147 :: u 148 :: u 149 :: u 150 :: u 151 :: u 152 :: u 153 :: u 154 :: u 155 :: u 156 :: u 157 :: u 158 :: u 159 :: u 160 :: u 161 :: u 162 :: u 163 :: u 164 :: u 165 :: u 166 :: u 167 :: u 168 :: u 169 :: u 170 :: u 171 :: u 172 :: u 173 :: u 174 :: u 175 :: u 176 :: u 177 :: u 178 :: u 179 :: u 180 :: u 181 :: u 182 :: u 183 :: u 184 :: u 185 :: u 186 :: u 187 :: u 188 :: u 189 :: u 190 :: u 191 :: u 192 :: u 193 :: u 194 :: u 195 :: u 196 :: u 197 :: u 198 :: u 199 :: u 200 :: u 201 :: u 202 :: u 203 :: u 204 :: u 205 :: u 206 :: u 207 :: u 208 :: u 209 :: u 210 :: u 211 :: u 212 :: u 213 :: u 214 :: u 215 :: u 216 :: u 217 :: u 218 :: u 219 :: u 220 :: u 221 :: u 222 :: u 223 :: u 224 :: u 225 :: u 226 :: u 227 :: u 228 :: u 229 :: u 230 :: u 231 :: u 232 :: u 233 :: u 234 :: u 235 :: u 236 :: u 237 :: u 238 :: u 239 :: u 240 :: u 241 :: u 242 :: u 243 :: u 244 :: u 245 :: u 246 :: u 247 :: u 248 :: u 249 :: []).toArray, []⟩)
      (fun a wx => ∃ k : Nat, 64 * k ≤ P.length ∧ a.tmps.getD 5 undef = .int .i64 ((64 * k : Nat) : Int) ∧ Base w.heap.size G w (.slice pa P.length pc) P (feed ini (P.take (64 * k))) wx) (fun a => P.length - (intOf (a.tmps.getD 5 undef)).toNat) (by kernel_rfl) ?atStart ?round
    case atStart => exact ⟨0, by omega, rfl, by rw [feed_short _ _ (by simp)]; exact HBASE.out⟩
    case round =>
      intro u wr hrel
      obtain ⟨k, hk, h5, hbs⟩ := hrel
      have h5 : u 5 = .int .i64 (64 * (k : Int)) := by have h6 : u 5 = .int .i64 ((64 * k : Nat) : Int) := h5; rw [h6]; congr 1
      rw [h5]
      clear h5
      by_cases hlt : 64 * k < P.length
      · have hle : 64 * k + 64 ≤ P.length := by have := HPL.out; omega
        obtain ⟨p, hp⟩ : ∃ p, p = (P.drop (64 * k)).take 64 := ⟨_, rfl⟩
        have hpl : p.length = 64 := by rw [hp]; simp; omega
        have hpl1 : 64 ≤ p.length := by omega
        have hpl2 : p.length ≤ 64 := by omega
        have hpg : ∀ j (h2 : j < p.length) (h3 : 64 * k + j < P.length), p[j]'h2 = P[64 * k + j]'h3 := by
          intro j h2 h3; simp only [hp, List.getElem_take, List.getElem_drop]
        have HPG := Lib.hid hpg
        have HPD := Lib.hid hp
        have HS0 := Lib.hid (sch_start hbs p)
        have hWG : G < wr.heap.size := hbs.2.2.1.lt
        clear hp hpl hpg hbs
        generalize hst : feed ini (P.take (64 * k)) = st at *
        have HST := Lib.hid hst
        clear hst
        go_upto_block 2 with fail
        rw [show decide (64 * (k : Int) < (P.length : Int)) = true from decide_eq_true (by omega)]
        generalize wr.heap.size = W at *
        go_cut [7] (fun _ wx => SchRel w.heap.size G W w (.slice pa P.length pc) P p st 16 wx)
        case first =>
          go_wp2
          go_loopw [7] (fun i wx => ∃ t : Nat, t ≤ 16 ∧ i = .int .i64 t ∧ SchRel w.heap.size G W w (.slice pa P.length pc) P p st t wx) (fun i _ => 16 - (intOf i).toNat)
          case atStart => exact ⟨0, by omega, rfl, HS0.out⟩
          case round =>
            obtain ⟨t, ht, rfl, hM⟩ := hrel
            by_cases h16 : t < 16
            · obtain ⟨pb, poff, hpa, _, hly⟩ : ∃ pb poff, pa = some ⟨pb, poff, none⟩ ∧ pb < G ∧ Lies wr pb poff P := by
                obtain ⟨a', c', he, _, hx⟩ := hM.1.2.2.2.2
                cases he
                rcases hx with hx | ⟨pb, poff, rfl, hd, hly⟩
                · subst hx; simp at hlt
                · exact ⟨pb, poff, rfl, hd.2, hly⟩
              have c0 := hly (64 * k + 4 * t) (by omega)
              have c1 := hly (64 * k + 4 * t + 1) (by omega)
              have c2 := hly (64 * k + 4 * t + 2) (by omega)
              have c3 := hly (64 * k + 4 * t + 3) (by omega)
              have hx0 := (P[64 * k + 4 * t]'(by omega)).toNat_lt
              have hx1 := (P[64 * k + 4 * t + 1]'(by omega)).toNat_lt
              have hx2 := (P[64 * k + 4 * t + 2]'(by omega)).toNat_lt
              have hx3 := (P[64 * k + 4 * t + 3]'(by omega)).toNat_lt
              have hold := sch_old (by omega) hM
              have hfz := hM.2.1.free t
              have hw : wd p t = be (P[64 * k + 4 * t]'(by omega)) (P[64 * k + 4 * t + 1]'(by omega)) (P[64 * k + 4 * t + 2]'(by omega)) (P[64 * k + 4 * t + 3]'(by omega)) := by
                rw [wd_low p t h16]
                have e0 := HPG.out (4 * t) (by omega) (by omega)
                have e1 := HPG.out (4 * t + 1) (by omega) (by omega)
                have e2 := HPG.out (4 * t + 2) (by omega) (by omega)
                have e3 := HPG.out (4 * t + 3) (by omega) (by omega)
                simp only [← Nat.add_assoc] at e0 e1 e2 e3
                rw [← e0, ← e1, ← e2, ← e3]
                simp [first, List.getD_eq_getElem?_getD, show 4 * t < p.length from by omega, show 4 * t + 1 < p.length from by omega, show 4 * t + 2 < p.length from by omega, show 4 * t + 3 < p.length from by omega]
              have HS := sch_step (by omega) hM
              rw [hw] at HS
              have HS := Lib.hid HS
              clear hM hw hly HS0
              subst hpa
              go_wp2
              go_region
              go_wp2
              go_roundw
              case rel =>
                refine ⟨t + 1, by omega, by go_num, ?_⟩
                rw [be_sum]
                exact HS.out.drew
              case measure => simp [intOf]; omega
            · obtain rfl : t = 16 := by omega
              have HM := Lib.hid hM
              clear hM HS0
              go_wp2
              go_meet
              case rel => exact HM.out
        case rest =>
          have HM := Lib.hid hcut
          clear hcut HS0
          go_upto_block 4 with fail
          go_cut [8] (fun _ wx => SchRel w.heap.size G W w (.slice pa P.length pc) P p st 64 wx)
          case first =>
            go_wp2
            go_loopw [8] (fun i wx => ∃ t : Nat, 16 ≤ t ∧ t ≤ 64 ∧ i = .int .i64 t ∧ SchRel w.heap.size G W w (.slice pa P.length pc) P p st t wx) (fun i _ => 64 - (intOf i).toNat)
            case atStart => exact ⟨16, by omega, by omega, rfl, HM.out⟩
            case round =>
              obtain ⟨t, ht16, ht, rfl, hM⟩ := hrel
              by_cases h64 : t < 64
              · have c1 := sch_cell hM (t - 15) (by omega)
                have HM := Lib.hid hM
                clear hM
                go_wp2
                go_quiet ((go_at_call 79; exact rot_quiet _ _ _ (by omega) (by omega)))
                have hM := HM.out.drewN nq
                clear HM c1
                generalize wr.drewN nq = wr at *
                have c3 := sch_cell hM (t - 2) (by omega)
                have HM := Lib.hid hM
                clear hM
                go_wp2
                go_quiet ((go_at_call 79; exact rot_quiet _ _ _ (by omega) (by omega)))
                have hM := HM.out.drewN nq
                clear HM c3
                generalize wr.drewN nq = wr at *
                have c0 := sch_cell hM (t - 16) (by omega)
                have c2 := sch_cell hM (t - 7) (by omega)
                have hold := sch_old h64 hM
                have hfz := hM.2.1.free t
                have HS := sch_step h64 hM
                rw [wd_high p t ht16] at HS
                have HS := Lib.hid HS
                clear hM
                go_wp2
                go_region
                go_wp2
                go_roundw
                case rel =>
                  refine ⟨t + 1, by omega, by omega, by go_num, ?_⟩
                  rw [sched_int]
                  exact HS.out.drew
                case measure => simp [intOf]; omega
              · obtain rfl : t = 64 := by omega
                have HM := Lib.hid hM
                clear hM
                go_wp2
                go_meet
                case rel => exact HM.out
          case rest =>
            have hM := hcut
            clear hcut HM
            have HM := Lib.hid hM
            have hBs := hM.1
            obtain ⟨g0, g1, g2, g3, g4, g5, g6, g7⟩ := St.cells hBs.2.2.1
            have hRr : RrRel w.heap.size G W wc.heap.size w (.slice pa P.length pc) P p st 0 (wc.alloc (.cells (st.l.map word).toArray 140)) := by
              obtain ⟨m1, m2, m3⟩ := hM
              have m2 : Blk wc W ((sched p 64).map word ++ []) 147 := m2
              rw [List.append_nil] at m2
              exact ⟨m1.fr (S := fun _ => False) ((Fr.refl _ _).alloc _) (fun _ hk => hk.elim), m2.alloc _, Blk.new _ _ _ _ rfl, m3, m2.lt⟩
            have HRR := Lib.hid hRr
            have hWA : W < wc.heap.size := hM.2.1.lt
            clear hM hBs hRr HM
            go_upto_block 6 with fail
            clear g0 g1 g2 g3 g4 g5 g6 g7
            generalize wc.heap.size = A at *
            go_cut [12] (fun _ wx => RrRel w.heap.size G W A w (.slice pa P.length pc) P p st 64 wx)
            case first =>
              go_wp2
              go_loopw [12] (fun i wx => ∃ t : Nat, t ≤ 64 ∧ i = .int .i64 t ∧ RrRel w.heap.size G W A w (.slice pa P.length pc) P p st t wx) (fun i _ => 64 - (intOf i).toNat)
              case atStart => exact ⟨0, by omega, rfl, HRR.out⟩
              case round =>
                obtain ⟨t, ht, rfl, hM⟩ := hrel
                by_cases h64 : t < 64
                · obtain ⟨g0, g1, g2, g3, g4, g5, g6, g7⟩ := St.cells hM.2.2.1
                  have hw := sched_cell hM.2.1 t h64
                  have hTt := (hT.fr (Fr.ofBelow hM.1.1) (by omega)).cell t h64
                  have HM := Lib.hid hM
                  clear hM
                  go_wp2
                  go_quiet ((go_at_call 79; exact rot_quiet _ _ _ (by omega) (by omega)))
                  go_wp2
                  rw [wx_int']
                  have hM := HM.out.drewN nq
                  clear HM g0 g1 g2 g3 g4 g5 g6 g7 hw hTt
                  generalize wr.drewN nq = wr at *
                  obtain ⟨g0, g1, g2, g3, g4, g5, g6, g7⟩ := St.cells hM.2.2.1
                  have HM := Lib.hid hM
                  clear hM
                  go_wp2
                  go_quiet ((go_at_call 79; exact rot_quiet _ _ _ (by omega) (by omega)))
                  have hM := HM.out.drewN nq
                  clear HM g0 g1 g2 g3 g4 g5 g6 g7
                  generalize wr.drewN nq = wr at *
                  obtain ⟨g0, g1, g2, g3, g4, g5, g6, g7⟩ := St.cells hM.2.2.1
                  have hfz := hM.2.2.1.free
                  have HM := Lib.hid hM
                  clear hM
                  go_wp2
                  go_roundw
                  case rel =>
                    refine ⟨t + 1, by omega, by go_num, ?_⟩
                    have := rr_step HM.out rfl
                    rw [wy_int, add_int]
                    exact this
                  case measure => simp [intOf]; omega
                · obtain rfl : t = 64 := by omega
                  have HM := Lib.hid hM
                  clear hM
                  go_wp2
                  go_meet
                  case rel => exact HM.out
            case rest =>
              have hM := hcut
              clear hcut
              have hSs : SsRel w.heap.size G A w (.slice pa P.length pc) P st (rounds p st 64) 0 wc := by
                obtain ⟨⟨m1, m2, m3, m4, m5⟩, m6, m7, m8, m9⟩ := hM
                exact ⟨m1, m2, m3, m4, m5, m7, by omega⟩
              have HSS := Lib.hid hSs
              have HMX := Lib.hid (mixed_eq st p _ rfl)
              clear hM HRR hSs
              generalize rounds p st 64 = r at *
              go_upto_block 8 with fail
              go_wp2
              go_loopw [16] (fun i wx => ∃ t : Nat, t ≤ 8 ∧ i = .int .i64 t ∧ SsRel w.heap.size G A w (.slice pa P.length pc) P st r t wx) (fun i _ => 8 - (intOf i).toNat)
              case atStart => exact ⟨0, by omega, rfl, HSS.out⟩
              case round =>
                obtain ⟨t, ht, rfl, hM⟩ := hrel
                by_cases h8 : t < 8
                · have c1 := hM.2.2.1.cell (part_cell st r t h8)
                  have c2 := hM.2.2.2.2.2.1.cell (r_cell r t h8)
                  have hfz := hM.2.2.1.free t
                  have HS := Lib.hid (ss_step h8 hM)
                  unfold word at c1 c2
                  clear hM HSS
                  go_wp2
                  go_region
                  go_wp2
                  go_roundw
                  case rel =>
                    refine ⟨t + 1, by omega, by go_num, ?_⟩
                    rw [add_int]
                    exact HS.out.drew
                  case measure => simp [intOf]; omega
                · obtain rfl : t = 8 := by omega
                  have hend := ss_end hM
                  have hfeed : st.add r = feed ini (P.take (64 * (k + 1))) := by
                    have e1 : P.take (64 * (k + 1)) = P.take (64 * k) ++ p := by rw [HPD.out, show 64 * (k + 1) = 64 * k + 64 from by omega, List.take_add]
                    have e2 : left (P.take (64 * k)) = [] := by
                      apply List.length_eq_zero_iff.1
                      rw [left_length _ _ rfl]; simp; omega
                    rw [e1, feed_app, e2, HST.out, List.nil_append, feed_long _ _ hpl1, ← HMX.out, List.take_of_length_le hpl2, feed_short _ _ (by simp; omega)]
                  rw [hfeed] at hend
                  have HEND := Lib.hid hend
                  clear hend hfeed hM HSS
                  go_wp2
                  refine ⟨⟨⟨k + 1, by omega, ?_, HEND.out⟩, ?_⟩, ?_⟩
                  · show Value.int .i64 _ = Value.int .i64 _
                    congr 1
                  · show P.length - (intOf (Value.int .i64 _)).toNat < P.length - (intOf (Value.int .i64 _)).toNat
                    simp only [intOf]
                    omega
                  · kernel_rfl
      · have hk2 : P.take (64 * k) = P := List.take_of_length_le (by omega)
        have hsh : sha l = out (feed ini (P.take (64 * k))) := by rw [hk2]; unfold sha; rw [HP.out]
        have HSH := Lib.hid hsh
        clear hk2 hsh
        generalize feed ini (P.take (64 * k)) = st at *
        have HBS := Lib.hid hbs
        clear hbs
        have hGw : G < wr.heap.size := HBS.out.2.2.1.lt
        have hO : OutRel w.heap.size G wr.heap.size w st 0 (wr.alloc (.cells (List.replicate 32 (.int .u8 0)).toArray 24)) ∧ Blk (wr.alloc (.cells (List.replicate 32 (.int .u8 0)).toArray 24)) G (st.l.map word) 140 :=
          ⟨⟨HBS.out.1.alloc (by omega) _, HBS.out.2.1.alloc _, by simpa using Blk.new wr _ 24 (List.replicate 32 (.int .u8 0)) rfl, hgB, hGw⟩, HBS.out.2.2.1.alloc _⟩
        have HO := Lib.hid hO
        clear hO HBS
        go_wp2
        generalize wr.heap.size = d at *
        go_loopw [18] (fun i wx => ∃ n : Nat, n ≤ 32 ∧ i = .int .i64 n ∧ OutRel w.heap.size G d w st n wx ∧ Blk wx G (st.l.map word) 140) (fun i _ => 32 - (intOf i).toNat)
        case atStart => exact ⟨0, by omega, rfl, HO.out⟩
        case round =>
          obtain ⟨n, hn32, rfl, hR, hG⟩ := hrel
          by_cases hlt2 : n < 32
          · have c1 := hG.cell (r_cell st (n / 4) (by omega))
            unfold word at c1
            have hold := out_cell hlt2 hR
            have hfz := hR.2.2.1.free n
            have hst := out_step (i := n / 4) (k := n % 4) (by omega) (by omega) (by rw [show 4 * (n / 4) + n % 4 = n from by omega]; exact hR)
            rw [show 4 * (n / 4) + n % 4 = n from by omega] at hst
            have hg2 : Blk (wr.setCell ⟨d, n, none⟩ (.int .u8 ((UInt8.ofNat ((st.l.getD (n / 4) 0).toNat / 2 ^ (24 - 8 * (n % 4)))).toNat : Int))) G (st.l.map word) 140 := hG.other (by show d ≠ G; omega) _
            have HS := Lib.hid hst
            have HG2 := Lib.hid hg2
            clear hR hG hst hg2 HO
            go_wp2
            go_roundw
            case rel =>
              refine ⟨n + 1, by omega, by go_num, ?_⟩
              rw [byte_of]
              exact ⟨HS.out, HG2.out⟩
            case measure => simp [intOf]; omega
          · obtain rfl : n = 32 := by omega
            have hD : Blk wr d ((out st).map byt) 24 := by
              have := hR.2.2.1
              rw [List.take_of_length_le (by rw [out_length]; omega)] at this
              simpa using this
            have hone : ∀ v ∈ (out st).map byt, v.oneCell' = true := by
              intro v hv; obtain ⟨c, _, rfl⟩ := List.mem_map.1 hv; rfl
            have HD := Lib.hid hD
            have HBL := Lib.hid hR.2.1
            have HBE := Lib.hid hR.1
            have HONE := Lib.hid hone
            clear hR hD hone hG HO
            go_wp2_with (first
              | (with_reducible refine wpList_load_blk rfl _ _ rfl d _ rfl HD.out _ Tryz.underlying24 rfl (by kernel_rfl) ?_)
              | (with_reducible refine wpList_store_blk rfl _ _ _ rfl w.heap.size ((out st).map byt) _ rfl _ rfl rfl HBL.out (by kernel_rfl) (by simp [out_length]) HONE.out ?_))
            exact bodyPost_ret (v := .agg ((out st).map byt).toArray) (results_cell_row Tryz.results56 _ _ w.heap.size 24 _ (0, 0) _ rfl (HBL.out.row _) Tryz.underlying24 rfl (by kernel_rfl)) rfl ⟨by rw [HSH.out], below_setRow HBE.out (Nat.le_refl _) _⟩
end Go.Proofs.YtmenchnjajpkmaaGreatDoor.ShaW
end

section
namespace Go.Proofs.YtmenchnjajpkmaaGreatDoor.Mem
open Go Go.RowKit
end Go.Proofs.YtmenchnjajpkmaaGreatDoor.Mem
namespace Go.Proofs.YtmenchnjajpkmaaGreatDoor.ShaW
open Go Go.RowKit Mem Sha
theorem TabB.keep {w w' : World} {g C : Nat} (h : TabB w g) (hb : Below C w w') (hc : g < C) : TabB w' g := h.fr (Fr.ofBelow hb) (by omega)
/-- a hash from block C on -/
def HashFrom (C : Nat) (w : World) (q : Nat) (l : List UInt8) : Prop := HashIs (fun k => C ≤ k) w q l ∧ C ≤ w.heap.size
theorem HashFrom.below {C : Nat} {w w' : World} {q : Nat} {l : List UInt8} (h : HashFrom C w q l) (hb : Below w.heap.size w w') : HashFrom C w' q l :=
  ⟨HashRaw.fr h.1 (Fr.ofBelow hb) (fun k hk _ h2 => by omega), Nat.le_trans h.2 hb.size⟩
theorem HashFrom.lt {C : Nat} {w : World} {q : Nat} {l : List UInt8} (h : HashFrom C w q l) : q < w.heap.size := h.1.2.choose_spec.1.lt
/-- new blocks may be made below nothing: the hash stays where only blocks that it does not have turn -/
theorem HashFrom.fr {C : Nat} {w w' : World} {q : Nat} {l : List UInt8} {T : Nat → Prop} (h : HashFrom C w q l) (hf : Fr T w w') (hn : ∀ k, k < w.heap.size → C ≤ k → ¬ T k) : HashFrom C w' q l :=
  ⟨HashRaw.fr h.1 hf hn, Nat.le_trans h.2 hf.size⟩
theorem new_from (w : World) :
    Calls Tryz.prog 52 #[] w fun e w' => ∃ h, e = .returned (.pointer (some ⟨h, 0, none⟩)) ∧ HashFrom w.heap.size w' h [] ∧ Below w.heap.size w w' := by
  refine (new_calls w).mono ?_
  rintro e w1 ⟨q, rfl, hq, hH, hb1⟩
  exact ⟨q, rfl, ⟨hH.mono (fun k _ h => by omega), hb1.size⟩, hb1⟩
theorem write_from (C : Nat) (w : World) (q : Nat) (l : List UInt8) (v : Value) (b : List UInt8) (H : HashFrom C w q l) (hB : Byt (fun k => k < C) w v b)
    (hlen : l.length + b.length ≤ 1125899906842624) (hT : TabB w 1) (hg : 1 < C) :
    Calls Tryz.prog 53 #[.pointer (some ⟨q, 0, none⟩), v] w fun e w' => e = .returned (.tuple #[]) ∧ HashFrom C w' q (l ++ b) ∧ Below C w w' := by
  refine (write_calls (fun k => C ≤ k) (fun k => k < C) w q l v b H.1 hB (fun k _ h1 h2 => by omega) hlen hT (by omega)).mono ?_
  rintro e w1 ⟨rfl, hH, hf⟩
  have := H.2
  exact ⟨rfl, ⟨hH.mono (fun k _ h => by rcases h with h | h <;> omega), Nat.le_trans H.2 hf.size⟩, hf.below H.2 (fun k h => h)⟩
end Go.Proofs.YtmenchnjajpkmaaGreatDoor.ShaW
end

section
namespace Go.Proofs.YtmenchnjajpkmaaGreatDoor.Mem
open Go Go.RowKit
theorem below_bytes (w : World) (e : TypeId) (s : ByteArray) : Below w.heap.size w (Lib.bytesWorld w e s) := by
  refine ⟨?_, ?_, ?_, by rw [Lib.bytesWorld_size]; omega, fun k hk => Lib.bytesWorld_at_old w e s k hk⟩ <;>
    simp [Lib.bytesWorld, World.freeze, World.alloc, World.drew, -World.alloc_eq, -World.drew_eq]
theorem byt_bytes {D : Nat → Prop} (w : World) (e : TypeId) (s : ByteArray) (hs : s.size ≤ maxLen) (hd : D w.heap.size) : Byt D (Lib.bytesWorld w e s) (.slice (some ⟨w.heap.size, 0, none⟩) s.size (grownCap w s.size 0 e)) s.data.toList := by
  have hl : s.data.toList.length = s.size := by rw [Array.length_toList]; rfl
  refine ⟨_, _, by rw [hl], ⟨by rw [hl]; exact grownCap_ge _ _ _ _, grownCap_le_maxLen _ _ _ _ hs, fun h => by cases h⟩, .inr ⟨w.heap.size, 0, rfl, hd, fun i hi => ?_⟩⟩
  rw [Nat.zero_add, Lib.bytesWorld_cell w e s i (by omega)]
  rw [List.getD_eq_getElem?_getD, List.getElem?_eq_getElem hi]
  rfl
end Go.Proofs.YtmenchnjajpkmaaGreatDoor.Mem
end

section
namespace Go.Proofs.YtmenchnjajpkmaaGreatDoor.Bulk
open Go
variable {H : Type}
theorem one (d : DataW H) : 1 ≤ Rows.uptoBulk d := by
  cases d with
  | lit x => cases x <;> simp [Rows.uptoBulk]
  | _ => simp [Rows.uptoBulk]
theorem all : ∀ (l : List (DataW H)), l.length ≤ Rows.uptoBulkAll l
  | [] => by simp [Rows.uptoBulkAll]
  | d :: r => by
    have h1 := one d
    have h2 := all r
    simp only [Rows.uptoBulkAll, List.length_cons]
    omega
theorem bytes {d : DataW H} {l : List UInt8} (h : (d = .nil ∧ l = []) ∨ ∃ el sp, d = .slice el sp ∧ el.length = l.length) : l.length ≤ Rows.uptoBulk d := by
  rcases h with ⟨rfl, rfl⟩ | ⟨el, sp, rfl, hl⟩
  · simp
  · have := all el
    simp only [Rows.uptoBulk]
    omega
theorem three {d0 d1 d2 : DataW H} {gs : List (DataW H)} (h : Rows.uptoSmall H ([d0, d1, d2] ++ gs) = true) : Rows.uptoBulk d0 + Rows.uptoBulk d1 + Rows.uptoBulk d2 ≤ 1048576 := by
  have h := of_decide_eq_true h
  simp only [List.cons_append, List.nil_append, Rows.uptoBulkAll] at h
  omega
theorem two {d0 d1 : DataW H} {gs : List (DataW H)} (h : Rows.uptoSmall H ([d0, d1] ++ gs) = true) : Rows.uptoBulk d0 + Rows.uptoBulk d1 ≤ 1048576 := by
  have h := of_decide_eq_true h
  simp only [List.cons_append, List.nil_append, Rows.uptoBulkAll] at h
  omega
theorem single {d0 : DataW H} {gs : List (DataW H)} (h : Rows.uptoSmall H ([d0] ++ gs) = true) : Rows.uptoBulk d0 ≤ 1048576 := by
  have h := of_decide_eq_true h
  simp only [List.cons_append, List.nil_append, Rows.uptoBulkAll] at h
  omega
end Go.Proofs.YtmenchnjajpkmaaGreatDoor.Bulk
end
