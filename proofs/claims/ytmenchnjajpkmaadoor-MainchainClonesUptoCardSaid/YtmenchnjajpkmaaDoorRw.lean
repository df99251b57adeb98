/- Words for the reference's writer (layer 12) on its way, and walks of its raw, number, digest. Condition: the bytes together are at most 2^47. -/
import Derived.Test.YtmenchnjajpkmaaDoorRfW
import Derived.Test.YtmenchnjajpkmaaDoorShaText
import Derived.Deep.MidRow
namespace Go.Proofs.YtmenchnjajpkmaaDoor.Rw
open Go Go.RowKit Mem Codec CodecW RfW
set_option linter.unusedVariables false

/-- on the way from w0 on: the writer, its blocks being S's and new ones; nothing else has turned -/
def RAt (S : Nat → Prop) (w0 w : World) (q : Nat) (m : List UInt8) (bad : Bool) : Prop := RefIs (Plus S w0 w) w q m bad ∧ Fr S w0 w ∧ ∀ k, S k → k < w0.heap.size
section
variable {S : Nat → Prop} {w0 w w' : World} {q : Nat} {m : List UInt8} {bad : Bool}
theorem RAt.start (H : RefIs S w q m bad) (hS : ∀ k, S k → k < w.heap.size) : RAt S w w q m bad := ⟨H.mono (fun k _ h => .inl h), Fr.refl _ _, hS⟩
theorem RAt.out (H : RAt S w0 w q m bad) : ∀ k, Plus S w0 w k → k < w.heap.size := fun k h => by
  have h1 := H.2.1.size
  rcases h with h | h
  · have := H.2.2 k h; omega
  · exact h.2
theorem RAt.lt (H : RAt S w0 w q m bad) : q < w.heap.size := H.1.lt
theorem RAt.drew (H : RAt S w0 w q m bad) : RAt S w0 w.drew q m bad := ⟨H.1.drew, H.2.1.drew, H.2.2⟩
/-- what the callee has made for itself is no block of the writer's -/
theorem RAt.enter (H : RAt S w0 w q m bad) (o : Obj) : RAt (Plus S w0 w) (w.alloc o) (w.alloc o) q m bad :=
  RAt.start (H.1.below ((Below.refl _ _).alloc (Nat.le_refl _) _)) (fun k h => by have := H.out k h; simp; omega)
theorem RAt.leave {o : Obj} {m' : List UInt8} {bad' : Bool} (H : RAt S w0 w q m bad) (K : RAt (Plus S w0 w) (w.alloc o) w' q m' bad') : RAt S w0 w' q m' bad' := by
  have h1 := H.2.1.size
  have h2 := K.2.1.size
  have hz : (w.alloc o).heap.size = w.heap.size + 1 := by simp
  refine ⟨K.1.mono (fun k hk h => ?_), H.2.1.trans' (((Fr.refl _ w).alloc o).trans K.2.1) (fun i hi h => ?_), H.2.2⟩
  · rcases h with (h | h) | h
    · exact .inl h
    · exact .inr ⟨h.1, by omega⟩
    · exact .inr ⟨by omega, h.2⟩
  · rcases h with h | h
    · exact h
    · omega
theorem RAt.enter0 (H : RAt S w0 w q m bad) : RAt (Plus S w0 w) w w q m bad := RAt.start H.1 H.out
theorem RAt.leave0 {m' : List UInt8} {bad' : Bool} (H : RAt S w0 w q m bad) (K : RAt (Plus S w0 w) w w' q m' bad') : RAt S w0 w' q m' bad' := by
  have h1 := H.2.1.size
  have h2 := K.2.1.size
  refine ⟨K.1.mono (fun k hk h => ?_), H.2.1.trans' K.2.1 (fun i hi h => ?_), H.2.2⟩
  · rcases h with (h | h) | h
    · exact .inl h
    · exact .inr ⟨h.1, by omega⟩
    · exact .inr ⟨by omega, h.2⟩
  · rcases h with h | h
    · exact h
    · omega
/-- the box that the callee has made stays -/
theorem RAt.box {o : Obj} {m' : List UInt8} {bad' : Bool} {l : List Value} {e : TypeId} (H : RAt S w0 w q m bad) (K : RAt (Plus S w0 w) (w.alloc o) w' q m' bad') (h : Blk (w.alloc o) w.heap.size l e) : Blk w' w.heap.size l e :=
  h.fr K.2.1 (fun h => by have := H.out _ h; omega)
/-- data that lie elsewhere stay -/
theorem RAt.blk {b : Nat} {l : List Value} {e : TypeId} (H : RAt S w0 w q m bad) (h : Blk w0 b l e) (hn : ¬ S b) : Blk w b l e := h.fr H.2.1 hn
theorem RAt.byt {D : Nat → Prop} {v : Value} {l : List UInt8} (H : RAt S w0 w q m bad) (h : Byt D w0 v l) (hn : ∀ k, k < w0.heap.size → D k → ¬ S k) : Byt D w v l := h.fr H.2.1 hn
end
theorem RAt.put {m' : List UInt8} {S : Nat → Prop} {w0 w w' : World} {q : Nat} {m : List UInt8} {bad bad' : Bool} (H : RAt S w0 w q m bad) (h : RefIs (Plus (Plus S w0 w) w w') w' q m' bad') (hf : Fr (Plus S w0 w) w w') : RAt S w0 w' q m' bad' :=
  H.leave0 ⟨h, hf, H.out⟩
theorem RAt.below {S : Nat → Prop} {w0 w w' : World} {q : Nat} {m : List UInt8} {bad : Bool} (H : RAt S w0 w q m bad) (hb : Below w.heap.size w w') : RAt S w0 w' q m bad :=
  H.put (H.1.below hb |>.mono (fun k hk h => .inl h)) (Fr.ofBelowAll hb (Nat.le_refl _))
theorem raw_to (S D : Nat → Prop) (w0 w : World) (q : Nat) (m : List UInt8) (bad : Bool) (v : Value) (b : List UInt8) (H : RAt S w0 w q m bad) (hB : Byt D w v b) (hlen : m.length + b.length ≤ 140737488355328) :
    Calls Tryd.prog 42 #[.pointer (some ⟨q, 0, none⟩), v] w fun e w' => e = .returned (.tuple #[]) ∧ RAt S w0 w' q (m ++ b) bad :=
  (RfW.raw_calls _ D w q m bad v b H.1 hB hlen).mono fun e w' ⟨h1, h2, h3⟩ => ⟨h1, H.put h2 h3⟩
theorem num_to (S : Nat → Prop) (w0 w : World) (q : Nat) (m : List UInt8) (bad : Bool) (n k : Nat) (hn : n < 18446744073709551616) (hk : k ≤ 8) (H : RAt S w0 w q m bad) (hlen : m.length + k ≤ 140737488355328) :
    Calls Tryd.prog 35 #[.pointer (some ⟨q, 0, none⟩), .int .u64 (n : Int), .int .i64 (k : Int)] w fun e w' => e = .returned (.tuple #[]) ∧ RAt S w0 w' q (m ++ num n k) bad :=
  (RfW.num_calls _ w q m bad n k hn hk H.1 hlen).mono fun e w' ⟨h1, h2, h3⟩ => ⟨h1, H.put h2 h3⟩
theorem szD {d : List UInt8} (hd : d.length = 32) : (Tryd.prog.info? 24).map (·.size) = some (d.map byt).length := by rw [List.length_map, hd]; kernel_rfl

set_option maxHeartbeats 4000000 in
set_option maxRecDepth 100000 in
theorem digest_to (S : Nat → Prop) (w0 w : World) (q : Nat) (m : List UInt8) (bad : Bool) (d : List UInt8) (hd : d.length = 32) (H : RAt S w0 w q m bad) (hlen : m.length + 32 ≤ 140737488355328) :
    Calls Tryd.prog 34 #[.pointer (some ⟨q, 0, none⟩), .agg (d.map byt).toArray] w fun e w' => e = .returned (.tuple #[]) ∧ RAt S w0 w' q (m ++ d) bad := by
  obtain ⟨cs, hcs⟩ : ∃ cs, (d.map byt).toArray = cs := ⟨_, rfl⟩
  have HB := Lib.hid (show Blk (w.alloc (.cells cs 24)) w.heap.size (d.map byt) 24 from Blk.new w _ _ _ hcs.symm)
  have H1 := Lib.hid (H.enter (.cells cs 24))
  have HL := Lib.hid (fun w' m' => @RAt.leave S w0 w w' q m bad (.cells cs 24) m' bad H)
  have HS := Lib.hid (szD hd)
  have HC := Lib.hid hcs
  have hz : (w.alloc (.cells cs 24)).heap.size = w.heap.size + 1 := by simp
  rw [hcs]
  clear H hcs
  go_enter Tryd.func34, Tryd.ntmps34
  go_upto_region 1 with fail
  generalize (w.alloc (.cells cs 24)) = w1 at *
  go_wp2_with (first | (with_reducible refine wpList_load_blk rfl _ _ rfl w.heap.size (d.map byt) rfl HB.out _ Tryd.underlying24 rfl HS.out ?_))
  refine (ShaW.text_calls w1 d hd).mono ?_
  rintro e w2 ⟨a, c, rfl, g1, g2⟩
  have H2 := Lib.hid (H1.out.below g2)
  have HO := Lib.hid g1.byt
  have hl2 : d.length ≤ 32 := by omega
  clear g1 g2
  have HO2 := Lib.hid (show Byt Any w2 (.slice a 32 c) d from HO.out.any)
  go_wp2_with fail
  refine (raw_to _ _ _ w2 q m bad _ d H2.out HO2.out (by omega)).mono ?_
  rintro e w3 ⟨rfl, g1⟩
  have HF := Lib.hid (HL.out _ _ g1)
  clear g1 HL H1 H2 HB HC HO HO2
  go_wp2
  go_end0
  exact ⟨rfl, HF.out⟩
end Go.Proofs.YtmenchnjajpkmaaDoor.Rw
