/- Words for the wire's writer, and walks of its digest and of the codec's Bytes. Condition: the bytes together are at most 2^47. -/
import Derived.Test.YtmenchnjajpkmaaDoorCodecW
import Derived.Test.YtmenchnjajpkmaaDoorQuiet
import Derived.Test.YtmenchnjajpkmaaDoorRfW
import Derived.StillTailTactics
import Derived.Deep.MidRow
namespace Go.Proofs.YtmenchnjajpkmaaDoor.Ww
open Go Go.RowKit Mem Codec CodecW
set_option linter.unusedVariables false

/-- the wire's writer at block q, its blocks in S, that has m; bad: something may not be written -/
def WwIs (S : Nat → Prop) (w : World) (q : Nat) (m : List UInt8) (bad : Bool) : Prop :=
  S q ∧ ∃ p, Blk w q [.pointer (some ⟨p, 0, none⟩), .bool bad] 97 ∧ WriterIs (fun k => S k ∧ k ≠ q) w p m
section
variable {S T : Nat → Prop} {w w' : World} {q : Nat} {m : List UInt8} {bad : Bool}
theorem WwIs.fr (H : WwIs S w q m bad) (hf : Fr T w w') (hn : ∀ k, k < w.heap.size → S k → ¬ T k) : WwIs S w' q m bad := by
  obtain ⟨h1, p, h2, h3⟩ := H
  exact ⟨h1, p, h2.fr hf (hn q h2.lt h1), h3.fr hf (fun k hk h => hn k hk h.1)⟩
theorem WwIs.mono (H : WwIs S w q m bad) (hn : ∀ k, k < w.heap.size → S k → T k) : WwIs T w q m bad := by
  obtain ⟨h1, p, h2, h3⟩ := H
  exact ⟨hn q h2.lt h1, p, h2, h3.mono (fun k hk h => ⟨hn k hk h.1, h.2⟩)⟩
theorem WwIs.below (H : WwIs S w q m bad) (hb : Below w.heap.size w w') : WwIs S w' q m bad := H.fr (Fr.ofBelow hb) (fun k hk _ h => by omega)
theorem WwIs.drew (H : WwIs S w q m bad) : WwIs S w.drew q m bad := H
theorem WwIs.lt (H : WwIs S w q m bad) : q < w.heap.size := H.2.choose_spec.1.lt
end
/-- on the way from w0 on: the writer, its blocks being S's and new ones; nothing else has turned -/
def At (S : Nat → Prop) (w0 w : World) (q : Nat) (m : List UInt8) (bad : Bool) : Prop := WwIs (Plus S w0 w) w q m bad ∧ Fr S w0 w ∧ ∀ k, S k → k < w0.heap.size
section
variable {S : Nat → Prop} {w0 w w' : World} {q : Nat} {m : List UInt8} {bad : Bool}
theorem At.start (H : WwIs S w q m bad) (hS : ∀ k, S k → k < w.heap.size) : At S w w q m bad := ⟨H.mono (fun k _ h => .inl h), Fr.refl _ _, hS⟩
theorem At.out (H : At S w0 w q m bad) : ∀ k, Plus S w0 w k → k < w.heap.size := fun k h => by
  have h1 := H.2.1.size
  rcases h with h | h
  · have := H.2.2 k h; omega
  · exact h.2
theorem At.lt (H : At S w0 w q m bad) : q < w.heap.size := H.1.lt
theorem At.drew (H : At S w0 w q m bad) : At S w0 w.drew q m bad := ⟨H.1.drew, H.2.1.drew, H.2.2⟩
/-- what the callee has made for itself is no block of the writer's -/
theorem At.enter (H : At S w0 w q m bad) (o : Obj) : At (Plus S w0 w) (w.alloc o) (w.alloc o) q m bad :=
  At.start (H.1.below ((Below.refl _ _).alloc (Nat.le_refl _) _)) (fun k h => by have := H.out k h; simp; omega)
theorem At.leave {o : Obj} {m' : List UInt8} {bad' : Bool} (H : At S w0 w q m bad) (K : At (Plus S w0 w) (w.alloc o) w' q m' bad') : At S w0 w' q m' bad' := by
  have h1 := H.2.1.size
  have h2 := K.2.1.size
  have hz : (w.alloc o).heap.size = w.heap.size + 1 := by simp
  refine ⟨K.1.mono (fun k hk h => ?_), H.2.1.trans' (((Fr.refl _ w).alloc o).trans K.2.1) (fun i hi h => ?_), H.2.2⟩
  · rcases h with (h | h) | h
    · exact .inl h
    · exact .inr ⟨h.1, by omega⟩
    · exact .inr ⟨by omega, h.2⟩
  · rcases h with h | h
    · exact h
    · omega
theorem At.enter0 (H : At S w0 w q m bad) : At (Plus S w0 w) w w q m bad := At.start H.1 H.out
theorem At.leave0 {m' : List UInt8} {bad' : Bool} (H : At S w0 w q m bad) (K : At (Plus S w0 w) w w' q m' bad') : At S w0 w' q m' bad' := by
  have h1 := H.2.1.size
  have h2 := K.2.1.size
  refine ⟨K.1.mono (fun k hk h => ?_), H.2.1.trans' K.2.1 (fun i hi h => ?_), H.2.2⟩
  · rcases h with (h | h) | h
    · exact .inl h
    · exact .inr ⟨h.1, by omega⟩
    · exact .inr ⟨by omega, h.2⟩
  · rcases h with h | h
    · exact h
    · omega
/-- the codec's writer under it, and back -/
theorem At.opened (H : At S w0 w q m bad) : ∃ p, Blk w q [.pointer (some ⟨p, 0, none⟩), .bool bad] 97 ∧ WriterIs (fun k => Plus S w0 w k ∧ k ≠ q) w p m ∧ Plus S w0 w q := by
  obtain ⟨⟨h1, p, h2, h3⟩, _, _⟩ := H
  exact ⟨p, h2, h3, h1⟩
theorem At.shut {p : Nat} {m' : List UInt8} (H : At S w0 w q m bad) (hB : Blk w q [.pointer (some ⟨p, 0, none⟩), .bool bad] 97)
    (h : WriterIs (Plus (fun k => Plus S w0 w k ∧ k ≠ q) w w') w' p m') (hf : Fr (fun k => Plus S w0 w k ∧ k ≠ q) w w') : At S w0 w' q m' bad := by
  have h1 := H.2.1.size
  have h2 := hf.size
  have hq := hB.lt
  refine ⟨⟨?_, p, hB.fr hf (fun h => h.2 rfl), h.mono (fun k hk h => ?_)⟩, H.2.1.trans' hf (fun i hi h => ?_), H.2.2⟩
  · rcases H.1.1 with h | h
    · exact .inl h
    · exact .inr ⟨h.1, by omega⟩
  · rcases h with ⟨h | h, hne⟩ | h
    · exact ⟨.inl h, hne⟩
    · exact ⟨.inr ⟨h.1, by omega⟩, hne⟩
    · exact ⟨.inr ⟨by omega, h.2⟩, by omega⟩
  · rcases h.1 with h | h
    · exact h
    · omega
/-- the box that the callee has made stays -/
theorem At.box {o : Obj} {m' : List UInt8} {bad' : Bool} {l : List Value} {e : TypeId} (H : At S w0 w q m bad) (K : At (Plus S w0 w) (w.alloc o) w' q m' bad') (h : Blk (w.alloc o) w.heap.size l e) : Blk w' w.heap.size l e :=
  h.fr K.2.1 (fun h => by have := H.out _ h; omega)
/-- data that lie elsewhere stay -/
theorem At.blk {b : Nat} {l : List Value} {e : TypeId} (H : At S w0 w q m bad) (h : Blk w0 b l e) (hn : ¬ S b) : Blk w b l e := h.fr H.2.1 hn
theorem At.byt {D : Nat → Prop} {v : Value} {l : List UInt8} (H : At S w0 w q m bad) (h : Byt D w0 v l) (hn : ∀ k, k < w0.heap.size → D k → ¬ S k) : Byt D w v l := h.fr H.2.1 hn
end
theorem szD {d : List UInt8} (hd : d.length = 32) : (Tryd.prog.info? 24).map (·.size) = some (d.map byt).length := by rw [List.length_map, hd]; kernel_rfl

set_option maxHeartbeats 4000000 in
set_option maxRecDepth 100000 in
theorem digest_calls (S : Nat → Prop) (w0 w : World) (q : Nat) (m : List UInt8) (bad : Bool) (d : List UInt8) (hd : d.length = 32) (H : At S w0 w q m bad) (hlen : m.length + 32 ≤ 140737488355328) :
    Calls Tryd.prog 48 #[.pointer (some ⟨q, 0, none⟩), .agg (d.map byt).toArray] w fun e w' => e = .returned (.tuple #[]) ∧ At S w0 w' q (m ++ d) bad := by
  obtain ⟨cs, hcs⟩ : ∃ cs, (d.map byt).toArray = cs := ⟨_, rfl⟩
  have HB := Lib.hid (show Blk (w.alloc (.cells cs 24)) w.heap.size (d.map byt) 24 from Blk.new w _ _ _ hcs.symm)
  have H1 := Lib.hid (H.enter (.cells cs 24))
  have HL := Lib.hid (fun w' m' => @At.leave S w0 w w' q m bad (.cells cs 24) m' bad H)
  have hnw : ¬ Plus S w0 w w.heap.size ∨ True := .inr trivial
  have hql := H.lt
  have hz : (w.alloc (.cells cs 24)).heap.size = w.heap.size + 1 := by simp
  have hd32 : d.length ≤ 32 := by omega
  rw [hcs]
  clear H hcs hnw
  go_enter Tryd.func48, Tryd.ntmps48
  go_upto_region 1 with fail
  generalize (w.alloc (.cells cs 24)) = w1 at *
  obtain ⟨p, h1, h2, h3⟩ := H1.out.drew.opened
  have H2 := Lib.hid h2
  have HQ := Lib.hid h1
  have c0 := h1.cell (i := 0) rfl
  have c1 : w1.cell? ⟨q, 0, none⟩ = some (.pointer (some ⟨p, 0, none⟩)) := c0
  clear h1 h2 h3
  go_still_tail 5, (by kernel_rfl)
  change wpList _ _ _ _ _ w1.drew
  go_wp2_with fail
  refine (raw_calls _ Any w1.drew p m _ d H2.out (((HB.out.byt hd (by unfold maxLen; omega) trivial).drew)) (by omega)).mono ?_
  rintro e w2 ⟨rfl, g1, g2⟩
  have HF := Lib.hid (HL.out _ _ (H1.out.drew.shut HQ.out g1 g2))
  clear g1 g2 HL H1 H2 HB HQ c0 c1
  go_wp2
  go_end0
  exact ⟨rfl, HF.out⟩
end Go.Proofs.YtmenchnjajpkmaaDoor.Ww
