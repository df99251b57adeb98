/- The walk of the reference's Text: a digest's bytes. No condition. Walks of the reference's W (layer 12): raw, number, digest. Condition: the bytes together are at most 2^47. Words for the wire's writer, and walks of its digest and of the codec's Bytes. Condition: the bytes together are at most 2^47. Words for the reference's writer (layer 12) on its way, and walks of its raw, number, digest. Condition: the bytes together are at most 2^47. Walks of the codec's Reader: Read, take, high, Byte, Word, Long, Var, room, Raw, Text, Fail, Err, Left, End; and of Writer.Bytes. Condition: the bytes are at most 2^47. Headers of the main chain: their bytes, their ids. In plain Lean. Walks of the wire's mainHeader, written, MainHeader and MainId, the program's and the reference's. Conditions: a header as it reads; for the ids: the tables are laid. Words for slices of values of the call's own: what they hold, and what append does. Program-independent; no condition. -/
import Derived.Test.YtmenchnjajpkmaaGreatWHea
import Derived.StillTailTactics
import Derived.Deep.MidRow
import Derived.WalkLawsBesides
import Derived.Deep.CutBlock
import Derived.Deep.DeepCutAuto
import Derived.OwnWalkIn
section
namespace Go.Proofs.YtmenchnjajpkmaaGreat.ShaW
open Go Go.RowKit Mem Sha

def TextRel (B : Nat) (w : World) (m q : List UInt8) (v : Value) (wx : World) : Prop :=
  Below B w wx ∧ Blk wx B (m.map byt) 27 ∧ OwnB (B + 1) 5 wx v q ∧ B < wx.heap.size
theorem TextRel.grows {B : Nat} {w w1 w2 : World} {m q q2 : List UInt8} {v v2 : Value} (h : TextRel B w m q v w1) (o1 : OwnB (B + 1) 5 w2 v2 q2) (o2 : Fr (fun k => v.ownBlock = some k) w1 w2) : TextRel B w m q2 v2 w2 := by
  have hne : ∀ k, v.ownBlock = some k → B + 1 ≤ k := fun k hk => (h.2.2.1.lt k hk).1
  exact ⟨h.1.trans (o2.below (Nat.le_of_lt h.2.2.2) (fun k hk => by have := hne k hk; omega)), h.2.1.fr o2 (fun e => by have := hne B e; omega), o1, by have := o2.size; have := h.2.2.2; omega⟩

theorem text_calls (w : World) (m : List UInt8) (hm : m.length = 32) :
    Calls Tryz.prog 97 #[.agg (m.map byt).toArray] w fun e w' => ∃ a c, e = .returned (.slice a 32 c) ∧ OwnB (w.heap.size + 1) 5 w' (.slice a 32 c) m ∧ Below w.heap.size w w' := by
  have h0 : TextRel w.heap.size w m [] (.slice none 0 0) (w.alloc (.cells (m.map byt).toArray 27)) :=
    ⟨(Below.refl _ _).alloc (Nat.le_refl _) _, Blk.new _ _ _ _ rfl, OwnB.nil _ _ _, by simp⟩
  have H0 := Lib.hid h0
  have HM := Lib.hid hm
  have hs : ((m.map byt).toArray).size = 32 := by simp [hm]
  clear h0 hm
  generalize (m.map byt).toArray = cs at *
  go_enter Tryz.func97, Tryz.ntmps97
  go_wp2
  go_loopw [3, 4] (fun v i wx => ∃ (n : Nat) (q : List UInt8), n ≤ 32 ∧ i = .int .i64 n ∧ q = m.take n ∧ q.length = n ∧ TextRel w.heap.size w m q v wx) (fun _ i _ => 32 - (intOf i).toNat)
  case atStart => exact ⟨0, [], by omega, rfl, rfl, rfl, H0.out⟩
  case round =>
    obtain ⟨n, q, hn, rfl, hq, hl, hR⟩ := hrel
    obtain ⟨xa, xc, rfl, hxk, _⟩ := id hR.2.2.1.byt
    have HR := Lib.hid hR
    have HQ := Lib.hid hq
    have hl1 : q.length ≤ n := by omega
    have hl2 : n ≤ q.length := by omega
    clear hq hl
    by_cases hlt : n < 32
    · have hn1 : n < m.length := by rw [HM.out]; exact hlt
      have c1 : wr.cell? ⟨w.heap.size, n, none⟩ = some (.int .u8 ((m[n]'hn1).toNat : Int)) := hR.2.1.cell (by simp [hn1])
      clear hR
      go_wp2_with (at_builtin; refine wpList_append_one _ rfl (.tmp 9) (.tmp 13) 30 rfl (w.heap.size + 1) 5 elemB _ q rfl HR.out.2.2.1 _ (m[n]'hn1) rfl rfl (by omega) (by have := HR.out.2.2.2; omega) ?_)
      intro va vc w2 o1 o2 o3
      have HR2 := Lib.hid (HR.out.grows o1 o2)
      clear o1 o2 o3 HR
      go_wp2
      go_roundw
      case rel => exact ⟨n + 1, _, by omega, by go_num, by rw [HQ.out, List.take_add_one, List.getElem?_eq_getElem hn1]; rfl, by simp; omega, HR2.out⟩
      case measure => simp [intOf]; omega
    · obtain rfl : n = 32 := by omega
      have hq2 : q = m := by rw [HQ.out]; exact List.take_of_length_le (by rw [HM.out]; omega)
      have h32 : q.length = 32 := by omega
      have HQ2 := Lib.hid hq2
      have H32 := Lib.hid h32
      clear hq2 h32 hR
      go_wp2
      go_ret
      refine ⟨xa, xc, by rw [H32.out]; rfl, ?_, HR.out.1⟩
      have := HR.out.2.2.1
      rw [H32.out, HQ2.out] at this
      exact this
end Go.Proofs.YtmenchnjajpkmaaGreat.ShaW
end

section
namespace Go.Proofs.YtmenchnjajpkmaaGreat.RfW
open Go Go.RowKit Mem Codec CodecW CodecN
set_option linter.unusedVariables false

/-- the reference's W at block q, its blocks in S, that has m; bad: something may not be -/
def RefIs (S : Nat → Prop) (w : World) (q : Nat) (m : List UInt8) (bad : Bool) : Prop :=
  S q ∧ ∃ wv, Blk w q [wv, .bool bad] 61 ∧ OwnB 0 5 w wv m ∧ ∀ k, wv.ownBlock = some k → S k ∧ k ≠ q
section
variable {S T : Nat → Prop} {w w' : World} {q : Nat} {m : List UInt8} {bad : Bool}
theorem RefIs.fr (H : RefIs S w q m bad) (hf : Fr T w w') (hn : ∀ k, k < w.heap.size → S k → ¬ T k) : RefIs S w' q m bad := by
  obtain ⟨h1, wv, h2, h3, h4⟩ := H
  exact ⟨h1, wv, h2.fr hf (hn q h2.lt h1), h3.fr hf (fun k hk => hn k (h3.lt k hk).2 (h4 k hk).1), h4⟩
theorem RefIs.mono (H : RefIs S w q m bad) (hn : ∀ k, k < w.heap.size → S k → T k) : RefIs T w q m bad := by
  obtain ⟨h1, wv, h2, h3, h4⟩ := H
  exact ⟨hn q h2.lt h1, wv, h2, h3, fun k hk => ⟨hn k (h3.lt k hk).2 (h4 k hk).1, (h4 k hk).2⟩⟩
theorem RefIs.below (H : RefIs S w q m bad) (hb : Below w.heap.size w w') : RefIs S w' q m bad := H.fr (Fr.ofBelow hb) (fun k hk _ h => by omega)
theorem RefIs.drew (H : RefIs S w q m bad) : RefIs S w.drew q m bad := H
theorem RefIs.lt (H : RefIs S w q m bad) : q < w.heap.size := H.2.choose_spec.1.lt
theorem RefIs.opened (H : RefIs S w q m bad) : ∃ a c, Blk w q [.slice a m.length c, .bool bad] 61 ∧ OwnB 0 5 w (.slice a m.length c) m ∧ (∀ k, (Value.slice a m.length c).ownBlock = some k → S k ∧ k ≠ q) ∧ S q ∧ q < w.heap.size := by
  obtain ⟨h1, wv, h2, h3, h4⟩ := H
  obtain ⟨a, c, rfl, _⟩ := id h3.byt
  exact ⟨a, c, h2, h3, h4, h1, h2.lt⟩
theorem RefIs.new (w : World) : RefIs (fun k => k = w.heap.size) (w.alloc (.cells #[.slice none 0 0, .bool false] 61)) w.heap.size [] false :=
  ⟨rfl, _, Blk.new _ _ _ _ rfl, OwnB.nil _ _ _, fun k hk => by cases hk⟩
/-- behind 'w.B = append(w.B, ..)' -/
theorem appended {w2 : World} {rv v2 : Value} {m2 : List UInt8} (h1 : S q) (h2 : Blk w q [rv, .bool bad] 61) (h4 : ∀ k, rv.ownBlock = some k → S k ∧ k ≠ q)
    (o1 : OwnB 0 5 w2 v2 m2) (o2 : Fr (fun k => rv.ownBlock = some k) w w2) (o3 : v2.ownBlock = rv.ownBlock ∨ ∃ k, v2.ownBlock = some k ∧ w.heap.size ≤ k ∧ k < w2.heap.size) :
    RefIs (Plus S w (w2.setCell ⟨q, 0, none⟩ v2)) (w2.setCell ⟨q, 0, none⟩ v2) q m2 bad ∧ Fr S w (w2.setCell ⟨q, 0, none⟩ v2) ∧ w2.cell? ⟨q, 0, none⟩ = some rv ∧ w2.frozen? ⟨q, 0, none⟩ = false := by
  have hne : ¬ rv.ownBlock = some q := fun e => (h4 q e).2 rfl
  have hb2 := h2.fr o2 hne
  have hv2 : ∀ k, v2.ownBlock = some k → Plus S w (w2.setCell ⟨q, 0, none⟩ v2) k ∧ k ≠ q := by
    intro k hk
    have hkl := (o1.lt k hk).2
    rcases o3 with o3 | ⟨k', o3, o4, o5⟩
    · rw [o3] at hk; exact ⟨.inl (h4 k hk).1, (h4 k hk).2⟩
    · rw [o3] at hk; cases hk
      exact ⟨.inr ⟨o4, by simpa [World.setCell] using o5⟩, by have := h2.lt; omega⟩
  refine ⟨⟨.inl h1, v2, by simpa using hb2.set 0 v2, ?_, hv2⟩, ?_, hb2.cell rfl, hb2.free 0⟩
  · exact o1.fr (S := fun k => k = q) (Fr.setCell (S := fun k => k = q) (p := ⟨q, 0, none⟩) (Fr.refl _ w2) (.inr rfl) v2) (fun k hk => (hv2 k hk).2)
  · exact Fr.setCell (S := S) (p := ⟨q, 0, none⟩) (o2.mono fun k _ e => (h4 k e).1) (.inr h1) v2
end
set_option maxHeartbeats 4000000 in
theorem raw_calls (S D : Nat → Prop) (w : World) (q : Nat) (m : List UInt8) (bad : Bool) (v : Value) (b : List UInt8) (H : RefIs S w q m bad) (hB : Byt D w v b) (hlen : m.length + b.length ≤ 140737488355328) :
    Calls Tryz.prog 94 #[.pointer (some ⟨q, 0, none⟩), v] w fun e w' => e = .returned (.tuple #[]) ∧ RefIs (Plus S w w') w' q (m ++ b) bad ∧ Fr S w w' := by
  obtain ⟨a, c, h1, h2, h3, h4, h5⟩ := H.opened
  obtain ⟨va, vc, rfl, _⟩ := id hB
  have c0 := h1.cell (i := 0) rfl
  have H1 := Lib.hid h1
  have H2 := Lib.hid h2
  have H3 := Lib.hid h3
  have H4 := Lib.hid h4
  have HB := Lib.hid hB
  clear h1 h2 h3 h4 H hB
  go_enter Tryz.func94, Tryz.ntmps94
  go_wp2_with (at_builtin; refine wpList_append_byt _ rfl (.tmp 8) (.tmp 9) 30 rfl 0 5 elemB _ m rfl H2.out _ b rfl HB.out hlen (Nat.zero_le _) ?_)
  intro va2 vc2 w2 o1 o2 o3
  obtain ⟨g1, g2, g3, g4⟩ := appended H4.out H1.out H3.out o1 (Fr.ofGrown o2) (o3.imp_right fun o3 => ⟨_, o3, Nat.le_refl _, by have := (o1.lt _ o3).2; exact this⟩)
  have G1 := Lib.hid g1
  have G2 := Lib.hid g2
  clear o1 o2 o3 g1 g2 c0
  go_wp2
  go_end0
  exact ⟨rfl, G1.out, G2.out⟩
theorem Plus.le {S : Nat → Prop} {a b c : World} (hb : b.heap.size ≤ c.heap.size) {k : Nat} (h : Plus S a b k) : Plus S a c k := h.imp_right fun h => ⟨h.1, by omega⟩
theorem Plus.join {S : Nat → Prop} {a b c : World} (h1 : a.heap.size ≤ b.heap.size) (h2 : b.heap.size ≤ c.heap.size) (k : Nat) (h : Plus (Plus S a b) b c k) : Plus S a c k := by
  rcases h with (h | h) | h
  · exact .inl h
  · exact .inr ⟨h.1, by omega⟩
  · exact .inr ⟨by omega, h.2⟩
/-- two steps, one behind the other -/
theorem Fr.join {S : Nat → Prop} {a b c : World} (h1 : Fr S a b) (h2 : Fr (Plus S a b) b c) : Fr S a c :=
  h1.trans' h2 (fun k hk h => by rcases h with h | h; exact h; omega)
set_option maxHeartbeats 4000000 in
theorem num_calls (S : Nat → Prop) (w : World) (q : Nat) (m : List UInt8) (bad : Bool) (n k : Nat) (hn : n < 18446744073709551616) (hk : k ≤ 8) (H : RefIs S w q m bad) (hlen : m.length + k ≤ 140737488355328) :
    Calls Tryz.prog 57 #[.pointer (some ⟨q, 0, none⟩), .int .u64 (n : Int), .int .i64 (k : Int)] w fun e w' => e = .returned (.tuple #[]) ∧ RefIs (Plus S w w') w' q (m ++ num n k) bad ∧ Fr S w w' := by
  have H1 := Lib.hid H
  clear H
  go_enter Tryz.func57, Tryz.ntmps57
  go_wp2_with fail
  refine (number_calls w n k hn hk).mono ?_
  rintro e w1 ⟨a, c, rfl, g1, g2⟩
  have hnl : (num n k).length = k := num_length n k
  have HO := Lib.hid g1
  have HB := Lib.hid g2
  have H2 := Lib.hid (H1.out.below g2)
  clear g1 g2
  go_wp2_with fail
  refine (raw_calls S _ w1 q m bad _ (num n k) H2.out HO.out.byt (by omega)).mono ?_
  rintro e w2 ⟨rfl, g1, g2⟩
  have R2 := Lib.hid (show RefIs (Plus S w w2) w2 q (m ++ num n k) bad from g1.mono (fun k _ h => by
    rcases h with h | h
    · exact .inl h
    · exact .inr ⟨by have := HB.out.size; omega, h.2⟩))
  have F2 := Lib.hid ((Fr.ofBelowAll HB.out (Nat.le_refl _) : Fr S w w1).trans' g2 (fun k _ h => h))
  clear g1 g2
  go_wp2
  go_end0
  exact ⟨rfl, R2.out, F2.out⟩
end Go.Proofs.YtmenchnjajpkmaaGreat.RfW
end

section
namespace Go.Proofs.YtmenchnjajpkmaaGreat.Ww
open Go Go.RowKit Mem Codec CodecW
set_option linter.unusedVariables false

/-- the wire's writer at block q, its blocks in S, that has m; bad: something may not be written -/
def WwIs (S : Nat → Prop) (w : World) (q : Nat) (m : List UInt8) (bad : Bool) : Prop :=
  S q ∧ ∃ p, Blk w q [.pointer (some ⟨p, 0, none⟩), .bool bad] 106 ∧ WriterIs (fun k => S k ∧ k ≠ q) w p m
section
variable {S T : Nat → Prop} {w w' : World} {q : Nat} {m : List UInt8} {bad : Bool}
theorem WwIs.fr (H : WwIs S w q m bad) (hf : Fr T w w') (hn : ∀ k, k < w.heap.size → S k → ¬ T k) : WwIs S w' q m bad := by
  obtain ⟨h1, p, h2, h3⟩ := H
  exact ⟨h1, p, h2.fr hf (hn q h2.lt h1), h3.fr hf (fun k hk h => hn k hk h.1)⟩
theorem WwIs.mono (H : WwIs S w q m bad) (hn : ∀ k, k < w.heap.size → S k → T k) : WwIs T w q m bad := by
  obtain ⟨h1, p, h2, h3⟩ := H
  exact ⟨hn q h2.lt h1, p, h2, h3.mono (fun k hk h => ⟨hn k hk h.1, h.2⟩)⟩
theorem WwIs.below (H : WwIs S w q m bad) (hb : Below w.heap.size w w') : WwIs S w' q m bad := H.fr (Fr.ofBelow hb) (fun k hk _ h => by omega)
theorem WwIs.drew (H : WwIs S w q m bad) : WwIs S w.drew q m bad := H
theorem WwIs.lt (H : WwIs S w q m bad) : q < w.heap.size := H.2.choose_spec.1.lt
end
/-- on the way from w0 on: the writer, its blocks being S's and new ones; nothing else has turned -/
def At (S : Nat → Prop) (w0 w : World) (q : Nat) (m : List UInt8) (bad : Bool) : Prop := WwIs (Plus S w0 w) w q m bad ∧ Fr S w0 w ∧ ∀ k, S k → k < w0.heap.size
section
variable {S : Nat → Prop} {w0 w w' : World} {q : Nat} {m : List UInt8} {bad : Bool}
theorem At.start (H : WwIs S w q m bad) (hS : ∀ k, S k → k < w.heap.size) : At S w w q m bad := ⟨H.mono (fun k _ h => .inl h), Fr.refl _ _, hS⟩
theorem At.out (H : At S w0 w q m bad) : ∀ k, Plus S w0 w k → k < w.heap.size := fun k h => by
  have h1 := H.2.1.size
  rcases h with h | h
  · have := H.2.2 k h; omega
  · exact h.2
theorem At.lt (H : At S w0 w q m bad) : q < w.heap.size := H.1.lt
theorem At.drew (H : At S w0 w q m bad) : At S w0 w.drew q m bad := ⟨H.1.drew, H.2.1.drew, H.2.2⟩
/-- what the callee has made for itself is no block of the writer's -/
theorem At.enter (H : At S w0 w q m bad) (o : Obj) : At (Plus S w0 w) (w.alloc o) (w.alloc o) q m bad :=
  At.start (H.1.below ((Below.refl _ _).alloc (Nat.le_refl _) _)) (fun k h => by have := H.out k h; simp; omega)
theorem At.leave {o : Obj} {m' : List UInt8} {bad' : Bool} (H : At S w0 w q m bad) (K : At (Plus S w0 w) (w.alloc o) w' q m' bad') : At S w0 w' q m' bad' := by
  have h1 := H.2.1.size
  have h2 := K.2.1.size
  have hz : (w.alloc o).heap.size = w.heap.size + 1 := by simp
  refine ⟨K.1.mono (fun k hk h => ?_), H.2.1.trans' (((Fr.refl _ w).alloc o).trans K.2.1) (fun i hi h => ?_), H.2.2⟩
  · rcases h with (h | h) | h
    · exact .inl h
    · exact .inr ⟨h.1, by omega⟩
    · exact .inr ⟨by omega, h.2⟩
  · rcases h with h | h
    · exact h
    · omega
theorem At.enter0 (H : At S w0 w q m bad) : At (Plus S w0 w) w w q m bad := At.start H.1 H.out
theorem At.leave0 {m' : List UInt8} {bad' : Bool} (H : At S w0 w q m bad) (K : At (Plus S w0 w) w w' q m' bad') : At S w0 w' q m' bad' := by
  have h1 := H.2.1.size
  have h2 := K.2.1.size
  refine ⟨K.1.mono (fun k hk h => ?_), H.2.1.trans' K.2.1 (fun i hi h => ?_), H.2.2⟩
  · rcases h with (h | h) | h
    · exact .inl h
    · exact .inr ⟨h.1, by omega⟩
    · exact .inr ⟨by omega, h.2⟩
  · rcases h with h | h
    · exact h
    · omega
/-- the codec's writer under it, and back -/
theorem At.opened (H : At S w0 w q m bad) : ∃ p, Blk w q [.pointer (some ⟨p, 0, none⟩), .bool bad] 106 ∧ WriterIs (fun k => Plus S w0 w k ∧ k ≠ q) w p m ∧ Plus S w0 w q := by
  obtain ⟨⟨h1, p, h2, h3⟩, _, _⟩ := H
  exact ⟨p, h2, h3, h1⟩
theorem At.shut {p : Nat} {m' : List UInt8} (H : At S w0 w q m bad) (hB : Blk w q [.pointer (some ⟨p, 0, none⟩), .bool bad] 106)
    (h : WriterIs (Plus (fun k => Plus S w0 w k ∧ k ≠ q) w w') w' p m') (hf : Fr (fun k => Plus S w0 w k ∧ k ≠ q) w w') : At S w0 w' q m' bad := by
  have h1 := H.2.1.size
  have h2 := hf.size
  have hq := hB.lt
  refine ⟨⟨?_, p, hB.fr hf (fun h => h.2 rfl), h.mono (fun k hk h => ?_)⟩, H.2.1.trans' hf (fun i hi h => ?_), H.2.2⟩
  · rcases H.1.1 with h | h
    · exact .inl h
    · exact .inr ⟨h.1, by omega⟩
  · rcases h with ⟨h | h, hne⟩ | h
    · exact ⟨.inl h, hne⟩
    · exact ⟨.inr ⟨h.1, by omega⟩, hne⟩
    · exact ⟨.inr ⟨by omega, h.2⟩, by omega⟩
  · rcases h.1 with h | h
    · exact h
    · omega
/-- the box that the callee has made stays -/
theorem At.box {o : Obj} {m' : List UInt8} {bad' : Bool} {l : List Value} {e : TypeId} (H : At S w0 w q m bad) (K : At (Plus S w0 w) (w.alloc o) w' q m' bad') (h : Blk (w.alloc o) w.heap.size l e) : Blk w' w.heap.size l e :=
  h.fr K.2.1 (fun h => by have := H.out _ h; omega)
/-- data that lie elsewhere stay -/
theorem At.blk {b : Nat} {l : List Value} {e : TypeId} (H : At S w0 w q m bad) (h : Blk w0 b l e) (hn : ¬ S b) : Blk w b l e := h.fr H.2.1 hn
theorem At.byt {D : Nat → Prop} {v : Value} {l : List UInt8} (H : At S w0 w q m bad) (h : Byt D w0 v l) (hn : ∀ k, k < w0.heap.size → D k → ¬ S k) : Byt D w v l := h.fr H.2.1 hn
end
theorem szD {d : List UInt8} (hd : d.length = 32) : (Tryz.prog.info? 27).map (·.size) = some (d.map byt).length := by rw [List.length_map, hd]; kernel_rfl

set_option maxHeartbeats 4000000 in
set_option maxRecDepth 100000 in
theorem digest_calls (S : Nat → Prop) (w0 w : World) (q : Nat) (m : List UInt8) (bad : Bool) (d : List UInt8) (hd : d.length = 32) (H : At S w0 w q m bad) (hlen : m.length + 32 ≤ 140737488355328) :
    Calls Tryz.prog 73 #[.pointer (some ⟨q, 0, none⟩), .agg (d.map byt).toArray] w fun e w' => e = .returned (.tuple #[]) ∧ At S w0 w' q (m ++ d) bad := by
  obtain ⟨cs, hcs⟩ : ∃ cs, (d.map byt).toArray = cs := ⟨_, rfl⟩
  have HB := Lib.hid (show Blk (w.alloc (.cells cs 27)) w.heap.size (d.map byt) 27 from Blk.new w _ _ _ hcs.symm)
  have H1 := Lib.hid (H.enter (.cells cs 27))
  have HL := Lib.hid (fun w' m' => @At.leave S w0 w w' q m bad (.cells cs 27) m' bad H)
  have hnw : ¬ Plus S w0 w w.heap.size ∨ True := .inr trivial
  have hql := H.lt
  have hz : (w.alloc (.cells cs 27)).heap.size = w.heap.size + 1 := by simp
  have hd32 : d.length ≤ 32 := by omega
  rw [hcs]
  clear H hcs hnw
  go_enter Tryz.func73, Tryz.ntmps73
  go_upto_region 1 with fail
  generalize (w.alloc (.cells cs 27)) = w1 at *
  obtain ⟨p, h1, h2, h3⟩ := H1.out.drew.opened
  have H2 := Lib.hid h2
  have HQ := Lib.hid h1
  have c0 := h1.cell (i := 0) rfl
  have c1 : w1.cell? ⟨q, 0, none⟩ = some (.pointer (some ⟨p, 0, none⟩)) := c0
  clear h1 h2 h3
  go_still_tail 5, (by kernel_rfl)
  change wpList _ _ _ _ _ w1.drew
  go_wp2_with fail
  refine (raw_calls _ Any w1.drew p m _ d H2.out (((HB.out.byt hd (by unfold maxLen; omega) trivial).drew)) (by omega)).mono ?_
  rintro e w2 ⟨rfl, g1, g2⟩
  have HF := Lib.hid (HL.out _ _ (H1.out.drew.shut HQ.out g1 g2))
  clear g1 g2 HL H1 H2 HB HQ c0 c1
  go_wp2
  go_end0
  exact ⟨rfl, HF.out⟩
end Go.Proofs.YtmenchnjajpkmaaGreat.Ww
end

section
namespace Go.Proofs.YtmenchnjajpkmaaGreat.Rw
open Go Go.RowKit Mem Codec CodecW RfW
set_option linter.unusedVariables false

/-- on the way from w0 on: the writer, its blocks being S's and new ones; nothing else has turned -/
def RAt (S : Nat → Prop) (w0 w : World) (q : Nat) (m : List UInt8) (bad : Bool) : Prop := RefIs (Plus S w0 w) w q m bad ∧ Fr S w0 w ∧ ∀ k, S k → k < w0.heap.size
section
variable {S : Nat → Prop} {w0 w w' : World} {q : Nat} {m : List UInt8} {bad : Bool}
theorem RAt.start (H : RefIs S w q m bad) (hS : ∀ k, S k → k < w.heap.size) : RAt S w w q m bad := ⟨H.mono (fun k _ h => .inl h), Fr.refl _ _, hS⟩
theorem RAt.out (H : RAt S w0 w q m bad) : ∀ k, Plus S w0 w k → k < w.heap.size := fun k h => by
  have h1 := H.2.1.size
  rcases h with h | h
  · have := H.2.2 k h; omega
  · exact h.2
theorem RAt.lt (H : RAt S w0 w q m bad) : q < w.heap.size := H.1.lt
theorem RAt.drew (H : RAt S w0 w q m bad) : RAt S w0 w.drew q m bad := ⟨H.1.drew, H.2.1.drew, H.2.2⟩
/-- what the callee has made for itself is no block of the writer's -/
theorem RAt.enter (H : RAt S w0 w q m bad) (o : Obj) : RAt (Plus S w0 w) (w.alloc o) (w.alloc o) q m bad :=
  RAt.start (H.1.below ((Below.refl _ _).alloc (Nat.le_refl _) _)) (fun k h => by have := H.out k h; simp; omega)
theorem RAt.leave {o : Obj} {m' : List UInt8} {bad' : Bool} (H : RAt S w0 w q m bad) (K : RAt (Plus S w0 w) (w.alloc o) w' q m' bad') : RAt S w0 w' q m' bad' := by
  have h1 := H.2.1.size
  have h2 := K.2.1.size
  have hz : (w.alloc o).heap.size = w.heap.size + 1 := by simp
  refine ⟨K.1.mono (fun k hk h => ?_), H.2.1.trans' (((Fr.refl _ w).alloc o).trans K.2.1) (fun i hi h => ?_), H.2.2⟩
  · rcases h with (h | h) | h
    · exact .inl h
    · exact .inr ⟨h.1, by omega⟩
    · exact .inr ⟨by omega, h.2⟩
  · rcases h with h | h
    · exact h
    · omega
theorem RAt.enter0 (H : RAt S w0 w q m bad) : RAt (Plus S w0 w) w w q m bad := RAt.start H.1 H.out
theorem RAt.leave0 {m' : List UInt8} {bad' : Bool} (H : RAt S w0 w q m bad) (K : RAt (Plus S w0 w) w w' q m' bad') : RAt S w0 w' q m' bad' := by
  have h1 := H.2.1.size
  have h2 := K.2.1.size
  refine ⟨K.1.mono (fun k hk h => ?_), H.2.1.trans' K.2.1 (fun i hi h => ?_), H.2.2⟩
  · rcases h with (h | h) | h
    · exact .inl h
    · exact .inr ⟨h.1, by omega⟩
    · exact .inr ⟨by omega, h.2⟩
  · rcases h with h | h
    · exact h
    · omega
/-- the box that the callee has made stays -/
theorem RAt.box {o : Obj} {m' : List UInt8} {bad' : Bool} {l : List Value} {e : TypeId} (H : RAt S w0 w q m bad) (K : RAt (Plus S w0 w) (w.alloc o) w' q m' bad') (h : Blk (w.alloc o) w.heap.size l e) : Blk w' w.heap.size l e :=
  h.fr K.2.1 (fun h => by have := H.out _ h; omega)
/-- data that lie elsewhere stay -/
theorem RAt.blk {b : Nat} {l : List Value} {e : TypeId} (H : RAt S w0 w q m bad) (h : Blk w0 b l e) (hn : ¬ S b) : Blk w b l e := h.fr H.2.1 hn
theorem RAt.byt {D : Nat → Prop} {v : Value} {l : List UInt8} (H : RAt S w0 w q m bad) (h : Byt D w0 v l) (hn : ∀ k, k < w0.heap.size → D k → ¬ S k) : Byt D w v l := h.fr H.2.1 hn
end
theorem RAt.put {m' : List UInt8} {S : Nat → Prop} {w0 w w' : World} {q : Nat} {m : List UInt8} {bad bad' : Bool} (H : RAt S w0 w q m bad) (h : RefIs (Plus (Plus S w0 w) w w') w' q m' bad') (hf : Fr (Plus S w0 w) w w') : RAt S w0 w' q m' bad' :=
  H.leave0 ⟨h, hf, H.out⟩
theorem RAt.below {S : Nat → Prop} {w0 w w' : World} {q : Nat} {m : List UInt8} {bad : Bool} (H : RAt S w0 w q m bad) (hb : Below w.heap.size w w') : RAt S w0 w' q m bad :=
  H.put (H.1.below hb |>.mono (fun k hk h => .inl h)) (Fr.ofBelowAll hb (Nat.le_refl _))
theorem raw_to (S D : Nat → Prop) (w0 w : World) (q : Nat) (m : List UInt8) (bad : Bool) (v : Value) (b : List UInt8) (H : RAt S w0 w q m bad) (hB : Byt D w v b) (hlen : m.length + b.length ≤ 140737488355328) :
    Calls Tryz.prog 94 #[.pointer (some ⟨q, 0, none⟩), v] w fun e w' => e = .returned (.tuple #[]) ∧ RAt S w0 w' q (m ++ b) bad :=
  (RfW.raw_calls _ D w q m bad v b H.1 hB hlen).mono fun e w' ⟨h1, h2, h3⟩ => ⟨h1, H.put h2 h3⟩
theorem num_to (S : Nat → Prop) (w0 w : World) (q : Nat) (m : List UInt8) (bad : Bool) (n k : Nat) (hn : n < 18446744073709551616) (hk : k ≤ 8) (H : RAt S w0 w q m bad) (hlen : m.length + k ≤ 140737488355328) :
    Calls Tryz.prog 57 #[.pointer (some ⟨q, 0, none⟩), .int .u64 (n : Int), .int .i64 (k : Int)] w fun e w' => e = .returned (.tuple #[]) ∧ RAt S w0 w' q (m ++ num n k) bad :=
  (RfW.num_calls _ w q m bad n k hn hk H.1 hlen).mono fun e w' ⟨h1, h2, h3⟩ => ⟨h1, H.put h2 h3⟩
theorem szD {d : List UInt8} (hd : d.length = 32) : (Tryz.prog.info? 27).map (·.size) = some (d.map byt).length := by rw [List.length_map, hd]; kernel_rfl

set_option maxHeartbeats 4000000 in
set_option maxRecDepth 100000 in
theorem digest_to (S : Nat → Prop) (w0 w : World) (q : Nat) (m : List UInt8) (bad : Bool) (d : List UInt8) (hd : d.length = 32) (H : RAt S w0 w q m bad) (hlen : m.length + 32 ≤ 140737488355328) :
    Calls Tryz.prog 59 #[.pointer (some ⟨q, 0, none⟩), .agg (d.map byt).toArray] w fun e w' => e = .returned (.tuple #[]) ∧ RAt S w0 w' q (m ++ d) bad := by
  obtain ⟨cs, hcs⟩ : ∃ cs, (d.map byt).toArray = cs := ⟨_, rfl⟩
  have HB := Lib.hid (show Blk (w.alloc (.cells cs 27)) w.heap.size (d.map byt) 27 from Blk.new w _ _ _ hcs.symm)
  have H1 := Lib.hid (H.enter (.cells cs 27))
  have HL := Lib.hid (fun w' m' => @RAt.leave S w0 w w' q m bad (.cells cs 27) m' bad H)
  have HS := Lib.hid (szD hd)
  have HC := Lib.hid hcs
  have hz : (w.alloc (.cells cs 27)).heap.size = w.heap.size + 1 := by simp
  rw [hcs]
  clear H hcs
  go_enter Tryz.func59, Tryz.ntmps59
  go_upto_region 1 with fail
  generalize (w.alloc (.cells cs 27)) = w1 at *
  go_wp2_with (first | (with_reducible refine wpList_load_blk rfl _ _ rfl w.heap.size (d.map byt) rfl HB.out _ Tryz.underlying27 rfl HS.out ?_))
  refine (ShaW.text_calls w1 d hd).mono ?_
  rintro e w2 ⟨a, c, rfl, g1, g2⟩
  have H2 := Lib.hid (H1.out.below g2)
  have HO := Lib.hid g1.byt
  have hl2 : d.length ≤ 32 := by omega
  clear g1 g2
  have HO2 := Lib.hid (show Byt Any w2 (.slice a 32 c) d from HO.out.any)
  go_wp2_with fail
  refine (raw_to _ _ _ w2 q m bad _ d H2.out HO2.out (by omega)).mono ?_
  rintro e w3 ⟨rfl, g1⟩
  have HF := Lib.hid (HL.out _ _ g1)
  clear g1 HL H1 H2 HB HC HO HO2
  go_wp2
  go_end0
  exact ⟨rfl, HF.out⟩
end Go.Proofs.YtmenchnjajpkmaaGreat.Rw
end

section
namespace Go.Proofs.YtmenchnjajpkmaaGreat.CodecR
open Go Go.RowKit Mem Codec CodecW

/-- a reader at block q, its bytes in D -/
def ReaderIs (D : Nat → Prop) (w : World) (q : Nat) (r : Rd) : Prop :=
  ∃ a c, Blk w q [.slice a r.rest.length c, .int .i64 r.e] 152 ∧ Byt D w (.slice a r.rest.length c) r.rest ∧ ¬ D q
section
variable {D T : Nat → Prop} {w w' : World} {q : Nat} {r : Rd}
theorem ReaderIs.fr (H : ReaderIs D w q r) (hf : Fr T w w') (hq : ¬ T q) (hn : ∀ k, k < w.heap.size → D k → ¬ T k) : ReaderIs D w' q r := by
  obtain ⟨a, c, h1, h2, h3⟩ := H
  exact ⟨a, c, h1.fr hf hq, h2.fr hf hn, h3⟩
theorem ReaderIs.lt (H : ReaderIs D w q r) : q < w.heap.size := H.choose_spec.choose_spec.1.lt
theorem ReaderIs.below (H : ReaderIs D w q r) (hb : Below w.heap.size w w') : ReaderIs D w' q r := H.fr (Fr.ofBelow hb) (by have := H.lt; omega) (fun k hk _ h => by omega)
end

set_option maxHeartbeats 4000000 in
theorem clone_calls (D : Nat → Prop) (w : World) (v : Value) (l : List UInt8) (hB : Byt D w v l) (hl : l.length ≤ 140737488355328) :
    Calls Tryz.prog 91 #[v] w fun e w' => ∃ a c, e = .returned (.slice a l.length c) ∧ OwnB w.heap.size 5 w' (.slice a l.length c) l ∧ Below w.heap.size w w' := by
  obtain ⟨a, c, rfl, hk, _⟩ := id hB
  have HB := Lib.hid hB
  have ke := fun w a n c n' c' => Lib.run_eql_slice_nil (P := Tryz.prog) w 30 5 a n c n' c' Tryz.underlying30
  clear hB
  cases a with
  | none =>
    have hl0 : l = [] := by
      have := hk.2.2 rfl
      apply List.length_eq_zero_iff.1; omega
    subst hl0
    obtain rfl := hk.2.2 rfl
    go_enter Tryz.func91, Tryz.ntmps91
    go_wp2
    go_ret
    exact ⟨none, 0, rfl, OwnB.nil _ _ _, Below.refl _ _⟩
  | some a =>
    have hO : OwnB w.heap.size 5 (w.alloc (.cells #[] 5)) (.slice (some ⟨w.heap.size, 0, none⟩) 0 0) [] := World.ownsRow_lit w #[] 0 (Nat.le_refl _) (Nat.zero_le _) rfl
    have hz : Below w.heap.size w (w.alloc (.cells #[] 5)) := (Below.refl _ _).alloc (Nat.le_refl _) _
    have HO := Lib.hid hO
    have HZ := Lib.hid hz
    clear hO hz
    go_enter Tryz.func91, Tryz.ntmps91
    go_wp2_with (at_builtin; refine wpList_append_byt _ rfl (.tmp 5) (.tmp 6) 30 rfl w.heap.size 5 elemB _ [] rfl HO.out _ l rfl (HB.out.below HZ.out) (by simp; omega) (by simp) ?_)
    intro va vc w2 o1 o2 o3
    have HZ2 := Lib.hid (HZ.out.grown o2 (by simp) (fun k hk => (HO.out.lt k hk).1))
    have HO2 := Lib.hid o1
    clear o1 o2 o3 HO HZ
    go_wp2
    go_ret
    exact ⟨va, vc, rfl, HO2.out, HZ2.out⟩
set_option maxHeartbeats 4000000 in
theorem bytes_calls (S : Nat → Prop) (w : World) (q : Nat) (m : List UInt8) (H : WriterIs S w q m) (hl : m.length ≤ 140737488355328) :
    Calls Tryz.prog 53 #[.pointer (some ⟨q, 0, none⟩)] w fun e w' => ∃ a c, e = .returned (.slice a m.length c) ∧ OwnB w.heap.size 5 w' (.slice a m.length c) m ∧ Below w.heap.size w w' := by
  obtain ⟨a, c, h1, h2, h3, h4, h5⟩ := H.opened
  have c0 := h1.cell (i := 0) rfl
  have H2 := Lib.hid h2.byt
  clear h1 h2 h3 h4 H
  go_enter Tryz.func53, Tryz.ntmps53
  go_wp2_with fail
  refine (clone_calls _ w _ m H2.out hl).mono ?_
  rintro e w2 ⟨x, y, rfl, g1, g2⟩
  have G1 := Lib.hid g1
  have G2 := Lib.hid g2
  clear g1 g2 c0
  go_wp2
  go_ret
  exact ⟨x, y, rfl, G1.out, G2.out⟩
set_option maxHeartbeats 4000000 in
theorem read_calls (D : Nat → Prop) (w : World) (v : Value) (l : List UInt8) (hB : Byt D w v l) (hl : l.length ≤ 140737488355328) :
    Calls Tryz.prog 60 #[v] w fun e w' => ∃ q, e = .returned (.pointer (some ⟨q, 0, none⟩)) ∧ w.heap.size ≤ q ∧ ReaderIs (fun k => w.heap.size ≤ k ∧ k < q) w' q ⟨l, 0⟩ ∧ Below w.heap.size w w' := by
  obtain ⟨a, c, rfl, hk, _⟩ := id hB
  have HB := Lib.hid hB
  clear hB
  go_enter Tryz.func60, Tryz.ntmps60
  go_wp2_with fail
  refine (clone_calls D w _ l HB.out hl).mono ?_
  rintro e w2 ⟨x, y, rfl, g1, g2⟩
  have hz := g2.size
  have G := Lib.hid (show ReaderIs (fun k => w.heap.size ≤ k ∧ k < w2.heap.size) (w2.alloc (.cells #[.slice x l.length y, .int .i64 0] 152)) w2.heap.size ⟨l, 0⟩ from
    ⟨x, y, Blk.new _ _ _ _ rfl, ((g1.byt.lt).mono (fun k _ h => ⟨h.2.2, h.1⟩)).below ((Below.refl _ w2).alloc (Nat.le_refl _) _), by omega⟩)
  have G2 := Lib.hid (g2.alloc g2.size (.cells #[.slice x l.length y, .int .i64 0] 152))
  clear g1 g2
  go_wp2
  go_ret
  exact ⟨_, rfl, hz, G.out, G2.out⟩
theorem ReaderIs.setE {D : Nat → Prop} {w : World} {q : Nat} {a : Option Addr} {c : Nat} {l : List UInt8} {e : Int} (h1 : Blk w q [.slice a l.length c, .int .i64 e] 152) (h2 : Byt D w (.slice a l.length c) l) (h3 : ¬ D q) (e2 : Int) :
    ReaderIs D (w.setCell ⟨q, 1, none⟩ (.int .i64 e2)) q ⟨l, e2⟩ ∧ Fr (fun k => k = q) w (w.setCell ⟨q, 1, none⟩ (.int .i64 e2)) := by
  have hf : Fr (fun k => k = q) w (w.setCell ⟨q, 1, none⟩ (.int .i64 e2)) := (Fr.refl (fun k => k = q) w).setCell (p := ⟨q, 1, none⟩) (.inr rfl) _
  exact ⟨⟨a, c, h1.set 1 _, h2.fr hf (fun k _ hd e => h3 (e ▸ hd)), h3⟩, hf⟩
theorem ReaderIs.setB {D : Nat → Prop} {w : World} {q : Nat} {v0 : Value} {a : Option Addr} {n c : Nat} {l : List UInt8} {e : Int} (h1 : Blk w q [v0, .int .i64 e] 152) (h2 : Byt D w (.slice a n c) l) (hn : n = l.length) (h3 : ¬ D q) :
    ReaderIs D (w.setCell ⟨q, 0, none⟩ (.slice a n c)) q ⟨l, e⟩ ∧ Fr (fun k => k = q) w (w.setCell ⟨q, 0, none⟩ (.slice a n c)) := by
  subst hn
  have hf : Fr (fun k => k = q) w (w.setCell ⟨q, 0, none⟩ (.slice a l.length c)) := (Fr.refl (fun k => k = q) w).setCell (p := ⟨q, 0, none⟩) (.inr rfl) _
  exact ⟨⟨a, c, h1.set 0 _, h2.fr hf (fun k _ hd e => h3 (e ▸ hd)), h3⟩, hf⟩
/-- what take hands back -/
def TakeRet (D : Nat → Prop) (q : Nat) (x : Rd × List UInt8) (w : World) (e : Ending) (w' : World) : Prop :=
  ∃ v u, e = .returned (.tuple #[v, u]) ∧ Byt D w' v x.2 ∧ ReaderIs D w' q x.1 ∧ Fr (fun k => k = q) w w'
set_option maxHeartbeats 4000000 in
theorem take_calls (D : Nat → Prop) (w : World) (q : Nat) (r : Rd) (n : Nat) (H : ReaderIs D w q r) (_ : n < 9223372036854775808) :
    Calls Tryz.prog 118 #[.pointer (some ⟨q, 0, none⟩), .int .i64 n] w fun e w' => TakeRet D q (r.take n) w e w' := by
  obtain ⟨l, e⟩ := r
  obtain ⟨a, c, h1, h2, h3⟩ := H
  have c0 := h1.cell (i := 0) rfl
  have c1 := h1.cell (i := 1) rfl
  have f0 := h1.free 0
  have f1 := h1.free 1
  dsimp only at c0 c1 h1 h2
  have H1 := Lib.hid h1
  have H2 := Lib.hid h2
  have H3 := Lib.hid h3
  clear h1 h3
  by_cases he : e = 0
  · subst he
    by_cases hl : l.length < n
    · have ht : Rd.take ⟨l, 0⟩ n = (⟨l, 110⟩, []) := by simp [Rd.take, hl]
      rw [ht]
      have G := Lib.hid (ReaderIs.setE H1.out H2.out H3.out 110)
      have hz : (l.length : Int) < (n : Int) := by omega
      clear h2
      go_enter Tryz.func118, Tryz.ntmps118
      go_wp2
      go_ret2
      exact ⟨.slice none 0 0, .bool false, rfl, Byt.nil _ _, G.out.1, G.out.2⟩
    · have ht : Rd.take ⟨l, 0⟩ n = (⟨l.drop n, 0⟩, l.take n) := by simp [Rd.take, hl]
      rw [ht]
      obtain ⟨sa, scap, hs2, hs3⟩ := run_slice_hi elemB h2 n (by omega)
      obtain ⟨sb, sbc, ht2, ht3⟩ := run_slice_lo elemB h2 n (by omega)
      have hz : ¬ ((l.length : Int) < (n : Int)) := by omega
      have HS3 := Lib.hid hs3
      have G := Lib.hid (ReaderIs.setB H1.out ht3 (by simp) H3.out)
      clear h2 ht3 hs3
      go_enter Tryz.func118, Tryz.ntmps118
      go_wp2
      go_ret2
      exact ⟨.slice sa n scap, .bool true, rfl, HS3.out.fr G.out.2 (fun k _ hd e => H3.out (e ▸ hd)), G.out.1, G.out.2⟩
  · have hb : (e == 0) = false := by simpa using he
    have hb2 : (e != 0) = true := by simpa using he
    have ht : Rd.take ⟨l, e⟩ n = (⟨l, e⟩, []) := by simp [Rd.take, he]
    rw [ht]
    have G := Lib.hid (show ReaderIs D w q ⟨l, e⟩ from ⟨a, c, H1.out, H2.out, H3.out⟩)
    clear h2
    go_enter Tryz.func118, Tryz.ntmps118
    go_wp2
    go_ret2
    exact ⟨.slice none 0 0, .bool false, rfl, Byt.nil _ _, G.out, Fr.refl _ _⟩
theorem said_step (y : Nat) (c : UInt8) : bits .or .u64 (IntKind.u64.wrap ((y : Int) * 256)) (IntKind.u64.wrap (c.toNat : Int)) = (((256 * y + c.toNat) % 18446744073709551616 : Nat) : Int) := by
  have hc := c.toNat_lt
  have e1 : IntKind.u64.wrap ((y : Int) * 256) = (((y % 72057594037927936) * 256 : Nat) : Int) := by rw [IntKind.wrap_u64]; omega
  have e2 : IntKind.u64.wrap (c.toNat : Int) = (c.toNat : Int) := by rw [IntKind.wrap_u64]; omega
  rw [e1, e2, u64_or_nat _ _ (by omega) (by omega)]
  have h := Nat.shiftLeft_add_eq_or_of_lt (i := 8) (b := c.toNat) (by omega) (y % 72057594037927936)
  rw [Nat.shiftLeft_eq] at h
  rw [show (2 : Nat) ^ 8 = 256 from rfl] at h
  rw [← h]
  omega
set_option maxHeartbeats 4000000 in
theorem high_calls (D : Nat → Prop) (w : World) (q : Nat) (r : Rd) (n : Nat) (H : ReaderIs D w q r) (hn : n < 9223372036854775808) :
    Calls Tryz.prog 98 #[.pointer (some ⟨q, 0, none⟩), .int .i64 n] w fun e w' => e = .returned (.int .u64 ((r.num n).2 : Int)) ∧ ReaderIs D w' q (r.num n).1 ∧ Fr (fun k => k = q) w w' := by
  have H0 := Lib.hid H
  clear H
  go_enter Tryz.func98, Tryz.ntmps98
  go_wp2_with fail
  refine (take_calls D w q r n H0.out hn).mono ?_
  rintro e w2 ⟨v, u, rfl, g1, g2, g3⟩
  have hr1 : (r.num n).1 = (r.take n).1 := rfl
  have hr2 : (r.num n).2 = said (r.take n).2 := rfl
  obtain ⟨l, hl⟩ : ∃ l, (r.take n).2 = l := ⟨_, rfl⟩
  rw [hl] at g1 hr2
  rw [← hr1] at g2
  have HR := Lib.hid hr2
  obtain ⟨a, c, rfl, hk, hx⟩ := id g1
  have HX := Lib.hid hx
  have G2 := Lib.hid g2
  have G3 := Lib.hid g3
  clear g1 g2 g3 hr1 hr2 hl hx H0
  go_wp2
  go_loop [7, 18] (fun x i => ∃ k : Nat, k ≤ l.length ∧ i = .int .i64 k ∧ x = .int .u64 (said (l.take k) : Nat)) (fun _ i => l.length - (intOf i).toNat)
  case atStart => exact ⟨0, by omega, rfl, rfl⟩
  case round =>
    obtain ⟨k, hk2, rfl, rfl⟩ := hrel
    by_cases hlt : k < l.length
    · obtain ⟨b, off, rfl, _, hly⟩ := HX.out.resolve_left (by rintro rfl; simp at hlt)
      have c0 := hly k hlt
      have hsn : said (l.take (k + 1)) = (256 * said (l.take k) + (l[k]'hlt).toNat) % 18446744073709551616 := by
        rw [List.take_add_one, List.getElem?_eq_getElem hlt]; exact said_snoc _ _
      have hsl := said_lt (l.take k)
      have HSN := Lib.hid hsn
      clear hly hsn
      generalize said (l.take k) = y at *
      generalize l[k] = cc at *
      have hkm : k + 1 ≤ 9223372036854775807 := by
        have h1 := hk.1
        have h2 := hk.2.1
        unfold maxLen at h2
        omega
      go_wp2
      go_round
      case rel => exact ⟨k + 1, by omega, by go_num, by rw [HSN.out, ← said_step]⟩
      case measure => simp [intOf]; omega
    · obtain rfl : k = l.length := by omega
      go_wp2
      go_ret
      exact ⟨by rw [HR.out]; rfl, G2.out, G3.out⟩
theorem num_lt (r : Rd) (n : Nat) : (r.num n).2 < 18446744073709551616 := said_lt _
theorem num1_lt (r : Rd) : (r.num 1).2 < 256 := by
  have h : (r.take 1).2.length ≤ 1 := by
    unfold Rd.take
    split
    · simp
    · split
      · simp
      · simp; omega
  refine Nat.lt_of_lt_of_le (said_bound _ (by omega)) ?_
  exact Nat.pow_le_pow_right (n := 256) (by omega) h
set_option maxHeartbeats 4000000 in
set_option maxRecDepth 100000 in
theorem var_calls (D : Nat → Prop) (w : World) (q : Nat) (r : Rd) (most : Nat) (H : ReaderIs D w q r) (_ : most < 18446744073709551616) :
    Calls Tryz.prog 125 #[.pointer (some ⟨q, 0, none⟩), .int .u64 most] w fun e w' => e = .returned (.int .u64 ((r.var most).2 : Int)) ∧ ReaderIs D w' q (r.var most).1 ∧ Fr (fun k => k = q) w w' := by
  obtain ⟨a, c, h1, h2, h3⟩ := id H
  have c0 := h1.cell (i := 0) rfl
  have H0 := Lib.hid H
  have H2 := Lib.hid h2
  have H3 := Lib.hid h3
  clear H h1 h2 h3
  go_enter Tryz.func125, Tryz.ntmps125
  go_wp2_with fail
  refine (high_calls D w q r 1 H0.out (by omega)).mono ?_
  rintro e w2 ⟨rfl, g1, g2⟩
  have G1 := Lib.hid g1
  have G2 := Lib.hid g2
  have hc1 := num1_lt r
  clear g1 g2 H0 c0
  obtain ⟨cc, hcc⟩ : ∃ cc, (r.num 1).2 = cc := ⟨_, rfl⟩
  rw [hcc] at hc1 ⊢
  have HCC := Lib.hid hcc
  clear hcc
  go_upto_block 0 with fail
  go_cut [6, 7] (fun x y wx => ∃ nn least : Nat, x = .int .u64 nn ∧ y = .int .u64 least ∧ (r.num 1).1.more (r.num 1).2 = (((r.num 1).1.more (r.num 1).2).1, nn, least) ∧ nn < 18446744073709551616 ∧ ReaderIs D wx q ((r.num 1).1.more (r.num 1).2).1 ∧ Fr (fun k => k = q) w wx)
  case first =>
    by_cases h253 : cc = 253
    · subst h253
      go_wp2_with fail
      refine (high_calls D w2 q _ 2 G1.out (by omega)).mono ?_
      rintro e w3 ⟨rfl, g1, g2⟩
      have HM := Lib.hid (show (r.num 1).1.more (r.num 1).2 = (((r.num 1).1.num 2).1, ((r.num 1).1.num 2).2, 253) by rw [HCC.out]; rfl)
      have G3 := Lib.hid g1
      have G4 := Lib.hid (G2.out.trans g2)
      clear g1 g2
      go_wp2_with fail
      go_meet
      case rel => exact ⟨_, _, rfl, rfl, by rw [HM.out], num_lt _ _, by rw [HM.out]; exact G3.out, G4.out⟩
    by_cases h254 : cc = 254
    · subst h254
      go_wp2_with fail
      refine (high_calls D w2 q _ 4 G1.out (by omega)).mono ?_
      rintro e w3 ⟨rfl, g1, g2⟩
      have HM := Lib.hid (show (r.num 1).1.more (r.num 1).2 = (((r.num 1).1.num 4).1, ((r.num 1).1.num 4).2, 65536) by rw [HCC.out]; rfl)
      have G3 := Lib.hid g1
      have G4 := Lib.hid (G2.out.trans g2)
      clear g1 g2
      go_wp2_with fail
      go_meet
      case rel => exact ⟨_, _, rfl, rfl, by rw [HM.out], num_lt _ _, by rw [HM.out]; exact G3.out, G4.out⟩
    by_cases h255 : cc = 255
    · subst h255
      go_wp2_with fail
      refine (high_calls D w2 q _ 8 G1.out (by omega)).mono ?_
      rintro e w3 ⟨rfl, g1, g2⟩
      have HM := Lib.hid (show (r.num 1).1.more (r.num 1).2 = (((r.num 1).1.num 8).1, ((r.num 1).1.num 8).2, 4294967296) by rw [HCC.out]; rfl)
      have G3 := Lib.hid g1
      have G4 := Lib.hid (G2.out.trans g2)
      clear g1 g2
      go_wp2_with fail
      go_meet
      case rel => exact ⟨_, _, rfl, rfl, by rw [HM.out], num_lt _ _, by rw [HM.out]; exact G3.out, G4.out⟩
    · have hb1 : ((cc : Int) == 253) = false := by simp; omega
      have hb2 : ((cc : Int) == 254) = false := by simp; omega
      have hb3 : ((cc : Int) == 255) = false := by simp; omega
      have HM := Lib.hid (show (r.num 1).1.more (r.num 1).2 = ((r.num 1).1, cc, 0) by rw [HCC.out]; unfold Rd.more; rw [if_neg h253, if_neg h254, if_neg h255])
      go_wp2_with fail
      go_meet
      case rel => exact ⟨cc, 0, rfl, rfl, by rw [HM.out], by omega, by rw [HM.out]; exact G1.out, G2.out⟩
  case rest =>
    obtain ⟨nn, least, rfl, rfl, hmm, hnn, hR, hF⟩ := hcut
    obtain ⟨s, hs⟩ : ∃ s, ((r.num 1).1.more (r.num 1).2).1 = s := ⟨_, rfl⟩
    rw [hs] at hR hmm
    have hv : r.var most = if s.e ≠ 0 then (⟨r.rest, s.e⟩, 0) else if nn < least then (⟨r.rest, 111⟩, 0) else if most < nn then (⟨r.rest, 112⟩, 0) else (s, nn) := by
      unfold Rd.var
      rw [hmm]
    have HV := Lib.hid hv
    have HF := Lib.hid hF
    have HR := Lib.hid hR
    clear hv hmm hs hF HCC
    obtain ⟨l, e⟩ := s
    obtain ⟨a2, c2, h1, h2, h3⟩ := hR
    dsimp only at h1 h2 HV
    have c0 := h1.cell (i := 0) rfl
    have c1 := h1.cell (i := 1) rfl
    have f0 := h1.free 0
    have f1 := h1.free 1
    have H1 := Lib.hid h1
    have HB := Lib.hid (H2.out.fr HF.out (fun k _ hd e => H3.out (e ▸ hd)))
    clear h1 h2 h3
    by_cases he : e = 0
    · subst he
      by_cases hl : nn < least
      · have HT := Lib.hid (show r.var most = (⟨r.rest, 111⟩, 0) by rw [HV.out]; simp [hl])
        have hE := H1.out.set 1 (.int .i64 111)
        have hF2 : Fr (fun k => k = q) wc (wc.setCell ⟨q, 1, none⟩ (.int .i64 111)) := (Fr.refl (fun k => k = q) wc).setCell (p := ⟨q, 1, none⟩) (.inr rfl) _
        have G := Lib.hid (ReaderIs.setB hE (HB.out.fr hF2 (fun k _ hd e => H3.out (e ▸ hd))) rfl H3.out)
        have GF := Lib.hid ((HF.out.trans hF2).trans G.out.2)
        clear hE hF2
        go_wp2
        go_ret
        exact ⟨by rw [HT.out]; rfl, by rw [HT.out]; exact G.out.1, GF.out⟩
      · by_cases hl2 : most < nn
        · have HT := Lib.hid (show r.var most = (⟨r.rest, 112⟩, 0) by rw [HV.out]; simp [hl, hl2])
          have hE := H1.out.set 1 (.int .i64 112)
          have hF2 : Fr (fun k => k = q) wc (wc.setCell ⟨q, 1, none⟩ (.int .i64 112)) := (Fr.refl (fun k => k = q) wc).setCell (p := ⟨q, 1, none⟩) (.inr rfl) _
          have G := Lib.hid (ReaderIs.setB hE (HB.out.fr hF2 (fun k _ hd e => H3.out (e ▸ hd))) rfl H3.out)
          have GF := Lib.hid ((HF.out.trans hF2).trans G.out.2)
          have hz : ¬ ((nn : Int) < (least : Int)) := by omega
          clear hE hF2
          go_wp2
          go_ret
          exact ⟨by rw [HT.out]; rfl, by rw [HT.out]; exact G.out.1, GF.out⟩
        · have HT := Lib.hid (show r.var most = (⟨l, 0⟩, nn) by rw [HV.out]; simp [hl, hl2])
          have hz : ¬ ((nn : Int) < (least : Int)) := by omega
          have hz2 : ¬ ((most : Int) < (nn : Int)) := by omega
          go_wp2
          go_ret
          exact ⟨by rw [HT.out]; rfl, by rw [HT.out]; exact HR.out, HF.out⟩
    · have hb2 : (e != 0) = true := by simpa using he
      have HT := Lib.hid (show r.var most = (⟨r.rest, e⟩, 0) by rw [HV.out]; simp [he])
      have G := Lib.hid (ReaderIs.setB H1.out HB.out rfl H3.out)
      have GF := Lib.hid (HF.out.trans G.out.2)
      go_wp2
      go_ret
      exact ⟨by rw [HT.out]; rfl, by rw [HT.out]; exact G.out.1, GF.out⟩
theorem num4_lt (r : Rd) : (r.num 4).2 < 4294967296 := by
  have h : (r.take 4).2.length ≤ 4 := by
    unfold Rd.take
    split
    · simp
    · split
      · simp
      · simp; omega
  refine Nat.lt_of_lt_of_le (said_bound _ (by omega)) ?_
  exact Nat.pow_le_pow_right (n := 256) (by omega) h
set_option maxHeartbeats 4000000 in
theorem byte_calls (D : Nat → Prop) (w : World) (q : Nat) (r : Rd) (H : ReaderIs D w q r) :
    Calls Tryz.prog 109 #[.pointer (some ⟨q, 0, none⟩)] w fun e w' => e = .returned (.int .u8 ((r.num 1).2 : Int)) ∧ ReaderIs D w' q (r.num 1).1 ∧ Fr (fun k => k = q) w w' := by
  have hb : (r.num 1).2 < 256 := num1_lt r
  have H0 := Lib.hid H
  clear H
  go_enter Tryz.func109, Tryz.ntmps109
  go_wp2_with fail
  refine (high_calls D w q r 1 H0.out (by omega)).mono ?_
  rintro e w2 ⟨rfl, g1, g2⟩
  have G1 := Lib.hid g1
  have G2 := Lib.hid g2
  clear g1 g2
  obtain ⟨y, hy⟩ : ∃ y, (r.num 1).2 = y := ⟨_, rfl⟩
  have HY := Lib.hid hy
  rw [hy] at hb ⊢
  clear hy
  go_wp2
  go_ret
  exact ⟨by rw [HY.out]; rfl, G1.out, G2.out⟩
set_option maxHeartbeats 4000000 in
theorem long_calls (D : Nat → Prop) (w : World) (q : Nat) (r : Rd) (H : ReaderIs D w q r) :
    Calls Tryz.prog 62 #[.pointer (some ⟨q, 0, none⟩)] w fun e w' => e = .returned (.int .u64 ((r.num 8).2 : Int)) ∧ ReaderIs D w' q (r.num 8).1 ∧ Fr (fun k => k = q) w w' := by
  have hb : (r.num 8).2 < 18446744073709551616 := num_lt r 8
  have H0 := Lib.hid H
  clear H
  go_enter Tryz.func62, Tryz.ntmps62
  go_wp2_with fail
  refine (high_calls D w q r 8 H0.out (by omega)).mono ?_
  rintro e w2 ⟨rfl, g1, g2⟩
  have G1 := Lib.hid g1
  have G2 := Lib.hid g2
  clear g1 g2
  obtain ⟨y, hy⟩ : ∃ y, (r.num 8).2 = y := ⟨_, rfl⟩
  have HY := Lib.hid hy
  rw [hy] at hb ⊢
  clear hy
  go_wp2
  go_ret
  exact ⟨by rw [HY.out]; rfl, G1.out, G2.out⟩
set_option maxHeartbeats 4000000 in
theorem end_calls (D : Nat → Prop) (w : World) (q : Nat) (r : Rd) (H : ReaderIs D w q r) :
    Calls Tryz.prog 61 #[.pointer (some ⟨q, 0, none⟩)] w fun e w' => e = .returned (.int .i64 r.fin) ∧ w = w' := by
  obtain ⟨l, e⟩ := r
  obtain ⟨a, c, h1, h2, h3⟩ := H
  dsimp only at h1
  have c0 := h1.cell (i := 0) rfl
  have c1 := h1.cell (i := 1) rfl
  clear h1 h2 h3
  by_cases he : e = 0
  · subst he
    by_cases hl : 0 < l.length
    · have ht : Rd.fin ⟨l, 0⟩ = 113 := by unfold Rd.fin; rw [if_pos ⟨rfl, hl⟩]
      rw [ht]
      have hz : (0 : Int) < (l.length : Int) := by omega
      go_enter Tryz.func61, Tryz.ntmps61
      go_wp2
      go_ret
      exact ⟨rfl, rfl⟩
    · have ht : Rd.fin ⟨l, 0⟩ = 0 := by unfold Rd.fin; rw [if_neg (fun h => hl h.2)]
      rw [ht]
      have hz : ¬ ((0 : Int) < (l.length : Int)) := by omega
      go_enter Tryz.func61, Tryz.ntmps61
      go_wp2
      go_ret
      exact ⟨rfl, rfl⟩
  · have ht : Rd.fin ⟨l, e⟩ = e := by unfold Rd.fin; rw [if_neg (fun h => he h.1)]
    rw [ht]
    have hb : (e == 0) = false := by simpa using he
    go_enter Tryz.func61, Tryz.ntmps61
    go_wp2
    go_ret
    exact ⟨rfl, rfl⟩
set_option maxHeartbeats 4000000 in
theorem fail_calls (D : Nat → Prop) (w : World) (q : Nat) (r : Rd) (x : Int) (H : ReaderIs D w q r) :
    Calls Tryz.prog 122 #[.pointer (some ⟨q, 0, none⟩), .int .i64 x] w fun e w' => e = .returned (.tuple #[]) ∧ ReaderIs D w' q (r.fail x) ∧ Fr (fun k => k = q) w w' := by
  obtain ⟨l, e⟩ := r
  have HR := Lib.hid H
  obtain ⟨a, c, h1, h2, h3⟩ := H
  dsimp only at h1 h2
  have c1 := h1.cell (i := 1) rfl
  have f1 := h1.free 1
  by_cases he : e = 0
  · subst he
    have ht : Rd.fail ⟨l, 0⟩ x = ⟨l, x⟩ := by unfold Rd.fail; rw [if_pos rfl]
    rw [ht]
    have G := Lib.hid (ReaderIs.setE h1 h2 h3 x)
    clear h1 h2 h3
    go_enter Tryz.func122, Tryz.ntmps122
    go_wp2
    go_end0
    exact ⟨rfl, G.out.1, G.out.2⟩
  · have ht : Rd.fail ⟨l, e⟩ x = ⟨l, e⟩ := by unfold Rd.fail; rw [if_neg he]
    rw [ht]
    have hb : (e == 0) = false := by simpa using he
    clear h1 h2 h3
    go_enter Tryz.func122, Tryz.ntmps122
    go_wp2
    go_end0
    exact ⟨rfl, HR.out, Fr.refl _ _⟩
theorem var_lt (r : Rd) (most : Nat) : (r.var most).2 ≤ most := by
  unfold Rd.var
  dsimp only
  split
  · exact Nat.zero_le _
  · split
    · exact Nat.zero_le _
    · split
      · exact Nat.zero_le _
      · rename_i h; exact Nat.le_of_not_lt h
theorem room_le (r : Rd) (most : Int) (h : most < 9223372036854775808) : (r.room most).2 < 9223372036854775808 := by
  unfold Rd.room
  dsimp only
  split
  · simp
  · have := var_lt r most.toNat
    omega
set_option maxHeartbeats 4000000 in
set_option maxRecDepth 100000 in
theorem room_calls (D : Nat → Prop) (w : World) (q : Nat) (r : Rd) (most : Int) (H : ReaderIs D w q r) (h1 : -9223372036854775808 ≤ most) (h2 : most < 9223372036854775808) :
    Calls Tryz.prog 116 #[.pointer (some ⟨q, 0, none⟩), .int .i64 most] w fun e w' => e = .returned (.int .u64 ((r.room most).2 : Int)) ∧ ReaderIs D w' q (r.room most).1 ∧ Fr (fun k => k = q) w w' := by
  obtain ⟨a, c, g1, g2, g3⟩ := id H
  have c0 := g1.cell (i := 0) rfl
  have H0 := Lib.hid H
  have H2 := Lib.hid g2
  have H3 := Lib.hid g3
  clear H g1 g2 g3
  by_cases hm : most < 0
  · have HT := Lib.hid (show r.room most = if (r.var 0).1.e = 0 then (⟨r.rest, 112⟩, 0) else r.var 0 by
      unfold Rd.room
      rw [show most.toNat = 0 from by omega]
      dsimp only
      by_cases he : (r.var 0).1.e = 0
      · rw [if_pos he, if_pos ⟨hm, he⟩]
      · rw [if_neg he, if_neg (fun h => he h.2)])
    go_enter Tryz.func116, Tryz.ntmps116
    go_wp2_with fail
    refine (var_calls D w q r 0 H0.out (by omega)).mono ?_
    rintro e w2 ⟨rfl, g1, g2⟩
    have HR := Lib.hid g1
    have HF := Lib.hid g2
    clear c0
    obtain ⟨nn, hnn⟩ : ∃ nn, (r.var 0).2 = nn := ⟨_, rfl⟩
    obtain ⟨s, hs⟩ : ∃ s, (r.var 0).1 = s := ⟨_, rfl⟩
    rw [hs] at g1
    rw [hs] at HR
    have HVV := Lib.hid (show r.var 0 = (s, nn) from Prod.ext hs hnn)
    rw [HVV.out] at HT
    clear g2 H0 hs
    rw [hnn]
    clear hnn
    obtain ⟨l, e⟩ := s
    obtain ⟨a2, c2, x1, x2, x3⟩ := g1
    dsimp only at x1 HT
    have c0 := x1.cell (i := 0) rfl
    have c1 := x1.cell (i := 1) rfl
    have f0 := x1.free 0
    have f1 := x1.free 1
    have X1 := Lib.hid x1
    have HB := Lib.hid (H2.out.fr HF.out (fun k _ hd e => H3.out (e ▸ hd)))
    clear x1 x2 x3
    by_cases he : e = 0
    · subst he
      have hE := X1.out.set 1 (.int .i64 112)
      have hF2 : Fr (fun k => k = q) w2 (w2.setCell ⟨q, 1, none⟩ (.int .i64 112)) := (Fr.refl (fun k => k = q) w2).setCell (p := ⟨q, 1, none⟩) (.inr rfl) _
      have G := Lib.hid (ReaderIs.setB hE (HB.out.fr hF2 (fun k _ hd e => H3.out (e ▸ hd))) rfl H3.out)
      have GF := Lib.hid ((HF.out.trans hF2).trans G.out.2)
      clear hE hF2
      go_wp2
      go_ret
      exact ⟨by rw [HT.out]; rfl, by rw [HT.out]; exact G.out.1, GF.out⟩
    · have hb2 : (e == 0) = false := by simpa using he
      have HT2 := Lib.hid (show r.room most = (⟨l, e⟩, nn) by rw [HT.out, if_neg he])
      go_wp2
      go_ret
      exact ⟨by rw [HT2.out]; rfl, by rw [HT2.out]; exact HR.out, HF.out⟩
  · obtain ⟨n, rfl⟩ : ∃ n : Nat, most = (n : Int) := ⟨most.toNat, by omega⟩
    have HT := Lib.hid (show r.room (n : Int) = r.var n by
      unfold Rd.room
      rw [show (n : Int).toNat = n from by omega]
      dsimp only
      rw [if_neg (fun h => hm h.1)])
    have hz : (0 : Int) ≤ (n : Int) := by omega
    have hd : decide ((n : Int) < 0) = false := by simp
    go_enter Tryz.func116, Tryz.ntmps116
    go_wp2_with fail
    refine (var_calls D w q r n H0.out (by omega)).mono ?_
    rintro e w2 ⟨rfl, g1, g2⟩
    have HR := Lib.hid g1
    have HF := Lib.hid g2
    clear c0 g1 g2 H0
    obtain ⟨nn, hnn⟩ : ∃ nn, (r.var n).2 = nn := ⟨_, rfl⟩
    rw [hnn]
    have HN := Lib.hid hnn
    clear hnn h1 h2
    go_wp2
    go_ret
    exact ⟨by rw [HT.out, HN.out]; rfl, by rw [HT.out]; exact HR.out, HF.out⟩
set_option maxHeartbeats 4000000 in
theorem raw_r_calls (D : Nat → Prop) (w : World) (q : Nat) (r : Rd) (n : Int) (H : ReaderIs D w q r) (h1 : -9223372036854775808 ≤ n) (h2 : n < 9223372036854775808) (hl : r.rest.length ≤ 140737488355328) :
    Calls Tryz.prog 104 #[.pointer (some ⟨q, 0, none⟩), .int .i64 n] w fun e w' => ∃ a c, e = .returned (.slice a (r.raw n).2.length c) ∧ OwnB w.heap.size 5 w' (.slice a (r.raw n).2.length c) (r.raw n).2 ∧ ReaderIs D w' q (r.raw n).1 ∧ Fr (fun k => k = q) w w' := by
  have H0 := Lib.hid H
  clear H
  by_cases hn : n < 0
  · have ht : r.raw n = (r.fail 112, []) := by unfold Rd.raw; rw [if_pos hn]
    rw [ht]
    go_enter Tryz.func104, Tryz.ntmps104
    go_wp2_with fail
    refine (fail_calls D w q r 112 H0.out).mono ?_
    rintro e w2 ⟨rfl, g1, g2⟩
    have HR := Lib.hid g1
    have HF := Lib.hid g2
    clear g1 g2 H0
    go_wp2
    go_ret
    exact ⟨none, 0, rfl, OwnB.nil _ _ _, HR.out, HF.out⟩
  · obtain ⟨m, rfl⟩ : ∃ m : Nat, n = (m : Int) := ⟨n.toNat, by omega⟩
    have ht : r.raw (m : Int) = r.take m := by unfold Rd.raw; rw [if_neg hn, show (m : Int).toNat = m from by omega]
    rw [ht]
    have hz : ¬ ((m : Int) < 0) := by omega
    have hlt : (r.take m).2.length ≤ 140737488355328 := by
      unfold Rd.take
      split
      · simp
      · split
        · simp
        · simp; omega
    go_enter Tryz.func104, Tryz.ntmps104
    go_wp2_with fail
    refine (take_calls D w q r m H0.out (by omega)).mono ?_
    rintro e w2 ⟨v, u, rfl, g0, g1, g2⟩
    have HR := Lib.hid g1
    have HF := Lib.hid g2
    have HV := Lib.hid g0
    have hs := g2.size
    clear g0 g1 g2 H0 ht
    obtain ⟨x, hx⟩ : ∃ x, r.take m = x := ⟨_, rfl⟩
    rw [hx] at HR HV hlt
    have HX := Lib.hid hx
    clear hx
    go_wp2_with fail
    refine (clone_calls D w2 v x.2 HV.out hlt).mono ?_
    rintro e w3 ⟨a, c, rfl, g1, g2⟩
    have G1 := Lib.hid (g1.mono hs)
    have G2 := Lib.hid (HR.out.below g2)
    have G3 := Lib.hid (HF.out.trans (Fr.ofBelowAll g2 (Nat.le_refl _)))
    clear g1 g2
    go_wp2
    go_ret
    exact ⟨a, c, by rw [HX.out]; rfl, by rw [HX.out]; exact G1.out, by rw [HX.out]; exact G2.out, G3.out⟩
theorem Rd.take_len (r : Rd) (n : Nat) : (r.take n).1.rest.length ≤ r.rest.length ∧ (r.take n).2.length ≤ r.rest.length := by
  unfold Rd.take
  split
  · simp
  · split
    · simp
    · simp; omega
theorem Rd.more_len (s : Rd) (c : Nat) : (s.more c).1.rest.length ≤ s.rest.length := by
  unfold Rd.more
  split
  · exact (Rd.take_len s 2).1
  · split
    · exact (Rd.take_len s 4).1
    · split
      · exact (Rd.take_len s 8).1
      · exact Nat.le_refl _
theorem Rd.var_len (r : Rd) (most : Nat) : (r.var most).1.rest.length ≤ r.rest.length := by
  have h := Nat.le_trans (Rd.more_len (r.num 1).1 (r.num 1).2) (Rd.take_len r 1).1
  unfold Rd.var
  dsimp only
  split
  · exact Nat.le_refl _
  · split
    · exact Nat.le_refl _
    · split
      · exact Nat.le_refl _
      · exact h
theorem Rd.room_len (r : Rd) (most : Int) : (r.room most).1.rest.length ≤ r.rest.length := by
  unfold Rd.room
  dsimp only
  split
  · exact Nat.le_refl _
  · exact Rd.var_len r _
set_option maxHeartbeats 4000000 in
set_option maxRecDepth 100000 in
theorem text_r_calls (D : Nat → Prop) (w : World) (q : Nat) (r : Rd) (most : Int) (H : ReaderIs D w q r) (h1 : -9223372036854775808 ≤ most) (h2 : most < 9223372036854775808) (hl : r.rest.length ≤ 140737488355328) :
    Calls Tryz.prog 88 #[.pointer (some ⟨q, 0, none⟩), .int .i64 most] w fun e w' => ∃ a c, e = .returned (.slice a (r.text most).2.length c) ∧ OwnB w.heap.size 5 w' (.slice a (r.text most).2.length c) (r.text most).2 ∧ ReaderIs D w' q (r.text most).1 ∧ Fr (fun k => k = q) w w' := by
  obtain ⟨a, c, g1, g2, g3⟩ := id H
  have c0 := g1.cell (i := 0) rfl
  have H0 := Lib.hid H
  have H2 := Lib.hid g2
  have H3 := Lib.hid g3
  have hnl := room_le r most h2
  have hrl := Rd.room_len r most
  have HL := Lib.hid hl
  have hb1 := h1
  have hb2 := h2
  clear H g1 g2 g3 hl
  go_enter Tryz.func88, Tryz.ntmps88
  go_wp2_with fail
  refine (room_calls D w q r most H0.out h1 h2).mono ?_
  rintro e w2 ⟨rfl, g1, g2⟩
  have HR := Lib.hid g1
  have HF := Lib.hid g2
  have hsz := g2.size
  clear c0 h1 h2 hb1 hb2
  have HT := Lib.hid (show r.text most = (if (r.room most).1.e = 0 ∧ (r.room most).1.rest.length < (r.room most).2 then (⟨r.rest, 110⟩ : Rd) else (r.room most).1).take (r.room most).2 from rfl)
  obtain ⟨nn, hnn⟩ : ∃ nn, (r.room most).2 = nn := ⟨_, rfl⟩
  obtain ⟨s, hs⟩ : ∃ s, (r.room most).1 = s := ⟨_, rfl⟩
  rw [hs] at g1 hrl
  rw [hs] at HR HT
  rw [hnn] at hnl HT ⊢
  clear g2 H0 hs hnn
  obtain ⟨l, e⟩ := s
  obtain ⟨a2, c2, x1, x2, x3⟩ := g1
  dsimp only at x1 HT hrl
  have c0 := x1.cell (i := 0) rfl
  have c1 := x1.cell (i := 1) rfl
  have f0 := x1.free 0
  have f1 := x1.free 1
  have X1 := Lib.hid x1
  have HB := Lib.hid (H2.out.fr HF.out (fun k _ hd e => H3.out (e ▸ hd)))
  have hll : l.length ≤ 140737488355328 := Nat.le_trans hrl HL.out
  clear x1 x2 x3
  by_cases he : e = 0
  · subst he
    by_cases hlt : l.length < nn
    · have HT2 := Lib.hid (show r.text most = Rd.raw ⟨r.rest, 110⟩ nn by rw [HT.out, if_pos ⟨rfl, hlt⟩]; unfold Rd.raw; rw [if_neg (by omega), Int.toNat_natCast])
      have hE := X1.out.set 1 (.int .i64 110)
      have hF2 : Fr (fun k => k = q) w2 (w2.setCell ⟨q, 1, none⟩ (.int .i64 110)) := (Fr.refl (fun k => k = q) w2).setCell (p := ⟨q, 1, none⟩) (.inr rfl) _
      have G := Lib.hid (ReaderIs.setB hE (HB.out.fr hF2 (fun k _ hd e => H3.out (e ▸ hd))) rfl H3.out)
      have GF := Lib.hid ((HF.out.trans hF2).trans G.out.2)
      have hz : (l.length : Int) < (nn : Int) := by omega
      clear hE hF2
      go_wp2_with fail
      refine (raw_r_calls D _ q ⟨r.rest, 110⟩ nn G.out.1 (by omega) (by omega) HL.out).mono ?_
      rintro e w3 ⟨x, y, rfl, k1, k2, k3⟩
      have K1 := Lib.hid (k1.mono (base' := w.heap.size) (by have := GF.out.size; omega))
      have K2 := Lib.hid k2
      have K3 := Lib.hid (GF.out.trans k3)
      clear k1 k2 k3 c0 c1 f0 f1
      go_wp2
      go_ret
      exact ⟨x, y, by rw [HT2.out]; rfl, by rw [HT2.out]; exact K1.out, by rw [HT2.out]; exact K2.out, K3.out⟩
    · have HT2 := Lib.hid (show r.text most = Rd.raw ⟨l, 0⟩ nn by rw [HT.out, if_neg (fun h => hlt h.2)]; unfold Rd.raw; rw [if_neg (by omega), Int.toNat_natCast])
      have hz : ¬ ((l.length : Int) < (nn : Int)) := by omega
      go_wp2_with fail
      refine (raw_r_calls D _ q ⟨l, 0⟩ nn HR.out (by omega) (by omega) hll).mono ?_
      rintro e w3 ⟨x, y, rfl, k1, k2, k3⟩
      have K1 := Lib.hid (k1.mono (base' := w.heap.size) hsz)
      have K2 := Lib.hid k2
      have K3 := Lib.hid (HF.out.trans k3)
      clear k1 k2 k3 c0 c1 f0 f1
      go_wp2
      go_ret
      exact ⟨x, y, by rw [HT2.out]; rfl, by rw [HT2.out]; exact K1.out, by rw [HT2.out]; exact K2.out, K3.out⟩
  · have hb2 : (e == 0) = false := by simpa using he
    have HT2 := Lib.hid (show r.text most = Rd.raw ⟨l, e⟩ nn by rw [HT.out, if_neg (fun h => he h.1)]; unfold Rd.raw; rw [if_neg (by omega), Int.toNat_natCast])
    go_wp2_with fail
    refine (raw_r_calls D _ q ⟨l, e⟩ nn HR.out (by omega) (by omega) hll).mono ?_
    rintro e w3 ⟨x, y, rfl, k1, k2, k3⟩
    have K1 := Lib.hid (k1.mono (base' := w.heap.size) hsz)
    have K2 := Lib.hid k2
    have K3 := Lib.hid (HF.out.trans k3)
    clear k1 k2 k3 c0 c1 f0 f1
    go_wp2
    go_ret
    exact ⟨x, y, by rw [HT2.out]; rfl, by rw [HT2.out]; exact K1.out, by rw [HT2.out]; exact K2.out, K3.out⟩
end Go.Proofs.YtmenchnjajpkmaaGreat.CodecR
end

section
namespace Go.Proofs.YtmenchnjajpkmaaGreat.Mh
open Go ShaW Mem Codec

abbrev Dg := List UInt8
structure Hd where
  prev : Dg
  root : Dg
  height : Nat
  nonce : Nat
def Hd.Ok (h : Hd) : Prop := h.prev.length = 32 ∧ h.root.length = 32 ∧ h.height < 18446744073709551616 ∧ h.nonce < 18446744073709551616
def Hd.cells (h : Hd) : List Value := h.prev.map byt ++ h.root.map byt ++ [.int .u64 (h.height : Int), .int .u64 (h.nonce : Int)]
abbrev hv (h : Hd) : Value := .agg h.cells.toArray
abbrev dv (d : Dg) : Value := .agg (d.map byt).toArray
def encH (h : Hd) : List UInt8 := h.prev ++ (h.root ++ (num h.height 8 ++ num h.nonce 8))
theorem Hd.Ok.len {h : Hd} (ok : h.Ok) : h.cells.length = 66 := by simp [Hd.cells, ok.1, ok.2.1]
theorem Hd.one (h : Hd) : ∀ v ∈ h.cells, v.oneCell' = true := by
  intro v hv
  simp only [Hd.cells, List.mem_append, List.mem_map, List.mem_cons, List.not_mem_nil, or_false] at hv
  rcases hv with (⟨_, _, rfl⟩ | ⟨_, _, rfl⟩) | rfl | rfl <;> rfl
theorem Hd.cell_height {h : Hd} (ok : h.Ok) : h.cells[64]? = some (.int .u64 (h.height : Int)) := by
  unfold Hd.cells
  rw [List.getElem?_append_right (by simp [ok.1, ok.2.1])]
  simp [ok.1, ok.2.1]
theorem Hd.cell_nonce {h : Hd} (ok : h.Ok) : h.cells[65]? = some (.int .u64 (h.nonce : Int)) := by
  unfold Hd.cells
  rw [List.getElem?_append_right (by simp [ok.1, ok.2.1])]
  simp [ok.1, ok.2.1]
theorem Hd.at_prev {h : Hd} {j : Nat} {u : Value} (hu : (h.prev.map byt)[j]? = some u) : h.cells[0 + j]? = some u := by
  have hj := (List.getElem?_eq_some_iff.1 hu).1
  unfold Hd.cells
  rw [Nat.zero_add, List.append_assoc, List.getElem?_append_left hj]
  exact hu
theorem Hd.at_root {h : Hd} (ok : h.Ok) {j : Nat} {u : Value} (hu : (h.root.map byt)[j]? = some u) : h.cells[32 + j]? = some u := by
  have hj := (List.getElem?_eq_some_iff.1 hu).1
  unfold Hd.cells
  rw [List.append_assoc, List.getElem?_append_right (by simp [ok.1]), List.length_map, ok.1, Nat.add_sub_cancel_left, List.getElem?_append_left hj]
  exact hu

end Go.Proofs.YtmenchnjajpkmaaGreat.Mh
end

section
namespace Go.Proofs.YtmenchnjajpkmaaGreat.Wh
open Go Go.RowKit Mem Codec CodecW Mh Ww ShaW
set_option linter.unusedVariables false

theorem szH {h : Hd} (ok : h.Ok) : (Tryz.prog.info? 29).map (·.size) = some h.cells.length := by rw [ok.len]; kernel_rfl
theorem range_prev {w : World} {b : Nat} {h : Hd} {e : TypeId} (hB : Blk w b h.cells e) : w.rangeAt b 0 (h.prev.map byt) := fun j v hv => by
  rw [Nat.zero_add]; have := Hd.at_prev (h := h) hv; rw [Nat.zero_add] at this; exact hB.cell this
theorem range_root {w : World} {b : Nat} {h : Hd} {e : TypeId} (ok : h.Ok) (hB : Blk w b h.cells e) : w.rangeAt b 32 (h.root.map byt) := fun j v hv => hB.cell (Hd.at_root ok hv)
set_option maxHeartbeats 4000000 in
set_option maxRecDepth 100000 in
theorem header_to (S : Nat → Prop) (w0 w : World) (q : Nat) (m : List UInt8) (bad : Bool) (h : Hd) (ok : h.Ok) (H : At S w0 w q m bad) (hlen : m.length + 80 ≤ 140737488355328) :
    Calls Tryz.prog 38 #[.pointer (some ⟨q, 0, none⟩), hv h] w fun e w' => e = .returned (.tuple #[]) ∧ At S w0 w' q (m ++ encH h) bad := by
  obtain ⟨cs, hcs⟩ : ∃ cs, h.cells.toArray = cs := ⟨_, rfl⟩
  show Calls _ _ #[_, .agg h.cells.toArray] _ _
  have HB := Lib.hid (show Blk (w.alloc (.cells cs 29)) w.heap.size h.cells 29 from Blk.new w _ _ _ hcs.symm)
  have HX := Lib.hid (fun w' m' => @At.box S w0 w w' q m bad (.cells cs 29) m' bad h.cells 29 H)
  have H1 := Lib.hid (H.enter (.cells cs 29))
  have HL := Lib.hid (fun w' m' => @At.leave S w0 w w' q m bad (.cells cs 29) m' bad H)
  have HP := Lib.hid (szD ok.1)
  have HR := Lib.hid (szD ok.2.1)
  have OK := Lib.hid ok
  have hz : (w.alloc (.cells cs 29)).heap.size = w.heap.size + 1 := by simp
  have hpl : h.prev.length = 32 := ok.1
  have hrl : h.root.length = 32 := ok.2.1
  have HPL := Lib.hid hpl
  have HRL := Lib.hid hrl
  rw [hcs]
  clear H hcs hpl hrl ok
  go_enter Tryz.func38, Tryz.ntmps38
  go_upto_region 1 with fail
  have HB0 := Lib.hid (fun w' m' g => HX.out w' m' g HB.out)
  generalize (w.alloc (.cells cs 29)) = w1 at *
  go_wp2_with (first | (with_reducible refine wpList_load_mid rfl _ _ rfl w.heap.size 0 rfl (h.prev.map byt) _ (range_prev HB.out) Tryz.underlying27 rfl HP.out ?_))
  refine (digest_calls _ _ w1 q m bad h.prev HPL.out H1.out (by omega)).mono ?_
  rintro e w2 ⟨rfl, g1⟩
  have B2 := Lib.hid (HB0.out _ _ g1)
  have H2 := Lib.hid g1
  clear g1 H1
  go_wp2_with (first | (with_reducible refine wpList_load_mid rfl _ _ rfl w.heap.size 32 rfl (h.root.map byt) _ (range_root OK.out B2.out) Tryz.underlying27 rfl HR.out ?_))
  refine (digest_calls _ _ w2 q _ bad h.root HRL.out H2.out (by rw [List.length_append, HPL.out]; omega)).mono ?_
  rintro e w3 ⟨rfl, g1⟩
  have B3 := Lib.hid (HB0.out _ _ g1)
  have H3 := Lib.hid g1
  clear g1 H2 B2
  obtain ⟨p, h1, h2, h3⟩ := H3.out.drew.opened
  have HW := Lib.hid h2
  have HQ := Lib.hid h1
  have c0 := h1.cell (i := 0) rfl
  have c1 : w3.cell? ⟨q, 0, none⟩ = some (.pointer (some ⟨p, 0, none⟩)) := c0
  have d0 : w3.cell? ⟨w.heap.size, 64, none⟩ = some (.int .u64 (h.height : Int)) := B3.out.cell (Hd.cell_height OK.out)
  clear h1 h2 h3
  go_wp2_with fail
  go_still_tail 6, (by kernel_rfl)
  change wpList _ _ _ _ _ w3.drew
  go_wp2_with fail
  refine (long_calls _ w3.drew p _ h.height OK.out.2.2.1 HW.out (by rw [List.length_append, List.length_append, HPL.out, HRL.out]; omega)).mono ?_
  rintro e w4 ⟨rfl, g1, g2⟩
  have H4 := Lib.hid (H3.out.drew.shut HQ.out g1 g2)
  have B4 := Lib.hid (HB0.out _ _ H4.out)
  clear g1 g2 H3 B3 HW HQ c0 c1 d0
  obtain ⟨p, h1, h2, h3⟩ := H4.out.drew.opened
  have HW := Lib.hid h2
  have HQ := Lib.hid h1
  have c0 := h1.cell (i := 0) rfl
  have c1 : w4.cell? ⟨q, 0, none⟩ = some (.pointer (some ⟨p, 0, none⟩)) := c0
  have d0 : w4.cell? ⟨w.heap.size, 65, none⟩ = some (.int .u64 (h.nonce : Int)) := B4.out.cell (Hd.cell_nonce OK.out)
  clear h1 h2 h3
  go_wp2_with fail
  go_still_tail 6, (by kernel_rfl)
  change wpList _ _ _ _ _ w4.drew
  go_wp2_with fail
  refine (long_calls _ w4.drew p _ h.nonce OK.out.2.2.2 HW.out (by simp only [List.length_append, HPL.out, HRL.out, num_length]; omega)).mono ?_
  rintro e w5 ⟨rfl, g1, g2⟩
  have H5 := Lib.hid (H4.out.drew.shut HQ.out g1 g2)
  have HF := Lib.hid (HL.out _ _ H5.out)
  clear g1 g2 H4 B4 HW HQ c0 c1 d0 HL HB0 HX HB
  go_wp2
  go_end0
  refine ⟨rfl, ?_⟩
  have := HF.out
  simp only [List.append_assoc] at this
  exact this
theorem encH_length {h : Hd} (ok : h.Ok) : (encH h).length = 80 := by simp [encH, ok.1, ok.2.1, num_length]
/-- a new writer's box -/
theorem made {w w1 : World} {p : Nat} (hp : WriterIs (fun k => k = p) w1 p []) : WwIs (fun k => k = p ∨ k = w1.heap.size) (w1.alloc (.cells #[.pointer (some ⟨p, 0, none⟩), .bool false] 106)) w1.heap.size [] false := by
  have hlt := hp.lt
  exact ⟨.inr rfl, p, Blk.new _ _ _ _ rfl, (hp.below ((Below.refl _ _).alloc (Nat.le_refl _) _)).mono (fun k _ h => ⟨.inl h, by omega⟩)⟩
theorem made_at {w1 : World} {p : Nat} (hp : WriterIs (fun k => k = p) w1 p []) : At (fun k => k = p ∨ k = w1.heap.size) (w1.alloc (.cells #[.pointer (some ⟨p, 0, none⟩), .bool false] 106)) (w1.alloc (.cells #[.pointer (some ⟨p, 0, none⟩), .bool false] 106)) w1.heap.size [] false :=
  At.start (made (w := w1) hp) (fun k h => by have := hp.lt; simp; omega)
set_option maxHeartbeats 4000000 in
set_option maxRecDepth 100000 in
theorem written_calls (w : World) (h : Hd) (ok : h.Ok) :
    Calls Tryz.prog 37 #[hv h, .func (.func 38) #[] #[]] w fun e w' => ∃ a c, e = .returned (.tuple #[.slice a 80 c, .int .i64 0]) ∧ OwnB w.heap.size 5 w' (.slice a 80 c) (encH h) ∧ Below w.heap.size w w' := by
  obtain ⟨cs, hcs⟩ : ∃ cs, h.cells.toArray = cs := ⟨_, rfl⟩
  show Calls _ _ #[.agg h.cells.toArray, _] _ _
  have HB := Lib.hid (show Blk (w.alloc (.cells cs 29)) w.heap.size h.cells 29 from Blk.new w _ _ _ hcs.symm)
  have B1 := Lib.hid (show Below w.heap.size w (w.alloc (.cells cs 29)) from (Below.refl _ _).alloc (Nat.le_refl _) _)
  have hz : w.heap.size + 1 ≤ (w.alloc (.cells cs 29)).heap.size := by simp
  have HZ := Lib.hid (szH ok)
  have HE := Lib.hid (encH_length ok)
  rw [hcs]
  have HC := Lib.hid hcs
  clear hcs
  go_enter Tryz.func37, Tryz.ntmps37
  go_upto_region 1 with fail
  generalize (w.alloc (.cells cs 29)) = w1 at *
  go_wp2_with fail
  refine (CodecW.new_calls w1).mono ?_
  rintro e w2 ⟨p, rfl, hp1, hp2, hp3⟩
  have hs2 := hp3.size
  have H2 := Lib.hid (made_at hp2)
  have HB2 := Lib.hid ((HB.out.below hp3).alloc (.cells #[.pointer (some ⟨p, 0, none⟩), .bool false] 106))
  have B2 := Lib.hid ((B1.out.trans (hp3.mono (by omega))).alloc (by have := B1.out.size; omega) (.cells #[.pointer (some ⟨p, 0, none⟩), .bool false] 106))
  have hs3 : (w2.alloc (.cells #[.pointer (some ⟨p, 0, none⟩), .bool false] 106)).heap.size = w2.heap.size + 1 := by simp
  have hpw : w.heap.size < p := by omega
  clear hp2 hp3 HB B1
  go_upto_region 2 with fail
  generalize (w2.alloc (.cells #[.pointer (some ⟨p, 0, none⟩), .bool false] 106)) = w3 at *
  go_wp2_with (first | (with_reducible refine wpList_load_blk rfl _ _ rfl w.heap.size h.cells rfl HB2.out _ Tryz.underlying29 rfl HZ.out ?_))
  rw [← HC.out]
  refine (header_to _ w3 w3 w2.heap.size [] false h ok H2.out (by simp)).mono ?_
  rintro e w4 ⟨rfl, g1⟩
  obtain ⟨⟨g2, p2, g3, g4⟩, g5, g6⟩ := id g1
  have hg5 := g5.size
  have c1 := g3.cell (i := 1) rfl
  have c0 := g3.cell (i := 0) rfl
  have HW := Lib.hid g4
  have B4 := Lib.hid (B2.out.trans (show Below w.heap.size w3 w4 from g5.below (by omega) (fun k h => by omega)))
  have hb4 := B4.out.size
  rw [List.nil_append] at HW
  clear g1 g2 g3 g4 g5 g6 H2 HB2 B2
  go_wp2_with fail
  refine (CodecR.bytes_calls _ w4 p2 _ HW.out (by rw [HE.out]; omega)).mono ?_
  rintro e w5 ⟨a, c, rfl, g1, g2⟩
  rw [HE.out] at g1
  rw [HE.out]
  have G1 := Lib.hid g1
  have BF := Lib.hid (B4.out.trans (g2.mono hb4))
  clear g1 g2 c0 c1 HW B4
  go_wp2
  go_ret2
  exact ⟨a, c, rfl, G1.out.mono hb4, BF.out⟩
set_option maxHeartbeats 4000000 in
set_option maxRecDepth 100000 in
theorem mainHeader_calls (w : World) (h : Hd) (ok : h.Ok) :
    Calls Tryz.prog 14 #[hv h] w fun e w' => ∃ a c, e = .returned (.slice a 80 c) ∧ OwnB w.heap.size 5 w' (.slice a 80 c) (encH h) ∧ Below w.heap.size w w' := by
  obtain ⟨cs, hcs⟩ : ∃ cs, h.cells.toArray = cs := ⟨_, rfl⟩
  show Calls _ _ #[.agg h.cells.toArray] _ _
  have HB := Lib.hid (show Blk (w.alloc (.cells cs 29)) w.heap.size h.cells 29 from Blk.new w _ _ _ hcs.symm)
  have B1 := Lib.hid (show Below w.heap.size w (w.alloc (.cells cs 29)) from (Below.refl _ _).alloc (Nat.le_refl _) _)
  have hz : (w.alloc (.cells cs 29)).heap.size = w.heap.size + 1 := by simp
  have HZ := Lib.hid (szH ok)
  rw [hcs]
  have HC := Lib.hid hcs
  clear hcs
  go_enter Tryz.func14, Tryz.ntmps14
  go_upto_region 1 with fail
  generalize (w.alloc (.cells cs 29)) = w1 at *
  go_wp2_with (first | (with_reducible refine wpList_load_blk rfl _ _ rfl w.heap.size h.cells rfl HB.out _ Tryz.underlying29 rfl HZ.out ?_))
  rw [← HC.out]
  refine (written_calls w1 h ok).mono ?_
  rintro e w2 ⟨a, c, rfl, g1, g2⟩
  have G1 := Lib.hid g1
  have G2 := Lib.hid (B1.out.trans (g2.mono (by omega)))
  clear g1 g2 B1 HB
  go_wp2
  go_ret
  exact ⟨a, c, rfl, G1.out.mono (by omega), G2.out⟩
/-- a digest's block, as it is made -/
theorem start32 (w : World) : ∃ W, w.alloc (.cells #[.int .u8 0, .int .u8 0, .int .u8 0, .int .u8 0, .int .u8 0, .int .u8 0, .int .u8 0, .int .u8 0, .int .u8 0, .int .u8 0, .int .u8 0, .int .u8 0, .int .u8 0, .int .u8 0, .int .u8 0, .int .u8 0, .int .u8 0, .int .u8 0, .int .u8 0, .int .u8 0, .int .u8 0, .int .u8 0, .int .u8 0, .int .u8 0, .int .u8 0, .int .u8 0, .int .u8 0, .int .u8 0, .int .u8 0, .int .u8 0, .int .u8 0, .int .u8 0] 27) = W ∧ Hid (Blk W w.heap.size (List.replicate 32 (.int .u8 0)) 27) ∧ Hid (Below w.heap.size w W) ∧ w.heap.size + 1 = W.heap.size :=
  ⟨_, rfl, Lib.hid (ShaW.new32 w), Lib.hid ((Below.refl _ _).alloc (Nat.le_refl _) _), by simp⟩
theorem szDA {m : List UInt8} (h : m.length = 32) : (Tryz.prog.info? 27).map (·.size) = some (m.map byt).toArray.size := by rw [List.size_toArray, List.length_map, h]; kernel_rfl
set_option maxHeartbeats 4000000 in
set_option maxRecDepth 100000 in
theorem ref_header_to (S : Nat → Prop) (w0 w : World) (q : Nat) (m : List UInt8) (bad : Bool) (h : Hd) (ok : h.Ok) (H : Rw.RAt S w0 w q m bad) (hlen : m.length + 80 ≤ 140737488355328) :
    Calls Tryz.prog 39 #[.pointer (some ⟨q, 0, none⟩), hv h] w fun e w' => e = .returned (.tuple #[]) ∧ Rw.RAt S w0 w' q (m ++ encH h) bad := by
  obtain ⟨cs, hcs⟩ : ∃ cs, h.cells.toArray = cs := ⟨_, rfl⟩
  show Calls _ _ #[_, .agg h.cells.toArray] _ _
  have HB := Lib.hid (show Blk (w.alloc (.cells cs 29)) w.heap.size h.cells 29 from Blk.new w _ _ _ hcs.symm)
  have HX := Lib.hid (fun w' m' => @Rw.RAt.box S w0 w w' q m bad (.cells cs 29) m' bad h.cells 29 H)
  have H1 := Lib.hid (H.enter (.cells cs 29))
  have HL := Lib.hid (fun w' m' => @Rw.RAt.leave S w0 w w' q m bad (.cells cs 29) m' bad H)
  have HP := Lib.hid (szD ok.1)
  have HR := Lib.hid (szD ok.2.1)
  have OK := Lib.hid ok
  have hz : (w.alloc (.cells cs 29)).heap.size = w.heap.size + 1 := by simp
  have HPL := Lib.hid ok.1
  have HRL := Lib.hid ok.2.1
  rw [hcs]
  clear H hcs ok
  go_enter Tryz.func39, Tryz.ntmps39
  go_upto_region 1 with fail
  have HB0 := Lib.hid (fun w' m' g => HX.out w' m' g HB.out)
  generalize (w.alloc (.cells cs 29)) = w1 at *
  go_wp2_with (first | (with_reducible refine wpList_load_mid rfl _ _ rfl w.heap.size 0 rfl (h.prev.map byt) _ (range_prev HB.out) Tryz.underlying27 rfl HP.out ?_))
  refine (Rw.digest_to _ _ w1 q m bad h.prev HPL.out H1.out (by omega)).mono ?_
  rintro e w2 ⟨rfl, g1⟩
  have B2 := Lib.hid (HB0.out _ _ g1)
  have H2 := Lib.hid g1
  clear g1 H1
  go_wp2_with (first | (with_reducible refine wpList_load_mid rfl _ _ rfl w.heap.size 32 rfl (h.root.map byt) _ (range_root OK.out B2.out) Tryz.underlying27 rfl HR.out ?_))
  refine (Rw.digest_to _ _ w2 q _ bad h.root HRL.out H2.out (by rw [List.length_append, HPL.out]; omega)).mono ?_
  rintro e w3 ⟨rfl, g1⟩
  have B3 := Lib.hid (HB0.out _ _ g1)
  have H3 := Lib.hid g1
  have d0 : w3.cell? ⟨w.heap.size, 64, none⟩ = some (.int .u64 (h.height : Int)) := B3.out.cell (Hd.cell_height OK.out)
  clear g1 H2 B2
  go_wp2_with fail
  refine (Rw.num_to _ _ w3 q _ bad h.height 8 OK.out.2.2.1 (by omega) H3.out (by rw [List.length_append, List.length_append, HPL.out, HRL.out]; omega)).mono ?_
  rintro e w4 ⟨rfl, g1⟩
  have B4 := Lib.hid (HB0.out _ _ g1)
  have H4 := Lib.hid g1
  have d1 : w4.cell? ⟨w.heap.size, 65, none⟩ = some (.int .u64 (h.nonce : Int)) := B4.out.cell (Hd.cell_nonce OK.out)
  clear g1 H3 B3 d0
  go_wp2_with fail
  refine (Rw.num_to _ _ w4 q _ bad h.nonce 8 OK.out.2.2.2 (by omega) H4.out (by simp only [List.length_append, HPL.out, HRL.out, num_length]; omega)).mono ?_
  rintro e w5 ⟨rfl, g1⟩
  have HF := Lib.hid (HL.out _ _ g1)
  clear g1 H4 B4 d1 HL HB0 HX HB
  go_wp2
  go_end0
  refine ⟨rfl, ?_⟩
  have := HF.out
  simp only [List.append_assoc] at this
  exact this
set_option maxHeartbeats 4000000 in
set_option maxRecDepth 100000 in
theorem ref_mainHeader_calls (w : World) (h : Hd) (ok : h.Ok) :
    Calls Tryz.prog 15 #[hv h] w fun e w' => ∃ a c, e = .returned (.slice a 80 c) ∧ OwnB 0 5 w' (.slice a 80 c) (encH h) ∧ Below w.heap.size w w' := by
  obtain ⟨cs, hcs⟩ : ∃ cs, h.cells.toArray = cs := ⟨_, rfl⟩
  show Calls _ _ #[.agg h.cells.toArray] _ _
  have HB := Lib.hid (show Blk (w.alloc (.cells cs 29)) w.heap.size h.cells 29 from Blk.new w _ _ _ hcs.symm)
  have B1 := Lib.hid (show Below w.heap.size w (w.alloc (.cells cs 29)) from (Below.refl _ _).alloc (Nat.le_refl _) _)
  have hz : w.heap.size + 1 ≤ (w.alloc (.cells cs 29)).heap.size := by simp
  have HZ := Lib.hid (szH ok)
  have HE := Lib.hid (encH_length ok)
  rw [hcs]
  have HC := Lib.hid hcs
  clear hcs
  go_enter Tryz.func15, Tryz.ntmps15
  go_upto_region 1 with fail
  generalize (w.alloc (.cells cs 29)) = w1 at *
  have H2 := Lib.hid (Rw.RAt.start (RfW.RefIs.new w1) (fun k h => by simp; omega))
  have HB2 := Lib.hid (HB.out.alloc (.cells #[.slice none 0 0, .bool false] 61))
  have B2 := Lib.hid (B1.out.alloc (by omega) (.cells #[.slice none 0 0, .bool false] 61))
  have hs3 : w1.heap.size + 1 ≤ (w1.alloc (.cells #[.slice none 0 0, .bool false] 61)).heap.size := by simp
  clear HB B1
  go_upto_region 2 with fail
  generalize (w1.alloc (.cells #[.slice none 0 0, .bool false] 61)) = w3 at *
  go_wp2_with (first | (with_reducible refine wpList_load_blk rfl _ _ rfl w.heap.size h.cells rfl HB2.out _ Tryz.underlying29 rfl HZ.out ?_))
  rw [← HC.out]
  refine (ref_header_to _ w3 w3 w1.heap.size [] false h ok H2.out (by simp)).mono ?_
  rintro e w4 ⟨rfl, g1⟩
  obtain ⟨a, c, g2, g3, g4, _, _⟩ := g1.1.opened
  have g5 := g1.2.1
  have c0 := g2.cell (i := 0) rfl
  rw [List.nil_append, HE.out] at c0 g3
  have G3 := Lib.hid g3
  have BF := Lib.hid (B2.out.trans (show Below w.heap.size w3 w4 from g5.below (by omega) (fun k h => by omega)))
  clear g1 g2 g3 g4 g5 H2 B2 HB2
  go_wp2
  go_ret
  exact ⟨a, c, rfl, G3.out, BF.out⟩
end Go.Proofs.YtmenchnjajpkmaaGreat.Wh
end

section
namespace Go.Proofs.YtmenchnjajpkmaaGreat.Row
open Go Go.RowKit Mem

/-- a slice of the call's own that holds n values of so many cells, in a block from base on -/
def OwnV (size base : Nat) (e : TypeId) (w : World) (v : Value) (n : Nat) (vals : List Value) : Prop := w.ownsRow base e size v n vals
section
variable {size base base' : Nat} {e : TypeId} {w w' : World} {v : Value} {n : Nat} {vals : List Value}
theorem OwnV.nil (size base : Nat) (e : TypeId) (w : World) : OwnV size base e w (.slice none 0 0) 0 [] := World.ownsRow_nil _ _ _ _
theorem OwnV.drew (h : OwnV size base e w v n vals) : OwnV size base e w.drew v n vals := h
theorem OwnV.alloc (h : OwnV size base e w v n vals) (o : Obj) : OwnV size base e (w.alloc o) v n vals := World.ownsRow.alloc h o
theorem OwnV.fr {S : Nat → Prop} (h : OwnV size base e w v n vals) (hf : Fr S w w') (hn : ∀ k, v.ownBlock = some k → ¬ S k) : OwnV size base e w' v n vals := by
  refine ⟨h.1, ?_⟩
  rcases h.2 with h2 | ⟨g, cap, cur, rfl, hb, hgg, rest⟩
  · exact .inl h2
  · exact .inr ⟨g, cap, cur, rfl, hb, (hf.block g (Array.getElem?_eq_some_iff.1 hgg).1 (hn g rfl)).trans hgg, rest⟩
theorem OwnV.below (h : OwnV size base e w v n vals) (hf : Below w.heap.size w w') : OwnV size base e w' v n vals :=
  h.fr (Fr.ofBelow hf) (fun k hk h2 => by have := (World.ownsRow.lt h k hk).2; omega)
theorem OwnV.mono (h : OwnV size base e w v n vals) (hb : base' ≤ base) : OwnV size base' e w v n vals := by
  refine ⟨h.1, ?_⟩
  rcases h.2 with h2 | ⟨g, cap, cur, hv, hg, r⟩
  · exact .inl h2
  · exact .inr ⟨g, cap, cur, hv, by omega, r⟩
theorem OwnV.lt (h : OwnV size base e w v n vals) : ∀ k, v.ownBlock = some k → base ≤ k ∧ k < w.heap.size := World.ownsRow.lt h
theorem OwnV.len (h : OwnV size base e w v n vals) : vals.length = n * size := h.1
theorem OwnV.form (h : OwnV size base e w v n vals) : ∃ a cap, v = .slice a n cap ∧ n ≤ cap ∧ cap ≤ maxLen ∧ (a = none → cap = 0) := by
  rcases h.2 with ⟨rfl, rfl⟩ | ⟨g, cap, cur, hv, _, _, hc, hm, _⟩
  · exact ⟨none, 0, rfl, Nat.le_refl _, Nat.zero_le _, fun _ => rfl⟩
  · exact ⟨_, cap, hv, hc, hm, fun h => by cases h⟩
theorem OwnV.at (h : OwnV size base e w v n vals) (hn : 0 < n) : ∃ g cap, v = .slice (some ⟨g, 0, none⟩) n cap ∧ base ≤ g ∧ g < w.heap.size ∧ ∀ i (hi : i < n * size), w.cell? ⟨g, i, none⟩ = some (vals[i]'(by rw [h.len]; exact hi)) := by
  rcases h.2 with ⟨rfl, rfl⟩ | ⟨g, cap, cur, hv, hg, hh, hc, hm, hs, ht⟩
  · omega
  · subst hv
    refine ⟨g, cap, rfl, hg, (Array.getElem?_eq_some_iff.1 hh).1, fun i hi => ?_⟩
    have := h.cellAt i hi
    rw [this, List.getElem?_eq_getElem (by rw [h.len]; exact hi)]

/-- 'append(s, ..)' of a slice of the call's own and as many new values as lie at an address -/
theorem run_append_val {P : Program} (w : World) (t ty base e : TypeId) {z : Value} {bytes : Nat} (T : ElemT P t e z size bytes) (v : Value) (n : Nat) (vals : List Value) (hown : OwnV size base e w v n vals)
    (ad : Addr) (m c : Nat) (news : List Value) (hl : news.length = m * size) (hnews : ∀ j u, news[j]? = some u → w.cell? (ad.add j) = some u) (h1 : ∀ u ∈ news, u.oneCell' = true)
    (h63 : n + m ≤ maxLen) (hbytes : (n + m) * bytes ≤ 140737488355328) (hb : base ≤ w.heap.size) :
    ∃ a' cap' w', (Builtin.append_ #[t, t] ty #[v, .slice (some ad) m c]).run P w = .ok (.slice a' (n + m) cap') w' ∧ OwnV size base e w' (.slice a' (n + m) cap') (n + m) (vals ++ news) ∧ w.grownBy w' v.ownBlock ∧
      ((Value.slice a' (n + m) cap').ownBlock = v.ownBlock ∨ (Value.slice a' (n + m) cap').ownBlock = some w.heap.size) := by
  obtain ⟨i, hi, hz, hsz, hby⟩ := T.info
  obtain ⟨v', w', h0, h1, h2, h3, h4⟩ := run_append_own_at (P := P) w base t ty e i z size bytes T.und hi hz hsz hby T.zsz T.pos v n vals hown ad m c news hl hnews h1 h63 hbytes hb
  obtain ⟨a', cap', rfl, _⟩ := OwnV.form h1
  exact ⟨a', cap', w', h0, h1, h2, h4⟩

theorem wpList_append_val {P : Program} (w : World) {ops : Array Oper} {rest : List Oper} {o : Oper} {a : Act} {Q : Exit → Act → World → Prop} (hgd : o.guard = none) (s x : Operand) (t : TypeId)
    (ho : o.op = .call { callee := .builtin .append, args := #[s, x], argTypes := #[t, t] }) (base : Nat) (e : TypeId) {z : Value} {bytes : Nat} (T : ElemT P t e z size bytes)
    (v : Value) (n : Nat) (vals : List Value) (hs : a.eval s = v) (hown : OwnV size base e w v n vals) (ad : Addr) (m c : Nat) (news : List Value) (hx : a.eval x = .slice (some ad) m c) (hl : news.length = m * size)
    (hnews : ∀ j u, news[j]? = some u → w.cell? (ad.add j) = some u) (h1 : ∀ u ∈ news, u.oneCell' = true) (h63 : n + m ≤ maxLen) (hbytes : (n + m) * bytes ≤ 140737488355328) (hb : base ≤ w.heap.size)
    (h : ∀ (a' : Option Addr) (cap' : Nat) (w' : World), OwnV size base e w' (.slice a' (n + m) cap') (n + m) (vals ++ news) → w.grownBy w' v.ownBlock → ((Value.slice a' (n + m) cap').ownBlock = v.ownBlock ∨ (Value.slice a' (n + m) cap').ownBlock = some w.heap.size) → wpList P ops Q rest (a.put o.dst (.slice a' (n + m) cap')) w') :
    wpList P ops Q (o :: rest) a w := by
  obtain ⟨a', cap', w', h0, h1, h2, h4⟩ := run_append_val (P := P) w t o.type base e T v n vals hown ad m c news hl hnews h1 h63 hbytes hb
  refine wpList_plain hgd fun K hK => ?_
  unfold Oper.wp
  simp [execOp, ho, resolve, invoke, builtin, hs, hx, h0, Result.andThen]
  exact hK _ _ (h a' cap' w' h1 h2 h4)
/-- the same inside a fence -/
theorem wpListIn_append_val {F : Fence} {k : Nat} {P : Program} (w : World) {ops : Array Oper} {rest : List Oper} {o : Oper} {a : Act} {Q : Exit → Act → World → Prop} (hgd : o.guard = none) (s x : Operand) (t : TypeId)
    (ho : o.op = .call { callee := .builtin .append, args := #[s, x], argTypes := #[t, t] }) (base : Nat) (e : TypeId) {z : Value} {bytes : Nat} (T : ElemT P t e z size bytes)
    (v : Value) (n : Nat) (vals : List Value) (hs : a.eval s = v) (hown : OwnV size base e w v n vals) (ad : Addr) (m c : Nat) (news : List Value) (hx : a.eval x = .slice (some ad) m c) (hl : news.length = m * size)
    (hnews : ∀ j u, news[j]? = some u → w.cell? (ad.add j) = some u) (h1 : ∀ u ∈ news, u.oneCell' = true) (h63 : n + m ≤ maxLen) (hbytes : (n + m) * bytes ≤ 140737488355328) (hb : base ≤ w.heap.size)
    (h : ∀ (a' : Option Addr) (cap' : Nat) (w' : World), OwnV size base e w' (.slice a' (n + m) cap') (n + m) (vals ++ news) → w.grownBy w' v.ownBlock → ((Value.slice a' (n + m) cap').ownBlock = v.ownBlock ∨ (Value.slice a' (n + m) cap').ownBlock = some w.heap.size) → wpListIn F k P ops Q rest (a.put o.dst (.slice a' (n + m) cap')) w') :
    wpListIn F k P ops Q (o :: rest) a w := by
  obtain ⟨a', cap', w', h0, h1, h2, h4⟩ := run_append_val (P := P) w t o.type base e T v n vals hown ad m c news hl hnews h1 h63 hbytes hb
  refine wpListIn_plain hgd fun K hK => ?_
  unfold Oper.wpIn
  refine ⟨?_, ?_⟩
  · simp [Oper.about, ho, resolve, Target.leads, Sem.run_pure]
  · rw [Oper.semAt_plain F _ _ (by rw [ho]; intro c hc'; cases hc')]
    simp [execOp, ho, resolve, invoke, builtin, hs, hx, h0, Result.andThen]
    exact hK _ _ (h a' cap' w' h1 h2 h4)
end

/-- a list of texts: a slice of the call's own (or nil), in a block from base on, each of whose elements reads as a text that lies in another block from base on -/
def Texts (base : Nat) (e : TypeId) (w : World) (v : Value) (ls : List (List UInt8)) : Prop :=
  ∃ vals, OwnV 1 base e w v ls.length vals ∧ ∀ i (h : i < ls.length), ∃ x, vals[i]? = some x ∧ Byt (fun k => base ≤ k ∧ v.ownBlock ≠ some k) w x (ls[i]'h)
theorem Texts.nil (base : Nat) (e : TypeId) (w : World) : Texts base e w (.slice none 0 0) [] := ⟨[], OwnV.nil _ _ _ _, fun i h => by simp at h⟩
theorem Texts.fr {base : Nat} {e : TypeId} {w w' : World} {v : Value} {ls : List (List UInt8)} {S : Nat → Prop} (h : Texts base e w v ls) (hf : Fr S w w') (hn : ∀ k, k < w.heap.size → base ≤ k → ¬ S k) : Texts base e w' v ls := by
  obtain ⟨vals, h1, h2⟩ := h
  refine ⟨vals, h1.fr hf (fun k hk => hn k (h1.lt k hk).2 (h1.lt k hk).1), fun i hi => ?_⟩
  obtain ⟨x, hx, hb⟩ := h2 i hi
  exact ⟨x, hx, hb.fr hf (fun k hk h => hn k hk h.1)⟩
theorem Texts.below {base : Nat} {e : TypeId} {w w' : World} {v : Value} {ls : List (List UInt8)} (h : Texts base e w v ls) (hf : Below w.heap.size w w') : Texts base e w' v ls := by
  obtain ⟨vals, h1, h2⟩ := h
  refine ⟨vals, h1.below hf, fun i hi => ?_⟩
  obtain ⟨x, hx, hb⟩ := h2 i hi
  exact ⟨x, hx, hb.below hf⟩
theorem Texts.mono {base base' : Nat} {e : TypeId} {w : World} {v : Value} {ls : List (List UInt8)} (h : Texts base e w v ls) (hb : base' ≤ base) : Texts base' e w v ls := by
  obtain ⟨vals, h1, h2⟩ := h
  refine ⟨vals, h1.mono hb, fun i hi => ?_⟩
  obtain ⟨x, hx, hb'⟩ := h2 i hi
  exact ⟨x, hx, hb'.mono (fun k _ h => ⟨by omega, h.2⟩)⟩
theorem Texts.form {base : Nat} {e : TypeId} {w : World} {v : Value} {ls : List (List UInt8)} (h : Texts base e w v ls) : ∃ a cap, v = .slice a ls.length cap ∧ ls.length ≤ cap ∧ cap ≤ maxLen ∧ (a = none → cap = 0) := by
  obtain ⟨vals, h1, _⟩ := h
  exact h1.form
/-- one more, appended -/
theorem Texts.append {base : Nat} {e : TypeId} {w w1 w' : World} {v v' : Value} {ls : List (List UInt8)} {x : Value} {l : List UInt8} {vals : List Value} (hv : OwnV 1 base e w v ls.length vals)
    (hvals : ∀ i (h : i < ls.length), ∃ x, vals[i]? = some x ∧ Byt (fun k => base ≤ k ∧ v.ownBlock ≠ some k) w x (ls[i]'h)) (hx : Byt (fun k => base ≤ k ∧ v.ownBlock ≠ some k) w x l)
    (hw : Below w.heap.size w w1) (h1 : OwnV 1 base e w' v' (ls.length + 1) (vals ++ [x])) (h2 : w1.grownBy w' v.ownBlock) (h3 : v'.ownBlock = v.ownBlock ∨ v'.ownBlock = some w1.heap.size) : Texts base e w' v' (ls ++ [l]) := by
  have hs := hw.size
  have keep : ∀ (y : Value) (m : List UInt8), Byt (fun k => base ≤ k ∧ v.ownBlock ≠ some k) w y m → Byt (fun k => base ≤ k ∧ v'.ownBlock ≠ some k) w' y m := fun y m hy => by
    refine (((hy.lt.below hw).mono (E := fun k => k < w.heap.size ∧ base ≤ k ∧ v.ownBlock ≠ some k) (fun k _ h => h)).fr (Fr.ofGrown h2) (fun k _ h e => h.2.2 e)).mono (fun k _ h => ⟨h.2.1, fun e => ?_⟩)
    rcases h3 with h3 | h3
    · exact h.2.2 (h3 ▸ e)
    · rw [h3] at e; injection e with e; have := h.1; omega
  refine ⟨vals ++ [x], by rw [List.length_append]; exact h1, fun i hi => ?_⟩
  have hl := hv.len
  rw [List.length_append, List.length_singleton] at hi
  by_cases hlt : i < ls.length
  · obtain ⟨y, hy, hb⟩ := hvals i hlt
    refine ⟨y, by rw [List.getElem?_append_left (by omega)]; exact hy, ?_⟩
    rw [List.getElem_append_left hlt]
    exact keep _ _ hb
  · obtain rfl : i = ls.length := by omega
    refine ⟨x, by rw [List.getElem?_append_right (by omega)]; simp [hl], ?_⟩
    rw [List.getElem_append_right (by omega)]
    simp only [Nat.sub_self, List.getElem_cons_zero]
    exact keep _ _ hx
end Go.Proofs.YtmenchnjajpkmaaGreat.Row
end
