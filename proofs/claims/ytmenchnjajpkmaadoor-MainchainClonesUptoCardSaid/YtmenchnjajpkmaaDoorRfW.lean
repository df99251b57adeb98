/- Walks of the reference's W (layer 12): raw, number, digest. Condition: the bytes together are at most 2^47. -/
import Derived.Test.YtmenchnjajpkmaaDoorRfN
import Derived.Test.YtmenchnjajpkmaaDoorShaText
namespace Go.Proofs.YtmenchnjajpkmaaDoor.RfW
open Go Go.RowKit Mem Codec CodecW CodecN
set_option linter.unusedVariables false

/-- the reference's W at block q, its blocks in S, that has m; bad: something may not be -/
def RefIs (S : Nat → Prop) (w : World) (q : Nat) (m : List UInt8) (bad : Bool) : Prop :=
  S q ∧ ∃ wv, Blk w q [wv, .bool bad] 69 ∧ OwnB 0 5 w wv m ∧ ∀ k, wv.ownBlock = some k → S k ∧ k ≠ q
section
variable {S T : Nat → Prop} {w w' : World} {q : Nat} {m : List UInt8} {bad : Bool}
theorem RefIs.fr (H : RefIs S w q m bad) (hf : Fr T w w') (hn : ∀ k, k < w.heap.size → S k → ¬ T k) : RefIs S w' q m bad := by
  obtain ⟨h1, wv, h2, h3, h4⟩ := H
  exact ⟨h1, wv, h2.fr hf (hn q h2.lt h1), h3.fr hf (fun k hk => hn k (h3.lt k hk).2 (h4 k hk).1), h4⟩
theorem RefIs.mono (H : RefIs S w q m bad) (hn : ∀ k, k < w.heap.size → S k → T k) : RefIs T w q m bad := by
  obtain ⟨h1, wv, h2, h3, h4⟩ := H
  exact ⟨hn q h2.lt h1, wv, h2, h3, fun k hk => ⟨hn k (h3.lt k hk).2 (h4 k hk).1, (h4 k hk).2⟩⟩
theorem RefIs.below (H : RefIs S w q m bad) (hb : Below w.heap.size w w') : RefIs S w' q m bad := H.fr (Fr.ofBelow hb) (fun k hk _ h => by omega)
theorem RefIs.drew (H : RefIs S w q m bad) : RefIs S w.drew q m bad := H
theorem RefIs.lt (H : RefIs S w q m bad) : q < w.heap.size := H.2.choose_spec.1.lt
theorem RefIs.opened (H : RefIs S w q m bad) : ∃ a c, Blk w q [.slice a m.length c, .bool bad] 69 ∧ OwnB 0 5 w (.slice a m.length c) m ∧ (∀ k, (Value.slice a m.length c).ownBlock = some k → S k ∧ k ≠ q) ∧ S q ∧ q < w.heap.size := by
  obtain ⟨h1, wv, h2, h3, h4⟩ := H
  obtain ⟨a, c, rfl, _⟩ := id h3.byt
  exact ⟨a, c, h2, h3, h4, h1, h2.lt⟩
theorem RefIs.new (w : World) : RefIs (fun k => k = w.heap.size) (w.alloc (.cells #[.slice none 0 0, .bool false] 69)) w.heap.size [] false :=
  ⟨rfl, _, Blk.new _ _ _ _ rfl, OwnB.nil _ _ _, fun k hk => by cases hk⟩
/-- behind 'w.B = append(w.B, ..)' -/
theorem appended {w2 : World} {rv v2 : Value} {m2 : List UInt8} (h1 : S q) (h2 : Blk w q [rv, .bool bad] 69) (h4 : ∀ k, rv.ownBlock = some k → S k ∧ k ≠ q)
    (o1 : OwnB 0 5 w2 v2 m2) (o2 : Fr (fun k => rv.ownBlock = some k) w w2) (o3 : v2.ownBlock = rv.ownBlock ∨ ∃ k, v2.ownBlock = some k ∧ w.heap.size ≤ k ∧ k < w2.heap.size) :
    RefIs (Plus S w (w2.setCell ⟨q, 0, none⟩ v2)) (w2.setCell ⟨q, 0, none⟩ v2) q m2 bad ∧ Fr S w (w2.setCell ⟨q, 0, none⟩ v2) ∧ w2.cell? ⟨q, 0, none⟩ = some rv ∧ w2.frozen? ⟨q, 0, none⟩ = false := by
  have hne : ¬ rv.ownBlock = some q := fun e => (h4 q e).2 rfl
  have hb2 := h2.fr o2 hne
  have hv2 : ∀ k, v2.ownBlock = some k → Plus S w (w2.setCell ⟨q, 0, none⟩ v2) k ∧ k ≠ q := by
    intro k hk
    have hkl := (o1.lt k hk).2
    rcases o3 with o3 | ⟨k', o3, o4, o5⟩
    · rw [o3] at hk; exact ⟨.inl (h4 k hk).1, (h4 k hk).2⟩
    · rw [o3] at hk; cases hk
      exact ⟨.inr ⟨o4, by simpa [World.setCell] using o5⟩, by have := h2.lt; omega⟩
  refine ⟨⟨.inl h1, v2, by simpa using hb2.set 0 v2, ?_, hv2⟩, ?_, hb2.cell rfl, hb2.free 0⟩
  · exact o1.fr (S := fun k => k = q) (Fr.setCell (S := fun k => k = q) (p := ⟨q, 0, none⟩) (Fr.refl _ w2) (.inr rfl) v2) (fun k hk => (hv2 k hk).2)
  · exact Fr.setCell (S := S) (p := ⟨q, 0, none⟩) (o2.mono fun k _ e => (h4 k e).1) (.inr h1) v2
end
set_option maxHeartbeats 4000000 in
theorem raw_calls (S D : Nat → Prop) (w : World) (q : Nat) (m : List UInt8) (bad : Bool) (v : Value) (b : List UInt8) (H : RefIs S w q m bad) (hB : Byt D w v b) (hlen : m.length + b.length ≤ 140737488355328) :
    Calls Tryd.prog 42 #[.pointer (some ⟨q, 0, none⟩), v] w fun e w' => e = .returned (.tuple #[]) ∧ RefIs (Plus S w w') w' q (m ++ b) bad ∧ Fr S w w' := by
  obtain ⟨a, c, h1, h2, h3, h4, h5⟩ := H.opened
  obtain ⟨va, vc, rfl, _⟩ := id hB
  have c0 := h1.cell (i := 0) rfl
  have H1 := Lib.hid h1
  have H2 := Lib.hid h2
  have H3 := Lib.hid h3
  have H4 := Lib.hid h4
  have HB := Lib.hid hB
  clear h1 h2 h3 h4 H hB
  go_enter Tryd.func42, Tryd.ntmps42
  go_wp2_with (at_builtin; refine wpList_append_byt _ rfl (.tmp 8) (.tmp 9) 56 rfl 0 5 elemB _ m rfl H2.out _ b rfl HB.out hlen (Nat.zero_le _) ?_)
  intro va2 vc2 w2 o1 o2 o3
  obtain ⟨g1, g2, g3, g4⟩ := appended H4.out H1.out H3.out o1 (Fr.ofGrown o2) (o3.imp_right fun o3 => ⟨_, o3, Nat.le_refl _, by have := (o1.lt _ o3).2; exact this⟩)
  have G1 := Lib.hid g1
  have G2 := Lib.hid g2
  clear o1 o2 o3 g1 g2 c0
  go_wp2
  go_end0
  exact ⟨rfl, G1.out, G2.out⟩
theorem Plus.le {S : Nat → Prop} {a b c : World} (hb : b.heap.size ≤ c.heap.size) {k : Nat} (h : Plus S a b k) : Plus S a c k := h.imp_right fun h => ⟨h.1, by omega⟩
theorem Plus.join {S : Nat → Prop} {a b c : World} (h1 : a.heap.size ≤ b.heap.size) (h2 : b.heap.size ≤ c.heap.size) (k : Nat) (h : Plus (Plus S a b) b c k) : Plus S a c k := by
  rcases h with (h | h) | h
  · exact .inl h
  · exact .inr ⟨h.1, by omega⟩
  · exact .inr ⟨by omega, h.2⟩
/-- two steps, one behind the other -/
theorem Fr.join {S : Nat → Prop} {a b c : World} (h1 : Fr S a b) (h2 : Fr (Plus S a b) b c) : Fr S a c :=
  h1.trans' h2 (fun k hk h => by rcases h with h | h; exact h; omega)
set_option maxHeartbeats 4000000 in
theorem num_calls (S : Nat → Prop) (w : World) (q : Nat) (m : List UInt8) (bad : Bool) (n k : Nat) (hn : n < 18446744073709551616) (hk : k ≤ 8) (H : RefIs S w q m bad) (hlen : m.length + k ≤ 140737488355328) :
    Calls Tryd.prog 35 #[.pointer (some ⟨q, 0, none⟩), .int .u64 (n : Int), .int .i64 (k : Int)] w fun e w' => e = .returned (.tuple #[]) ∧ RefIs (Plus S w w') w' q (m ++ num n k) bad ∧ Fr S w w' := by
  have H1 := Lib.hid H
  clear H
  go_enter Tryd.func35, Tryd.ntmps35
  go_wp2_with fail
  refine (number_calls w n k hn hk).mono ?_
  rintro e w1 ⟨a, c, rfl, g1, g2⟩
  have hnl : (num n k).length = k := num_length n k
  have HO := Lib.hid g1
  have HB := Lib.hid g2
  have H2 := Lib.hid (H1.out.below g2)
  clear g1 g2
  go_wp2_with fail
  refine (raw_calls S _ w1 q m bad _ (num n k) H2.out HO.out.byt (by omega)).mono ?_
  rintro e w2 ⟨rfl, g1, g2⟩
  have R2 := Lib.hid (show RefIs (Plus S w w2) w2 q (m ++ num n k) bad from g1.mono (fun k _ h => by
    rcases h with h | h
    · exact .inl h
    · exact .inr ⟨by have := HB.out.size; omega, h.2⟩))
  have F2 := Lib.hid ((Fr.ofBelowAll HB.out (Nat.le_refl _) : Fr S w w1).trans' g2 (fun k _ h => h))
  clear g1 g2
  go_wp2
  go_end0
  exact ⟨rfl, R2.out, F2.out⟩
end Go.Proofs.YtmenchnjajpkmaaDoor.RfW
