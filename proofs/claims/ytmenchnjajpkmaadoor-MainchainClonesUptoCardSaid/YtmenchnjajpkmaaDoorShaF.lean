/- A hash that lies from a block on: New and Write as steps that keep all below. Conditions: as Write's. -/
import Derived.Test.YtmenchnjajpkmaaDoorShaL0
namespace Go.Proofs.YtmenchnjajpkmaaDoor.Mem
open Go Go.RowKit
theorem Blk.keep {w w' : World} {b C : Nat} {l : List Value} {e : TypeId} (h : Blk w b l e) (hb : Below C w w') (hc : b < C) : Blk w' b l e := (hb.block b hc).trans h
theorem Byt.keep {w w' : World} {C : Nat} {v : Value} {l : List UInt8} (h : Byt (fun k => k < C) w v l) (hb : Below C w w') : Byt (fun k => k < C) w' v l :=
  h.fr (Fr.ofBelow hb) (fun _ _ h1 h2 => by omega)
theorem Byt.under {D : Nat → Prop} {w w' : World} {C : Nat} {v : Value} {l : List UInt8} (h : Byt D w v l) (hb : Below w.heap.size w w') (hc : w.heap.size ≤ C) : Byt (fun k => k < C) w' v l :=
  (h.lt.below hb).mono (fun _ _ h => by omega)
theorem OwnB.keep {w w' : World} {base C : Nat} {e : TypeId} {v : Value} {l : List UInt8} (h : OwnB base e w v l) (hb : Below C w w') (hc : ∀ k, v.ownBlock = some k → k < C) : OwnB base e w' v l :=
  h.fr (Fr.ofBelow hb) (fun k hk h2 => by have := hc k hk; omega)
/-- the whole of an array of bytes as a slice -/
theorem Blk.byt {D : Nat → Prop} {w : World} {g n : Nat} {l : List UInt8} {t : TypeId} (h : Blk w g (l.map Mem.byt) t) (hl : l.length = n) (hn : n ≤ maxLen) (hd : D g) : Byt D w (.slice (some ⟨g, 0, none⟩) n n) l := by
  subst hl
  exact ⟨_, _, rfl, ⟨Nat.le_refl _, hn, fun h => by cases h⟩, .inr ⟨g, 0, rfl, hd, fun i hi => by rw [Nat.zero_add]; exact h.cell (by simp [hi])⟩⟩
end Go.Proofs.YtmenchnjajpkmaaDoor.Mem
namespace Go.Proofs.YtmenchnjajpkmaaDoor.ShaW
open Go Go.RowKit Mem Sha
theorem TabB.keep {w w' : World} {g C : Nat} (h : TabB w g) (hb : Below C w w') (hc : g < C) : TabB w' g := h.fr (Fr.ofBelow hb) (by omega)
/-- a hash from block C on -/
def HashFrom (C : Nat) (w : World) (q : Nat) (l : List UInt8) : Prop := HashIs (fun k => C ≤ k) w q l ∧ C ≤ w.heap.size
theorem HashFrom.below {C : Nat} {w w' : World} {q : Nat} {l : List UInt8} (h : HashFrom C w q l) (hb : Below w.heap.size w w') : HashFrom C w' q l :=
  ⟨HashRaw.fr h.1 (Fr.ofBelow hb) (fun k hk _ h2 => by omega), Nat.le_trans h.2 hb.size⟩
theorem HashFrom.lt {C : Nat} {w : World} {q : Nat} {l : List UInt8} (h : HashFrom C w q l) : q < w.heap.size := h.1.2.choose_spec.1.lt
/-- new blocks may be made below nothing: the hash stays where only blocks that it does not have turn -/
theorem HashFrom.fr {C : Nat} {w w' : World} {q : Nat} {l : List UInt8} {T : Nat → Prop} (h : HashFrom C w q l) (hf : Fr T w w') (hn : ∀ k, k < w.heap.size → C ≤ k → ¬ T k) : HashFrom C w' q l :=
  ⟨HashRaw.fr h.1 hf hn, Nat.le_trans h.2 hf.size⟩
theorem new_from (w : World) :
    Calls Tryd.prog 37 #[] w fun e w' => ∃ h, e = .returned (.pointer (some ⟨h, 0, none⟩)) ∧ HashFrom w.heap.size w' h [] ∧ Below w.heap.size w w' := by
  refine (new_calls w).mono ?_
  rintro e w1 ⟨q, rfl, hq, hH, hb1⟩
  exact ⟨q, rfl, ⟨hH.mono (fun k _ h => by omega), hb1.size⟩, hb1⟩
theorem write_from (C : Nat) (w : World) (q : Nat) (l : List UInt8) (v : Value) (b : List UInt8) (H : HashFrom C w q l) (hB : Byt (fun k => k < C) w v b)
    (hlen : l.length + b.length ≤ 1125899906842624) (hT : TabB w 1) (hg : 1 < C) :
    Calls Tryd.prog 38 #[.pointer (some ⟨q, 0, none⟩), v] w fun e w' => e = .returned (.tuple #[]) ∧ HashFrom C w' q (l ++ b) ∧ Below C w w' := by
  refine (write_calls (fun k => C ≤ k) (fun k => k < C) w q l v b H.1 hB (fun k _ h1 h2 => by omega) hlen hT (by omega)).mono ?_
  rintro e w1 ⟨rfl, hH, hf⟩
  have := H.2
  exact ⟨rfl, ⟨hH.mono (fun k _ h => by rcases h with h | h <;> omega), Nat.le_trans H.2 hf.size⟩, hf.below H.2 (fun k h => h)⟩
end Go.Proofs.YtmenchnjajpkmaaDoor.ShaW
