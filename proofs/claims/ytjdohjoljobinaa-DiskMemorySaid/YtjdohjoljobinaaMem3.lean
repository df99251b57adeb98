/- More words for memory: what stays under a block. Program-independent; no condition. -/
import Derived.Test.YtjdohjoljobinaaMem2
namespace Go.Proofs.Ytjdohjoljobinaa.Mem
open Go Go.RowKit
theorem Blk.keep {w w' : World} {b C : Nat} {l : List Value} {e : TypeId} (h : Blk w b l e) (hb : Below C w w') (hc : b < C) : Blk w' b l e := (hb.block b hc).trans h
theorem Byt.keep {w w' : World} {C : Nat} {v : Value} {l : List UInt8} (h : Byt (fun k => k < C) w v l) (hb : Below C w w') : Byt (fun k => k < C) w' v l :=
  h.fr (Fr.ofBelow hb) (fun _ _ h1 h2 => by omega)
theorem Byt.under {D : Nat → Prop} {w w' : World} {C : Nat} {v : Value} {l : List UInt8} (h : Byt D w v l) (hb : Below w.heap.size w w') (hc : w.heap.size ≤ C) : Byt (fun k => k < C) w' v l :=
  (h.lt.below hb).mono (fun _ _ h => by omega)
theorem OwnB.keep {w w' : World} {base C : Nat} {e : TypeId} {v : Value} {l : List UInt8} (h : OwnB base e w v l) (hb : Below C w w') (hc : ∀ k, v.ownBlock = some k → k < C) : OwnB base e w' v l :=
  h.fr (Fr.ofBelow hb) (fun k hk h2 => by have := hc k hk; omega)
/-- the whole of an array of bytes as a slice -/
theorem Blk.byt {D : Nat → Prop} {w : World} {g n : Nat} {l : List UInt8} {t : TypeId} (h : Blk w g (l.map Mem.byt) t) (hl : l.length = n) (hn : n ≤ maxLen) (hd : D g) : Byt D w (.slice (some ⟨g, 0, none⟩) n n) l := by
  subst hl
  exact ⟨_, _, rfl, ⟨Nat.le_refl _, hn, fun h => by cases h⟩, .inr ⟨g, 0, rfl, hd, fun i hi => by rw [Nat.zero_add]; exact h.cell (by simp [hi])⟩⟩
/-- 'append(s, c)' of one byte as a step of a region that draws -/
theorem step_append_one {P : Program} (w : World) {ops : Array Oper} {o : Oper} {a : Act} {K : Act → World → Prop} {Q : Exit → Act → World → Prop} {E : Prop} (hgd : o.guard = none) (s x : Operand) (t : TypeId)
    (ho : o.op = .call { callee := .builtin .append, args := #[s, x], argTypes := #[t, t] }) (base : Nat) (e : TypeId) (T : ElemT P t e (.int .u8 0) 1 1)
    (v : Value) (l : List UInt8) (hs : a.eval s = v) (hown : OwnB base e w v l) (n : Int) (c : UInt8) (hn : n = (c.toNat : Int)) (hx : a.eval x = .slice (some ⟨w.heap.size, 0, none⟩) 1 1)
    (hlen : l.length + 1 ≤ 140737488355328) (hb : base ≤ w.heap.size)
    (h : ∀ (a' : Option Addr) (cap' : Nat) (w' : World), OwnB base e w' (.slice a' (l.length + 1) cap') (l ++ [c]) → Fr (fun k => v.ownBlock = some k) w w' → ((Value.slice a' (l.length + 1) cap').ownBlock = v.ownBlock ∨ ((Value.slice a' (l.length + 1) cap').ownBlock = some (w.heap.size + 1) ∧ w.heap.size + 1 < w'.heap.size)) → K (a.put o.dst (.slice a' (l.length + 1) cap')) w') :
    if Region.wanted o (yielded ops a.tmps) = true then Oper.wp P o a (w.alloc (.cells #[.int .u8 n] e)).drew K Q else E := by
  refine step_append_byt (D := Any) (w := (w.alloc (.cells #[.int .u8 n] e)).drew) hgd s x t ho base e T v l hs (hown.alloc _).drew _ [c] hx (one_byt w e n c hn trivial).drew (by simpa using hlen) (by simp; omega) ?_
  intro a' cap' w' h1 h2 h3
  refine h a' cap' w' h1 ((((Fr.refl _ w).alloc _).drew).trans (Fr.ofGrown h2)) ?_
  rcases h3 with h3 | h3
  · exact .inl h3
  · have hz : (w.alloc (.cells #[.int .u8 n] e)).drew.heap.size = w.heap.size + 1 := by simp
    rw [hz] at h3
    exact .inr ⟨h3, by have := (h1.lt _ h3).2; omega⟩
end Go.Proofs.Ytjdohjoljobinaa.Mem
