/- More words for memory: whole rows stored and loaded. Program-independent; no condition. -/
import Derived.Test.YtjdohjoljobinaaMem
namespace Go.Proofs.Ytjdohjoljobinaa.Mem
open Go Go.RowKit

theorem Blk.row {w : World} {b : Nat} {l : List Value} {e : TypeId} (h : Blk w b l e) (l' : List Value) : Blk (w.setRow b l'.toArray) b l' e := setRow_heap w b _ _ _ _ h
theorem Blk.rowOther {w : World} {b : Nat} {l : List Value} {e : TypeId} (h : Blk w b l e) {g : Nat} (hg : b ≠ g) (cs : Array Value) : Blk (w.setRow g cs) b l e := (setRow_other w g b cs hg).trans h
theorem Fr.setRow {S : Nat → Prop} {a w : World} (h : Fr S a w) {g : Nat} (hg : a.heap.size ≤ g ∨ S g) (cs : Array Value) : Fr S a (w.setRow g cs) := by
  refine h.trans' (T := fun k => k = g) ⟨rfl, rfl, rfl, by simp, fun k _ hn => setRow_other w g k cs hn⟩ ?_
  intro i hi e
  rcases hg with hg | hg
  · omega
  · exact e ▸ hg
theorem below_setRow {B : Nat} {a w : World} (h : Below B a w) {g : Nat} (hg : B ≤ g) (cs : Array Value) : Below B a (w.setRow g cs) :=
  h.trans ⟨rfl, rfl, rfl, by simp, fun k hk => setRow_other w g k cs (by omega)⟩
/-- a whole row is stored -/
theorem wpList_store_blk {P : Program} {ops : Array Oper} {rest : List Oper} {o : Oper} {a : Act} {w : World} {Q : Exit → Act → World → Prop} (hgd : o.guard = none) (ty : TypeId) (x y : Operand) (ho : o.op = .store ty x y)
    (g : Nat) (l old : List Value) (hx : a.eval x = .pointer (some ⟨g, 0, none⟩)) (cs : Array Value) (hy : a.eval y = .agg cs) (hcs : cs = l.toArray) {t : TypeId} (hB : Blk w g old t)
    (hi : (P.info? ty).map (·.size) = some l.length) (hl : old.length = l.length) (h1 : ∀ v ∈ l, v.oneCell' = true)
    (h : wpList P ops Q rest (a.put o.dst undef) (w.setRow g l.toArray)) : wpList P ops Q (o :: rest) a w := by
  subst hcs
  refine wpList_store_row hgd ty x y ho g l.toArray hx hy t old.toArray hB (by simpa using hi) (by simpa using hl) ?_ h
  rw [Array.all_eq_true']
  intro v hv
  exact h1 v (by simpa using hv)
/-- a whole row is loaded -/
theorem wpList_load_blk {P : Program} {ops : Array Oper} {rest : List Oper} {o : Oper} {a : Act} {w : World} {Q : Exit → Act → World → Prop} (hgd : o.guard = none) (ty : TypeId) (x : Operand) (ho : o.op = .load ty x)
    (g : Nat) (l : List Value) (hx : a.eval x = .pointer (some ⟨g, 0, none⟩)) {t : TypeId} (hB : Blk w g l t) (d : TypeDesc) (hu : P.underlying ty = some d)
    (hd : (match d, hu with | .struct _, _ => true | .array _ _, _ => true | _, _ => false) = true) (hi : (P.info? ty).map (·.size) = some l.length)
    (h : wpList P ops Q rest (a.put o.dst (.agg l.toArray)) w) : wpList P ops Q (o :: rest) a w :=
  wpList_load_row hgd ty x ho g hx t l.toArray (0, 0) d hB hu hd (by simpa using hi) h
theorem OwnB.row {base : Nat} {e : TypeId} {w : World} {v : Value} {l : List UInt8} (h : OwnB base e w v l) {g : Nat} (hg : g < base) (cs : Array Value) : OwnB base e (w.setRow g cs) v l :=
  h.fr (S := fun k => k = g) (Fr.setRow (S := fun k => k = g) (Fr.refl _ w) (.inr rfl) cs) (fun k hk e => by have := (h.lt k hk).1; omega)
theorem OwnB.set1 {base : Nat} {e : TypeId} {w : World} {v : Value} {l : List UInt8} (h : OwnB base e w v l) {a : Addr} (ha : a.block < base) (u : Value) : OwnB base e (w.setCell a u) v l :=
  ownsRow_setCell_below h ha u
end Go.Proofs.Ytjdohjoljobinaa.Mem
