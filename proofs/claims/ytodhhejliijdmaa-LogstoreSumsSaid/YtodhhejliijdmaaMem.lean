/- Words for memory: what a slice of bytes reads as; a world in which only some blocks have turned. Program-independent; no condition. -/
import Derived.WalkKit
import Derived.Lib.Hide
import Derived.OpenShut
import Derived.WalkSmall
import Derived.Deep.QuietTactic
import Derived.BigQuiet
import Derived.Laws.AppendOwnNone
namespace Go.Proofs.Ytodhhejliijdmaa.Mem
open Go Go.RowKit

/-- the worlds in which only the blocks in S, of those that there were, may have turned -/
structure Fr (S : Nat → Prop) (w w' : World) : Prop where
  os : w'.os = w.os
  tape : w'.tape = w.tape
  output : w'.output = w.output
  size : w.heap.size ≤ w'.heap.size
  block : ∀ k, k < w.heap.size → ¬ S k → w'.heap[k]? = w.heap[k]?

theorem Fr.refl (S : Nat → Prop) (w : World) : Fr S w w := ⟨rfl, rfl, rfl, Nat.le_refl _, fun _ _ _ => rfl⟩
theorem Fr.trans {S : Nat → Prop} {a b c : World} (h : Fr S a b) (k : Fr S b c) : Fr S a c :=
  ⟨k.os.trans h.os, k.tape.trans h.tape, k.output.trans h.output, Nat.le_trans h.size k.size, fun i hi hs => (k.block i (Nat.lt_of_lt_of_le hi h.size) hs).trans (h.block i hi hs)⟩
theorem Fr.mono {S T : Nat → Prop} {a b : World} (h : Fr S a b) (hs : ∀ k, k < a.heap.size → S k → T k) : Fr T a b :=
  ⟨h.os, h.tape, h.output, h.size, fun k hk hn => h.block k hk (fun e => hn (hs k hk e))⟩
/-- two steps, the second one's blocks being new or among the first's -/
theorem Fr.trans' {S T : Nat → Prop} {a b c : World} (h : Fr S a b) (k : Fr T b c) (hs : ∀ i, i < a.heap.size → T i → S i) : Fr S a c :=
  ⟨k.os.trans h.os, k.tape.trans h.tape, k.output.trans h.output, Nat.le_trans h.size k.size, fun i hi hn => (k.block i (Nat.lt_of_lt_of_le hi h.size) (fun e => hn (hs i hi e))).trans (h.block i hi hn)⟩
theorem Fr.drew {S : Nat → Prop} {a w : World} (h : Fr S a w) : Fr S a w.drew := ⟨h.os, h.tape, h.output, h.size, h.block⟩
theorem Fr.drewN {S : Nat → Prop} {a w : World} (h : Fr S a w) (n : Nat) : Fr S a (w.drewN n) := ⟨h.os, h.tape, h.output, h.size, h.block⟩
theorem Fr.alloc {S : Nat → Prop} {a w : World} (h : Fr S a w) (o : Obj) : Fr S a (w.alloc o) :=
  h.trans ⟨rfl, rfl, rfl, by simp, fun k hk _ => Below.heap_alloc _ _ _ hk⟩
theorem Fr.setCell {S : Nat → Prop} {a w : World} (h : Fr S a w) {p : Addr} (hp : a.heap.size ≤ p.block ∨ S p.block) (u : Value) : Fr S a (w.setCell p u) := by
  refine h.trans' (T := fun k => k = p.block) ⟨rfl, rfl, rfl, by simp [World.setCell], fun k _ hn => Below.heap_setCell _ _ _ _ hn⟩ ?_
  intro i hi e
  rcases hp with hp | hp
  · omega
  · exact e ▸ hp
theorem Fr.below {S : Nat → Prop} {a w : World} {B : Nat} (h : Fr S a w) (hB : B ≤ a.heap.size) (hs : ∀ k, S k → B ≤ k) : Below B a w :=
  ⟨h.os, h.tape, h.output, h.size, fun k hk => h.block k (by omega) (fun e => by have := hs k e; omega)⟩
theorem Fr.ofBelow {B : Nat} {a w : World} (h : Below B a w) : Fr (fun k => B ≤ k) a w :=
  ⟨h.os, h.tape, h.output, h.size, fun k _ hn => h.block k (by omega)⟩
theorem Fr.ofBelowAll {S : Nat → Prop} {B : Nat} {a w : World} (h : Below B a w) (hB : a.heap.size ≤ B) : Fr S a w :=
  ⟨h.os, h.tape, h.output, h.size, fun k hk _ => h.block k (by omega)⟩
theorem Fr.ofGrown {row : Option Nat} {a w : World} (h : a.grownBy w row) : Fr (fun k => row = some k) a w :=
  ⟨h.os, h.tape, h.output, h.size, fun k hk hn => h.block k hk (fun e => hn e.symm)⟩
theorem Fr.cell {S : Nat → Prop} {a w : World} (h : Fr S a w) {p : Addr} {v : Value} (hv : a.cell? p = some v) (hn : ¬ S p.block) : w.cell? p = some v :=
  (World.cell?_of_block (w := a) (h.block p.block (World.block_lt_of_cell? a p hv) hn)).trans hv
theorem Fr.frozen {S : Nat → Prop} {a w : World} (h : Fr S a w) {p : Addr} (hp : p.block < a.heap.size) (hn : ¬ S p.block) : w.frozen? p = a.frozen? p :=
  World.frozen?_of_block (w := a) (h.block p.block hp hn)

theorem ret_int {k : IntKind} {a b : Int} (h : a = b) : Ending.returned (.int k a) = .returned (.int k b) := by rw [h]
theorem ret_bool {a b : Bool} (h : a = b) : Ending.returned (.bool a) = .returned (.bool b) := by rw [h]

/-- a byte as a cell -/
abbrev byt (c : UInt8) : Value := .int .u8 (c.toNat : Int)
/-- bytes that lie from an address on -/
def Lies (w : World) (b off : Nat) (l : List UInt8) : Prop := ∀ i (h : i < l.length), w.cell? ⟨b, off + i, none⟩ = some (.int .u8 ((l[i]'h).toNat : Int))
/-- a slice that reads as bytes, which lie in a block of D -/
def Byt (D : Nat → Prop) (w : World) (v : Value) (l : List UInt8) : Prop :=
  ∃ a cap, v = .slice a l.length cap ∧ (l.length ≤ cap ∧ cap ≤ maxLen ∧ (a = none → cap = 0)) ∧ (l = [] ∨ ∃ b off, a = some ⟨b, off, none⟩ ∧ D b ∧ Lies w b off l)
abbrev Any : Nat → Prop := fun _ => True

theorem Lies.fr {S : Nat → Prop} {w w' : World} {b off : Nat} {l : List UInt8} (h : Lies w b off l) (hf : Fr S w w') (hn : ¬ S b) : Lies w' b off l :=
  fun i hi => hf.cell (h i hi) hn
theorem Byt.mono {D E : Nat → Prop} {w : World} {v : Value} {l : List UInt8} (h : Byt D w v l) (hd : ∀ k, k < w.heap.size → D k → E k) : Byt E w v l := by
  obtain ⟨a, cap, rfl, hk, h⟩ := h
  refine ⟨a, cap, rfl, hk, ?_⟩
  rcases h with h | ⟨b, off, rfl, hb, hl⟩
  · exact .inl h
  · by_cases hz : l = []
    · exact .inl hz
    · have h0 := hl 0 (by have := List.length_pos_iff.2 hz; omega)
      exact .inr ⟨b, off, rfl, hd b (World.block_lt_of_cell? w _ h0) hb, hl⟩
theorem Byt.any {D : Nat → Prop} {w : World} {v : Value} {l : List UInt8} (h : Byt D w v l) : Byt Any w v l := h.mono fun _ _ _ => trivial
theorem Byt.lt {D : Nat → Prop} {w : World} {v : Value} {l : List UInt8} (h : Byt D w v l) : Byt (fun k => k < w.heap.size ∧ D k) w v l := h.mono fun _ h1 h2 => ⟨h1, h2⟩
theorem Byt.fr {D S : Nat → Prop} {w w' : World} {v : Value} {l : List UInt8} (h : Byt D w v l) (hf : Fr S w w') (hn : ∀ k, k < w.heap.size → D k → ¬ S k) : Byt D w' v l := by
  obtain ⟨a, cap, rfl, hk, h1⟩ := h.lt
  refine ⟨a, cap, rfl, hk, h1.imp_right ?_⟩
  rintro ⟨b, off, rfl, hb, hl⟩
  exact ⟨b, off, rfl, hb.2, hl.fr hf (hn b hb.1 hb.2)⟩
theorem Byt.below {D : Nat → Prop} {w w' : World} {v : Value} {l : List UInt8} (h : Byt D w v l) (hf : Below w.heap.size w w') : Byt D w' v l :=
  h.fr (Fr.ofBelow hf) (fun _ h1 _ h2 => by omega)
theorem Byt.drew {D : Nat → Prop} {w : World} {v : Value} {l : List UInt8} (h : Byt D w v l) : Byt D w.drew v l := h
theorem Byt.nil (D : Nat → Prop) (w : World) : Byt D w (.slice none 0 0) [] := ⟨none, 0, rfl, ⟨Nat.le_refl _, Nat.zero_le _, fun _ => rfl⟩, .inl rfl⟩
theorem Lies.lt {w : World} {b off : Nat} {l : List UInt8} (h : Lies w b off l) (hl : l ≠ []) : b < w.heap.size :=
  World.block_lt_of_cell? w _ (h 0 (by have := List.length_pos_iff.2 hl; omega))
/-- a new block of bytes -/
theorem Byt.newBlock {D : Nat → Prop} (w : World) (cs : Array Value) (e : TypeId) (f : Nat × Nat) (l : List UInt8) (n cap : Nat) (hn : n = l.length) (hcap : l.length ≤ cap ∧ cap ≤ maxLen) (hd : D w.heap.size) (hc : ∀ i (h : i < l.length), cs[i]? = some (byt (l[i]'h))) :
    Byt D (w.alloc (.cells cs e f)) (.slice (some ⟨w.heap.size, 0, none⟩) n cap) l := by
  subst hn
  refine ⟨_, cap, rfl, ⟨hcap.1, hcap.2, fun h => by cases h⟩, .inr ⟨w.heap.size, 0, rfl, hd, fun i h => ?_⟩⟩
  have e1 : (w.alloc (.cells cs e f)).heap[w.heap.size]? = some (.cells cs e f) := heap_alloc_new w _
  simp only [World.cell?, e1, Nat.zero_add]
  simpa using hc i h

/-- what a program's tables say of a slice type t, its elements' type e -/
structure ElemT (P : Program) (t e : TypeId) (z : Value) (size bytes : Nat) : Prop where
  und : P.underlying t = some (.slice e)
  info : ∃ i, P.info? e = some i ∧ i.zero = some z ∧ i.size = size ∧ i.bytes = bytes
  zsz : z.cells.size = size
  pos : 0 < size

/-- a slice of the call's own that holds bytes, in a block from base on -/
def OwnB (base : Nat) (e : TypeId) (w : World) (v : Value) (l : List UInt8) : Prop := w.ownsRow base e 1 v l.length (l.map byt)
theorem OwnB.nil (base : Nat) (e : TypeId) (w : World) : OwnB base e w (.slice none 0 0) [] := World.ownsRow_nil _ _ _ _
theorem OwnB.cast {base : Nat} {e : TypeId} {w : World} {v : Value} {l m : List UInt8} (h : OwnB base e w v l) (hm : l = m) : OwnB base e w v m := hm ▸ h
theorem OwnB.byt {base : Nat} {e : TypeId} {w : World} {v : Value} {l : List UInt8} (h : OwnB base e w v l) : Byt (fun k => v.ownBlock = some k ∧ base ≤ k) w v l := by
  rcases h.2 with ⟨rfl, hn⟩ | ⟨g, cap, cur, hv, hg, hh, hc, hm, hs, ht⟩
  · have : l = [] := List.length_eq_zero_iff.1 hn
    subst this; exact ⟨none, 0, rfl, ⟨Nat.le_refl _, Nat.zero_le _, fun _ => rfl⟩, .inl rfl⟩
  · subst hv
    refine ⟨_, cap, rfl, ⟨hc, hm, fun h => by cases h⟩, .inr ⟨g, 0, rfl, ⟨rfl, hg⟩, fun i hi => ?_⟩⟩
    have := h.cellAt i (by omega)
    rw [Nat.zero_add, this]
    simp [hi]
theorem OwnB.drew {base : Nat} {e : TypeId} {w : World} {v : Value} {l : List UInt8} (h : OwnB base e w v l) : OwnB base e w.drew v l := h
theorem OwnB.fr {base : Nat} {e : TypeId} {w w' : World} {v : Value} {l : List UInt8} {S : Nat → Prop} (h : OwnB base e w v l) (hf : Fr S w w') (hn : ∀ k, v.ownBlock = some k → ¬ S k) : OwnB base e w' v l := by
  refine ⟨h.1, ?_⟩
  rcases h.2 with h2 | ⟨g, cap, cur, rfl, hb, hgg, rest⟩
  · exact .inl h2
  · exact .inr ⟨g, cap, cur, rfl, hb, (hf.block g (Array.getElem?_eq_some_iff.1 hgg).1 (hn g rfl)).trans hgg, rest⟩
theorem OwnB.below {base : Nat} {e : TypeId} {w w' : World} {v : Value} {l : List UInt8} (h : OwnB base e w v l) (hf : Below w.heap.size w w') : OwnB base e w' v l :=
  h.fr (Fr.ofBelow hf) (fun k hk h2 => by have := (World.ownsRow.lt h k hk).2; omega)
theorem OwnB.mono {base base' : Nat} {e : TypeId} {w : World} {v : Value} {l : List UInt8} (h : OwnB base e w v l) (hb : base' ≤ base) : OwnB base' e w v l := by
  refine ⟨h.1, ?_⟩
  rcases h.2 with h2 | ⟨g, cap, cur, hv, hg, r⟩
  · exact .inl h2
  · exact .inr ⟨g, cap, cur, hv, by omega, r⟩
theorem OwnB.lt {base : Nat} {e : TypeId} {w : World} {v : Value} {l : List UInt8} (h : OwnB base e w v l) : ∀ k, v.ownBlock = some k → base ≤ k ∧ k < w.heap.size := World.ownsRow.lt h

theorem OwnB.shape {base : Nat} {e : TypeId} {w : World} {v : Value} {l : List UInt8} (h : OwnB base e w v l) (hl : l ≠ []) :
    ∃ g cap, v = .slice (some ⟨g, 0, none⟩) l.length cap ∧ base ≤ g ∧ g < w.heap.size ∧ l.length ≤ cap ∧ cap ≤ maxLen ∧ Lies w g 0 l ∧ ∀ j, w.frozen? ⟨g, j, none⟩ = false := by
  rcases h.2 with ⟨rfl, hn⟩ | ⟨g, cap, cur, hv, hg, hh, hc, hm, hs, ht⟩
  · exact absurd (List.length_eq_zero_iff.1 hn) hl
  · subst hv
    refine ⟨g, cap, rfl, hg, (Array.getElem?_eq_some_iff.1 hh).1, hc, hm, fun i hi => ?_, fun j => h.frozenAt j⟩
    have := h.cellAt i (by omega)
    rw [Nat.zero_add, this]
    simp [hi]
theorem Lies.set {w : World} {b off : Nat} {l : List UInt8} (h : Lies w b off l) (i : Nat) (hi : i < l.length) (c : UInt8) : Lies (w.setCell ⟨b, off + i, none⟩ (.int .u8 (c.toNat : Int))) b off (l.set i c) := by
  intro j hj
  rw [List.length_set] at hj
  rw [List.getElem_set]
  by_cases e : i = j
  · subst e; rw [if_pos rfl]; exact World.cell?_setCell_same _ _ _ (h i hi)
  · rw [if_neg e, World.cell?_setCell_other _ _ _ _ (by intro q; injection q; omega)]; exact h j hj
theorem Lies.byt {D : Nat → Prop} {w : World} {b off n cap : Nat} {l : List UInt8} (h : Lies w b off l) (hd : D b) (hn : n = l.length) (hc : l.length ≤ cap) (hm : cap ≤ maxLen) : Byt D w (.slice (some ⟨b, off, none⟩) n cap) l := by
  subst hn; exact ⟨_, cap, rfl, ⟨hc, hm, fun h => by cases h⟩, .inr ⟨b, off, rfl, hd, h⟩⟩

/-- 'append(s, x...)' of bytes, s the call's own (or nil), x any bytes -/
theorem wpList_append_byt {P : Program} (w : World) {ops : Array Oper} {rest : List Oper} {o : Oper} {a : Act} {Q : Exit → Act → World → Prop} (hgd : o.guard = none) (s x : Operand) (t : TypeId)
    (ho : o.op = .call { callee := .builtin .append, args := #[s, x], argTypes := #[t, t] }) (base : Nat) (e : TypeId) (T : ElemT P t e (.int .u8 0) 1 1)
    (v : Value) (l : List UInt8) (hs : a.eval s = v) (hown : OwnB base e w v l) {D : Nat → Prop} (y : Value) (m : List UInt8) (hx : a.eval x = y) (hy : Byt D w y m)
    (hlen : l.length + m.length ≤ 140737488355328) (hb : base ≤ w.heap.size)
    (h : ∀ (v' : Value) (w' : World), OwnB base e w' v' (l ++ m) → w.grownBy w' v.ownBlock → (v' = .slice none 0 0 ↔ v = .slice none 0 0 ∧ m = []) → wpList P ops Q rest (a.put o.dst v') w') :
    wpList P ops Q (o :: rest) a w := by
  obtain ⟨i, hi, hz, hsz, hby⟩ := T.info
  obtain ⟨ad, c, rfl, hk, hm⟩ := hy
  have hml : (m.map byt).length = m.length * 1 := by simp
  have hone : ∀ u : Value, u ∈ m.map byt → u.oneCell' = true := by
    intro u hu; obtain ⟨c, _, rfl⟩ := List.mem_map.1 hu; rfl
  have hmax : l.length + m.length ≤ maxLen := by unfold maxLen; omega
  cases ad with
  | none =>
    have hm0 : m = [] := by
      rcases hm with hm | ⟨b, off, hc, _⟩
      · exact hm
      · cases hc
    subst hm0
    obtain rfl := hk.2.2 rfl
    · refine wpList_append_own_none hgd s x t ho base e i 1 T.und hi v _ _ hs hown hx (h v w ?_ (World.grownBy.refl _ _) ?_)
      · exact hown.cast (by simp)
      · simp
  | some ad =>
    refine wpList_append_own w hgd s x t ho base e i (.int .u8 0) 1 1 T.und hi hz hsz hby T.zsz T.pos v _ _ hs hown ad m.length c (m.map byt) hx hml ?_ hone hmax (by omega) hb ?_
    · intro j u hj
      rcases hm with hm | ⟨b, off, hc, _, hl⟩
      · subst hm; simp at hj
      · simp only [Option.some.injEq] at hc; subst hc
        have hjl : j < m.length := by
          have := (List.getElem?_eq_some_iff.1 hj).1; simpa using this
        have := hl j hjl
        simp [hjl] at hj; subst hj
        by_cases h0 : j = 0
        · subst h0; simpa [Addr.add] using this
        · simpa [Addr.add, h0] using this
    · intro v' w' h1 h2 h3
      refine h v' w' ?_ h2 (h3.trans ?_)
      · unfold OwnB; rw [List.length_append, List.map_append]; exact h1
      · rw [List.length_eq_zero_iff]
end Go.Proofs.Ytodhhejliijdmaa.Mem
