/- Words for memory: what a slice of bytes reads as; a world in which only some blocks have turned. Program-independent; no condition. More words for memory: whole rows stored and loaded. Program-independent; no condition. More words for memory: what stays under a block. Program-independent; no condition. The codec, in plain Lean: numbers, lengths, texts; a reader as what is left and what is amiss. No program here. Walks of the codec's Writer: New, Byte, Word, Long, Var, Raw, Text, Len. Condition: the bytes together are at most 2^47. Words for regions that draw their order and hold calls that make memory, for texts of bytes and for arrays of bytes that are compared. Program-independent; no condition. -/
import Derived.WalkKit
import Derived.Lib.Hide
import Derived.OpenShut
import Derived.WalkSmall
import Derived.Deep.QuietTactic
import Derived.BigQuiet
import Derived.Laws.AppendOwnNone
import Derived.Maps.AppendAt
import Derived.Deep.RegionLaw
import Derived.Deep.RegionHeld3
import Derived.Test.YtmenchnjajpkmaaGreatDoorProg
import Derived.Deep.DeepCutAuto
import Derived.Deep.CutBlock
import Derived.BigRegion
import Derived.RegionTactic
import Derived.ChangeKeysEq
import Derived.Laws.StructEq
import Derived.Laws.BytesArg
import Derived.BigFrame
section
namespace Go.Proofs.YtmenchnjajpkmaaGreatDoor.Mem
open Go Go.RowKit

/-- the worlds in which only the blocks in S, of those that there were, may have turned -/
structure Fr (S : Nat → Prop) (w w' : World) : Prop where
  os : w'.os = w.os
  tape : w'.tape = w.tape
  output : w'.output = w.output
  size : w.heap.size ≤ w'.heap.size
  block : ∀ k, k < w.heap.size → ¬ S k → w'.heap[k]? = w.heap[k]?

theorem Fr.refl (S : Nat → Prop) (w : World) : Fr S w w := ⟨rfl, rfl, rfl, Nat.le_refl _, fun _ _ _ => rfl⟩
theorem Fr.trans {S : Nat → Prop} {a b c : World} (h : Fr S a b) (k : Fr S b c) : Fr S a c :=
  ⟨k.os.trans h.os, k.tape.trans h.tape, k.output.trans h.output, Nat.le_trans h.size k.size, fun i hi hs => (k.block i (Nat.lt_of_lt_of_le hi h.size) hs).trans (h.block i hi hs)⟩
theorem Fr.mono {S T : Nat → Prop} {a b : World} (h : Fr S a b) (hs : ∀ k, k < a.heap.size → S k → T k) : Fr T a b :=
  ⟨h.os, h.tape, h.output, h.size, fun k hk hn => h.block k hk (fun e => hn (hs k hk e))⟩
/-- two steps, the second one's blocks being new or among the first's -/
theorem Fr.trans' {S T : Nat → Prop} {a b c : World} (h : Fr S a b) (k : Fr T b c) (hs : ∀ i, i < a.heap.size → T i → S i) : Fr S a c :=
  ⟨k.os.trans h.os, k.tape.trans h.tape, k.output.trans h.output, Nat.le_trans h.size k.size, fun i hi hn => (k.block i (Nat.lt_of_lt_of_le hi h.size) (fun e => hn (hs i hi e))).trans (h.block i hi hn)⟩
theorem Fr.drew {S : Nat → Prop} {a w : World} (h : Fr S a w) : Fr S a w.drew := ⟨h.os, h.tape, h.output, h.size, h.block⟩
theorem Fr.drewN {S : Nat → Prop} {a w : World} (h : Fr S a w) (n : Nat) : Fr S a (w.drewN n) := ⟨h.os, h.tape, h.output, h.size, h.block⟩
theorem Fr.alloc {S : Nat → Prop} {a w : World} (h : Fr S a w) (o : Obj) : Fr S a (w.alloc o) :=
  h.trans ⟨rfl, rfl, rfl, by simp, fun k hk _ => Below.heap_alloc _ _ _ hk⟩
theorem Fr.setCell {S : Nat → Prop} {a w : World} (h : Fr S a w) {p : Addr} (hp : a.heap.size ≤ p.block ∨ S p.block) (u : Value) : Fr S a (w.setCell p u) := by
  refine h.trans' (T := fun k => k = p.block) ⟨rfl, rfl, rfl, by simp [World.setCell], fun k _ hn => Below.heap_setCell _ _ _ _ hn⟩ ?_
  intro i hi e
  rcases hp with hp | hp
  · omega
  · exact e ▸ hp
theorem Fr.below {S : Nat → Prop} {a w : World} {B : Nat} (h : Fr S a w) (hB : B ≤ a.heap.size) (hs : ∀ k, S k → B ≤ k) : Below B a w :=
  ⟨h.os, h.tape, h.output, h.size, fun k hk => h.block k (by omega) (fun e => by have := hs k e; omega)⟩
theorem Fr.ofBelow {B : Nat} {a w : World} (h : Below B a w) : Fr (fun k => B ≤ k) a w :=
  ⟨h.os, h.tape, h.output, h.size, fun k _ hn => h.block k (by omega)⟩
theorem Fr.ofBelowAll {S : Nat → Prop} {B : Nat} {a w : World} (h : Below B a w) (hB : a.heap.size ≤ B) : Fr S a w :=
  ⟨h.os, h.tape, h.output, h.size, fun k hk _ => h.block k (by omega)⟩
theorem Fr.ofGrown {row : Option Nat} {a w : World} (h : a.grownBy w row) : Fr (fun k => row = some k) a w :=
  ⟨h.os, h.tape, h.output, h.size, fun k hk hn => h.block k hk (fun e => hn e.symm)⟩
theorem Fr.cell {S : Nat → Prop} {a w : World} (h : Fr S a w) {p : Addr} {v : Value} (hv : a.cell? p = some v) (hn : ¬ S p.block) : w.cell? p = some v :=
  (World.cell?_of_block (w := a) (h.block p.block (World.block_lt_of_cell? a p hv) hn)).trans hv
theorem Fr.frozen {S : Nat → Prop} {a w : World} (h : Fr S a w) {p : Addr} (hp : p.block < a.heap.size) (hn : ¬ S p.block) : w.frozen? p = a.frozen? p :=
  World.frozen?_of_block (w := a) (h.block p.block hp hn)

theorem ret_int {k : IntKind} {a b : Int} (h : a = b) : Ending.returned (.int k a) = .returned (.int k b) := by rw [h]
theorem ret_bool {a b : Bool} (h : a = b) : Ending.returned (.bool a) = .returned (.bool b) := by rw [h]

/-- a byte as a cell -/
abbrev byt (c : UInt8) : Value := .int .u8 (c.toNat : Int)
/-- bytes that lie from an address on -/
def Lies (w : World) (b off : Nat) (l : List UInt8) : Prop := ∀ i (h : i < l.length), w.cell? ⟨b, off + i, none⟩ = some (.int .u8 ((l[i]'h).toNat : Int))
/-- a slice that reads as bytes, which lie in a block of D -/
def Byt (D : Nat → Prop) (w : World) (v : Value) (l : List UInt8) : Prop :=
  ∃ a cap, v = .slice a l.length cap ∧ (l.length ≤ cap ∧ cap ≤ maxLen ∧ (a = none → cap = 0)) ∧ (l = [] ∨ ∃ b off, a = some ⟨b, off, none⟩ ∧ D b ∧ Lies w b off l)
abbrev Any : Nat → Prop := fun _ => True

theorem Lies.fr {S : Nat → Prop} {w w' : World} {b off : Nat} {l : List UInt8} (h : Lies w b off l) (hf : Fr S w w') (hn : ¬ S b) : Lies w' b off l :=
  fun i hi => hf.cell (h i hi) hn
theorem Byt.mono {D E : Nat → Prop} {w : World} {v : Value} {l : List UInt8} (h : Byt D w v l) (hd : ∀ k, k < w.heap.size → D k → E k) : Byt E w v l := by
  obtain ⟨a, cap, rfl, hk, h⟩ := h
  refine ⟨a, cap, rfl, hk, ?_⟩
  rcases h with h | ⟨b, off, rfl, hb, hl⟩
  · exact .inl h
  · by_cases hz : l = []
    · exact .inl hz
    · have h0 := hl 0 (by have := List.length_pos_iff.2 hz; omega)
      exact .inr ⟨b, off, rfl, hd b (World.block_lt_of_cell? w _ h0) hb, hl⟩
theorem Byt.any {D : Nat → Prop} {w : World} {v : Value} {l : List UInt8} (h : Byt D w v l) : Byt Any w v l := h.mono fun _ _ _ => trivial
theorem Byt.lt {D : Nat → Prop} {w : World} {v : Value} {l : List UInt8} (h : Byt D w v l) : Byt (fun k => k < w.heap.size ∧ D k) w v l := h.mono fun _ h1 h2 => ⟨h1, h2⟩
theorem Byt.fr {D S : Nat → Prop} {w w' : World} {v : Value} {l : List UInt8} (h : Byt D w v l) (hf : Fr S w w') (hn : ∀ k, k < w.heap.size → D k → ¬ S k) : Byt D w' v l := by
  obtain ⟨a, cap, rfl, hk, h1⟩ := h.lt
  refine ⟨a, cap, rfl, hk, h1.imp_right ?_⟩
  rintro ⟨b, off, rfl, hb, hl⟩
  exact ⟨b, off, rfl, hb.2, hl.fr hf (hn b hb.1 hb.2)⟩
theorem Byt.below {D : Nat → Prop} {w w' : World} {v : Value} {l : List UInt8} (h : Byt D w v l) (hf : Below w.heap.size w w') : Byt D w' v l :=
  h.fr (Fr.ofBelow hf) (fun _ h1 _ h2 => by omega)
theorem Byt.drew {D : Nat → Prop} {w : World} {v : Value} {l : List UInt8} (h : Byt D w v l) : Byt D w.drew v l := h
theorem Byt.nil (D : Nat → Prop) (w : World) : Byt D w (.slice none 0 0) [] := ⟨none, 0, rfl, ⟨Nat.le_refl _, Nat.zero_le _, fun _ => rfl⟩, .inl rfl⟩
theorem Lies.lt {w : World} {b off : Nat} {l : List UInt8} (h : Lies w b off l) (hl : l ≠ []) : b < w.heap.size :=
  World.block_lt_of_cell? w _ (h 0 (by have := List.length_pos_iff.2 hl; omega))
/-- a new block of bytes -/
theorem Byt.newBlock {D : Nat → Prop} (w : World) (cs : Array Value) (e : TypeId) (f : Nat × Nat) (l : List UInt8) (n cap : Nat) (hn : n = l.length) (hcap : l.length ≤ cap ∧ cap ≤ maxLen) (hd : D w.heap.size) (hc : ∀ i (h : i < l.length), cs[i]? = some (byt (l[i]'h))) :
    Byt D (w.alloc (.cells cs e f)) (.slice (some ⟨w.heap.size, 0, none⟩) n cap) l := by
  subst hn
  refine ⟨_, cap, rfl, ⟨hcap.1, hcap.2, fun h => by cases h⟩, .inr ⟨w.heap.size, 0, rfl, hd, fun i h => ?_⟩⟩
  have e1 : (w.alloc (.cells cs e f)).heap[w.heap.size]? = some (.cells cs e f) := heap_alloc_new w _
  simp only [World.cell?, e1, Nat.zero_add]
  simpa using hc i h

/-- what a program's tables say of a slice type t, its elements' type e -/
structure ElemT (P : Program) (t e : TypeId) (z : Value) (size bytes : Nat) : Prop where
  und : P.underlying t = some (.slice e)
  info : ∃ i, P.info? e = some i ∧ i.zero = some z ∧ i.size = size ∧ i.bytes = bytes
  zsz : z.cells.size = size
  pos : 0 < size

/-- a slice of the call's own that holds bytes, in a block from base on -/
def OwnB (base : Nat) (e : TypeId) (w : World) (v : Value) (l : List UInt8) : Prop := w.ownsRow base e 1 v l.length (l.map byt)
theorem OwnB.nil (base : Nat) (e : TypeId) (w : World) : OwnB base e w (.slice none 0 0) [] := World.ownsRow_nil _ _ _ _
theorem OwnB.cast {base : Nat} {e : TypeId} {w : World} {v : Value} {l m : List UInt8} (h : OwnB base e w v l) (hm : l = m) : OwnB base e w v m := hm ▸ h
theorem OwnB.byt {base : Nat} {e : TypeId} {w : World} {v : Value} {l : List UInt8} (h : OwnB base e w v l) : Byt (fun k => v.ownBlock = some k ∧ base ≤ k) w v l := by
  rcases h.2 with ⟨rfl, hn⟩ | ⟨g, cap, cur, hv, hg, hh, hc, hm, hs, ht⟩
  · have : l = [] := List.length_eq_zero_iff.1 hn
    subst this; exact ⟨none, 0, rfl, ⟨Nat.le_refl _, Nat.zero_le _, fun _ => rfl⟩, .inl rfl⟩
  · subst hv
    refine ⟨_, cap, rfl, ⟨hc, hm, fun h => by cases h⟩, .inr ⟨g, 0, rfl, ⟨rfl, hg⟩, fun i hi => ?_⟩⟩
    have := h.cellAt i (by omega)
    rw [Nat.zero_add, this]
    simp [hi]
theorem OwnB.drew {base : Nat} {e : TypeId} {w : World} {v : Value} {l : List UInt8} (h : OwnB base e w v l) : OwnB base e w.drew v l := h
theorem OwnB.fr {base : Nat} {e : TypeId} {w w' : World} {v : Value} {l : List UInt8} {S : Nat → Prop} (h : OwnB base e w v l) (hf : Fr S w w') (hn : ∀ k, v.ownBlock = some k → ¬ S k) : OwnB base e w' v l := by
  refine ⟨h.1, ?_⟩
  rcases h.2 with h2 | ⟨g, cap, cur, rfl, hb, hgg, rest⟩
  · exact .inl h2
  · exact .inr ⟨g, cap, cur, rfl, hb, (hf.block g (Array.getElem?_eq_some_iff.1 hgg).1 (hn g rfl)).trans hgg, rest⟩
theorem OwnB.below {base : Nat} {e : TypeId} {w w' : World} {v : Value} {l : List UInt8} (h : OwnB base e w v l) (hf : Below w.heap.size w w') : OwnB base e w' v l :=
  h.fr (Fr.ofBelow hf) (fun k hk h2 => by have := (World.ownsRow.lt h k hk).2; omega)
theorem OwnB.mono {base base' : Nat} {e : TypeId} {w : World} {v : Value} {l : List UInt8} (h : OwnB base e w v l) (hb : base' ≤ base) : OwnB base' e w v l := by
  refine ⟨h.1, ?_⟩
  rcases h.2 with h2 | ⟨g, cap, cur, hv, hg, r⟩
  · exact .inl h2
  · exact .inr ⟨g, cap, cur, hv, by omega, r⟩
theorem OwnB.lt {base : Nat} {e : TypeId} {w : World} {v : Value} {l : List UInt8} (h : OwnB base e w v l) : ∀ k, v.ownBlock = some k → base ≤ k ∧ k < w.heap.size := World.ownsRow.lt h

theorem OwnB.shape {base : Nat} {e : TypeId} {w : World} {v : Value} {l : List UInt8} (h : OwnB base e w v l) (hl : l ≠ []) :
    ∃ g cap, v = .slice (some ⟨g, 0, none⟩) l.length cap ∧ base ≤ g ∧ g < w.heap.size ∧ l.length ≤ cap ∧ cap ≤ maxLen ∧ Lies w g 0 l ∧ ∀ j, w.frozen? ⟨g, j, none⟩ = false := by
  rcases h.2 with ⟨rfl, hn⟩ | ⟨g, cap, cur, hv, hg, hh, hc, hm, hs, ht⟩
  · exact absurd (List.length_eq_zero_iff.1 hn) hl
  · subst hv
    refine ⟨g, cap, rfl, hg, (Array.getElem?_eq_some_iff.1 hh).1, hc, hm, fun i hi => ?_, fun j => h.frozenAt j⟩
    have := h.cellAt i (by omega)
    rw [Nat.zero_add, this]
    simp [hi]
theorem Lies.set {w : World} {b off : Nat} {l : List UInt8} (h : Lies w b off l) (i : Nat) (hi : i < l.length) (c : UInt8) : Lies (w.setCell ⟨b, off + i, none⟩ (.int .u8 (c.toNat : Int))) b off (l.set i c) := by
  intro j hj
  rw [List.length_set] at hj
  rw [List.getElem_set]
  by_cases e : i = j
  · subst e; rw [if_pos rfl]; exact World.cell?_setCell_same _ _ _ (h i hi)
  · rw [if_neg e, World.cell?_setCell_other _ _ _ _ (by intro q; injection q; omega)]; exact h j hj
theorem Lies.byt {D : Nat → Prop} {w : World} {b off n cap : Nat} {l : List UInt8} (h : Lies w b off l) (hd : D b) (hn : n = l.length) (hc : l.length ≤ cap) (hm : cap ≤ maxLen) : Byt D w (.slice (some ⟨b, off, none⟩) n cap) l := by
  subst hn; exact ⟨_, cap, rfl, ⟨hc, hm, fun h => by cases h⟩, .inr ⟨b, off, rfl, hd, h⟩⟩

/-- 'append(s, x...)' of bytes, s the call's own (or nil), x any bytes -/
theorem run_append_byt {P : Program} (w : World) (t ty base e : TypeId) (T : ElemT P t e (.int .u8 0) 1 1) (v : Value) (l : List UInt8) (hown : OwnB base e w v l) {D : Nat → Prop} (y : Value) (m : List UInt8) (hy : Byt D w y m)
    (hlen : l.length + m.length ≤ 140737488355328) (hb : base ≤ w.heap.size) :
    ∃ a' cap' w', (Builtin.append_ #[t, t] ty #[v, y]).run P w = .ok (.slice a' (l.length + m.length) cap') w' ∧ OwnB base e w' (.slice a' (l.length + m.length) cap') (l ++ m) ∧ w.grownBy w' v.ownBlock ∧ ((Value.slice a' (l.length + m.length) cap').ownBlock = v.ownBlock ∨ (Value.slice a' (l.length + m.length) cap').ownBlock = some w.heap.size) := by
  obtain ⟨i, hi, hz, hsz, hby⟩ := T.info
  obtain ⟨ad, c, rfl, hk, hm⟩ := hy
  have hml : (m.map byt).length = m.length * 1 := by simp
  have hone : ∀ u : Value, u ∈ m.map byt → u.oneCell' = true := by
    intro u hu; obtain ⟨c, _, rfl⟩ := List.mem_map.1 hu; rfl
  have hmax : l.length + m.length ≤ maxLen := by unfold maxLen; omega
  cases ad with
  | none =>
    have hm0 : m = [] := by
      rcases hm with hm | ⟨b, off, hc, _⟩
      · exact hm
      · cases hc
    subst hm0
    obtain rfl := hk.2.2 rfl
    obtain ⟨va, vc, rfl, _⟩ := id hown.byt
    exact ⟨va, vc, w, run_append_owned_none (P := P) (w := w) base t ty e i 1 T.und hi _ _ _ hown, hown.cast (by simp), World.grownBy.refl _ _, .inl rfl⟩
  | some ad =>
    obtain ⟨v', w', h0, h1, h2, h3, h4⟩ := run_append_own_at (P := P) w base t ty e i (.int .u8 0) 1 1 T.und hi hz hsz hby T.zsz T.pos v _ _ hown ad m.length c (m.map byt) hml (by
      intro j u hj
      rcases hm with hm | ⟨b, off, hc, _, hl⟩
      · subst hm; simp at hj
      · simp only [Option.some.injEq] at hc; subst hc
        have hjl : j < m.length := by
          have := (List.getElem?_eq_some_iff.1 hj).1; simpa using this
        have := hl j hjl
        simp [hjl] at hj; subst hj
        by_cases h0 : j = 0
        · subst h0; simpa [Addr.add] using this
        · simpa [Addr.add, h0] using this) hone hmax (by omega) hb
    have ho : OwnB base e w' v' (l ++ m) := by unfold OwnB; rw [List.length_append, List.map_append]; exact h1
    obtain ⟨va, vc, rfl, _⟩ := id ho.byt
    rw [List.length_append] at h0 h4 ho
    exact ⟨va, vc, w', h0, ho, h2, h4⟩

theorem wpList_append_byt {P : Program} (w : World) {ops : Array Oper} {rest : List Oper} {o : Oper} {a : Act} {Q : Exit → Act → World → Prop} (hgd : o.guard = none) (s x : Operand) (t : TypeId)
    (ho : o.op = .call { callee := .builtin .append, args := #[s, x], argTypes := #[t, t] }) (base : Nat) (e : TypeId) (T : ElemT P t e (.int .u8 0) 1 1)
    (v : Value) (l : List UInt8) (hs : a.eval s = v) (hown : OwnB base e w v l) {D : Nat → Prop} (y : Value) (m : List UInt8) (hx : a.eval x = y) (hy : Byt D w y m)
    (hlen : l.length + m.length ≤ 140737488355328) (hb : base ≤ w.heap.size)
    (h : ∀ (a' : Option Addr) (cap' : Nat) (w' : World), OwnB base e w' (.slice a' (l.length + m.length) cap') (l ++ m) → w.grownBy w' v.ownBlock → ((Value.slice a' (l.length + m.length) cap').ownBlock = v.ownBlock ∨ (Value.slice a' (l.length + m.length) cap').ownBlock = some w.heap.size) → wpList P ops Q rest (a.put o.dst (.slice a' (l.length + m.length) cap')) w') :
    wpList P ops Q (o :: rest) a w := by
  obtain ⟨a', cap', w', h0, h1, h2, h4⟩ := run_append_byt (P := P) w t o.type base e T v l hown y m hy hlen hb
  refine wpList_plain hgd fun K hK => ?_
  unfold Oper.wp
  simp [execOp, ho, resolve, invoke, builtin, hs, hx, h0, Result.andThen]
  exact hK _ _ (h a' cap' w' h1 h2 h4)

/-- the same as a step of a region that draws -/
theorem step_append_byt {P : Program} {ops : Array Oper} {o : Oper} {a : Act} {w : World} {K : Act → World → Prop} {Q : Exit → Act → World → Prop} {E : Prop} (hgd : o.guard = none) (s x : Operand) (t : TypeId)
    (ho : o.op = .call { callee := .builtin .append, args := #[s, x], argTypes := #[t, t] }) (base : Nat) (e : TypeId) (T : ElemT P t e (.int .u8 0) 1 1)
    (v : Value) (l : List UInt8) (hs : a.eval s = v) (hown : OwnB base e w v l) {D : Nat → Prop} (y : Value) (m : List UInt8) (hx : a.eval x = y) (hy : Byt D w y m)
    (hlen : l.length + m.length ≤ 140737488355328) (hb : base ≤ w.heap.size)
    (h : ∀ (a' : Option Addr) (cap' : Nat) (w' : World), OwnB base e w' (.slice a' (l.length + m.length) cap') (l ++ m) → w.grownBy w' v.ownBlock → ((Value.slice a' (l.length + m.length) cap').ownBlock = v.ownBlock ∨ (Value.slice a' (l.length + m.length) cap').ownBlock = some w.heap.size) → K (a.put o.dst (.slice a' (l.length + m.length) cap')) w') :
    if Region.wanted o (yielded ops a.tmps) = true then Oper.wp P o a w K Q else E := by
  have hw : Region.wanted o (yielded ops a.tmps) = true := by simp [Region.wanted, hgd]
  rw [if_pos hw]
  obtain ⟨a', cap', w', h0, h1, h2, h4⟩ := run_append_byt (P := P) w t o.type base e T v l hown y m hy hlen hb
  unfold Oper.wp
  simp [execOp, ho, resolve, invoke, builtin, hs, hx, h0, Result.andThen]
  exact h a' cap' w' h1 h2 h4

/-- a block known whole, none of its cells frozen -/
def Blk (w : World) (b : Nat) (l : List Value) (e : TypeId) : Prop := w.heap[b]? = some (.cells l.toArray e (0, 0))
section
variable {w w' : World} {b : Nat} {l : List Value} {e : TypeId}
theorem Blk.lt (h : Blk w b l e) : b < w.heap.size := (Array.getElem?_eq_some_iff.1 h).1
theorem Blk.cell (h : Blk w b l e) {i : Nat} {v : Value} (hv : l[i]? = some v) : w.cell? ⟨b, i, none⟩ = some v := by
  unfold Blk at h
  simp only [World.cell?, h]
  simpa using hv
theorem Blk.free (h : Blk w b l e) (i : Nat) : w.frozen? ⟨b, i, none⟩ = false := by
  unfold Blk at h
  simp [World.frozen?, h]
theorem Blk.fr {S : Nat → Prop} (h : Blk w b l e) (hf : Fr S w w') (hn : ¬ S b) : Blk w' b l e := (hf.block b h.lt hn).trans h
theorem Blk.below (h : Blk w b l e) (hf : Below w.heap.size w w') : Blk w' b l e := (hf.block b h.lt).trans h
theorem Blk.drew (h : Blk w b l e) : Blk w.drew b l e := h
theorem Blk.drewN (h : Blk w b l e) (n : Nat) : Blk (w.drewN n) b l e := h
theorem Blk.set (h : Blk w b l e) (i : Nat) (v : Value) : Blk (w.setCell ⟨b, i, none⟩ v) b (l.set i v) e := by
  unfold Blk at *
  simp [World.setCell, Array.getElem?_modify, h]
theorem Blk.other (h : Blk w b l e) {a : Addr} (ha : a.block ≠ b) (v : Value) : Blk (w.setCell a v) b l e :=
  (Below.heap_setCell _ _ _ _ (Ne.symm ha)).trans h
theorem Blk.alloc (h : Blk w b l e) (o : Obj) : Blk (w.alloc o) b l e := (Below.heap_alloc w o b h.lt).trans h
theorem Blk.new (w : World) (cs : Array Value) (e : TypeId) (l : List Value) (hl : cs = l.toArray) : Blk (w.alloc (.cells cs e)) w.heap.size l e := by
  subst hl; exact heap_alloc_new w _
end

/-- a piece of a slice of bytes -/
theorem run_slice_byt {P : Program} {t e : TypeId} {D : Nat → Prop} {w : World} {v : Value} {l : List UInt8} (T : ElemT P t e (.int .u8 0) 1 1) (h : Byt D w v l) (lo hi : Nat) (h1 : lo ≤ hi) (h2 : hi ≤ l.length) :
    ∃ a cap, (∀ (kl kh : IntKind) (w' : World), (Instr.sliceAt t v (some (.int kl (lo : Int))) (some (.int kh (hi : Int))) none).run P w' = .ok (.slice a (hi - lo) cap) w') ∧
      (lo = 0 → ∀ (kh : IntKind) (w' : World), (Instr.sliceAt t v none (some (.int kh (hi : Int))) none).run P w' = .ok (.slice a (hi - lo) cap) w') ∧
      (hi = l.length → ∀ (kl : IntKind) (w' : World), (Instr.sliceAt t v (some (.int kl (lo : Int))) none none).run P w' = .ok (.slice a (hi - lo) cap) w') ∧
      Byt D w (.slice a (hi - lo) cap) ((l.take hi).drop lo) := by
  obtain ⟨a, c, rfl, ⟨hlc, hcm, hnone⟩, hb⟩ := h
  obtain ⟨i, hi1, hz, hsz, hby⟩ := T.info
  have hsize : ∀ w', (sizeOf e).run P w' = .ok 1 w' := fun w' => by simp [sizeOf, typeInfo, hi1, hsz]
  have el : ((lo : Int)).toNat = lo := rfl
  refine ⟨if c = lo then a else a.map (·.add lo), c - lo, ?_, ?_, ?_, ?_⟩
  · intro kl kh w'
    have : ((lo : Int) ≤ hi) := by omega
    simp [Instr.sliceAt, Instr.slice, run_underlying T.und, Instr.sliceBounds, run_sliceBound, hsize, show (hi : Int) ≤ c from by omega, this]
  · intro h0 kh w'
    subst h0
    simp [Instr.sliceAt, Instr.slice, run_underlying T.und, Instr.sliceBounds, run_sliceBound, hsize, show (hi : Int) ≤ c from by omega]
  · intro h0 kl w'
    subst h0
    simp [Instr.sliceAt, Instr.slice, run_underlying T.und, Instr.sliceBounds, run_sliceBound, hsize, show (lo : Int) ≤ l.length from by omega]
  · have hlen : ((l.take hi).drop lo).length = hi - lo := by simp; omega
    refine ⟨_, c - lo, by rw [hlen], ⟨by omega, by omega, ?_⟩, ?_⟩
    · intro hn
      split at hn
      · omega
      · cases a with
        | none => have := hnone rfl; omega
        | some x => simp at hn
    · by_cases he : hi - lo = 0
      · left; apply List.length_eq_zero_iff.1; omega
      · right
        rcases hb with hb | ⟨b, off, rfl, hd, hl⟩
        · subst hb; simp at h2; omega
        · have hne : c ≠ lo := by omega
          refine ⟨b, off + lo, ?_, hd, fun i hi2 => ?_⟩
          · rw [if_neg hne]
            simp only [Option.map_some, Option.some.injEq]
            unfold Addr.add
            split
            · rename_i h0; subst h0; rfl
            · rfl
          · have := hl (lo + i) (by omega)
            rw [Nat.add_assoc, this]
            simp [List.getElem_drop, List.getElem_take]
theorem run_slice_hi {P : Program} {t e : TypeId} {D : Nat → Prop} {w : World} {v : Value} {l : List UInt8} (T : ElemT P t e (.int .u8 0) 1 1) (h : Byt D w v l) (n : Nat) (h2 : n ≤ l.length) :
    ∃ a cap, (∀ (kh : IntKind) (w' : World), (Instr.sliceAt t v none (some (.int kh (n : Int))) none).run P w' = .ok (.slice a n cap) w') ∧ Byt D w (.slice a n cap) (l.take n) := by
  obtain ⟨a, cap, _, h2, _, h4⟩ := run_slice_byt T h 0 n (Nat.zero_le _) h2
  exact ⟨a, cap, h2 rfl, h4⟩
theorem run_slice_lo {P : Program} {t e : TypeId} {D : Nat → Prop} {w : World} {v : Value} {l : List UInt8} (T : ElemT P t e (.int .u8 0) 1 1) (h : Byt D w v l) (n : Nat) (h2 : n ≤ l.length) :
    ∃ a cap, (∀ (kl : IntKind) (w' : World), (Instr.sliceAt t v (some (.int kl (n : Int))) none none).run P w' = .ok (.slice a (l.length - n) cap) w') ∧ Byt D w (.slice a (l.length - n) cap) (l.drop n) := by
  obtain ⟨a, cap, _, _, h3, h4⟩ := run_slice_byt T h n l.length h2 (Nat.le_refl _)
  rw [List.take_length] at h4
  exact ⟨a, cap, h3 rfl, h4⟩
theorem OwnB.alloc {base : Nat} {e : TypeId} {w : World} {v : Value} {l : List UInt8} (h : OwnB base e w v l) (o : Obj) : OwnB base e (w.alloc o) v l := World.ownsRow.alloc h o
theorem one_byt {D : Nat → Prop} (w : World) (e : TypeId) (n : Int) (c : UInt8) (h : n = (c.toNat : Int)) (hd : D w.heap.size) : Byt D (w.alloc (.cells #[.int .u8 n] e)) (.slice (some ⟨w.heap.size, 0, none⟩) 1 1) [c] := by
  subst h
  exact Byt.newBlock w _ _ _ [c] 1 1 rfl ⟨by simp, by unfold maxLen; omega⟩ hd (fun i hi => by match i, hi with | 0, _ => rfl | j + 1, h => simp at h)
/-- 'append(s, c)' of one byte: the byte lies in a block of its own -/
theorem wpList_append_one {P : Program} (w : World) {ops : Array Oper} {rest : List Oper} {o : Oper} {a : Act} {Q : Exit → Act → World → Prop} (hgd : o.guard = none) (s x : Operand) (t : TypeId)
    (ho : o.op = .call { callee := .builtin .append, args := #[s, x], argTypes := #[t, t] }) (base : Nat) (e : TypeId) (T : ElemT P t e (.int .u8 0) 1 1)
    (v : Value) (l : List UInt8) (hs : a.eval s = v) (hown : OwnB base e w v l) (n : Int) (c : UInt8) (hn : n = (c.toNat : Int)) (hx : a.eval x = .slice (some ⟨w.heap.size, 0, none⟩) 1 1)
    (hlen : l.length + 1 ≤ 140737488355328) (hb : base ≤ w.heap.size)
    (h : ∀ (a' : Option Addr) (cap' : Nat) (w' : World), OwnB base e w' (.slice a' (l.length + 1) cap') (l ++ [c]) → Fr (fun k => v.ownBlock = some k) w w' → ((Value.slice a' (l.length + 1) cap').ownBlock = v.ownBlock ∨ ((Value.slice a' (l.length + 1) cap').ownBlock = some (w.heap.size + 1) ∧ w.heap.size + 1 < w'.heap.size)) → wpList P ops Q rest (a.put o.dst (.slice a' (l.length + 1) cap')) w') :
    wpList P ops Q (o :: rest) a (w.alloc (.cells #[.int .u8 n] e)) := by
  refine wpList_append_byt (D := Any) _ hgd s x t ho base e T v l hs (hown.alloc _) _ [c] hx (one_byt w e n c hn trivial) (by simpa using hlen) (by simp; omega) ?_
  intro a' cap' w' h1 h2 h3
  refine h a' cap' w' h1 (((Fr.refl _ w).alloc _).trans (Fr.ofGrown h2)) ?_
  rcases h3 with h3 | h3
  · exact .inl h3
  · rw [World.size_alloc] at h3
    exact .inr ⟨h3, by have := (h1.lt _ h3).2; omega⟩
end Go.Proofs.YtmenchnjajpkmaaGreatDoor.Mem
end

section
namespace Go.Proofs.YtmenchnjajpkmaaGreatDoor.Mem
open Go Go.RowKit

theorem Blk.row {w : World} {b : Nat} {l : List Value} {e : TypeId} (h : Blk w b l e) (l' : List Value) : Blk (w.setRow b l'.toArray) b l' e := setRow_heap w b _ _ _ _ h
theorem Blk.rowOther {w : World} {b : Nat} {l : List Value} {e : TypeId} (h : Blk w b l e) {g : Nat} (hg : b ≠ g) (cs : Array Value) : Blk (w.setRow g cs) b l e := (setRow_other w g b cs hg).trans h
theorem Fr.setRow {S : Nat → Prop} {a w : World} (h : Fr S a w) {g : Nat} (hg : a.heap.size ≤ g ∨ S g) (cs : Array Value) : Fr S a (w.setRow g cs) := by
  refine h.trans' (T := fun k => k = g) ⟨rfl, rfl, rfl, by simp, fun k _ hn => setRow_other w g k cs hn⟩ ?_
  intro i hi e
  rcases hg with hg | hg
  · omega
  · exact e ▸ hg
theorem below_setRow {B : Nat} {a w : World} (h : Below B a w) {g : Nat} (hg : B ≤ g) (cs : Array Value) : Below B a (w.setRow g cs) :=
  h.trans ⟨rfl, rfl, rfl, by simp, fun k hk => setRow_other w g k cs (by omega)⟩
/-- a whole row is stored -/
theorem wpList_store_blk {P : Program} {ops : Array Oper} {rest : List Oper} {o : Oper} {a : Act} {w : World} {Q : Exit → Act → World → Prop} (hgd : o.guard = none) (ty : TypeId) (x y : Operand) (ho : o.op = .store ty x y)
    (g : Nat) (l old : List Value) (hx : a.eval x = .pointer (some ⟨g, 0, none⟩)) (cs : Array Value) (hy : a.eval y = .agg cs) (hcs : cs = l.toArray) {t : TypeId} (hB : Blk w g old t)
    (hi : (P.info? ty).map (·.size) = some l.length) (hl : old.length = l.length) (h1 : ∀ v ∈ l, v.oneCell' = true)
    (h : wpList P ops Q rest (a.put o.dst undef) (w.setRow g l.toArray)) : wpList P ops Q (o :: rest) a w := by
  subst hcs
  refine wpList_store_row hgd ty x y ho g l.toArray hx hy t old.toArray hB (by simpa using hi) (by simpa using hl) ?_ h
  rw [Array.all_eq_true']
  intro v hv
  exact h1 v (by simpa using hv)
/-- a whole row is loaded -/
theorem wpList_load_blk {P : Program} {ops : Array Oper} {rest : List Oper} {o : Oper} {a : Act} {w : World} {Q : Exit → Act → World → Prop} (hgd : o.guard = none) (ty : TypeId) (x : Operand) (ho : o.op = .load ty x)
    (g : Nat) (l : List Value) (hx : a.eval x = .pointer (some ⟨g, 0, none⟩)) {t : TypeId} (hB : Blk w g l t) (d : TypeDesc) (hu : P.underlying ty = some d)
    (hd : (match d, hu with | .struct _, _ => true | .array _ _, _ => true | _, _ => false) = true) (hi : (P.info? ty).map (·.size) = some l.length)
    (h : wpList P ops Q rest (a.put o.dst (.agg l.toArray)) w) : wpList P ops Q (o :: rest) a w :=
  wpList_load_row hgd ty x ho g hx t l.toArray (0, 0) d hB hu hd (by simpa using hi) h
theorem OwnB.row {base : Nat} {e : TypeId} {w : World} {v : Value} {l : List UInt8} (h : OwnB base e w v l) {g : Nat} (hg : g < base) (cs : Array Value) : OwnB base e (w.setRow g cs) v l :=
  h.fr (S := fun k => k = g) (Fr.setRow (S := fun k => k = g) (Fr.refl _ w) (.inr rfl) cs) (fun k hk e => by have := (h.lt k hk).1; omega)
theorem OwnB.set1 {base : Nat} {e : TypeId} {w : World} {v : Value} {l : List UInt8} (h : OwnB base e w v l) {a : Addr} (ha : a.block < base) (u : Value) : OwnB base e (w.setCell a u) v l :=
  ownsRow_setCell_below h ha u
end Go.Proofs.YtmenchnjajpkmaaGreatDoor.Mem
end

section
namespace Go.Proofs.YtmenchnjajpkmaaGreatDoor.Mem
open Go Go.RowKit
theorem Blk.keep {w w' : World} {b C : Nat} {l : List Value} {e : TypeId} (h : Blk w b l e) (hb : Below C w w') (hc : b < C) : Blk w' b l e := (hb.block b hc).trans h
theorem Byt.keep {w w' : World} {C : Nat} {v : Value} {l : List UInt8} (h : Byt (fun k => k < C) w v l) (hb : Below C w w') : Byt (fun k => k < C) w' v l :=
  h.fr (Fr.ofBelow hb) (fun _ _ h1 h2 => by omega)
theorem Byt.under {D : Nat → Prop} {w w' : World} {C : Nat} {v : Value} {l : List UInt8} (h : Byt D w v l) (hb : Below w.heap.size w w') (hc : w.heap.size ≤ C) : Byt (fun k => k < C) w' v l :=
  (h.lt.below hb).mono (fun _ _ h => by omega)
theorem OwnB.keep {w w' : World} {base C : Nat} {e : TypeId} {v : Value} {l : List UInt8} (h : OwnB base e w v l) (hb : Below C w w') (hc : ∀ k, v.ownBlock = some k → k < C) : OwnB base e w' v l :=
  h.fr (Fr.ofBelow hb) (fun k hk h2 => by have := hc k hk; omega)
/-- the whole of an array of bytes as a slice -/
theorem Blk.byt {D : Nat → Prop} {w : World} {g n : Nat} {l : List UInt8} {t : TypeId} (h : Blk w g (l.map Mem.byt) t) (hl : l.length = n) (hn : n ≤ maxLen) (hd : D g) : Byt D w (.slice (some ⟨g, 0, none⟩) n n) l := by
  subst hl
  exact ⟨_, _, rfl, ⟨Nat.le_refl _, hn, fun h => by cases h⟩, .inr ⟨g, 0, rfl, hd, fun i hi => by rw [Nat.zero_add]; exact h.cell (by simp [hi])⟩⟩
/-- 'append(s, c)' of one byte as a step of a region that draws -/
theorem step_append_one {P : Program} (w : World) {ops : Array Oper} {o : Oper} {a : Act} {K : Act → World → Prop} {Q : Exit → Act → World → Prop} {E : Prop} (hgd : o.guard = none) (s x : Operand) (t : TypeId)
    (ho : o.op = .call { callee := .builtin .append, args := #[s, x], argTypes := #[t, t] }) (base : Nat) (e : TypeId) (T : ElemT P t e (.int .u8 0) 1 1)
    (v : Value) (l : List UInt8) (hs : a.eval s = v) (hown : OwnB base e w v l) (n : Int) (c : UInt8) (hn : n = (c.toNat : Int)) (hx : a.eval x = .slice (some ⟨w.heap.size, 0, none⟩) 1 1)
    (hlen : l.length + 1 ≤ 140737488355328) (hb : base ≤ w.heap.size)
    (h : ∀ (a' : Option Addr) (cap' : Nat) (w' : World), OwnB base e w' (.slice a' (l.length + 1) cap') (l ++ [c]) → Fr (fun k => v.ownBlock = some k) w w' → ((Value.slice a' (l.length + 1) cap').ownBlock = v.ownBlock ∨ ((Value.slice a' (l.length + 1) cap').ownBlock = some (w.heap.size + 1) ∧ w.heap.size + 1 < w'.heap.size)) → K (a.put o.dst (.slice a' (l.length + 1) cap')) w') :
    if Region.wanted o (yielded ops a.tmps) = true then Oper.wp P o a (w.alloc (.cells #[.int .u8 n] e)).drew K Q else E := by
  refine step_append_byt (D := Any) (w := (w.alloc (.cells #[.int .u8 n] e)).drew) hgd s x t ho base e T v l hs (hown.alloc _).drew _ [c] hx (one_byt w e n c hn trivial).drew (by simpa using hlen) (by simp; omega) ?_
  intro a' cap' w' h1 h2 h3
  refine h a' cap' w' h1 ((((Fr.refl _ w).alloc _).drew).trans (Fr.ofGrown h2)) ?_
  rcases h3 with h3 | h3
  · exact .inl h3
  · have hz : (w.alloc (.cells #[.int .u8 n] e)).drew.heap.size = w.heap.size + 1 := by simp
    rw [hz] at h3
    exact .inr ⟨h3, by have := (h1.lt _ h3).2; omega⟩
end Go.Proofs.YtmenchnjajpkmaaGreatDoor.Mem
end

section
namespace Go.Proofs.YtmenchnjajpkmaaGreatDoor.Codec
/-- n in so many bytes, the highest first -/
def num (n : Nat) : Nat → List UInt8
  | 0 => []
  | k + 1 => UInt8.ofNat (n / 256 ^ k) :: num n k
theorem num_length (n : Nat) : ∀ k, (num n k).length = k
  | 0 => rfl
  | k + 1 => by simp [num, num_length n k]
def var (n : Nat) : List UInt8 :=
  if n < 253 then [UInt8.ofNat n] else if n < 65536 then 253 :: num n 2 else if n < 4294967296 then 254 :: num n 4 else 255 :: num n 8
def vlen (n : Nat) : Nat := if n < 253 then 1 else if n < 65536 then 3 else if n < 4294967296 then 5 else 9
theorem var_length (n : Nat) : (var n).length = vlen n := by
  unfold var vlen
  repeat (split; · simp [num_length])
  simp [num_length]
theorem vlen_le (n : Nat) : vlen n ≤ 9 := by
  unfold vlen
  split
  · omega
  · split
    · omega
    · split <;> omega
def text (b : List UInt8) : List UInt8 := var b.length ++ b
def said (l : List UInt8) : Nat := l.foldl (fun n c => (256 * n + c.toNat) % 18446744073709551616) 0
theorem said_lt (l : List UInt8) : said l < 18446744073709551616 := by
  unfold said
  rw [← List.reverse_reverse l, List.foldl_reverse]
  cases l.reverse with
  | nil => simp
  | cons c r => simp only [List.foldr_cons]; exact Nat.mod_lt _ (by omega)
theorem said_snoc (l : List UInt8) (c : UInt8) : said (l ++ [c]) = (256 * said l + c.toNat) % 18446744073709551616 := by simp [said]
theorem said_bound : ∀ (l : List UInt8), l.length ≤ 8 → said l < 256 ^ l.length := by
  intro l
  rw [← List.reverse_reverse l]
  generalize l.reverse = r
  induction r with
  | nil => intro _; simp [said]
  | cons c r ih =>
    intro h
    simp only [List.reverse_cons, List.length_append, List.length_reverse, List.length_cons, List.length_nil] at h ⊢
    have h1 := ih (by simp; omega)
    rw [List.length_reverse] at h1
    rw [said_snoc]
    have hc := c.toNat_lt
    refine Nat.lt_of_le_of_lt (Nat.mod_le _ _) ?_
    rw [Nat.zero_add, Nat.pow_succ]
    omega
/-- the bytes of a number say it -/
theorem num_said : ∀ (l : List UInt8), l.length ≤ 8 → num (said l) l.length = l := by
  have key : ∀ (k n c : Nat), c < 256 → num (256 * n + c) (k + 1) = num n k ++ [UInt8.ofNat c] := by
    intro k
    induction k with
    | zero => intro n c hc; simp [num]
    | succ k ih =>
      intro n c hc
      rw [num, ih n c hc]
      have : (256 * n + c) / 256 ^ (k + 1) = n / 256 ^ k := by
        rw [Nat.pow_succ, Nat.mul_comm (256 ^ k), ← Nat.div_div_eq_div_mul]
        congr 1
        omega
      rw [this]
      rfl
  intro l
  rw [← List.reverse_reverse l]
  generalize l.reverse = r
  induction r with
  | nil => intro _; rfl
  | cons c r ih =>
    intro h
    simp only [List.reverse_cons, List.length_append, List.length_reverse, List.length_cons, List.length_nil] at h ⊢
    have h1 := ih (by simp; omega)
    rw [List.length_reverse] at h1
    have hb := said_bound r.reverse (by simp; omega)
    rw [List.length_reverse] at hb
    have hc := c.toNat_lt
    have hp : 256 ^ r.length ≤ 256 ^ 7 := Nat.pow_le_pow_right (by omega) (by omega)
    rw [said_snoc, Nat.mod_eq_of_lt (by omega), Nat.zero_add, key _ _ _ hc, h1]
    congr 2
    exact UInt8.toNat_inj.1 (by simp)
theorem num_mod (n : Nat) : ∀ (k m : Nat), k ≤ m → num (n % 256 ^ m) k = num n k
  | 0, _, _ => rfl
  | k + 1, m, h => by
    rw [num, num, num_mod n k m (by omega)]
    congr 1
    obtain ⟨d, rfl⟩ : ∃ d, m = k + 1 + d := ⟨m - (k + 1), by omega⟩
    apply UInt8.toNat_inj.1
    simp only [UInt8.toNat_ofNat']
    rw [Nat.pow_add, Nat.pow_succ, Nat.mul_assoc, Nat.mod_mul_right_div_self]
    rw [Nat.mod_mul_right_mod]
theorem said_num : ∀ (k n : Nat), k ≤ 8 → said (num n k) = n % 256 ^ k := by
  have key : ∀ (k n : Nat), num n (k + 1) = num (n / 256) k ++ [UInt8.ofNat n] := by
    intro k
    induction k with
    | zero => intro n; simp [num]
    | succ k ih =>
      intro n
      rw [num, ih n, num]
      rw [show n / 256 ^ (k + 1) = n / 256 / 256 ^ k from by rw [Nat.pow_succ, Nat.mul_comm, Nat.div_div_eq_div_mul]]
      rfl
  intro k
  induction k with
  | zero => intro n _; simp [num, said, Nat.mod_one]
  | succ k ih =>
    intro n h
    rw [key, said_snoc, ih _ (by omega)]
    have h1 : n / 256 % 256 ^ k < 256 ^ k := Nat.mod_lt _ (Nat.pow_pos (by omega))
    have h2 : 256 ^ k ≤ 256 ^ 7 := Nat.pow_le_pow_right (by omega) (by omega)
    have h3 : (UInt8.ofNat n).toNat = n % 256 := by simp
    rw [h3, Nat.mod_eq_of_lt (by omega)]
    rw [Nat.pow_succ, Nat.mul_comm (256 ^ k) 256, Nat.mod_mul]
    omega

/-- a reader: what is left, and what is amiss -/
structure Rd where
  rest : List UInt8
  e : Int
def Rd.take (r : Rd) (n : Nat) : Rd × List UInt8 :=
  if r.e ≠ 0 then (r, []) else if r.rest.length < n then (⟨r.rest, 110⟩, []) else (⟨r.rest.drop n, 0⟩, r.rest.take n)
def Rd.num (r : Rd) (many : Nat) : Rd × Nat := ((r.take many).1, said (r.take many).2)
/-- behind the first byte -/
def Rd.more (s : Rd) (c : Nat) : Rd × Nat × Nat :=
  if c = 253 then ((s.num 2).1, (s.num 2).2, 253) else if c = 254 then ((s.num 4).1, (s.num 4).2, 65536) else if c = 255 then ((s.num 8).1, (s.num 8).2, 4294967296) else (s, c, 0)
def Rd.var (r : Rd) (most : Nat) : Rd × Nat :=
  let m := (r.num 1).1.more (r.num 1).2
  if m.1.e ≠ 0 then (⟨r.rest, m.1.e⟩, 0) else if m.2.1 < m.2.2 then (⟨r.rest, 111⟩, 0) else if most < m.2.1 then (⟨r.rest, 112⟩, 0) else (m.1, m.2.1)
def Rd.room (r : Rd) (most : Int) : Rd × Nat :=
  let m := r.var most.toNat
  if most < 0 ∧ m.1.e = 0 then (⟨r.rest, 112⟩, 0) else m
def Rd.fail (r : Rd) (e : Int) : Rd := if r.e = 0 then ⟨r.rest, e⟩ else r
def Rd.raw (r : Rd) (n : Int) : Rd × List UInt8 := if n < 0 then (r.fail 112, []) else r.take n.toNat
def Rd.text (r : Rd) (most : Int) : Rd × List UInt8 :=
  let m := r.room most
  let s : Rd := if m.1.e = 0 ∧ m.1.rest.length < m.2 then ⟨r.rest, 110⟩ else m.1
  s.take m.2
def Rd.fin (r : Rd) : Int := if r.e = 0 ∧ 0 < r.rest.length then 113 else r.e
end Go.Proofs.YtmenchnjajpkmaaGreatDoor.Codec
end

section
namespace Go.Proofs.YtmenchnjajpkmaaGreatDoor.CodecW
open Go Go.RowKit Mem Codec

theorem elemB : ElemT Tryz.prog 25 5 (.int .u8 0) 1 1 :=
  ⟨Tryz.underlying25, ⟨_, (info_parts (P := Tryz.prog) (e := 5) (z := .int .u8 0) (size := 1) (bytes := 1) (by kernel_rfl)).choose_spec⟩, rfl, by decide⟩
/-- the blocks of S, and those that were made between two worlds -/
def Plus (S : Nat → Prop) (w w' : World) : Nat → Prop := fun k => S k ∨ (w.heap.size ≤ k ∧ k < w'.heap.size)
/-- a writer at block q, its blocks in S, that has m -/
def WriterIs (S : Nat → Prop) (w : World) (q : Nat) (m : List UInt8) : Prop :=
  S q ∧ ∃ wv, Blk w q [wv] 181 ∧ OwnB 0 5 w wv m ∧ ∀ k, wv.ownBlock = some k → S k ∧ k ≠ q
section
variable {S T : Nat → Prop} {w w' : World} {q : Nat} {m : List UInt8}
theorem WriterIs.fr (H : WriterIs S w q m) (hf : Fr T w w') (hn : ∀ k, k < w.heap.size → S k → ¬ T k) : WriterIs S w' q m := by
  obtain ⟨h1, wv, h2, h3, h4⟩ := H
  exact ⟨h1, wv, h2.fr hf (hn q h2.lt h1), h3.fr hf (fun k hk => hn k (h3.lt k hk).2 (h4 k hk).1), h4⟩
theorem WriterIs.mono (H : WriterIs S w q m) (hn : ∀ k, k < w.heap.size → S k → T k) : WriterIs T w q m := by
  obtain ⟨h1, wv, h2, h3, h4⟩ := H
  exact ⟨hn q h2.lt h1, wv, h2, h3, fun k hk => ⟨hn k (h3.lt k hk).2 (h4 k hk).1, (h4 k hk).2⟩⟩
theorem WriterIs.below (H : WriterIs S w q m) (hb : Below w.heap.size w w') : WriterIs S w' q m := H.fr (Fr.ofBelow hb) (fun k hk _ h => by omega)
theorem WriterIs.drew (H : WriterIs S w q m) : WriterIs S w.drew q m := H
theorem WriterIs.lt (H : WriterIs S w q m) : q < w.heap.size := H.2.choose_spec.1.lt
theorem WriterIs.opened (H : WriterIs S w q m) : ∃ a c, Blk w q [.slice a m.length c] 181 ∧ OwnB 0 5 w (.slice a m.length c) m ∧ (∀ k, (Value.slice a m.length c).ownBlock = some k → S k ∧ k ≠ q) ∧ S q ∧ q < w.heap.size := by
  obtain ⟨h1, wv, h2, h3, h4⟩ := H
  obtain ⟨a, c, rfl, _⟩ := id h3.byt
  exact ⟨a, c, h2, h3, h4, h1, h2.lt⟩
/-- behind 'w.b = append(w.b, ..)' -/
theorem appended {w2 : World} {rv v2 : Value} {m2 : List UInt8} (h1 : S q) (h2 : Blk w q [rv] 181) (h4 : ∀ k, rv.ownBlock = some k → S k ∧ k ≠ q)
    (o1 : OwnB 0 5 w2 v2 m2) (o2 : Fr (fun k => rv.ownBlock = some k) w w2) (o3 : v2.ownBlock = rv.ownBlock ∨ ∃ k, v2.ownBlock = some k ∧ w.heap.size ≤ k ∧ k < w2.heap.size) :
    WriterIs (Plus S w (w2.setCell ⟨q, 0, none⟩ v2)) (w2.setCell ⟨q, 0, none⟩ v2) q m2 ∧ Fr S w (w2.setCell ⟨q, 0, none⟩ v2) ∧ w2.cell? ⟨q, 0, none⟩ = some rv ∧ w2.frozen? ⟨q, 0, none⟩ = false := by
  have hne : ¬ rv.ownBlock = some q := fun e => (h4 q e).2 rfl
  have hb2 := h2.fr o2 hne
  have hv2 : ∀ k, v2.ownBlock = some k → Plus S w (w2.setCell ⟨q, 0, none⟩ v2) k ∧ k ≠ q := by
    intro k hk
    have hkl := (o1.lt k hk).2
    rcases o3 with o3 | ⟨k', o3, o4, o5⟩
    · rw [o3] at hk; exact ⟨.inl (h4 k hk).1, (h4 k hk).2⟩
    · rw [o3] at hk; cases hk
      exact ⟨.inr ⟨o4, by simpa [World.setCell] using o5⟩, by have := h2.lt; omega⟩
  refine ⟨⟨.inl h1, v2, by simpa using hb2.set 0 v2, ?_, hv2⟩, ?_, hb2.cell rfl, hb2.free 0⟩
  · exact o1.fr (S := fun k => k = q) (Fr.setCell (S := fun k => k = q) (p := ⟨q, 0, none⟩) (Fr.refl _ w2) (.inr rfl) v2) (fun k hk => (hv2 k hk).2)
  · exact Fr.setCell (S := S) (p := ⟨q, 0, none⟩) (o2.mono fun k _ e => (h4 k e).1) (.inr h1) v2
end
theorem new_calls (w : World) : Calls Tryz.prog 94 #[] w fun e w' => ∃ q, e = .returned (.pointer (some ⟨q, 0, none⟩)) ∧ w.heap.size ≤ q ∧ WriterIs (fun k => k = q) w' q [] ∧ Below w.heap.size w w' := by
  go_enter Tryz.func94, Tryz.ntmps94
  go_wp2
  go_ret
  exact ⟨w.heap.size, rfl, Nat.le_refl _, ⟨rfl, _, Blk.new _ _ _ _ rfl, OwnB.nil _ _ _, fun k hk => by cases hk⟩, (Below.refl _ _).alloc (Nat.le_refl _) _⟩
set_option maxHeartbeats 4000000 in
theorem raw_calls (S D : Nat → Prop) (w : World) (q : Nat) (m : List UInt8) (v : Value) (b : List UInt8) (H : WriterIs S w q m) (hB : Byt D w v b) (hlen : m.length + b.length ≤ 140737488355328) :
    Calls Tryz.prog 112 #[.pointer (some ⟨q, 0, none⟩), v] w fun e w' => e = .returned (.tuple #[]) ∧ WriterIs (Plus S w w') w' q (m ++ b) ∧ Fr S w w' := by
  obtain ⟨a, c, h1, h2, h3, h4, h5⟩ := H.opened
  obtain ⟨va, vc, rfl, _⟩ := id hB
  have c0 := h1.cell (i := 0) rfl
  have H1 := Lib.hid h1
  have H2 := Lib.hid h2
  have H3 := Lib.hid h3
  have H4 := Lib.hid h4
  have HB := Lib.hid hB
  clear h1 h2 h3 h4 H hB
  go_enter Tryz.func112, Tryz.ntmps112
  go_wp2_with (at_builtin; refine wpList_append_byt _ rfl (.tmp 8) (.tmp 9) 25 rfl 0 5 elemB _ m rfl H2.out _ b rfl HB.out hlen (Nat.zero_le _) ?_)
  intro va2 vc2 w2 o1 o2 o3
  obtain ⟨g1, g2, g3, g4⟩ := appended H4.out H1.out H3.out o1 (Fr.ofGrown o2) (o3.imp_right fun o3 => ⟨_, o3, Nat.le_refl _, by have := (o1.lt _ o3).2; exact this⟩)
  have G1 := Lib.hid g1
  have G2 := Lib.hid g2
  clear o1 o2 o3 g1 g2 c0
  go_wp2
  go_end0
  exact ⟨rfl, G1.out, G2.out⟩
set_option maxHeartbeats 4000000 in
theorem byte_calls (S : Nat → Prop) (w : World) (q : Nat) (m : List UInt8) (n : Int) (c : UInt8) (hn : n = (c.toNat : Int)) (H : WriterIs S w q m) (hlen : m.length + 1 ≤ 140737488355328) :
    Calls Tryz.prog 116 #[.pointer (some ⟨q, 0, none⟩), .int .u8 n] w fun e w' => e = .returned (.tuple #[]) ∧ WriterIs (Plus S w w') w' q (m ++ [c]) ∧ Fr S w w' := by
  subst hn
  obtain ⟨a, d, h1, h2, h3, h4, h5⟩ := H.opened
  have c0 := h1.cell (i := 0) rfl
  have H1 := Lib.hid h1
  have H2 := Lib.hid h2
  have H3 := Lib.hid h3
  have H4 := Lib.hid h4
  clear h1 h2 h3 h4 H
  go_enter Tryz.func116, Tryz.ntmps116
  go_wp2_with (at_builtin; refine wpList_append_one _ rfl (.tmp 8) (.tmp 10) 25 rfl 0 5 elemB _ m rfl H2.out _ c rfl rfl hlen (Nat.zero_le _) ?_)
  intro va2 vc2 w2 o1 o2 o3
  obtain ⟨g1, g2, g3, g4⟩ := appended H4.out H1.out H3.out o1 o2 (o3.imp_right fun o3 => ⟨_, o3.1, by omega, o3.2⟩)
  have G1 := Lib.hid g1
  have G2 := Lib.hid g2
  clear o1 o2 o3 g1 g2 c0
  go_wp2
  go_end0
  exact ⟨rfl, G1.out, G2.out⟩
theorem wrap8 (i : Nat) (h : i < 8) : IntKind.i64.wrap (8 * (i : Int)) = 8 * (i : Int) := by
  rcases (by omega : i = 0 ∨ i = 1 ∨ i = 2 ∨ i = 3 ∨ i = 4 ∨ i = 5 ∨ i = 6 ∨ i = 7) with rfl | rfl | rfl | rfl | rfl | rfl | rfl | rfl <;> rfl
theorem shr8 (n i : Nat) : IntKind.u8.wrap ((n : Int) / 2 ^ (8 * (i : Int)).toNat) = ((UInt8.ofNat (n / 256 ^ i)).toNat : Int) := by
  rw [IntKind.wrap_u8, show (8 * (i : Int)).toNat = 8 * i from by omega, UInt8.toNat_ofNat', show (256 : Nat) ^ i = 2 ^ (8 * i) from by rw [Nat.pow_mul], Int.natCast_emod, Int.natCast_ediv, Int.natCast_pow]
  rfl
set_option maxHeartbeats 4000000 in
set_option maxRecDepth 100000 in
theorem high_calls (S : Nat → Prop) (w : World) (q : Nat) (m : List UInt8) (n k : Nat) (_ : n < 18446744073709551616) (hk : k ≤ 8) (H : WriterIs S w q m) (hlen : m.length + k ≤ 140737488355328) :
    Calls Tryz.prog 107 #[.pointer (some ⟨q, 0, none⟩), .int .u64 n, .int .i64 k] w fun e w' => e = .returned (.tuple #[]) ∧ WriterIs (Plus S w w') w' q (m ++ num n k) ∧ Fr S w w' := by
  have H0 := Lib.hid H
  clear H
  go_enter Tryz.func107, Tryz.ntmps107
  go_wp2
  go_loopw [2] (fun i wx => ∃ (j : Nat) (x : List UInt8), j ≤ k ∧ i = .int .i64 j ∧ m ++ num n k = x ++ num n j ∧ x.length + j = m.length + k ∧ WriterIs (Plus S w wx) wx q x ∧ Fr S w wx) (fun i _ => (intOf i).toNat)
  case atStart => exact ⟨k, m, Nat.le_refl _, rfl, rfl, rfl, H0.out.mono (fun k _ h => .inl h), Fr.refl _ _⟩
  case round =>
    obtain ⟨j, x, hj, rfl, hx, hxl, hW, hF⟩ := hrel
    have HX := Lib.hid hx
    have HF := Lib.hid hF
    obtain ⟨a, d, h1, h2, h3, h4, h5⟩ := hW.opened
    have H1 := Lib.hid h1
    have H2 := Lib.hid h2
    have H3 := Lib.hid h3
    have H4 := Lib.hid h4
    clear hx hF hW
    by_cases h0 : 0 < j
    · obtain ⟨i, rfl⟩ : ∃ i, j = i + 1 := ⟨j - 1, by omega⟩
      have c0 := h1.cell (i := 0) rfl
      have c1 : ∀ o, (wr.alloc o).cell? ⟨q, 0, none⟩ = some (.slice a x.length d) := fun o => (h1.alloc o).cell rfl
      clear h1 h2 h3 h4
      go_upto_region 2 with fail
      have hwr := wrap8 i (by omega)
      have HSH := Lib.hid (shr8 n i)
      have c2 : ∀ o, (wr.alloc o).drew.cell? ⟨q, 0, none⟩ = some (.slice a x.length d) := fun o => c1 o
      have c3 : wr.drew.cell? ⟨q, 0, none⟩ = some (.slice a x.length d) := c0
      go_region_law ((refine step_append_one wr rfl (.tmp 14) (.tmp 20) 25 rfl 0 5 elemB (.slice a x.length d) x rfl H2.out _ _ HSH.out rfl (by omega) (Nat.zero_le _) ?_; intro va2 vc2 w2 o1 o2 o3; obtain ⟨g1, g2, g3, g4⟩ := appended H4.out H1.out H3.out o1 o2 (o3.imp_right fun o3 => ⟨_, o3.1, by omega, o3.2⟩); have G1 := Lib.hid g1; have G2 := Lib.hid g2; clear o1 o2 o3 g1 g2 c0 c1 c2 c3))
      all_goals
        go_wp2
        go_roundw
        case rel =>
          refine ⟨i, _, by omega, rfl, ?_, by simp; omega, G1.out.mono (fun k hk h => ?_), HF.out.trans' G2.out (fun k hk h => ?_)⟩
          · rw [HX.out, List.append_assoc]; rfl
          · have hs := HF.out.size
            rcases h with (h | h) | h
            · exact .inl h
            · exact .inr ⟨h.1, by have := G2.out.size; omega⟩
            · exact .inr ⟨by omega, h.2⟩
          · rcases h with h | h
            · exact h
            · omega
        case measure => simp [intOf]
    · obtain rfl : j = 0 := by omega
      have hxx : m ++ num n k = x := by rw [HX.out]; simp [num]
      have HW := Lib.hid (show WriterIs (Plus S w wr) wr q x from ⟨h4, _, h1, h2, h3⟩)
      clear h1 h2 h3 h4
      go_wp2
      go_end0
      exact ⟨rfl, by rw [hxx]; exact HW.out, HF.out⟩
theorem Plus.two {S : Nat → Prop} {w w1 w2 : World} {q : Nat} {m : List UInt8} (H : WriterIs (Plus (Plus S w w1) w1 w2) w2 q m) (h1 : w.heap.size ≤ w1.heap.size) (_ : w1.heap.size ≤ w2.heap.size) : WriterIs (Plus S w w2) w2 q m :=
  H.mono (fun k hk h => by
    rcases h with (h | h) | h
    · exact .inl h
    · exact .inr ⟨h.1, by omega⟩
    · exact .inr ⟨by omega, h.2⟩)
theorem Fr.two {S : Nat → Prop} {w w1 w2 : World} (h : Fr S w w1) (k : Fr (Plus S w w1) w1 w2) : Fr S w w2 :=
  h.trans' k (fun i hi h => by
    rcases h with h | h
    · exact h
    · omega)
set_option maxHeartbeats 4000000 in
theorem long_calls (S : Nat → Prop) (w : World) (q : Nat) (m : List UInt8) (n : Nat) (hn : n < 18446744073709551616) (H : WriterIs S w q m) (hlen : m.length + 8 ≤ 140737488355328) :
    Calls Tryz.prog 96 #[.pointer (some ⟨q, 0, none⟩), .int .u64 n] w fun e w' => e = .returned (.tuple #[]) ∧ WriterIs (Plus S w w') w' q (m ++ num n 8) ∧ Fr S w w' := by
  go_enter Tryz.func96, Tryz.ntmps96
  go_wp2_with fail
  refine (high_calls S w q m n 8 (by omega) (by omega) H hlen).mono ?_
  rintro e w2 ⟨rfl, h1, h2⟩
  have H1 := Lib.hid h1
  have H2 := Lib.hid h2
  clear h1 h2 H
  go_wp2
  go_end0
  exact ⟨rfl, H1.out, H2.out⟩
set_option maxHeartbeats 4000000 in
set_option maxRecDepth 100000 in
theorem var_calls (S : Nat → Prop) (w : World) (q : Nat) (m : List UInt8) (n : Nat) (hn : n < 18446744073709551616) (H : WriterIs S w q m) (hlen : m.length + 9 ≤ 140737488355328) :
    Calls Tryz.prog 109 #[.pointer (some ⟨q, 0, none⟩), .int .u64 n] w fun e w' => e = .returned (.tuple #[]) ∧ WriterIs (Plus S w w') w' q (m ++ var n) ∧ Fr S w w' := by
  have H0 := Lib.hid H
  clear H
  go_enter Tryz.func109, Tryz.ntmps109
  by_cases h1 : n < 253
  · have hv : var n = [UInt8.ofNat n] := by unfold var; rw [if_pos h1]
    have HC := Lib.hid (show (n : Int) = ((UInt8.ofNat n).toNat : Int) by rw [UInt8.toNat_ofNat']; omega)
    go_wp2_with fail
    refine (byte_calls S w q m _ (UInt8.ofNat n) HC.out H0.out (by omega)).mono ?_
    rintro e w2 ⟨rfl, g1, g2⟩
    have G1 := Lib.hid g1
    have G2 := Lib.hid g2
    clear g1 g2
    go_wp2
    go_end0
    exact ⟨rfl, by rw [hv]; exact G1.out, G2.out⟩
  by_cases h2 : n < 65536
  · have hv : var n = 253 :: num n 2 := by unfold var; rw [if_neg h1, if_pos h2]
    have hz1 : ¬ ((n : Int) < 253) := by omega
    have hz2 : (n : Int) ≤ 65535 := by omega
    go_wp2_with fail
    refine (byte_calls S w q m _ 253 rfl H0.out (by omega)).mono ?_
    rintro e w2 ⟨rfl, g1, g2⟩
    have hz2 := g2.size
    have G1 := Lib.hid g1
    have G2 := Lib.hid g2
    clear g1 g2
    go_wp2_with fail
    refine (high_calls _ w2 q _ n 2 hn (by omega) G1.out (by simp; omega)).mono ?_
    rintro e w3 ⟨rfl, g1, g2⟩
    have hz3 := g2.size
    have G3 := Lib.hid (Plus.two g1 hz2 hz3)
    have G4 := Lib.hid (Fr.two G2.out g2)
    clear g1 g2
    go_wp2
    go_end0
    exact ⟨rfl, by rw [hv]; have := G3.out; rw [List.append_assoc] at this; exact this, G4.out⟩
  by_cases h3 : n < 4294967296
  · have hv : var n = 254 :: num n 4 := by unfold var; rw [if_neg h1, if_neg h2, if_pos h3]
    have hz1 : ¬ ((n : Int) < 253) := by omega
    have hz2 : ¬ ((n : Int) ≤ 65535) := by omega
    have hz3 : (n : Int) ≤ 4294967295 := by omega
    go_wp2_with fail
    refine (byte_calls S w q m _ 254 rfl H0.out (by omega)).mono ?_
    rintro e w2 ⟨rfl, g1, g2⟩
    have hz2 := g2.size
    have G1 := Lib.hid g1
    have G2 := Lib.hid g2
    clear g1 g2
    go_wp2_with fail
    refine (high_calls _ w2 q _ n 4 hn (by omega) G1.out (by simp; omega)).mono ?_
    rintro e w3 ⟨rfl, g1, g2⟩
    have hz3 := g2.size
    have G3 := Lib.hid (Plus.two g1 hz2 hz3)
    have G4 := Lib.hid (Fr.two G2.out g2)
    clear g1 g2
    go_wp2
    go_end0
    exact ⟨rfl, by rw [hv]; have := G3.out; rw [List.append_assoc] at this; exact this, G4.out⟩
  · have hv : var n = 255 :: num n 8 := by unfold var; rw [if_neg h1, if_neg h2, if_neg h3]
    have hz1 : ¬ ((n : Int) < 253) := by omega
    have hz2 : ¬ ((n : Int) ≤ 65535) := by omega
    have hz3 : ¬ ((n : Int) ≤ 4294967295) := by omega
    go_wp2_with fail
    refine (byte_calls S w q m _ 255 rfl H0.out (by omega)).mono ?_
    rintro e w2 ⟨rfl, g1, g2⟩
    have hz2 := g2.size
    have G1 := Lib.hid g1
    have G2 := Lib.hid g2
    clear g1 g2
    go_wp2_with fail
    refine (high_calls _ w2 q _ n 8 hn (by omega) G1.out (by simp; omega)).mono ?_
    rintro e w3 ⟨rfl, g1, g2⟩
    have hz3 := g2.size
    have G3 := Lib.hid (Plus.two g1 hz2 hz3)
    have G4 := Lib.hid (Fr.two G2.out g2)
    clear g1 g2
    go_wp2
    go_end0
    exact ⟨rfl, by rw [hv]; have := G3.out; rw [List.append_assoc] at this; exact this, G4.out⟩
end Go.Proofs.YtmenchnjajpkmaaGreatDoor.CodecW
end

section
namespace Go.Proofs.YtmenchnjajpkmaaGreatDoor.Mem
open Go Go.RowKit

/-- the text of some bytes -/
def str (l : List UInt8) : ByteArray := ⟨l.toArray⟩
theorem str_inj {l m : List UInt8} : (str l == str m) = (l == m) := by
  show ByteArray.beq _ _ = _
  simp [ByteArray.beq, str]
theorem strOfNums_byt (l : List UInt8) : strOfNums (l.map fun c => (c.toNat : Int)) = str l := by
  unfold strOfNums str
  congr 2
  rw [List.map_map]
  conv => rhs; rw [← List.map_id l]
  apply List.map_congr_left
  intro c _
  simp
theorem run_convert_byt {P : Program} {D : Nat → Prop} {w : World} {v : Value} {l : List UInt8} (h : Byt D w v l) {src dst e : TypeId} (hs : P.underlying src = some (.slice e)) (he : P.underlying e = some (.int .u8)) (hd : P.underlying dst = some .string) :
    (convert src dst v).run P w = .ok (.string (str l)) w := by
  obtain ⟨a, cap, rfl, hk, h⟩ := h
  rcases h with rfl | ⟨b, off, rfl, _, hl⟩
  · rw [run_convert_bytes_string w src dst e _ _ _ hs he hd]
    cases a
    · simp [Conv.bytesToString]; rfl
    · simp [Conv.bytesToString, loadCells, loadCellsFrom]; rfl
  · rw [← strOfNums_byt]
    exact run_convert_bytes_arg (P := P) w src e hs he b off _ cap _ (by simp) (fun i hi => by rw [hl i hi]; simp [List.getD, hi]) dst hd

theorem run_part_u8 {P : Program} {e : TypeId} (he : P.underlying e = some (.int .u8)) (w : World) (l : List UInt8) (i : Nat) (hi : i < l.length) : (part e (l.map byt).toArray i).run P w = .ok (byt (l[i]'hi)) w := by
  have hagg : (isAgg e).run P w = .ok false w := by
    unfold isAgg
    rw [Sem.run_bind, run_underlying he w]
    rfl
  simp [part, Sem.run_bind, hagg, hi]
theorem run_eqItems_u8 {P : Program} (d : Nat) {e : TypeId} (he : P.underlying e = some (.int .u8)) (w : World) (l m : List UInt8) : ∀ is : List Nat, (∀ i ∈ is, i < l.length ∧ i < m.length) →
    (Op.eqItems (d + 1) e 1 (l.map byt).toArray (m.map byt).toArray is).run P w = .ok (is.all fun i => l[i]? == m[i]?) w
  | [], _ => by simp [Op.eqItems]
  | i :: is, h => by
    obtain ⟨h1, h2⟩ := h i (by simp)
    have ih := run_eqItems_u8 d he w l m is (fun j hj => h j (by simp [hj]))
    have hq : ((((l[i]'h1).toNat : Int) == ((m[i]'h2).toNat : Int))) = (l[i]? == m[i]?) := by
      rw [List.getElem?_eq_getElem h1, List.getElem?_eq_getElem h2, Bool.eq_iff_iff, beq_iff_eq, beq_iff_eq, Option.some.injEq]
      constructor
      · intro h; apply UInt8.toNat_inj.1; omega
      · intro h; rw [h]
    simp only [Op.eqItems, Sem.run_bind, Nat.mul_one, run_part_u8 he w l i h1, run_part_u8 he w m i h2, Result.andThen_ok, run_equalIn_int w d e .u8 .u8 _ _ he, hq]
    by_cases hc : (l[i]? == m[i]?) = true
    · simp only [hc]; simpa [hc] using ih
    · simp only [Bool.not_eq_true] at hc; simp [hc]
theorem all_range (l m : List UInt8) (n : Nat) (h1 : l.length = n) (h2 : m.length = n) : ((List.range n).all fun i => l[i]? == m[i]?) = (l == m) := by
  rw [Bool.eq_iff_iff, List.all_eq_true, beq_iff_eq]
  constructor
  · intro h
    apply List.ext_getElem?
    intro i
    by_cases hi : i < n
    · simpa using h i (by simpa using hi)
    · rw [List.getElem?_eq_none (by omega), List.getElem?_eq_none (by omega)]
  · rintro rfl i _; simp
theorem run_equal_u8 {P : Program} {t e : TypeId} {n : Nat} {i : TypeInfo} (hu : P.underlying t = some (.array n e)) (hi : P.info? e = some i) (hc : P.cellsOf e = 1) (he : P.underlying e = some (.int .u8)) (w : World) (l m : List UInt8) (h1 : l.length = n) (h2 : m.length = n) :
    (Op.equalIn 10000 t (.agg (l.map byt).toArray) (.agg (m.map byt).toArray)).run P w = .ok (l == m) w := by
  have h := run_equalIn_array (P := P) (w := w) (9998 + 1) (l.map byt).toArray (m.map byt).toArray hu hi
  have h3 := run_eqItems_u8 (P := P) 9998 he w l m (List.range n) (fun j hj => by have := List.mem_range.1 hj; omega)
  rw [all_range l m n h1 h2] at h3
  rw [show (10000 : Nat) = 9998 + 1 + 1 from rfl, h, hc, h3]
theorem run_eql_u8 {P : Program} {t e : TypeId} {n : Nat} {i : TypeInfo} (hu : P.underlying t = some (.array n e)) (hi : P.info? e = some i) (hc : P.cellsOf e = 1) (he : P.underlying e = some (.int .u8)) (w : World) (l m : List UInt8) (h1 : l.length = n) (h2 : m.length = n) :
    (binOp .eql t (.agg (l.map byt).toArray) (.agg (m.map byt).toArray)).run P w = .ok (.bool (l == m)) w := by
  rw [run_eql_struct, run_equal_u8 hu hi hc he w l m h1 h2, Result.andThen_ok]
theorem run_neq_u8 {P : Program} {t e : TypeId} {n : Nat} {i : TypeInfo} (hu : P.underlying t = some (.array n e)) (hi : P.info? e = some i) (hc : P.cellsOf e = 1) (he : P.underlying e = some (.int .u8)) (w : World) (l m : List UInt8) (h1 : l.length = n) (h2 : m.length = n) :
    (binOp .neq t (.agg (l.map byt).toArray) (.agg (m.map byt).toArray)).run P w = .ok (.bool (!(l == m))) w := by
  rw [run_neq_struct, run_equal_u8 hu hi hc he w l m h1 h2, Result.andThen_ok]

/-- a whole row is loaded, guarded or not -/
theorem wpList_load_cs {P : Program} {ops : Array Oper} {rest : List Oper} {o : Oper} {a : Act} {w : World} {Q : Exit → Act → World → Prop} (hw : Region.wanted o (yielded ops a.tmps) = true) (ty : TypeId) (x : Operand) (ho : o.op = .load ty x)
    (g : Nat) (l : List Value) (hx : a.eval x = .pointer (some ⟨g, 0, none⟩)) {t : TypeId} (hB : Blk w g l t) (d : TypeDesc) (hu : P.underlying ty = some d)
    (hd : (match d with | .struct _ | .array _ _ => true | _ => false) = true) (hi : (P.info? ty).map (·.size) = some l.length) (cs : Array Value) (hcs : l.toArray = cs)
    (h : wpList P ops Q rest (a.put o.dst (.agg cs)) w) : wpList P ops Q (o :: rest) a w := by
  subst hcs
  exact BigFrame.wpList_want hw (fun K hK => wp_load_row ty x ho g hx t l.toArray (0, 0) d hB hu hd (by simpa using hi) (hK _ _ h))

/-- a world behind w0 that has the blocks under B as w0 has them -/
structure Later (B : Nat) (w0 : World) where
  w : World
  h : Below B w0 w
instance (B : Nat) (w0 : World) : Nonempty (Later B w0) := ⟨⟨w0, Below.refl _ _⟩⟩
def IsLater (B : Nat) (w0 w' : World) : Prop := ∃ x : Later B w0, w' = x.w
theorem run_loadVar_blk {P : Program} {w : World} {g : Nat} {l : List Value} {t ty : TypeId} (hB : Blk w g l t) (d : TypeDesc) (hu : P.underlying ty = some d)
    (hd : (match d with | .struct _ | .array _ _ => true | _ => false) = true) (hi : (P.info? ty).map (·.size) = some l.length) :
    (loadVar ty ⟨g, 0, none⟩).run P w = .ok (.agg l.toArray) w := run_loadVar_row w g t ty l.toArray (0, 0) d hB hu hd (by simpa using hi)

theorem wp_region_later {P : Program} {id : Nat} {Q : Exit → Act → World → Prop} {a : Act} {w : World} {l : List Oper} (B : Nat) (w0 : World) (hm : P.follows .mixedOrders = true) (hL : Region.lexB .any l.toArray = true) (hC : Below B w0 w)
    (h : wpQuiet P l.toArray (fun w' => ∃ x : Later B w0, w' = x.w) (fun a' => ∀ x : Later B w0, Q .normal a' x.w) l a) : (Code.region id l.toArray true).wp P Q a w :=
  wp_region_quiet (C := fun w' => ∃ x : Later B w0, w' = x.w) hm hL ⟨⟨_, hC.drew⟩, rfl⟩ (by
    have e : (fun a' => ∀ w', (∃ x : Later B w0, w' = x.w) → Q .normal a' w') = (fun a' => ∀ x : Later B w0, Q .normal a' x.w) := by
      funext a'; exact propext ⟨fun h x => h _ ⟨x, rfl⟩, fun h _ ⟨x, hx⟩ => hx ▸ h x⟩
    rw [e]
    simpa using h)
section
variable {P : Program} {ops : Array Oper} {C : World → Prop} {Q : Act → Prop} {a : Act} {o : Oper} {rest : List Oper}
theorem wpQuiet_val (hw : Region.wanted o (yielded ops a.tmps) = true) (u : Value) (h : ∀ w, C w → (execOp a.eval o).run P w = .ok (.value u) w) (hn : wpQuiet P ops C Q rest (a.put o.dst u)) : wpQuiet P ops C Q (o :: rest) a := by
  refine wpQuiet_step fun K hK => ?_
  rw [if_pos hw]
  refine ⟨u, fun w hC => ?_, hK _ hn⟩
  unfold Oper.quietAt
  rw [h w hC]
  exact ⟨rfl, rfl⟩
theorem wpQuiet_row (hw : Region.wanted o (yielded ops a.tmps) = true) (ty : TypeId) (x : Operand) (ho : o.op = .load ty x)
    (g : Nat) (l : List Value) (hx : a.eval x = .pointer (some ⟨g, 0, none⟩)) (t : TypeId) (hB : ∀ w, C w → Blk w g l t) (d : TypeDesc) (hu : P.underlying ty = some d)
    (hd : (match d with | .struct _ | .array _ _ => true | _ => false) = true) (hi : (P.info? ty).map (·.size) = some l.length)
    (cs : Array Value) (hcs : l.toArray = cs) (hn : wpQuiet P ops C Q rest (a.put o.dst (.agg cs))) : wpQuiet P ops C Q (o :: rest) a := by
  subst hcs
  refine wpQuiet_val hw _ (fun w hC => ?_) hn
  unfold execOp
  simp only [ho, hx, Instr.loadAt, Instr.sureAddr, Sem.run_bind, Sem.run_pure, Result.andThen_ok, run_loadVar_blk (hB w hC) d hu hd hi]
end
end Go.Proofs.YtmenchnjajpkmaaGreatDoor.Mem
end
