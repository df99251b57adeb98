/- Words for memory: what a slice of bytes reads as; a world in which only some blocks have turned. Program-independent; no condition. -/
import Derived.WalkKit
import Derived.Lib.Hide
import Derived.OpenShut
import Derived.WalkSmall
import Derived.Deep.QuietTactic
import Derived.BigQuiet
import Derived.Laws.AppendOwnNone
import Derived.Maps.AppendAt
import Derived.Deep.RegionLaw
import Derived.Deep.RegionHeld3
namespace Go.Proofs.Ytjdohjoljobinaa.Mem
open Go Go.RowKit

/-- the worlds in which only the blocks in S, of those that there were, may have turned -/
structure Fr (S : Nat → Prop) (w w' : World) : Prop where
  os : w'.os = w.os
  tape : w'.tape = w.tape
  output : w'.output = w.output
  size : w.heap.size ≤ w'.heap.size
  block : ∀ k, k < w.heap.size → ¬ S k → w'.heap[k]? = w.heap[k]?

theorem Fr.refl (S : Nat → Prop) (w : World) : Fr S w w := ⟨rfl, rfl, rfl, Nat.le_refl _, fun _ _ _ => rfl⟩
theorem Fr.trans {S : Nat → Prop} {a b c : World} (h : Fr S a b) (k : Fr S b c) : Fr S a c :=
  ⟨k.os.trans h.os, k.tape.trans h.tape, k.output.trans h.output, Nat.le_trans h.size k.size, fun i hi hs => (k.block i (Nat.lt_of_lt_of_le hi h.size) hs).trans (h.block i hi hs)⟩
theorem Fr.mono {S T : Nat → Prop} {a b : World} (h : Fr S a b) (hs : ∀ k, k < a.heap.size → S k → T k) : Fr T a b :=
  ⟨h.os, h.tape, h.output, h.size, fun k hk hn => h.block k hk (fun e => hn (hs k hk e))⟩
/-- two steps, the second one's blocks being new or among the first's -/
theorem Fr.trans' {S T : Nat → Prop} {a b c : World} (h : Fr S a b) (k : Fr T b c) (hs : ∀ i, i < a.heap.size → T i → S i) : Fr S a c :=
  ⟨k.os.trans h.os, k.tape.trans h.tape, k.output.trans h.output, Nat.le_trans h.size k.size, fun i hi hn => (k.block i (Nat.lt_of_lt_of_le hi h.size) (fun e => hn (hs i hi e))).trans (h.block i hi hn)⟩
theorem Fr.drew {S : Nat → Prop} {a w : World} (h : Fr S a w) : Fr S a w.drew := ⟨h.os, h.tape, h.output, h.size, h.block⟩
theorem Fr.drewN {S : Nat → Prop} {a w : World} (h : Fr S a w) (n : Nat) : Fr S a (w.drewN n) := ⟨h.os, h.tape, h.output, h.size, h.block⟩
theorem Fr.alloc {S : Nat → Prop} {a w : World} (h : Fr S a w) (o : Obj) : Fr S a (w.alloc o) :=
  h.trans ⟨rfl, rfl, rfl, by simp, fun k hk _ => Below.heap_alloc _ _ _ hk⟩
theorem Fr.setCell {S : Nat → Prop} {a w : World} (h : Fr S a w) {p : Addr} (hp : a.heap.size ≤ p.block ∨ S p.block) (u : Value) : Fr S a (w.setCell p u) := by
  refine h.trans' (T := fun k => k = p.block) ⟨rfl, rfl, rfl, by simp [World.setCell], fun k _ hn => Below.heap_setCell _ _ _ _ hn⟩ ?_
  intro i hi e
  rcases hp with hp | hp
  · omega
  · exact e ▸ hp
theorem Fr.below {S : Nat → Prop} {a w : World} {B : Nat} (h : Fr S a w) (hB : B ≤ a.heap.size) (hs : ∀ k, S k → B ≤ k) : Below B a w :=
  ⟨h.os, h.tape, h.output, h.size, fun k hk => h.block k (by omega) (fun e => by have := hs k e; omega)⟩
theorem Fr.ofBelow {B : Nat} {a w : World} (h : Below B a w) : Fr (fun k => B ≤ k) a w :=
  ⟨h.os, h.tape, h.output, h.size, fun k _ hn => h.block k (by omega)⟩
theorem Fr.ofBelowAll {S : Nat → Prop} {B : Nat} {a w : World} (h : Below B a w) (hB : a.heap.size ≤ B) : Fr S a w :=
  ⟨h.os, h.tape, h.output, h.size, fun k hk _ => h.block k (by omega)⟩
theorem Fr.ofGrown {row : Option Nat} {a w : World} (h : a.grownBy w row) : Fr (fun k => row = some k) a w :=
  ⟨h.os, h.tape, h.output, h.size, fun k hk hn => h.block k hk (fun e => hn e.symm)⟩
theorem Fr.cell {S : Nat → Prop} {a w : World} (h : Fr S a w) {p : Addr} {v : Value} (hv : a.cell? p = some v) (hn : ¬ S p.block) : w.cell? p = some v :=
  (World.cell?_of_block (w := a) (h.block p.block (World.block_lt_of_cell? a p hv) hn)).trans hv
theorem Fr.frozen {S : Nat → Prop} {a w : World} (h : Fr S a w) {p : Addr} (hp : p.block < a.heap.size) (hn : ¬ S p.block) : w.frozen? p = a.frozen? p :=
  World.frozen?_of_block (w := a) (h.block p.block hp hn)

theorem ret_int {k : IntKind} {a b : Int} (h : a = b) : Ending.returned (.int k a) = .returned (.int k b) := by rw [h]
theorem ret_bool {a b : Bool} (h : a = b) : Ending.returned (.bool a) = .returned (.bool b) := by rw [h]

/-- a byte as a cell -/
abbrev byt (c : UInt8) : Value := .int .u8 (c.toNat : Int)
/-- bytes that lie from an address on -/
def Lies (w : World) (b off : Nat) (l : List UInt8) : Prop := ∀ i (h : i < l.length), w.cell? ⟨b, off + i, none⟩ = some (.int .u8 ((l[i]'h).toNat : Int))
/-- a slice that reads as bytes, which lie in a block of D -/
def Byt (D : Nat → Prop) (w : World) (v : Value) (l : List UInt8) : Prop :=
  ∃ a cap, v = .slice a l.length cap ∧ (l.length ≤ cap ∧ cap ≤ maxLen ∧ (a = none → cap = 0)) ∧ (l = [] ∨ ∃ b off, a = some ⟨b, off, none⟩ ∧ D b ∧ Lies w b off l)
abbrev Any : Nat → Prop := fun _ => True

theorem Lies.fr {S : Nat → Prop} {w w' : World} {b off : Nat} {l : List UInt8} (h : Lies w b off l) (hf : Fr S w w') (hn : ¬ S b) : Lies w' b off l :=
  fun i hi => hf.cell (h i hi) hn
theorem Byt.mono {D E : Nat → Prop} {w : World} {v : Value} {l : List UInt8} (h : Byt D w v l) (hd : ∀ k, k < w.heap.size → D k → E k) : Byt E w v l := by
  obtain ⟨a, cap, rfl, hk, h⟩ := h
  refine ⟨a, cap, rfl, hk, ?_⟩
  rcases h with h | ⟨b, off, rfl, hb, hl⟩
  · exact .inl h
  · by_cases hz : l = []
    · exact .inl hz
    · have h0 := hl 0 (by have := List.length_pos_iff.2 hz; omega)
      exact .inr ⟨b, off, rfl, hd b (World.block_lt_of_cell? w _ h0) hb, hl⟩
theorem Byt.any {D : Nat → Prop} {w : World} {v : Value} {l : List UInt8} (h : Byt D w v l) : Byt Any w v l := h.mono fun _ _ _ => trivial
theorem Byt.lt {D : Nat → Prop} {w : World} {v : Value} {l : List UInt8} (h : Byt D w v l) : Byt (fun k => k < w.heap.size ∧ D k) w v l := h.mono fun _ h1 h2 => ⟨h1, h2⟩
theorem Byt.fr {D S : Nat → Prop} {w w' : World} {v : Value} {l : List UInt8} (h : Byt D w v l) (hf : Fr S w w') (hn : ∀ k, k < w.heap.size → D k → ¬ S k) : Byt D w' v l := by
  obtain ⟨a, cap, rfl, hk, h1⟩ := h.lt
  refine ⟨a, cap, rfl, hk, h1.imp_right ?_⟩
  rintro ⟨b, off, rfl, hb, hl⟩
  exact ⟨b, off, rfl, hb.2, hl.fr hf (hn b hb.1 hb.2)⟩
theorem Byt.below {D : Nat → Prop} {w w' : World} {v : Value} {l : List UInt8} (h : Byt D w v l) (hf : Below w.heap.size w w') : Byt D w' v l :=
  h.fr (Fr.ofBelow hf) (fun _ h1 _ h2 => by omega)
theorem Byt.drew {D : Nat → Prop} {w : World} {v : Value} {l : List UInt8} (h : Byt D w v l) : Byt D w.drew v l := h
theorem Byt.nil (D : Nat → Prop) (w : World) : Byt D w (.slice none 0 0) [] := ⟨none, 0, rfl, ⟨Nat.le_refl _, Nat.zero_le _, fun _ => rfl⟩, .inl rfl⟩
theorem Lies.lt {w : World} {b off : Nat} {l : List UInt8} (h : Lies w b off l) (hl : l ≠ []) : b < w.heap.size :=
  World.block_lt_of_cell? w _ (h 0 (by have := List.length_pos_iff.2 hl; omega))
/-- a new block of bytes -/
theorem Byt.newBlock {D : Nat → Prop} (w : World) (cs : Array Value) (e : TypeId) (f : Nat × Nat) (l : List UInt8) (n cap : Nat) (hn : n = l.length) (hcap : l.length ≤ cap ∧ cap ≤ maxLen) (hd : D w.heap.size) (hc : ∀ i (h : i < l.length), cs[i]? = some (byt (l[i]'h))) :
    Byt D (w.alloc (.cells cs e f)) (.slice (some ⟨w.heap.size, 0, none⟩) n cap) l := by
  subst hn
  refine ⟨_, cap, rfl, ⟨hcap.1, hcap.2, fun h => by cases h⟩, .inr ⟨w.heap.size, 0, rfl, hd, fun i h => ?_⟩⟩
  have e1 : (w.alloc (.cells cs e f)).heap[w.heap.size]? = some (.cells cs e f) := heap_alloc_new w _
  simp only [World.cell?, e1, Nat.zero_add]
  simpa using hc i h

/-- what a program's tables say of a slice type t, its elements' type e -/
structure ElemT (P : Program) (t e : TypeId) (z : Value) (size bytes : Nat) : Prop where
  und : P.underlying t = some (.slice e)
  info : ∃ i, P.info? e = some i ∧ i.zero = some z ∧ i.size = size ∧ i.bytes = bytes
  zsz : z.cells.size = size
  pos : 0 < size

/-- a slice of the call's own that holds bytes, in a block from base on -/
def OwnB (base : Nat) (e : TypeId) (w : World) (v : Value) (l : List UInt8) : Prop := w.ownsRow base e 1 v l.length (l.map byt)
theorem OwnB.nil (base : Nat) (e : TypeId) (w : World) : OwnB base e w (.slice none 0 0) [] := World.ownsRow_nil _ _ _ _
theorem OwnB.cast {base : Nat} {e : TypeId} {w : World} {v : Value} {l m : List UInt8} (h : OwnB base e w v l) (hm : l = m) : OwnB base e w v m := hm ▸ h
theorem OwnB.byt {base : Nat} {e : TypeId} {w : World} {v : Value} {l : List UInt8} (h : OwnB base e w v l) : Byt (fun k => v.ownBlock = some k ∧ base ≤ k) w v l := by
  rcases h.2 with ⟨rfl, hn⟩ | ⟨g, cap, cur, hv, hg, hh, hc, hm, hs, ht⟩
  · have : l = [] := List.length_eq_zero_iff.1 hn
    subst this; exact ⟨none, 0, rfl, ⟨Nat.le_refl _, Nat.zero_le _, fun _ => rfl⟩, .inl rfl⟩
  · subst hv
    refine ⟨_, cap, rfl, ⟨hc, hm, fun h => by cases h⟩, .inr ⟨g, 0, rfl, ⟨rfl, hg⟩, fun i hi => ?_⟩⟩
    have := h.cellAt i (by omega)
    rw [Nat.zero_add, this]
    simp [hi]
theorem OwnB.drew {base : Nat} {e : TypeId} {w : World} {v : Value} {l : List UInt8} (h : OwnB base e w v l) : OwnB base e w.drew v l := h
theorem OwnB.fr {base : Nat} {e : TypeId} {w w' : World} {v : Value} {l : List UInt8} {S : Nat → Prop} (h : OwnB base e w v l) (hf : Fr S w w') (hn : ∀ k, v.ownBlock = some k → ¬ S k) : OwnB base e w' v l := by
  refine ⟨h.1, ?_⟩
  rcases h.2 with h2 | ⟨g, cap, cur, rfl, hb, hgg, rest⟩
  · exact .inl h2
  · exact .inr ⟨g, cap, cur, rfl, hb, (hf.block g (Array.getElem?_eq_some_iff.1 hgg).1 (hn g rfl)).trans hgg, rest⟩
theorem OwnB.below {base : Nat} {e : TypeId} {w w' : World} {v : Value} {l : List UInt8} (h : OwnB base e w v l) (hf : Below w.heap.size w w') : OwnB base e w' v l :=
  h.fr (Fr.ofBelow hf) (fun k hk h2 => by have := (World.ownsRow.lt h k hk).2; omega)
theorem OwnB.mono {base base' : Nat} {e : TypeId} {w : World} {v : Value} {l : List UInt8} (h : OwnB base e w v l) (hb : base' ≤ base) : OwnB base' e w v l := by
  refine ⟨h.1, ?_⟩
  rcases h.2 with h2 | ⟨g, cap, cur, hv, hg, r⟩
  · exact .inl h2
  · exact .inr ⟨g, cap, cur, hv, by omega, r⟩
theorem OwnB.lt {base : Nat} {e : TypeId} {w : World} {v : Value} {l : List UInt8} (h : OwnB base e w v l) : ∀ k, v.ownBlock = some k → base ≤ k ∧ k < w.heap.size := World.ownsRow.lt h

theorem OwnB.shape {base : Nat} {e : TypeId} {w : World} {v : Value} {l : List UInt8} (h : OwnB base e w v l) (hl : l ≠ []) :
    ∃ g cap, v = .slice (some ⟨g, 0, none⟩) l.length cap ∧ base ≤ g ∧ g < w.heap.size ∧ l.length ≤ cap ∧ cap ≤ maxLen ∧ Lies w g 0 l ∧ ∀ j, w.frozen? ⟨g, j, none⟩ = false := by
  rcases h.2 with ⟨rfl, hn⟩ | ⟨g, cap, cur, hv, hg, hh, hc, hm, hs, ht⟩
  · exact absurd (List.length_eq_zero_iff.1 hn) hl
  · subst hv
    refine ⟨g, cap, rfl, hg, (Array.getElem?_eq_some_iff.1 hh).1, hc, hm, fun i hi => ?_, fun j => h.frozenAt j⟩
    have := h.cellAt i (by omega)
    rw [Nat.zero_add, this]
    simp [hi]
theorem Lies.set {w : World} {b off : Nat} {l : List UInt8} (h : Lies w b off l) (i : Nat) (hi : i < l.length) (c : UInt8) : Lies (w.setCell ⟨b, off + i, none⟩ (.int .u8 (c.toNat : Int))) b off (l.set i c) := by
  intro j hj
  rw [List.length_set] at hj
  rw [List.getElem_set]
  by_cases e : i = j
  · subst e; rw [if_pos rfl]; exact World.cell?_setCell_same _ _ _ (h i hi)
  · rw [if_neg e, World.cell?_setCell_other _ _ _ _ (by intro q; injection q; omega)]; exact h j hj
theorem Lies.byt {D : Nat → Prop} {w : World} {b off n cap : Nat} {l : List UInt8} (h : Lies w b off l) (hd : D b) (hn : n = l.length) (hc : l.length ≤ cap) (hm : cap ≤ maxLen) : Byt D w (.slice (some ⟨b, off, none⟩) n cap) l := by
  subst hn; exact ⟨_, cap, rfl, ⟨hc, hm, fun h => by cases h⟩, .inr ⟨b, off, rfl, hd, h⟩⟩

/-- 'append(s, x...)' of bytes, s the call's own (or nil), x any bytes -/
theorem run_append_byt {P : Program} (w : World) (t ty base e : TypeId) (T : ElemT P t e (.int .u8 0) 1 1) (v : Value) (l : List UInt8) (hown : OwnB base e w v l) {D : Nat → Prop} (y : Value) (m : List UInt8) (hy : Byt D w y m)
    (hlen : l.length + m.length ≤ 140737488355328) (hb : base ≤ w.heap.size) :
    ∃ a' cap' w', (Builtin.append_ #[t, t] ty #[v, y]).run P w = .ok (.slice a' (l.length + m.length) cap') w' ∧ OwnB base e w' (.slice a' (l.length + m.length) cap') (l ++ m) ∧ w.grownBy w' v.ownBlock ∧ ((Value.slice a' (l.length + m.length) cap').ownBlock = v.ownBlock ∨ (Value.slice a' (l.length + m.length) cap').ownBlock = some w.heap.size) := by
  obtain ⟨i, hi, hz, hsz, hby⟩ := T.info
  obtain ⟨ad, c, rfl, hk, hm⟩ := hy
  have hml : (m.map byt).length = m.length * 1 := by simp
  have hone : ∀ u : Value, u ∈ m.map byt → u.oneCell' = true := by
    intro u hu; obtain ⟨c, _, rfl⟩ := List.mem_map.1 hu; rfl
  have hmax : l.length + m.length ≤ maxLen := by unfold maxLen; omega
  cases ad with
  | none =>
    have hm0 : m = [] := by
      rcases hm with hm | ⟨b, off, hc, _⟩
      · exact hm
      · cases hc
    subst hm0
    obtain rfl := hk.2.2 rfl
    obtain ⟨va, vc, rfl, _⟩ := id hown.byt
    exact ⟨va, vc, w, run_append_owned_none (P := P) (w := w) base t ty e i 1 T.und hi _ _ _ hown, hown.cast (by simp), World.grownBy.refl _ _, .inl rfl⟩
  | some ad =>
    obtain ⟨v', w', h0, h1, h2, h3, h4⟩ := run_append_own_at (P := P) w base t ty e i (.int .u8 0) 1 1 T.und hi hz hsz hby T.zsz T.pos v _ _ hown ad m.length c (m.map byt) hml (by
      intro j u hj
      rcases hm with hm | ⟨b, off, hc, _, hl⟩
      · subst hm; simp at hj
      · simp only [Option.some.injEq] at hc; subst hc
        have hjl : j < m.length := by
          have := (List.getElem?_eq_some_iff.1 hj).1; simpa using this
        have := hl j hjl
        simp [hjl] at hj; subst hj
        by_cases h0 : j = 0
        · subst h0; simpa [Addr.add] using this
        · simpa [Addr.add, h0] using this) hone hmax (by omega) hb
    have ho : OwnB base e w' v' (l ++ m) := by unfold OwnB; rw [List.length_append, List.map_append]; exact h1
    obtain ⟨va, vc, rfl, _⟩ := id ho.byt
    rw [List.length_append] at h0 h4 ho
    exact ⟨va, vc, w', h0, ho, h2, h4⟩

theorem wpList_append_byt {P : Program} (w : World) {ops : Array Oper} {rest : List Oper} {o : Oper} {a : Act} {Q : Exit → Act → World → Prop} (hgd : o.guard = none) (s x : Operand) (t : TypeId)
    (ho : o.op = .call { callee := .builtin .append, args := #[s, x], argTypes := #[t, t] }) (base : Nat) (e : TypeId) (T : ElemT P t e (.int .u8 0) 1 1)
    (v : Value) (l : List UInt8) (hs : a.eval s = v) (hown : OwnB base e w v l) {D : Nat → Prop} (y : Value) (m : List UInt8) (hx : a.eval x = y) (hy : Byt D w y m)
    (hlen : l.length + m.length ≤ 140737488355328) (hb : base ≤ w.heap.size)
    (h : ∀ (a' : Option Addr) (cap' : Nat) (w' : World), OwnB base e w' (.slice a' (l.length + m.length) cap') (l ++ m) → w.grownBy w' v.ownBlock → ((Value.slice a' (l.length + m.length) cap').ownBlock = v.ownBlock ∨ (Value.slice a' (l.length + m.length) cap').ownBlock = some w.heap.size) → wpList P ops Q rest (a.put o.dst (.slice a' (l.length + m.length) cap')) w') :
    wpList P ops Q (o :: rest) a w := by
  obtain ⟨a', cap', w', h0, h1, h2, h4⟩ := run_append_byt (P := P) w t o.type base e T v l hown y m hy hlen hb
  refine wpList_plain hgd fun K hK => ?_
  unfold Oper.wp
  simp [execOp, ho, resolve, invoke, builtin, hs, hx, h0, Result.andThen]
  exact hK _ _ (h a' cap' w' h1 h2 h4)

/-- the same as a step of a region that draws -/
theorem step_append_byt {P : Program} {ops : Array Oper} {o : Oper} {a : Act} {w : World} {K : Act → World → Prop} {Q : Exit → Act → World → Prop} {E : Prop} (hgd : o.guard = none) (s x : Operand) (t : TypeId)
    (ho : o.op = .call { callee := .builtin .append, args := #[s, x], argTypes := #[t, t] }) (base : Nat) (e : TypeId) (T : ElemT P t e (.int .u8 0) 1 1)
    (v : Value) (l : List UInt8) (hs : a.eval s = v) (hown : OwnB base e w v l) {D : Nat → Prop} (y : Value) (m : List UInt8) (hx : a.eval x = y) (hy : Byt D w y m)
    (hlen : l.length + m.length ≤ 140737488355328) (hb : base ≤ w.heap.size)
    (h : ∀ (a' : Option Addr) (cap' : Nat) (w' : World), OwnB base e w' (.slice a' (l.length + m.length) cap') (l ++ m) → w.grownBy w' v.ownBlock → ((Value.slice a' (l.length + m.length) cap').ownBlock = v.ownBlock ∨ (Value.slice a' (l.length + m.length) cap').ownBlock = some w.heap.size) → K (a.put o.dst (.slice a' (l.length + m.length) cap')) w') :
    if Region.wanted o (yielded ops a.tmps) = true then Oper.wp P o a w K Q else E := by
  have hw : Region.wanted o (yielded ops a.tmps) = true := by simp [Region.wanted, hgd]
  rw [if_pos hw]
  obtain ⟨a', cap', w', h0, h1, h2, h4⟩ := run_append_byt (P := P) w t o.type base e T v l hown y m hy hlen hb
  unfold Oper.wp
  simp [execOp, ho, resolve, invoke, builtin, hs, hx, h0, Result.andThen]
  exact h a' cap' w' h1 h2 h4

/-- a block known whole, none of its cells frozen -/
def Blk (w : World) (b : Nat) (l : List Value) (e : TypeId) : Prop := w.heap[b]? = some (.cells l.toArray e (0, 0))
section
variable {w w' : World} {b : Nat} {l : List Value} {e : TypeId}
theorem Blk.lt (h : Blk w b l e) : b < w.heap.size := (Array.getElem?_eq_some_iff.1 h).1
theorem Blk.cell (h : Blk w b l e) {i : Nat} {v : Value} (hv : l[i]? = some v) : w.cell? ⟨b, i, none⟩ = some v := by
  unfold Blk at h
  simp only [World.cell?, h]
  simpa using hv
theorem Blk.free (h : Blk w b l e) (i : Nat) : w.frozen? ⟨b, i, none⟩ = false := by
  unfold Blk at h
  simp [World.frozen?, h]
theorem Blk.fr {S : Nat → Prop} (h : Blk w b l e) (hf : Fr S w w') (hn : ¬ S b) : Blk w' b l e := (hf.block b h.lt hn).trans h
theorem Blk.below (h : Blk w b l e) (hf : Below w.heap.size w w') : Blk w' b l e := (hf.block b h.lt).trans h
theorem Blk.drew (h : Blk w b l e) : Blk w.drew b l e := h
theorem Blk.drewN (h : Blk w b l e) (n : Nat) : Blk (w.drewN n) b l e := h
theorem Blk.set (h : Blk w b l e) (i : Nat) (v : Value) : Blk (w.setCell ⟨b, i, none⟩ v) b (l.set i v) e := by
  unfold Blk at *
  simp [World.setCell, Array.getElem?_modify, h]
theorem Blk.other (h : Blk w b l e) {a : Addr} (ha : a.block ≠ b) (v : Value) : Blk (w.setCell a v) b l e :=
  (Below.heap_setCell _ _ _ _ (Ne.symm ha)).trans h
theorem Blk.alloc (h : Blk w b l e) (o : Obj) : Blk (w.alloc o) b l e := (Below.heap_alloc w o b h.lt).trans h
theorem Blk.new (w : World) (cs : Array Value) (e : TypeId) (l : List Value) (hl : cs = l.toArray) : Blk (w.alloc (.cells cs e)) w.heap.size l e := by
  subst hl; exact heap_alloc_new w _
end

/-- a piece of a slice of bytes -/
theorem run_slice_byt {P : Program} {t e : TypeId} {D : Nat → Prop} {w : World} {v : Value} {l : List UInt8} (T : ElemT P t e (.int .u8 0) 1 1) (h : Byt D w v l) (lo hi : Nat) (h1 : lo ≤ hi) (h2 : hi ≤ l.length) :
    ∃ a cap, (∀ (kl kh : IntKind) (w' : World), (Instr.sliceAt t v (some (.int kl (lo : Int))) (some (.int kh (hi : Int))) none).run P w' = .ok (.slice a (hi - lo) cap) w') ∧
      (lo = 0 → ∀ (kh : IntKind) (w' : World), (Instr.sliceAt t v none (some (.int kh (hi : Int))) none).run P w' = .ok (.slice a (hi - lo) cap) w') ∧
      (hi = l.length → ∀ (kl : IntKind) (w' : World), (Instr.sliceAt t v (some (.int kl (lo : Int))) none none).run P w' = .ok (.slice a (hi - lo) cap) w') ∧
      Byt D w (.slice a (hi - lo) cap) ((l.take hi).drop lo) := by
  obtain ⟨a, c, rfl, ⟨hlc, hcm, hnone⟩, hb⟩ := h
  obtain ⟨i, hi1, hz, hsz, hby⟩ := T.info
  have hsize : ∀ w', (sizeOf e).run P w' = .ok 1 w' := fun w' => by simp [sizeOf, typeInfo, hi1, hsz]
  have el : ((lo : Int)).toNat = lo := rfl
  refine ⟨if c = lo then a else a.map (·.add lo), c - lo, ?_, ?_, ?_, ?_⟩
  · intro kl kh w'
    have : ((lo : Int) ≤ hi) := by omega
    simp [Instr.sliceAt, Instr.slice, run_underlying T.und, Instr.sliceBounds, run_sliceBound, hsize, show (hi : Int) ≤ c from by omega, this]
  · intro h0 kh w'
    subst h0
    simp [Instr.sliceAt, Instr.slice, run_underlying T.und, Instr.sliceBounds, run_sliceBound, hsize, show (hi : Int) ≤ c from by omega]
  · intro h0 kl w'
    subst h0
    simp [Instr.sliceAt, Instr.slice, run_underlying T.und, Instr.sliceBounds, run_sliceBound, hsize, show (lo : Int) ≤ l.length from by omega]
  · have hlen : ((l.take hi).drop lo).length = hi - lo := by simp; omega
    refine ⟨_, c - lo, by rw [hlen], ⟨by omega, by omega, ?_⟩, ?_⟩
    · intro hn
      split at hn
      · omega
      · cases a with
        | none => have := hnone rfl; omega
        | some x => simp at hn
    · by_cases he : hi - lo = 0
      · left; apply List.length_eq_zero_iff.1; omega
      · right
        rcases hb with hb | ⟨b, off, rfl, hd, hl⟩
        · subst hb; simp at h2; omega
        · have hne : c ≠ lo := by omega
          refine ⟨b, off + lo, ?_, hd, fun i hi2 => ?_⟩
          · rw [if_neg hne]
            simp only [Option.map_some, Option.some.injEq]
            unfold Addr.add
            split
            · rename_i h0; subst h0; rfl
            · rfl
          · have := hl (lo + i) (by omega)
            rw [Nat.add_assoc, this]
            simp [List.getElem_drop, List.getElem_take]
theorem run_slice_hi {P : Program} {t e : TypeId} {D : Nat → Prop} {w : World} {v : Value} {l : List UInt8} (T : ElemT P t e (.int .u8 0) 1 1) (h : Byt D w v l) (n : Nat) (h2 : n ≤ l.length) :
    ∃ a cap, (∀ (kh : IntKind) (w' : World), (Instr.sliceAt t v none (some (.int kh (n : Int))) none).run P w' = .ok (.slice a n cap) w') ∧ Byt D w (.slice a n cap) (l.take n) := by
  obtain ⟨a, cap, _, h2, _, h4⟩ := run_slice_byt T h 0 n (Nat.zero_le _) h2
  exact ⟨a, cap, h2 rfl, h4⟩
theorem run_slice_lo {P : Program} {t e : TypeId} {D : Nat → Prop} {w : World} {v : Value} {l : List UInt8} (T : ElemT P t e (.int .u8 0) 1 1) (h : Byt D w v l) (n : Nat) (h2 : n ≤ l.length) :
    ∃ a cap, (∀ (kl : IntKind) (w' : World), (Instr.sliceAt t v (some (.int kl (n : Int))) none none).run P w' = .ok (.slice a (l.length - n) cap) w') ∧ Byt D w (.slice a (l.length - n) cap) (l.drop n) := by
  obtain ⟨a, cap, _, _, h3, h4⟩ := run_slice_byt T h n l.length h2 (Nat.le_refl _)
  rw [List.take_length] at h4
  exact ⟨a, cap, h3 rfl, h4⟩
theorem OwnB.alloc {base : Nat} {e : TypeId} {w : World} {v : Value} {l : List UInt8} (h : OwnB base e w v l) (o : Obj) : OwnB base e (w.alloc o) v l := World.ownsRow.alloc h o
theorem one_byt {D : Nat → Prop} (w : World) (e : TypeId) (n : Int) (c : UInt8) (h : n = (c.toNat : Int)) (hd : D w.heap.size) : Byt D (w.alloc (.cells #[.int .u8 n] e)) (.slice (some ⟨w.heap.size, 0, none⟩) 1 1) [c] := by
  subst h
  exact Byt.newBlock w _ _ _ [c] 1 1 rfl ⟨by simp, by unfold maxLen; omega⟩ hd (fun i hi => by match i, hi with | 0, _ => rfl | j + 1, h => simp at h)
/-- 'append(s, c)' of one byte: the byte lies in a block of its own -/
theorem wpList_append_one {P : Program} (w : World) {ops : Array Oper} {rest : List Oper} {o : Oper} {a : Act} {Q : Exit → Act → World → Prop} (hgd : o.guard = none) (s x : Operand) (t : TypeId)
    (ho : o.op = .call { callee := .builtin .append, args := #[s, x], argTypes := #[t, t] }) (base : Nat) (e : TypeId) (T : ElemT P t e (.int .u8 0) 1 1)
    (v : Value) (l : List UInt8) (hs : a.eval s = v) (hown : OwnB base e w v l) (n : Int) (c : UInt8) (hn : n = (c.toNat : Int)) (hx : a.eval x = .slice (some ⟨w.heap.size, 0, none⟩) 1 1)
    (hlen : l.length + 1 ≤ 140737488355328) (hb : base ≤ w.heap.size)
    (h : ∀ (a' : Option Addr) (cap' : Nat) (w' : World), OwnB base e w' (.slice a' (l.length + 1) cap') (l ++ [c]) → Fr (fun k => v.ownBlock = some k) w w' → ((Value.slice a' (l.length + 1) cap').ownBlock = v.ownBlock ∨ ((Value.slice a' (l.length + 1) cap').ownBlock = some (w.heap.size + 1) ∧ w.heap.size + 1 < w'.heap.size)) → wpList P ops Q rest (a.put o.dst (.slice a' (l.length + 1) cap')) w') :
    wpList P ops Q (o :: rest) a (w.alloc (.cells #[.int .u8 n] e)) := by
  refine wpList_append_byt (D := Any) _ hgd s x t ho base e T v l hs (hown.alloc _) _ [c] hx (one_byt w e n c hn trivial) (by simpa using hlen) (by simp; omega) ?_
  intro a' cap' w' h1 h2 h3
  refine h a' cap' w' h1 (((Fr.refl _ w).alloc _).trans (Fr.ofGrown h2)) ?_
  rcases h3 with h3 | h3
  · exact .inl h3
  · rw [World.size_alloc] at h3
    exact .inr ⟨h3, by have := (h1.lt _ h3).2; omega⟩
end Go.Proofs.Ytjdohjoljobinaa.Mem
