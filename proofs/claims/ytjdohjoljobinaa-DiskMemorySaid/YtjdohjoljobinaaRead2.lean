/- How arguments read: a slice whose elements are one cell each (a slice of slices of bytes); a string. Program-independent; no condition. -/
import Derived.Test.YtjdohjoljobinaaRead
import Derived.Test.YtjdohjoljobinaaBulk
import Derived.Deep.Slices
namespace Go.Proofs.Ytjdohjoljobinaa.Mem
open Go Go.RowKit
/-- a slice whose elements are one cell each: S says of each cell what it is -/
def RowsOf {α : Type} (S : World → Value → α → Prop) (w : World) (v : Value) (xs : List α) : Prop :=
  ∃ a cap, v = .slice a xs.length cap ∧ (xs.length ≤ cap ∧ cap ≤ maxLen ∧ (a = none → cap = 0)) ∧ (xs = [] ∨ ∃ b off, a = some ⟨b, off, none⟩ ∧ ∀ i (h : i < xs.length), ∃ c, w.cell? ⟨b, off + i, none⟩ = some c ∧ S w c (xs[i]'h))
theorem RowsOf.fr {α : Type} {S : World → Value → α → Prop} {w w' : World} {v : Value} {xs : List α} (h : RowsOf S w v xs) (hb : Below w.heap.size w w') (hS : ∀ c x, S w c x → S w' c x) : RowsOf S w' v xs := by
  obtain ⟨a, cap, rfl, hk, h⟩ := h
  refine ⟨a, cap, rfl, hk, h.imp_right ?_⟩
  rintro ⟨b, off, rfl, hc⟩
  refine ⟨b, off, rfl, fun i hi => ?_⟩
  obtain ⟨c, h1, h2⟩ := hc i hi
  exact ⟨c, (World.cell?_of_block (w := w) (hb.block b (World.block_lt_of_cell? w _ h1))).trans h1, hS c _ h2⟩
abbrev Byts (w : World) (v : Value) (ls : List (List UInt8)) : Prop := RowsOf (Byt Any) w v ls
theorem Byts.below {w w' : World} {v : Value} {ls : List (List UInt8)} (h : Byts w v ls) (hb : Below w.heap.size w w') : Byts w' v ls := h.fr hb (fun _ _ h => h.below hb)
theorem Byts.cell {w : World} {a : Option Addr} {n cap : Nat} {ls : List (List UInt8)} (h : Byts w (.slice a n cap) ls) (i : Nat) (hi : i < ls.length) :
    ∃ b off c ec, a = some ⟨b, off, none⟩ ∧ w.cell? ⟨b, off + i, none⟩ = some (.slice c (ls[i]'hi).length ec) ∧ Byt Any w (.slice c (ls[i]'hi).length ec) (ls[i]'hi) := by
  obtain ⟨a', cap', he, _, h⟩ := h
  cases he
  rcases h with rfl | ⟨b, off, rfl, hc⟩
  · simp at hi
  · obtain ⟨c, h1, h2⟩ := hc i hi
    obtain ⟨x, y, rfl, _⟩ := id h2
    exact ⟨b, off, x, y, rfl, h1, h2⟩
end Go.Proofs.Ytjdohjoljobinaa.Mem
namespace Go.Proofs.Ytjdohjoljobinaa.Bulk
open Go
variable {H : Type}
theorem eachLe {α : Type} (T : DataW H → α → Prop) (f : α → Nat) (hT : ∀ d x, T d x → f x ≤ Rows.uptoBulk d) : ∀ (els : List (DataW H)) (xs : List α), els.length = xs.length → (∀ i (h1 : i < els.length) (h2 : i < xs.length), T els[i] xs[i]) → (xs.map f).sum ≤ Rows.uptoBulkAll els
  | [], [], _, _ => by simp [Rows.uptoBulkAll]
  | d :: r, x :: xs, hl, h => by
    have h1 := hT d x (h 0 (by simp) (by simp))
    have h2 := eachLe T f hT r xs (by simpa using hl) (fun i h1 h2 => h (i + 1) (by simpa using h1) (by simpa using h2))
    simp only [Rows.uptoBulkAll, List.map_cons, List.sum_cons]
    omega
  | [], _ :: _, hl, _ => by simp at hl
  | _ :: _, [], hl, _ => by simp at hl
theorem rows {α : Type} (T : DataW H → α → Prop) (f : α → Nat) (hT : ∀ d x, T d x → f x ≤ Rows.uptoBulk d) {d : DataW H} {xs : List α}
    (h : (d = .nil ∧ xs = []) ∨ ∃ els sp, d = .slice els sp ∧ els.length = xs.length ∧ ∀ i (h1 : i < els.length) (h2 : i < xs.length), T els[i] xs[i]) : (xs.map f).sum + 1 ≤ Rows.uptoBulk d ∧ xs.length + 1 ≤ Rows.uptoBulk d := by
  rcases h with ⟨rfl, rfl⟩ | ⟨el, sp, rfl, hl, hx⟩
  · simp [Rows.uptoBulk]
  · have h1 := eachLe T f hT el xs hl hx
    have h2 := all el
    simp only [Rows.uptoBulk]
    omega
theorem str (b : ByteArray) : b.size + 1 ≤ Rows.uptoBulk (.lit (.string b.data.toList) : DataW H) := by
  simp only [Rows.uptoBulk, Array.length_toList]
  exact Nat.le_refl _
end Go.Proofs.Ytjdohjoljobinaa.Bulk
namespace Go.Proofs.Ytjdohjoljobinaa.Read
open Go Go.RowKit Go.ChangeShapes Go.WideShapes Mem
variable {H : Type} {enc : TypeId × Value → H} {P : Program} {W : World}

/-- what the data of some bytes is -/
def BytesAre (d : DataW H) (l : List UInt8) : Prop := (d = .nil ∧ l = []) ∨ ∃ el sp, d = .slice el sp ∧ el.length = l.length
theorem cell_bytes {e : TypeId} {t : TypeId} {v : Value} {d : DataW H} {ps : List MemPlace} {held spare} {base n : Nat} (ht : P.underlying t = some (.slice e)) (he : P.underlying e = some (.int .u8)) (hc : P.cellsOf e = 1)
    (h : DataW.trod enc P W base spare held n t [v] = some (d, ps)) : ∃ l, Byt Any W v l ∧ BytesAre d l := by
  rcases open_ints ht he hc h with ⟨hcs, hx⟩ | ⟨x, l, c, zs, hcs, _, hl, hm, hz, hx, hcell, hwz⟩
  · simp only [List.cons.injEq, and_true] at hcs
    subst hcs
    simp only [Prod.mk.injEq] at hx
    exact ⟨[], Byt.nil _ _, .inl ⟨hx.1, rfl⟩⟩
  · simp only [List.cons.injEq, and_true] at hcs
    subst hcs
    have hval : Value.okWide P W .any 0 t (.slice (some x) l c) ∨ True := .inr trivial
    clear hval
    simp only [Prod.mk.injEq] at hx
    have hzl : l ≤ zs.length := by rw [hz]; split <;> omega
    have hlen : ((zs.take l).map u8of).length = l := by simp; omega
    refine ⟨(zs.take l).map u8of, ⟨some x, c, by rw [hlen], ⟨by omega, hm, fun h => by cases h⟩, ?_⟩, .inr ⟨_, _, hx.1, by simp [lits]⟩⟩
    by_cases h0 : l = 0
    · left; subst h0; rfl
    · right
      obtain ⟨b, off, rfl, hc2⟩ := ints_at hcell (by omega)
      refine ⟨b, off, rfl, trivial, fun i hi => ?_⟩
      have hi2 : i < l := by omega
      have h3 := hc2 i (by omega)
      rw [h3]
      have hw := hwz (zs[i]'(by omega)) (List.getElem_mem _)
      simp [u8of_eq hw, List.getElem?_eq_getElem (show i < zs.length by omega)]
/-- a slice whose elements are one cell each -/
theorem read_rows {α : Type} [Inhabited α] {S : World → Value → α → Prop} {T : DataW H → α → Prop} {t e : TypeId} {v : Value} {d : DataW H} {ps : List MemPlace} {held spare} {base b0 : Nat} (ht : P.underlying t = some (.slice e)) (hc : P.cellsOf e = 1)
    (hS : ∀ n v d pl, DataW.trod enc P W base spare held n e [v] = some (d, pl) → ∃ x, S W v x ∧ T d x)
    (hval : Value.okWide P W .any b0 t v) (h : DataW.Trod enc P W base spare held t v d ps) :
    ∃ xs, RowsOf S W v xs ∧ ((d = .nil ∧ xs = []) ∨ ∃ els sp, d = .slice els sp ∧ els.length = xs.length ∧ ∀ i (h1 : i < els.length) (h2 : i < xs.length), T els[i] xs[i]) := by
  obtain ⟨a, len, cap, rfl⟩ := okWide_slice ht hval
  obtain ⟨fuel, hf⟩ := h
  rcases Deep.open_slice1 ht hc hf with ⟨hcs, hx⟩ | ⟨x, l, c, m, n, V, D, Pl, hcs, _, hl, hm, hmm, hx, hall⟩
  · simp only [Value.cells, List.cons.injEq, and_true] at hcs
    obtain ⟨rfl, rfl, rfl⟩ : a = none ∧ len = 0 ∧ cap = 0 := by simpa using hcs
    simp only [Prod.mk.injEq] at hx
    exact ⟨[], ⟨none, 0, rfl, ⟨Nat.le_refl _, Nat.zero_le _, fun _ => rfl⟩, .inl rfl⟩, .inl ⟨hx.1, rfl⟩⟩
  · obtain ⟨rfl, rfl, rfl⟩ : a = some x ∧ len = l ∧ cap = c := by simpa [Value.cells] using hcs
    simp only [Prod.mk.injEq] at hx
    have hml : len ≤ m := by rw [hmm]; split <;> omega
    obtain ⟨X, hX⟩ := Deep.choose_lt (n := len) (p := fun i y => S W (V i) y ∧ T (D i) y) (fun i hi => hS n (V i) (D i) (Pl i) (hall i (by omega)).2)
    refine ⟨(List.range len).map X, ⟨some x, cap, by simp, ⟨by simpa using hl, hm, fun h => by cases h⟩, ?_⟩, .inr ⟨_, _, hx.1, by simp, fun i h1 h2 => by
      have hi : i < len := by simpa using h1
      simpa using (hX i hi).2⟩⟩
    by_cases h0 : len = 0
    · left; subst h0; rfl
    · right
      obtain ⟨b, off, spot⟩ := x
      have h00 := (hall 0 (by omega)).1
      have hspot : spot = none := by simpa [Addr.add] using World.cell?_spot h00
      subst hspot
      refine ⟨b, off, rfl, fun i hi => ?_⟩
      have hi : i < len := by simpa using hi
      refine ⟨V i, ?_, by simpa using (hX i hi).1⟩
      rw [← add_plain]
      exact (hall i (by omega)).1
theorem read_bytess {t e f : TypeId} {v : Value} {d : DataW H} {ps : List MemPlace} {held spare} {base b0 : Nat} (ht : P.underlying t = some (.slice e)) (he : P.underlying e = some (.slice f)) (hf : P.underlying f = some (.int .u8)) (hce : P.cellsOf e = 1) (hcf : P.cellsOf f = 1)
    (hval : Value.okWide P W .any b0 t v) (h : DataW.Trod enc P W base spare held t v d ps) :
    ∃ xs, Byts W v xs ∧ ((d = .nil ∧ xs = []) ∨ ∃ els sp, d = .slice els sp ∧ els.length = xs.length ∧ ∀ i (h1 : i < els.length) (h2 : i < xs.length), BytesAre els[i] xs[i]) :=
  read_rows ht hce (fun _ _ _ _ hh => cell_bytes he hf hcf hh) hval h
end Go.Proofs.Ytjdohjoljobinaa.Read
