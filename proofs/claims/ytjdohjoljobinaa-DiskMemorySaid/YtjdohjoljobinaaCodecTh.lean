/- How the codec laws' things read: a slice of Thing. No condition. -/
import Derived.Test.YtjdohjoljobinaaProg
import Derived.Test.YtjdohjoljobinaaRead2
namespace Go.Proofs.Ytjdohjoljobinaa.CodecTh
open Go Go.RowKit Go.ChangeShapes Go.WideShapes Mem

structure Th where
  kind : Int
  n : Nat
  m : Nat
  b : List UInt8
  deriving Inhabited
def Th.wf (t : Th) : Prop := -9223372036854775808 ≤ t.kind ∧ t.kind < 9223372036854775808 ∧ t.n < 18446744073709551616 ∧ t.m < 18446744073709551616
/-- a thing's four cells -/
def ThAt (w : World) (b off : Nat) (t : Th) : Prop :=
  t.wf ∧ w.cell? ⟨b, off, none⟩ = some (.int .i64 t.kind) ∧ w.cell? ⟨b, off + 1, none⟩ = some (.int .u64 t.n) ∧ w.cell? ⟨b, off + 2, none⟩ = some (.int .u64 t.m) ∧
    ∃ bv, w.cell? ⟨b, off + 3, none⟩ = some bv ∧ Byt Any w bv t.b
def Things (w : World) (v : Value) (ts : List Th) : Prop :=
  ∃ a cap, v = .slice a ts.length cap ∧ (ts.length ≤ cap ∧ cap ≤ maxLen ∧ (a = none → cap = 0)) ∧ (ts = [] ∨ ∃ b off, a = some ⟨b, off, none⟩ ∧ ∀ i (h : i < ts.length), ThAt w b (off + i * 4) (ts[i]'h))
theorem ThAt.below {w w' : World} {b off : Nat} {t : Th} (h : ThAt w b off t) (hb : Below w.heap.size w w') : ThAt w' b off t := by
  obtain ⟨h0, h1, h2, h3, bv, h4, h5⟩ := h
  have hl := World.block_lt_of_cell? w _ h1
  have key : ∀ o, w'.cell? ⟨b, o, none⟩ = w.cell? ⟨b, o, none⟩ := fun o => World.cell?_of_block (w := w) (hb.block b hl)
  exact ⟨h0, (key _).trans h1, (key _).trans h2, (key _).trans h3, bv, (key _).trans h4, h5.below hb⟩
theorem Things.below {w w' : World} {v : Value} {ts : List Th} (h : Things w v ts) (hb : Below w.heap.size w w') : Things w' v ts := by
  obtain ⟨a, cap, rfl, hk, h⟩ := h
  refine ⟨a, cap, rfl, hk, h.imp_right ?_⟩
  rintro ⟨b, off, rfl, hc⟩
  exact ⟨b, off, rfl, fun i hi => (hc i hi).below hb⟩
theorem Things.at {w : World} {a : Option Addr} {n cap : Nat} {ts : List Th} (h : Things w (.slice a n cap) ts) (i : Nat) (hi : i < ts.length) : ∃ b off, a = some ⟨b, off, none⟩ ∧ ThAt w b (off + i * 4) (ts[i]'hi) := by
  obtain ⟨a', cap', he, _, h⟩ := h
  cases he
  rcases h with rfl | ⟨b, off, rfl, hc⟩
  · simp at hi
  · exact ⟨b, off, rfl, hc i hi⟩
variable {H : Type} {enc : TypeId × Value → H} {W : World}
def ThData (d : DataW H) (t : Th) : Prop := ∃ d0 d1 d2 d3, d = .agg [d0, d1, d2, d3] ∧ Read.BytesAre d3 t.b
theorem ThData.bulk {d : DataW H} {t : Th} (h : ThData d t) : t.b.length + 1 ≤ Rows.uptoBulk d := by
  obtain ⟨d0, d1, d2, d3, rfl, h⟩ := h
  have := Bulk.bytes h
  have h0 := Bulk.one d0
  simp only [Rows.uptoBulk, Rows.uptoBulkAll]
  omega
end Go.Proofs.Ytjdohjoljobinaa.CodecTh
