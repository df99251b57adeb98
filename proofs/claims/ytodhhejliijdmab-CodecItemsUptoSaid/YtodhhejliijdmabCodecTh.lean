/- How the codec laws' things read: a slice of Thing. No condition. -/
import Derived.Test.YtodhhejliijdmabProg
import Derived.Test.YtodhhejliijdmabRead2
namespace Go.Proofs.Ytodhhejliijdmab.CodecTh
open Go Go.RowKit Go.ChangeShapes Go.WideShapes Mem

structure Th where
  kind : Int
  n : Nat
  m : Nat
  b : List UInt8
  deriving Inhabited
def Th.wf (t : Th) : Prop := -9223372036854775808 ≤ t.kind ∧ t.kind < 9223372036854775808 ∧ t.n < 18446744073709551616 ∧ t.m < 18446744073709551616
/-- a thing's four cells -/
def ThAt (w : World) (b off : Nat) (t : Th) : Prop :=
  t.wf ∧ w.cell? ⟨b, off, none⟩ = some (.int .i64 t.kind) ∧ w.cell? ⟨b, off + 1, none⟩ = some (.int .u64 t.n) ∧ w.cell? ⟨b, off + 2, none⟩ = some (.int .u64 t.m) ∧
    ∃ bv, w.cell? ⟨b, off + 3, none⟩ = some bv ∧ Byt Any w bv t.b
def Things (w : World) (v : Value) (ts : List Th) : Prop :=
  ∃ a cap, v = .slice a ts.length cap ∧ (ts.length ≤ cap ∧ cap ≤ maxLen ∧ (a = none → cap = 0)) ∧ (ts = [] ∨ ∃ b off, a = some ⟨b, off, none⟩ ∧ ∀ i (h : i < ts.length), ThAt w b (off + i * 4) (ts[i]'h))
theorem ThAt.below {w w' : World} {b off : Nat} {t : Th} (h : ThAt w b off t) (hb : Below w.heap.size w w') : ThAt w' b off t := by
  obtain ⟨h0, h1, h2, h3, bv, h4, h5⟩ := h
  have hl := World.block_lt_of_cell? w _ h1
  have key : ∀ o, w'.cell? ⟨b, o, none⟩ = w.cell? ⟨b, o, none⟩ := fun o => World.cell?_of_block (w := w) (hb.block b hl)
  exact ⟨h0, (key _).trans h1, (key _).trans h2, (key _).trans h3, bv, (key _).trans h4, h5.below hb⟩
theorem Things.below {w w' : World} {v : Value} {ts : List Th} (h : Things w v ts) (hb : Below w.heap.size w w') : Things w' v ts := by
  obtain ⟨a, cap, rfl, hk, h⟩ := h
  refine ⟨a, cap, rfl, hk, h.imp_right ?_⟩
  rintro ⟨b, off, rfl, hc⟩
  exact ⟨b, off, rfl, fun i hi => (hc i hi).below hb⟩
theorem Things.at {w : World} {a : Option Addr} {n cap : Nat} {ts : List Th} (h : Things w (.slice a n cap) ts) (i : Nat) (hi : i < ts.length) : ∃ b off, a = some ⟨b, off, none⟩ ∧ ThAt w b (off + i * 4) (ts[i]'hi) := by
  obtain ⟨a', cap', he, _, h⟩ := h
  cases he
  rcases h with rfl | ⟨b, off, rfl, hc⟩
  · simp at hi
  · exact ⟨b, off, rfl, hc i hi⟩
variable {H : Type} {enc : TypeId × Value → H} {W : World}
def ThData (d : DataW H) (t : Th) : Prop := ∃ d0 d1 d2 d3, d = .agg [d0, d1, d2, d3] ∧ Read.BytesAre d3 t.b
theorem ThData.bulk {d : DataW H} {t : Th} (h : ThData d t) : t.b.length + 1 ≤ Rows.uptoBulk d := by
  obtain ⟨d0, d1, d2, d3, rfl, h⟩ := h
  have := Bulk.bytes h
  have h0 := Bulk.one d0
  simp only [Rows.uptoBulk, Rows.uptoBulkAll]
  omega
theorem read_things {v : Value} {d : DataW H} {ps : List MemPlace} {held spare} {base b0 : Nat} (hval : Value.okWide Try.prog W .any b0 37 v) (h : DataW.Trod enc Try.prog W base spare held 37 v d ps) :
    ∃ ts, Things W v ts ∧ ((d = .nil ∧ ts = []) ∨ ∃ els sp, d = .slice els sp ∧ els.length = ts.length ∧ ∀ i (h1 : i < els.length) (h2 : i < ts.length), ThData els[i] ts[i]) := by
  have ht : Try.prog.underlying 37 = some (.slice 39) := Try.underlying37
  have hc4 : Try.prog.cellsOf 39 = 4 := by kernel_rfl
  obtain ⟨a, len, cap, rfl⟩ := okWide_slice ht hval
  obtain ⟨fuel, hf⟩ := h
  rcases Deep.open_slice ht hf with ⟨hcs, hx⟩ | ⟨x, l, c, m, n, D, Pl, hcs, _, hl, hm, hmm, hx, hall⟩
  · simp only [Value.cells, List.cons.injEq, and_true] at hcs
    obtain ⟨rfl, rfl, rfl⟩ : a = none ∧ len = 0 ∧ cap = 0 := by simpa using hcs
    simp only [Prod.mk.injEq] at hx
    exact ⟨[], ⟨none, 0, rfl, ⟨Nat.le_refl _, Nat.zero_le _, fun _ => rfl⟩, .inl rfl⟩, .inl ⟨hx.1, rfl⟩⟩
  · obtain ⟨rfl, rfl, rfl⟩ : a = some x ∧ len = l ∧ cap = c := by simpa [Value.cells] using hcs
    simp only [Prod.mk.injEq] at hx
    rw [hc4] at hall
    have hml : len ≤ m := by rw [hmm]; split <;> omega
    by_cases h00 : len = 0
    · subst h00
      exact ⟨[], ⟨some x, cap, rfl, ⟨Nat.zero_le _, hm, fun h => by cases h⟩, .inl rfl⟩, .inr ⟨_, _, hx.1, by simp, fun i h1 h2 => by simp at h2⟩⟩
    obtain ⟨b, off, spot⟩ := x
    obtain rfl : spot = none := by
      obtain ⟨cs, h1, h2⟩ := hall 0 (by omega)
      obtain ⟨_, hlen, hcell⟩ := World.cells?_some h1
      match cs, hlen with
      | [c0, c1, c2, c3], _ =>
        have := hcell 0 (by omega)
        simpa [Addr.add] using World.cell?_spot this
    have hone : ∀ i, i < len → ∃ t : Th, ThAt W b (off + i * 4) t ∧ ThData (D i) t := by
      intro i hi
      obtain ⟨cs, h1, h2⟩ := hall i (by omega)
      obtain ⟨_, hlen, hcell⟩ := World.cells?_some h1
      match cs, hlen with
      | [c0, c1, c2, c3], _ =>
        have g : ∀ j (v : Value), j < 4 → ([c0, c1, c2, c3] : List Value)[j]? = some v → W.cell? ⟨b, off + i * 4 + j, none⟩ = some v := by
          intro j v hj hv
          have := (hcell j hj).trans hv
          rw [Deep.add_add, add_plain] at this
          rw [Nat.add_assoc]; exact this
        obtain ⟨xs, k, _, hD, _, hxl, hfs⟩ := DataW.trod_struct Try.underlying39 h2
        have f0 : DataW.trod enc Try.prog W base spare held k 3 (([c0, c1, c2, c3].drop 0).take (Try.prog.cellsOf 3)) = xs[0]? := hfs 0 _ rfl
        have f1 : DataW.trod enc Try.prog W base spare held k 23 (([c0, c1, c2, c3].drop 1).take (Try.prog.cellsOf 23)) = xs[1]? := hfs 1 _ rfl
        have f2 : DataW.trod enc Try.prog W base spare held k 23 (([c0, c1, c2, c3].drop 2).take (Try.prog.cellsOf 23)) = xs[2]? := hfs 2 _ rfl
        have f3 : DataW.trod enc Try.prog W base spare held k 22 (([c0, c1, c2, c3].drop 3).take (Try.prog.cellsOf 22)) = xs[3]? := hfs 3 _ rfl
        rw [(by kernel_rfl : Try.prog.cellsOf 3 = 1)] at f0
        rw [(by kernel_rfl : Try.prog.cellsOf 23 = 1)] at f1 f2
        rw [(by kernel_rfl : Try.prog.cellsOf 22 = 1)] at f3
        simp only [List.drop_zero, List.drop_succ_cons, List.take_succ_cons, List.take_zero] at f0 f1 f2 f3
        match xs, hxl with
        | [x0, x1, x2, x3], _ =>
          simp only [List.getElem?_cons_zero, List.getElem?_cons_succ] at f0 f1 f2 f3
          obtain ⟨z0, hz0, _, hw0⟩ := DataW.trod_int Try.underlying3 f0
          obtain ⟨z1, hz1, _, hw1⟩ := DataW.trod_int Try.underlying23 f1
          obtain ⟨z2, hz2, _, hw2⟩ := DataW.trod_int Try.underlying23 f2
          obtain ⟨l3, hb3, hd3⟩ := Read.cell_bytes (d := x3.1) (ps := x3.2) Try.underlying22 Try.underlying5 (by kernel_rfl) f3
          simp only [List.cons.injEq, and_true] at hz0 hz1 hz2
          have b0 := bounds_i64 hw0
          have b1 := bounds_u64 hw1
          have b2 := bounds_u64 hw2
          have e1 : ((z1.toNat : Nat) : Int) = z1 := by omega
          have e2 : ((z2.toNat : Nat) : Int) = z2 := by omega
          refine ⟨⟨z0, z1.toNat, z2.toNat, l3⟩, ⟨⟨by dsimp only; omega, by dsimp only; omega, by dsimp only; omega, by dsimp only; omega⟩, ?_, ?_, ?_, c3, g 3 c3 (by omega) rfl, hb3⟩, x0.1, x1.1, x2.1, x3.1, ?_, hd3⟩
          · rw [← hz0]; exact g 0 c0 (by omega) rfl
          · dsimp only; rw [e1, ← hz1]; exact g 1 c1 (by omega) rfl
          · dsimp only; rw [e2, ← hz2]; exact g 2 c2 (by omega) rfl
          · have := congrArg Prod.fst hD; simpa using this
    obtain ⟨X, hX⟩ := Deep.choose_lt hone
    exact ⟨(List.range len).map X, ⟨some ⟨b, off, none⟩, cap, by simp, ⟨by simpa using hl, hm, fun h => by cases h⟩, .inr ⟨b, off, rfl, fun i hi => by
      have hi : i < len := by simpa using hi
      simpa using (hX i hi).1⟩⟩, .inr ⟨_, _, hx.1, by simp, fun i h1 h2 => by
      have hi : i < len := by simpa using h1
      simpa using (hX i hi).2⟩⟩
end Go.Proofs.Ytodhhejliijdmab.CodecTh
