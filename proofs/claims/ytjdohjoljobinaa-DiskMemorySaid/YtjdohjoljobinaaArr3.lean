/- What a struct's literal is made of: its parts' cells, side by side. Program-independent; no condition. -/
import Derived.Test.YtjdohjoljobinaaArr2
import Derived.Laws.Tables
namespace Go.Proofs.Ytjdohjoljobinaa.Arr
open Go Go.RowKit Mem Row

/-- where parts of so many cells lie, side by side -/
def offs : Nat → List Nat → List (Nat × Nat)
  | _, [] => []
  | o, s :: r => (o, s) :: offs (o + s) r
theorem set_run (off : Nat) (l : List Value) (cs : Array Value) (h : off + l.length ≤ cs.size) :
    ((l.zipIdx 0).foldl (fun cs (x : Value × Nat) => cs.setIfInBounds (off + x.2) x.1) cs).toList = cs.toList.take off ++ l ++ cs.toList.drop (off + l.length) := by
  obtain ⟨h1, h2⟩ := Great.foldl_set off l 0 cs
  apply List.ext_getElem?
  intro k
  rw [Array.getElem?_toList, h2 k, Nat.add_zero]
  by_cases c1 : k < off
  · rw [if_neg (by omega), List.append_assoc, List.getElem?_append_left (by simp; omega), List.getElem?_take, if_pos c1, Array.getElem?_toList]
  · by_cases c2 : k < off + l.length
    · rw [if_pos (by omega), List.append_assoc, List.getElem?_append_right (by simp; omega), List.getElem?_append_left (by simp; omega)]
      congr 1
      simp; omega
    · rw [if_neg (by omega), List.getElem?_append_right (by simp; omega), List.getElem?_drop]
      rw [← Array.getElem?_toList]
      congr 1
      simp; omega
theorem fill_seq (place : Nat → Option (Nat × Nat)) : ∀ (vs : List Value) (i0 off : Nat) (cells : Array Value),
    (∀ j p, (offs off (vs.map (·.cells.size)))[j]? = some p → place (i0 + j) = some p) → off + (vs.map (·.cells.size)).sum ≤ cells.size →
    ∃ r, Instr.fill place cells ((vs.zipIdx i0).map fun x => (x.2, x.1)) = some r ∧ r.toList = cells.toList.take off ++ (vs.flatMap fun v => v.cells.toList) ++ cells.toList.drop (off + (vs.map (·.cells.size)).sum)
  | [], i0, off, cells, _, _ => by
    refine ⟨cells, rfl, ?_⟩
    simp
  | v :: vs, i0, off, cells, hp, hs => by
    have h0 := hp 0 (off, v.cells.size) (by simp [offs])
    simp only [List.map_cons, List.sum_cons] at hs
    have hz : ((v.cells.toList.zipIdx 0).foldl (fun cs (x : Value × Nat) => cs.setIfInBounds (off + x.2) x.1) cells).size = cells.size := (Great.foldl_set off v.cells.toList 0 cells).1
    have hset := set_run off v.cells.toList cells (by simp; omega)
    obtain ⟨r, hr, hl⟩ := fill_seq place vs (i0 + 1) (off + v.cells.size) ((v.cells.toList.zipIdx 0).foldl (fun cs (x : Value × Nat) => cs.setIfInBounds (off + x.2) x.1) cells)
      (fun j p hj => by rw [show i0 + 1 + j = i0 + (j + 1) by omega]; exact hp (j + 1) p (by simpa [offs] using hj)) (by rw [hz]; omega)
    refine ⟨r, ?_, ?_⟩
    · simp only [List.zipIdx_cons, List.map_cons]
      unfold Instr.fill
      rw [Nat.add_zero] at h0
      simp only [h0]
      rw [if_neg (by simp; omega)]
      rw [← hr]
      congr 1
      rw [← Array.foldl_toList, Array.toList_zipIdx]
    · rw [hl, hset]
      simp only [List.map_cons, List.sum_cons, List.flatMap_cons]
      have e1 : (cells.toList.take off ++ v.cells.toList ++ cells.toList.drop (off + v.cells.toList.length)).take (off + v.cells.size) = cells.toList.take off ++ v.cells.toList := by
        rw [List.take_append_of_le_length (by simp; omega), List.take_of_length_le (by simp; omega)]
      have e2 : (cells.toList.take off ++ v.cells.toList ++ cells.toList.drop (off + v.cells.toList.length)).drop (off + v.cells.size + (vs.map (·.cells.size)).sum) = cells.toList.drop (off + (v.cells.size + (vs.map (·.cells.size)).sum)) := by
        rw [List.drop_append, List.drop_of_length_le (by simp; omega), List.nil_append, List.drop_drop]
        congr 1
        simp; omega
      rw [e1, e2]
      simp only [List.append_assoc]
/-- what a program's tables say of a struct type whose fields have so many cells -/
structure StructT (P : Program) (t : TypeId) (sizes : List Nat) : Prop where
  info : ∃ it fields z, P.info? t = some it ∧ P.underlying t = some (.struct fields) ∧ it.zero = some z ∧ fields.toList.mapM (fun f => (P.info? f.type).map fun i => (f.offset, i.size)) = some (offs 0 sizes) ∧ z.cells.size = sizes.sum
theorem built_all {P : Program} {t : TypeId} {sizes : List Nat} (T : StructT P t sizes) (vs : List Value) (hv : vs.map (·.cells.size) = sizes) : P.built t ((vs.zipIdx 0).map fun x => (x.2, x.1)) = some (vs.flatMap fun v => v.cells.toList).toArray := by
  obtain ⟨it, fields, z, h1, h2, h3, h4, h5⟩ := T.info
  obtain ⟨r, hr, hl⟩ := fill_seq ((offs 0 sizes).toArray[·]?) vs 0 0 z.cells (fun j p hj => by rw [hv] at hj; simpa using hj) (by rw [hv, Nat.zero_add, h5]; exact Nat.le_refl _)
  unfold Program.built
  simp only [h1, h2, h3, h4]
  rw [hr]
  congr 1
  apply Array.toList_inj.1
  rw [hl, hv]
  have : z.cells.toList.drop (0 + sizes.sum) = [] := List.drop_of_length_le (by simp [h5])
  rw [this]
  simp
theorem wpList_build {P : Program} (w : World) {ops : Array Oper} {rest : List Oper} {o : Oper} {a : Act} {Q : Exit → Act → World → Prop} (hgd : o.guard = none) {t : TypeId} {sizes : List Nat} (T : StructT P t sizes) (parts : List (Nat × Operand)) (ho : o.op = .build t parts.toArray)
    (vs : List Value) (hp : parts.map (fun p => (p.1, a.eval p.2)) = (vs.zipIdx 0).map fun x => (x.2, x.1)) (hv : vs.map (·.cells.size) = sizes) (cs : Array Value) (hcs : cs = (vs.flatMap fun v => v.cells.toList).toArray)
    (h : wpList P ops Q rest (a.put o.dst (.agg cs)) w) : wpList P ops Q (o :: rest) a w := by
  subst hcs
  refine wpList_plain hgd fun K hK => ?_
  have hb : P.built t (parts.toArray.map fun (i, x) => (i, a.eval x)).toList = some (vs.flatMap fun v => v.cells.toList).toArray := by
    rw [← built_all T vs hv, ← hp]
    simp
  refine wp_build t parts.toArray ho (by rw [hb]; rfl) ?_
  rw [hb]
  exact hK _ _ h
/-- a struct of two many-celled parts -/
theorem wpList_build2 {P : Program} (w : World) {ops : Array Oper} {rest : List Oper} {o : Oper} {a : Act} {Q : Exit → Act → World → Prop} (hgd : o.guard = none) {t : TypeId} {m n : Nat} (T : StructT P t [m, n]) (x y : Operand) (ho : o.op = .build t #[(0, x), (1, y)])
    (cs ds : List Value) (hx : a.eval x = .agg cs.toArray) (hy : a.eval y = .agg ds.toArray) (hm : cs.length = m) (hn : ds.length = n)
    (h : wpList P ops Q rest (a.put o.dst (.agg (cs ++ ds).toArray)) w) : wpList P ops Q (o :: rest) a w :=
  wpList_build w hgd T [(0, x), (1, y)] ho [.agg cs.toArray, .agg ds.toArray] (by simp [hx, hy]) (by simp [Value.cells, hm, hn]) _ (by simp [Value.cells]) h
end Go.Proofs.Ytjdohjoljobinaa.Arr
