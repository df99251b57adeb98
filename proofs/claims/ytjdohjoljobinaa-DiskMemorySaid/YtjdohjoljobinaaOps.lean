/- Laws at single operations, in lists and in regions that draw: a variable is made, a value is boxed, a row is stored: the world behind it is known by what it holds, not by how it was made. Program-independent; no condition. -/
import Derived.Test.YtjdohjoljobinaaMem2
import Derived.Test.YtjdohjoljobinaaArr3
import Derived.Deep.MidRow
import Derived.OrdersHeld
import Derived.BigFrame
namespace Go.Proofs.Ytjdohjoljobinaa.Ops
open Go Go.RowKit Mem
section
variable {P : Program} {w : World} {ops : Array Oper} {rest : List Oper} {o : Oper} {a : Act} {K : Act → World → Prop} {Q : Exit → Act → World → Prop}
theorem below_alloc (w : World) (ob : Obj) : Below w.heap.size w (w.alloc ob) := (Below.refl _ _).alloc (Nat.le_refl _) _
/-- a variable of many cells is made -/
theorem wp_alloc (t : TypeId) (ho : o.op = .alloc t) (zs : List Value) (hz : (zeroValue t).run P w = .ok (.agg zs.toArray) w)
    (h : ∀ w', Blk w' w.heap.size zs t → Below w.heap.size w w' → w.heap.size + 1 = w'.heap.size → K (a.put o.dst (.pointer (some ⟨w.heap.size, 0, none⟩))) w') : Oper.wp P o a w K Q := by
  unfold Oper.wp
  simp [execOp, ho, Instr.alloc, hz, newVar, newRow, Value.cells, Result.andThen]
  exact h _ (Blk.new w _ _ _ rfl) (below_alloc _ _) (by simp)
theorem wpList_alloc (hgd : o.guard = none) (t : TypeId) (ho : o.op = .alloc t) (zs : List Value) (hz : (zeroValue t).run P w = .ok (.agg zs.toArray) w)
    (h : ∀ w', Blk w' w.heap.size zs t → Below w.heap.size w w' → w.heap.size + 1 = w'.heap.size → wpList P ops Q rest (a.put o.dst (.pointer (some ⟨w.heap.size, 0, none⟩))) w') : wpList P ops Q (o :: rest) a w :=
  wpList_plain hgd fun _ hK => wp_alloc t ho zs hz (fun w' h1 h2 h3 => hK _ _ (h w' h1 h2 h3))
/-- a value is boxed -/
theorem wp_box (t : TypeId) (x : Operand) (ho : o.op = .box t x) (cs : List Value) (hx : a.eval x = .agg cs.toArray)
    (h : ∀ w', Blk w' w.heap.size cs t → Below w.heap.size w w' → w.heap.size + 1 = w'.heap.size → K (a.put o.dst (.pointer (some ⟨w.heap.size, 0, none⟩))) w') : Oper.wp P o a w K Q := by
  unfold Oper.wp
  simp [execOp, ho, Instr.box, hx, newVar, newRow, Value.cells, Result.andThen]
  exact h _ (Blk.new w _ _ _ rfl) (below_alloc _ _) (by simp)
theorem wpList_box (hgd : o.guard = none) (t : TypeId) (x : Operand) (ho : o.op = .box t x) (cs : List Value) (hx : a.eval x = .agg cs.toArray)
    (h : ∀ w', Blk w' w.heap.size cs t → Below w.heap.size w w' → w.heap.size + 1 = w'.heap.size → wpList P ops Q rest (a.put o.dst (.pointer (some ⟨w.heap.size, 0, none⟩))) w') : wpList P ops Q (o :: rest) a w :=
  wpList_plain hgd fun _ hK => wp_box t x ho cs hx (fun w' h1 h2 h3 => hK _ _ (h w' h1 h2 h3))
/-- a whole row is stored -/
theorem wp_put (ty : TypeId) (x y : Operand) (ho : o.op = .store ty x y) (g : Nat) (l old : List Value) (hx : a.eval x = .pointer (some ⟨g, 0, none⟩)) (hy : a.eval y = .agg l.toArray) {t : TypeId} (hB : Blk w g old t)
    (hi : (P.info? ty).map (·.size) = some l.length) (hl : old.length = l.length) (h1 : ∀ v ∈ l, v.oneCell' = true)
    (h : ∀ w', Blk w' g l t → Fr (fun k => k = g) w w' → w'.heap.size = w.heap.size → K (a.put o.dst undef) w') : Oper.wp P o a w K Q := by
  refine wp_store_row ty x y ho g l.toArray hx hy t old.toArray hB (by simpa using hi) (by simpa using hl) ?_ (h _ (hB.row l) (Fr.setRow (S := fun k => k = g) (Fr.refl _ w) (.inr rfl) _) (by simp))
  rw [Array.all_eq_true']
  intro v hv
  exact h1 v (by simpa using hv)
theorem wpList_put (hgd : o.guard = none) (ty : TypeId) (x y : Operand) (ho : o.op = .store ty x y) (g : Nat) (l old : List Value) (hx : a.eval x = .pointer (some ⟨g, 0, none⟩)) (hy : a.eval y = .agg l.toArray) {t : TypeId} (hB : Blk w g old t)
    (hi : (P.info? ty).map (·.size) = some l.length) (hl : old.length = l.length) (h1 : ∀ v ∈ l, v.oneCell' = true)
    (h : ∀ w', Blk w' g l t → Fr (fun k => k = g) w w' → w'.heap.size = w.heap.size → wpList P ops Q rest (a.put o.dst undef) w') : wpList P ops Q (o :: rest) a w :=
  wpList_plain hgd fun _ hK => wp_put ty x y ho g l old hx hy hB hi hl h1 (fun w' h1 h2 h3 => hK _ _ (h w' h1 h2 h3))
theorem below_drew {B : Nat} {w w' : World} (h : Below B w w') : Below B w w'.drew := ⟨h.os, h.tape, h.output, h.size, h.block⟩
/-- a struct of parts, in a region that draws -/
theorem yieldsIf_build {S : World → Prop} (hw : Region.wanted o (yielded ops a.tmps) = true) {t : TypeId} {sizes : List Nat} (T : Arr.StructT P t sizes) (parts : List (Nat × Operand)) (ho : o.op = .build t parts.toArray)
    (vs : List Value) (hp : parts.map (fun p => (p.1, a.eval p.2)) = (vs.zipIdx 0).map fun x => (x.2, x.1)) (hv : vs.map (·.cells.size) = sizes) (cs : Array Value) (hcs : cs = (vs.flatMap fun v => v.cells.toList).toArray) : YieldsIf P ops S o (.agg cs) a :=
  .inl ⟨hw, fun w _ => by
    subst hcs
    have hb : P.built t (parts.toArray.map fun (i, x) => (i, a.eval x)).toList = some (vs.flatMap fun v => v.cells.toList).toArray := by
      rw [← Arr.built_all T vs hv, ← hp]
      simp
    unfold execOp
    simp only [ho, Sem.run_bind, run_build w t _ _ hb, Result.andThen_ok, Sem.run_pure]⟩
theorem blk_range {w : World} {b : Nat} {l : List Value} {e : TypeId} (h : Blk w b l e) : w.rangeAt b 0 l := fun j v hv => by rw [Nat.zero_add]; exact h.cell hv
/-- a part of a block -/
theorem blk_part {w : World} {b : Nat} {l : List Value} {e : TypeId} (h : Blk w b l e) (pre mid post : List Value) (hl : l = pre ++ (mid ++ post)) (n : Nat) (hn : pre.length = n) : w.rangeAt b n mid := fun j v hv => by
  refine h.cell ?_
  subst hl; subst hn
  have hj := (List.getElem?_eq_some_iff.1 hv).1
  rw [List.getElem?_append_right (by omega), Nat.add_sub_cancel_left, List.getElem?_append_left hj]
  exact hv
/-- a struct some of whose fields are told -/
theorem wpList_built (hgd : o.guard = none) (t : TypeId) (parts : List (Nat × Operand)) (ho : o.op = .build t parts.toArray) (cs : List Value) (hb : P.built t (parts.map fun p => (p.1, a.eval p.2)) = some cs.toArray)
    (h : wpList P ops Q rest (a.put o.dst (.agg cs.toArray)) w) : wpList P ops Q (o :: rest) a w :=
  wpList_plain hgd fun _ hK => by
    have e : (parts.toArray.map fun (i, x) => (i, a.eval x)).toList = parts.map fun p => (p.1, a.eval p.2) := by simp
    exact wp_build t parts.toArray ho (by rw [e, hb]; rfl) (by rw [e, hb]; exact hK _ _ h)
/-- a part of a row is stored -/
theorem blk_setCells {g : Nat} {t : TypeId} : ∀ (vs : List Value) (w : World) (pre mid post : List Value), mid.length = vs.length → Blk w g (pre ++ (mid ++ post)) t → Blk (w.setCells g pre.length vs) g (pre ++ (vs ++ post)) t
  | [], w, pre, mid, post, hl, h => by
    obtain rfl := List.length_eq_zero_iff.1 hl
    exact h
  | v :: r, w, pre, [], post, hl, h => by simp at hl
  | v :: r, w, pre, u :: mid, post, hl, h => by
    have h1 := h.set pre.length v
    have e : (pre ++ (u :: mid ++ post)).set pre.length v = (pre ++ [v]) ++ (mid ++ post) := by
      rw [List.set_append_right _ _ (Nat.le_refl _)]
      simp
    rw [e] at h1
    have h2 := blk_setCells r _ (pre ++ [v]) mid post (by simpa using hl) h1
    rw [List.length_append, List.length_singleton] at h2
    show Blk ((w.setCell ⟨g, pre.length, none⟩ v).setCells g (pre.length + 1) r) g _ t
    simpa using h2
theorem there_blk {g n : Nat} {t : TypeId} {l : List Value} (h : Blk w g l t) (o : Nat) (hn : o + n ≤ l.length) : w.there g o n := fun j hj => by
  refine ⟨?_, h.free _⟩
  have : l[o + j]? = some (l[o + j]'(by omega)) := List.getElem?_eq_getElem (by omega)
  rw [h.cell this]
  rfl
theorem wp_putMid (ty : TypeId) (x y : Operand) (ho : o.op = .store ty x y) (g : Nat) (pre mid post new : List Value) (n : Nat) (hn : pre.length = n) (hx : a.eval x = .pointer (some ⟨g, n, none⟩)) (hy : a.eval y = .agg new.toArray) {t : TypeId} (hB : Blk w g (pre ++ (mid ++ post)) t)
    (hi : (P.info? ty).map (·.size) = some new.length) (hl : mid.length = new.length) (h1 : ∀ v ∈ new, v.oneCell' = true)
    (h : ∀ w', Blk w' g (pre ++ (new ++ post)) t → Fr (fun k => k = g) w w' → w'.heap.size = w.heap.size → K (a.put o.dst undef) w') : Oper.wp P o a w K Q := by
  subst hn
  refine wp_store_mid ty x y ho g pre.length new.toArray hx hy (there_blk hB _ (by simp; omega)) (by simpa using hi) ?_ (h _ ?_ ?_ ?_)
  · rw [Array.all_eq_true']
    intro v hv
    exact h1 v (by simpa using hv)
  · exact blk_setCells new w pre mid post hl hB
  · exact Arr.Fr.setCells (S := fun k => k = g) (Fr.refl _ w) (.inr rfl) _ _
  · rw [show new.toArray.toList = new from rfl]
    generalize pre.length = q
    clear h hi hl h1 hB hy hx ho
    induction new generalizing w q with
    | nil => rfl
    | cons v r ih => exact (ih (w := w.setCell ⟨g, q, none⟩ v) (q + 1)).trans (by simp [World.setCell])
theorem wpList_putMid (hgd : o.guard = none) (ty : TypeId) (x y : Operand) (ho : o.op = .store ty x y) (g : Nat) (pre mid post new : List Value) (n : Nat) (hn : pre.length = n) (hx : a.eval x = .pointer (some ⟨g, n, none⟩)) (hy : a.eval y = .agg new.toArray) {t : TypeId} (hB : Blk w g (pre ++ (mid ++ post)) t)
    (hi : (P.info? ty).map (·.size) = some new.length) (hl : mid.length = new.length) (h1 : ∀ v ∈ new, v.oneCell' = true)
    (h : ∀ w', Blk w' g (pre ++ (new ++ post)) t → Fr (fun k => k = g) w w' → w'.heap.size = w.heap.size → wpList P ops Q rest (a.put o.dst undef) w') : wpList P ops Q (o :: rest) a w :=
  wpList_plain hgd fun _ hK => wp_putMid ty x y ho g pre mid post new n hn hx hy hB hi hl h1 (fun w' h1 h2 h3 => hK _ _ (h w' h1 h2 h3))
/-- a field of one cell of a value -/
theorem run_field_cell {T : TypeId} {fields : Array Field} {f : Field} {i : Nat} {cs : List Value} {v : Value} (hu : P.underlying T = some (.struct fields)) (hf : fields[i]? = some f) (hg : (isAgg f.type).run P w = .ok false w) (hc : cs[f.offset]? = some v) : (Instr.field T (.agg cs.toArray) i).run P w = .ok v w := by
  simp [Instr.field, run_underlying hu, hf, part, Sem.run_bind, hg, Result.andThen, asAgg, hc]
theorem yieldsIf_run {S : World → Prop} (hw : Region.wanted o (yielded ops a.tmps) = true) (v : Value) (h : ∀ w, S w → (execOp a.eval o).run P w = .ok (.value v) w) : YieldsIf P ops S o v a := .inl ⟨hw, h⟩
theorem exec_field {T : TypeId} {i : Nat} {x : Operand} (ho : o.op = .field T x i) {u v : Value} (hx : a.eval x = u) (hr : (Instr.field T u i).run P w = .ok v w) : (execOp a.eval o).run P w = .ok (.value v) w := by
  unfold execOp
  simp [ho, hx, hr, Result.andThen]
/-- a row and a slot are handed back -/
theorem results_row2 {fn : Func} {p u : Tmp} {ty : TypeId} (h : fn.results = #[.cell p ty, .tmp u]) (tmps : Array Value) (w : World) (g : Nat) (l : List Value) {t : TypeId} (d : TypeDesc)
    (hp : tmps.getD p undef = .pointer (some ⟨g, 0, none⟩)) (hB : Blk w g l t) (hu : P.underlying ty = some d) (hd : (match d with | .struct _ | .array _ _ => true | _ => false) = true) (hi : (P.info? ty).map (·.size) = some l.length) (v : Value) (hv : tmps.getD u undef = v) :
    (results fn tmps).run P w = .ok (.tuple #[.agg l.toArray, v]) w := by
  have hp' : tmps[p]?.getD undef = .pointer (some ⟨g, 0, none⟩) := by simpa using hp
  have hv' : tmps[u]?.getD undef = v := by simpa using hv
  simp [results, h, hp', hv', asAddr, run_loadVar_row w g t ty l.toArray (0, 0) d hB hu hd (by simpa using hi)]
theorem results_row3 {fn : Func} {q p u : Tmp} {ty : TypeId} (h : fn.results = #[.tmp q, .cell p ty, .tmp u]) (tmps : Array Value) (w : World) (g : Nat) (l : List Value) {t : TypeId} (d : TypeDesc)
    (hp : tmps.getD p undef = .pointer (some ⟨g, 0, none⟩)) (hB : Blk w g l t) (hu : P.underlying ty = some d) (hd : (match d with | .struct _ | .array _ _ => true | _ => false) = true) (hi : (P.info? ty).map (·.size) = some l.length) (v : Value) (hv : tmps.getD u undef = v) (x : Value) (hx : tmps.getD q undef = x) :
    (results fn tmps).run P w = .ok (.tuple #[x, .agg l.toArray, v]) w := by
  have hp' : tmps[p]?.getD undef = .pointer (some ⟨g, 0, none⟩) := by simpa using hp
  have hv' : tmps[u]?.getD undef = v := by simpa using hv
  have hx' : tmps[q]?.getD undef = x := by simpa using hx
  simp [results, h, hp', hv', hx', asAddr, run_loadVar_row w g t ty l.toArray (0, 0) d hB hu hd (by simpa using hi)]
theorem results_row1 {fn : Func} {p : Tmp} {ty : TypeId} (h : fn.results = #[.cell p ty]) (tmps : Array Value) (w : World) (g : Nat) (l : List Value) {t : TypeId} (d : TypeDesc)
    (hp : tmps.getD p undef = .pointer (some ⟨g, 0, none⟩)) (hB : Blk w g l t) (hu : P.underlying ty = some d) (hd : (match d with | .struct _ | .array _ _ => true | _ => false) = true) (hi : (P.info? ty).map (·.size) = some l.length) :
    (results fn tmps).run P w = .ok (.agg l.toArray) w :=
  results_cell_row h tmps w g t l.toArray (0, 0) d hp hB hu hd (by simpa using hi)
end
end Go.Proofs.Ytjdohjoljobinaa.Ops
