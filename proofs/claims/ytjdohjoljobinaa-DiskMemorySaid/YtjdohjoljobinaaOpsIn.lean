/- The laws of Ops, inside a fence (in the body of a function that ranges over a function, or is ranged over). Program-independent; no condition. -/
import Derived.Test.YtjdohjoljobinaaOps
import Derived.OwnWalkIn
namespace Go.Proofs.Ytjdohjoljobinaa.Ops
open Go Go.RowKit Mem
section
variable {F : Fence} {n : Nat} {P : Program} {w : World} {ops : Array Oper} {rest : List Oper} {o : Oper} {a : Act} {K : Act → World → Prop} {Q : Exit → Act → World → Prop}
theorem wpIn_value {v : Value} {w' : World} (hab : o.about P w a.eval = none) (hd : ∀ c, o.op ≠ .defer c) (hrun : (execOp a.eval o).run P w = .ok (.value v) w') (h : K (a.put o.dst v) w') : o.wpIn F n P a w K Q := by
  unfold Oper.wpIn
  refine ⟨fun f hf => (by rw [hab] at hf; cases hf), ?_⟩
  rw [Oper.semAt_plain F _ _ hd, hrun]
  exact h
theorem wpListIn_alloc (hgd : o.guard = none) (t : TypeId) (ho : o.op = .alloc t) (zs : List Value) (hz : (zeroValue t).run P w = .ok (.agg zs.toArray) w)
    (h : ∀ w', Blk w' w.heap.size zs t → Below w.heap.size w w' → w.heap.size + 1 = w'.heap.size → wpListIn F n P ops Q rest (a.put o.dst (.pointer (some ⟨w.heap.size, 0, none⟩))) w') : wpListIn F n P ops Q (o :: rest) a w :=
  wpListIn_plain hgd fun K hK => wpIn_value (v := .pointer (some ⟨w.heap.size, 0, none⟩)) (w' := w.alloc (.cells zs.toArray t)) (by simp [Oper.about, ho]) (by rw [ho]; intro c h; cases h)
    (by simp [execOp, ho, Instr.alloc, hz, newVar, newRow, Value.cells, Result.andThen]) (hK _ _ (h _ (Blk.new w _ _ _ rfl) (below_alloc _ _) (by simp)))
theorem wpListIn_put (hgd : o.guard = none) (ty : TypeId) (x y : Operand) (ho : o.op = .store ty x y) (g : Nat) (l old : List Value) (hx : a.eval x = .pointer (some ⟨g, 0, none⟩)) (hy : a.eval y = .agg l.toArray) {t : TypeId} (hB : Blk w g old t)
    (hi : (P.info? ty).map (·.size) = some l.length) (hl : old.length = l.length) (h1 : ∀ v ∈ l, v.oneCell' = true)
    (h : ∀ w', Blk w' g l t → Fr (fun k => k = g) w w' → w'.heap.size = w.heap.size → wpListIn F n P ops Q rest (a.put o.dst undef) w') : wpListIn F n P ops Q (o :: rest) a w := by
  refine wpListIn_plain hgd fun K hK => ?_
  unfold Oper.wpIn
  refine ⟨fun f hf => (by simp [Oper.about, ho] at hf), ?_⟩
  rw [Oper.semAt_plain F _ _ (by rw [ho]; intro c h; cases h)]
  have hr := run_storeVar_row (P := P) w g t ty old.toArray l.toArray hB (by simpa using hi) (by simpa using hl) (by rw [Array.all_eq_true']; intro v hv; exact h1 v (by simpa using hv))
  have e : (execOp a.eval o).run P w = .ok .skip (w.setRow g l.toArray) := by
    unfold execOp
    simp only [ho, hx, hy, Instr.storeAt, Instr.sureAddr, Sem.run_bind, Sem.run_pure, Result.andThen_ok, hr]
  rw [e]
  exact hK _ _ (h _ (hB.row l) (Fr.setRow (S := fun k => k = g) (Fr.refl _ w) (.inr rfl) _) (by simp))
theorem wpListIn_load_blk (hgd : o.guard = none) (ty : TypeId) (x : Operand) (ho : o.op = .load ty x) (g : Nat) (l : List Value) (hx : a.eval x = .pointer (some ⟨g, 0, none⟩)) {t : TypeId} (hB : Blk w g l t) (d : TypeDesc) (hu : P.underlying ty = some d)
    (hd : d.isRow = true) (hi : (P.info? ty).map (·.size) = some l.length) (h : wpListIn F n P ops Q rest (a.put o.dst (.agg l.toArray)) w) : wpListIn F n P ops Q (o :: rest) a w :=
  wpListIn_plain hgd fun K hK => wpIn_value (v := .agg l.toArray) (w' := w) (by simp [Oper.about, ho]) (by rw [ho]; intro c h; cases h)
    (by unfold execOp; simp only [ho, hx, Instr.loadAt, Instr.sureAddr, Sem.run_bind, Sem.run_pure, Result.andThen_ok, run_loadVar_mid w g 0 ty l d (blk_range hB) hu hd hi]) (hK _ _ h)
/-- the same of an operation behind a guard that lets it -/
theorem wpListIn_load_blkw (hw : Region.wanted o (yielded ops a.tmps) = true) (ty : TypeId) (x : Operand) (ho : o.op = .load ty x) (g : Nat) (l : List Value) (hx : a.eval x = .pointer (some ⟨g, 0, none⟩)) {t : TypeId} (hB : Blk w g l t) (d : TypeDesc) (hu : P.underlying ty = some d)
    (hd : d.isRow = true) (hi : (P.info? ty).map (·.size) = some l.length) (h : wpListIn F n P ops Q rest (a.put o.dst (.agg l.toArray)) w) : wpListIn F n P ops Q (o :: rest) a w :=
  wpListIn_step fun K hK => by
    rw [if_pos hw]
    exact wpIn_value (v := .agg l.toArray) (w' := w) (by simp [Oper.about, ho]) (by rw [ho]; intro c h; cases h)
      (by unfold execOp; simp only [ho, hx, Instr.loadAt, Instr.sureAddr, Sem.run_bind, Sem.run_pure, Result.andThen_ok, run_loadVar_mid w g 0 ty l d (blk_range hB) hu hd hi]) (hK _ _ h)
/-- a slice of one element of many cells -/
theorem wpListIn_buildSlice1 (hgd : o.guard = none) {t e : TypeId} {z : Value} {k bytes : Nat} (T : ElemT P t e z k bytes) (x : Operand) (ho : o.op = .buildSlice t 1 #[(0, x)]) (l : List Value) (hx : a.eval x = .agg l.toArray) (hs : l.length = k) (hk : k ≤ 16777216)
    (h : ∀ w', Blk w' w.heap.size l e → Below w.heap.size w w' → w.heap.size + 1 = w'.heap.size → wpListIn F n P ops Q rest (a.put o.dst (.slice (some ⟨w.heap.size, 0, none⟩) 1 1)) w') : wpListIn F n P ops Q (o :: rest) a w := by
  refine wpListIn_plain hgd fun K hK => wpIn_value (v := .slice (some ⟨w.heap.size, 0, none⟩) 1 1) (w' := w.alloc (.cells l.toArray e)) (by simp [Oper.about, ho]) (by rw [ho]; intro c h; cases h) ?_ (hK _ _ (h _ (Blk.new w _ _ _ rfl) (below_alloc _ _) (by simp)))
  have hr := Arr.run_buildSlice T [.agg l.toArray] (by simp [Value.cells, hs]) (by simpa using hk) (by simp) w
  simp at hr
  simp [execOp, ho, hx, hr, Value.cells, Result.andThen]
theorem wpListIn_append_arr (hgd : o.guard = none) (s x : Operand) (t : TypeId)
    (ho : o.op = .call { callee := .builtin .append, args := #[s, x], argTypes := #[t, t] }) (base : Nat) (e : TypeId) {z : Value} {k bytes : Nat} (T : ElemT P t e z k bytes)
    (v : Value) (xs : List (List Value)) (hs : a.eval s = v) (hown : Arr.OwnA k base e w v xs) {D : Nat → Prop} (y : Value) (ys : List (List Value)) (hx : a.eval x = y) (hy : Arr.Arr k D w y ys)
    (h1 : ∀ x ∈ ys, ∀ c ∈ x, c.oneCell' = true) (h63 : xs.length + ys.length ≤ maxLen) (hbytes : (xs.length + ys.length) * bytes ≤ 140737488355328) (hb : base ≤ w.heap.size) (m : Nat) (hn : m = xs.length + ys.length)
    (h : ∀ (a' : Option Addr) (cap' : Nat) (w' : World), Arr.OwnA k base e w' (.slice a' m cap') (xs ++ ys) → w.grownBy w' v.ownBlock → ((Value.slice a' m cap').ownBlock = v.ownBlock ∨ (Value.slice a' m cap').ownBlock = some w.heap.size) → wpListIn F n P ops Q rest (a.put o.dst (.slice a' m cap')) w') :
    wpListIn F n P ops Q (o :: rest) a w := by
  subst hn
  obtain ⟨a', cap', w', h0, q1, q2, q4⟩ := Arr.run_append_arr (P := P) w t o.type base e T v xs hown y ys hy h1 h63 hbytes hb
  refine wpListIn_plain hgd fun K hK => ?_
  unfold Oper.wpIn
  refine ⟨?_, ?_⟩
  · simp [Oper.about, ho, resolve, Target.leads, Sem.run_pure]
  · rw [Oper.semAt_plain F _ _ (by rw [ho]; intro c hc'; cases hc')]
    simp [execOp, ho, resolve, invoke, builtin, hs, hx, h0, Result.andThen]
    exact hK _ _ (h a' cap' w' q1 q2 q4)
end
end Go.Proofs.Ytjdohjoljobinaa.Ops
