/- More laws at single operations that leave the world opaque: a slice of one element is made, a slice is appended, one cell of a block is stored or loaded. Program-independent; no condition. -/
import Derived.Test.YtjdohjoljobinaaOps
namespace Go.Proofs.Ytjdohjoljobinaa.Ops
open Go Go.RowKit Mem Arr
section
variable {P : Program} {w : World} {ops : Array Oper} {rest : List Oper} {o : Oper} {a : Act} {K : Act → World → Prop} {Q : Exit → Act → World → Prop}
theorem wp_build1 {t e : TypeId} {z : Value} {k bytes : Nat} (T : ElemT P t e z k bytes) (x : Operand) (ho : o.op = .buildSlice t 1 #[(0, x)]) (l : List Value) (hx : a.eval x = .agg l.toArray) (hs : l.length = k) (hk : k ≤ 16777216)
    (h : ∀ w', Blk w' w.heap.size l e → Below w.heap.size w w' → w.heap.size + 1 = w'.heap.size → K (a.put o.dst (.slice (some ⟨w.heap.size, 0, none⟩) 1 1)) w') : Oper.wp P o a w K Q := by
  have hr := Arr.run_buildSlice T [.agg l.toArray] (by simp [Value.cells, hs]) (by simpa using hk) (by simp) w
  simp at hr
  unfold Oper.wp
  simp [execOp, ho, hx, hr, Value.cells, Result.andThen]
  exact h _ (Blk.new w _ _ _ rfl) (below_alloc _ _) (by simp)
theorem wpList_build1 (hgd : o.guard = none) {t e : TypeId} {z : Value} {k bytes : Nat} (T : ElemT P t e z k bytes) (x : Operand) (ho : o.op = .buildSlice t 1 #[(0, x)]) (l : List Value) (hx : a.eval x = .agg l.toArray) (hs : l.length = k) (hk : k ≤ 16777216)
    (h : ∀ w', Blk w' w.heap.size l e → Below w.heap.size w w' → w.heap.size + 1 = w'.heap.size → wpList P ops Q rest (a.put o.dst (.slice (some ⟨w.heap.size, 0, none⟩) 1 1)) w') : wpList P ops Q (o :: rest) a w :=
  wpList_plain hgd fun _ hK => wp_build1 T x ho l hx hs hk (fun w' h1 h2 h3 => hK _ _ (h w' h1 h2 h3))
/-- of one cell -/
theorem wp_build1c {t e : TypeId} {z : Value} {bytes : Nat} (T : ElemT P t e z 1 bytes) (x : Operand) (ho : o.op = .buildSlice t 1 #[(0, x)]) (v : Value) (hx : a.eval x = v) (hs : v.oneCell' = true)
    (h : ∀ w', Blk w' w.heap.size [v] e → Below w.heap.size w w' → w.heap.size + 1 = w'.heap.size → K (a.put o.dst (.slice (some ⟨w.heap.size, 0, none⟩) 1 1)) w') : Oper.wp P o a w K Q := by
  have hc : v.cells = #[v] := by cases v <;> first | rfl | cases hs
  have hr := Arr.run_buildSlice T [v] (by simp [hc]) (by simp) (by simp) w
  simp [hc] at hr
  unfold Oper.wp
  simp [execOp, ho, hx, hr, Result.andThen]
  exact h _ (Blk.new w _ _ _ rfl) (below_alloc _ _) (by simp)
theorem wp_append_arr (s x : Operand) (t : TypeId)
    (ho : o.op = .call { callee := .builtin .append, args := #[s, x], argTypes := #[t, t] }) (base : Nat) (e : TypeId) {z : Value} {k bytes : Nat} (T : ElemT P t e z k bytes)
    (v : Value) (xs : List (List Value)) (hs : a.eval s = v) (hown : Arr.OwnA k base e w v xs) {D : Nat → Prop} (y : Value) (ys : List (List Value)) (hx : a.eval x = y) (hy : Arr.Arr k D w y ys)
    (h1 : ∀ x ∈ ys, ∀ c ∈ x, c.oneCell' = true) (h63 : xs.length + ys.length ≤ maxLen) (hbytes : (xs.length + ys.length) * bytes ≤ 140737488355328) (hb : base ≤ w.heap.size) (m : Nat) (hn : m = xs.length + ys.length)
    (h : ∀ (a' : Option Addr) (cap' : Nat) (w' : World), Arr.OwnA k base e w' (.slice a' m cap') (xs ++ ys) → w.grownBy w' v.ownBlock → ((Value.slice a' m cap').ownBlock = v.ownBlock ∨ (Value.slice a' m cap').ownBlock = some w.heap.size) → K (a.put o.dst (.slice a' m cap')) w') :
    Oper.wp P o a w K Q := by
  subst hn
  obtain ⟨a', cap', w', h0, q1, q2, q4⟩ := Arr.run_append_arr (P := P) w t o.type base e T v xs hown y ys hy h1 h63 hbytes hb
  unfold Oper.wp
  simp [execOp, ho, resolve, invoke, builtin, hs, hx, h0, Result.andThen]
  exact h a' cap' w' q1 q2 q4
/-- one cell of a block is stored -/
theorem run_storeVar_cell {g i : Nat} {l : List Value} {t : TypeId} (hB : Blk w g l t) (hi : i < l.length) (ty : TypeId) (hsz : (P.info? ty).map (·.size) = some 1) (v : Value) (h1 : v.oneCell' = true) :
    (storeVar ty ⟨g, i, none⟩ v).run P w = .ok () (w.setCell ⟨g, i, none⟩ v) := by
  have hc : v.cells = #[v] := by cases v <;> first | rfl | cases h1
  have hcell := hB.cell (List.getElem?_eq_getElem hi)
  have hfree := hB.free i
  cases hq : P.info? ty with
  | none => simp [hq] at hsz
  | some j =>
    have hs : j.size = 1 := by simpa [hq] using hsz
    have hst : (store ⟨g, i, none⟩ v .plain).run P w = .ok () (w.setCell ⟨g, i, none⟩ v) := by
      rw [run_store P w _ v _ h1]
      simp [hcell, hfree]
    simp [storeVar, sizeOf, typeInfo, hq, hc, hs, storeCells, Addr.add, hst, Sem.run_bind, Result.andThen]
theorem wp_setc (ty : TypeId) (x y : Operand) (ho : o.op = .store ty x y) (g i : Nat) (hx : a.eval x = .pointer (some ⟨g, i, none⟩)) (v : Value) (hy : a.eval y = v) (h1 : v.oneCell' = true) {l : List Value} {t : TypeId} (hB : Blk w g l t) (hi : i < l.length)
    (hsz : (P.info? ty).map (·.size) = some 1)
    (h : ∀ w', Blk w' g (l.set i v) t → Fr (fun k => k = g) w w' → w'.heap.size = w.heap.size → K (a.put o.dst undef) w') : Oper.wp P o a w K Q := by
  unfold Oper.wp execOp
  simp only [ho, hx, hy, Instr.storeAt, Instr.sureAddr, Sem.run_bind, Sem.run_pure, Result.andThen_ok, run_storeVar_cell hB hi ty hsz v h1]
  exact h _ (hB.set i v) (Fr.setCell (S := fun k => k = g) (p := ⟨g, i, none⟩) (Fr.refl _ w) (.inr rfl) _) (by simp [World.setCell])
theorem wpList_setc (hgd : o.guard = none) (ty : TypeId) (x y : Operand) (ho : o.op = .store ty x y) (g i : Nat) (hx : a.eval x = .pointer (some ⟨g, i, none⟩)) (v : Value) (hy : a.eval y = v) (h1 : v.oneCell' = true) {l : List Value} {t : TypeId} (hB : Blk w g l t) (hi : i < l.length)
    (hsz : (P.info? ty).map (·.size) = some 1)
    (h : ∀ w', Blk w' g (l.set i v) t → Fr (fun k => k = g) w w' → w'.heap.size = w.heap.size → wpList P ops Q rest (a.put o.dst undef) w') : wpList P ops Q (o :: rest) a w :=
  wpList_plain hgd fun _ hK => wp_setc ty x y ho g i hx v hy h1 hB hi hsz (fun w' h1 h2 h3 => hK _ _ (h w' h1 h2 h3))
/-- operation j waits for i -/
def waits (md : Region.Mode) (ops : Array Oper) (j i : Nat) : Bool := match ops[j]? with | none => false | some o => o.after.any fun e => Region.binds md e && e.on == i
/-- whatever order is picked from here on, and behind each operation that does not wait for i S holds -/
def wpAnyJ (P : Program) (md : Region.Mode) (ops : Array Oper) (Q : Exit → Act → World → Prop) (i : Nat) (S : World → Prop) : Nat → Array Bool → Act → World → Prop
  | 0, listed, a, w => Region.ready md ops listed = [] ∧ Q .normal a w
  | fuel + 1, listed, a, w =>
    (Region.ready md ops listed = [] → Q .normal a w) ∧
    ∀ j ∈ Region.ready md ops listed, wpOp P ops Q j (fun a' w' => (waits md ops j i = false → S w') ∧ wpAnyJ P md ops Q i S fuel (listed.setIfInBounds j true) a' w') a w
theorem wpAnyJ_H {md : Region.Mode} {i : Nat} {S : World → Prop} : ∀ (fuel : Nat) (listed : Array Bool) (a : Act) (w : World), wpAnyJ P md ops Q i S fuel listed a w → wpAnyH P md ops Q (fun _ => True) fuel listed a w
  | 0, _, _, _, h => h
  | fuel + 1, _, _, _, h => ⟨h.1, fun j hj => wpOp_mono (fun a' w' h' => ⟨trivial, wpAnyJ_H fuel _ a' w' h'.2⟩) (h.2 j hj)⟩
theorem wpAnyJ_first {md : Region.Mode} {S : World → Prop} {i : Nat} {oi : Oper} {v : Value} (hi : ops[i]? = some oi) (hsel : ∀ (j : Nat) (o : Oper) cs b, ops[j]? = some o → o.op ≠ .select cs b)
    (hQ : ∀ c a w, Q (.panic c) (a.put oi.dst v) w → Q (.panic c) a w) :
    ∀ (fuel : Nat) (listed : Array Bool) (a : Act) (w : World),
      (∀ j oj, ops[j]? = some oj → j ≠ i → listed.getD j true = false → (∀ e ∈ oj.after, Region.binds md e = true → e.on ≠ i) → oi.apart ops oj = true) →
      i ∈ Region.ready md ops listed → YieldsIf P ops S oi v a → S w →
      wpAnyJ P md ops Q i S fuel (listed.setIfInBounds i true) (a.put oi.dst v) w → wpAnyH P md ops Q (fun _ => True) (fuel + 1) listed a w := by
  intro fuel
  induction fuel with
  | zero =>
    intro listed a w _ hr hy hS H
    refine ⟨fun h => (by rw [h] at hr; cases hr), fun j hj => ?_⟩
    by_cases hji : j = i
    · subst hji; exact hy.wpOp hi hS ⟨trivial, H⟩
    · have := ready_mono hj hji
      rw [H.1] at this
      cases this
  | succ fuel ih =>
    intro listed a w hfree hr hy hS H
    refine ⟨fun h => (by rw [h] at hr; cases hr), fun j hj => ?_⟩
    by_cases hji : j = i
    · subst hji; exact hy.wpOp hi hS ⟨trivial, wpAnyJ_H _ _ _ _ H⟩
    · have h1 := H.2 j (ready_mono hj hji)
      obtain ⟨hjun, oj, hoj, hall⟩ := mem_ready.1 hj
      have hnot : ∀ e ∈ oj.after, Region.binds md e = true → e.on ≠ i := fun e he hb heq => by
        have h1 := hall e he hb
        have h0 := (mem_ready.1 hr).1
        rw [heq] at h1
        rcases Nat.lt_or_ge i listed.size with h' | h'
        · simp [h'] at h0 h1; rw [h0] at h1; cases h1
        · simp [Array.getElem?_eq_none h'] at h1
      have hwt : waits md ops j i = false := by
        unfold waits
        rw [hoj]
        simp only [Array.any_eq_false', Bool.and_eq_true, beq_iff_eq, not_and]
        intro e he hb
        exact hnot e he hb
      have h2 := wpOp_putIf hoj (hfree j oj hoj hji hjun hnot) (fun cs b => hsel i oi cs b hi) (fun cs b => hsel j oj cs b hoj) hQ hy h1
      have hfree' : ∀ k ok, ops[k]? = some ok → k ≠ i → (listed.setIfInBounds j true).getD k true = false →
          (∀ e ∈ ok.after, Region.binds md e = true → e.on ≠ i) → oi.apart ops ok = true := fun k ok hk hki hun hno => by
        refine hfree k ok hk hki ?_ hno
        by_cases hjk : j = k
        · subst hjk; exact hjun
        · rw [getD_set_ne true hjk] at hun; exact hun
      refine wpOp_mono (fun a' w' h3 => ⟨trivial, ih (listed.setIfInBounds j true) a' w' hfree' (ready_mono hr (Ne.symm hji)) h3.1 (h3.2.1 hwt) ?_⟩) h2
      rw [Array.setIfInBounds_comm _ _ hji]
      exact h3.2.2
/-- take number i first: it yields v in every world that meets S; each operation that does not wait for it keeps S -/
theorem wpAnyH_before {md : Region.Mode} {S : World → Prop} {i : Nat} {oi : Oper} {v : Value} {fuel : Nat} {listed : Array Bool} (hi : ops[i]? = some oi)
    (hs : Region.noSelect ops = true) (hf : Region.free md ops listed i = true) (hr : (Region.ready md ops listed).contains i = true)
    (hQ : ∀ c a w, Q (.panic c) (a.put oi.dst v) w → Q (.panic c) a w) (hy : YieldsIf P ops S oi v a) (hS : S w)
    (h : wpAnyJ P md ops Q i S fuel (listed.setIfInBounds i true) (a.put oi.dst v) w) : wpAnyH P md ops Q (fun _ => True) (fuel + 1) listed a w :=
  wpAnyJ_first hi (Region.noSelect_spec hs) hQ fuel listed a w (Region.free_spec hi hf) (by simpa using hr) hy hS h
/-- one operation alone is ready, and does not wait for i -/
theorem wpAnyJ_keep {md : Region.Mode} {S : World → Prop} {i j : Nat} {oj : Oper} {fuel : Nat} {listed : Array Bool} (hr : Region.ready md ops listed = [j]) (hj : ops[j]? = some oj)
    (h : ∀ K' : Act → World → Prop, Shut (∀ a w, S w → wpAnyJ P md ops Q i S fuel (listed.setIfInBounds j true) a w → K' a w) → if Region.wanted oj (yielded ops a.tmps) = true then Oper.wp P oj a w K' Q else K' (a.put oj.dst undef) w) :
    wpAnyJ P md ops Q i S (fuel + 1) listed a w := by
  refine ⟨fun h => (by rw [hr] at h; cases h), fun x hx => ?_⟩
  rw [hr] at hx
  obtain rfl := List.mem_singleton.1 hx
  exact wpOp_step hj (fun K' hK => h K' (fun a w hS hW => hK a w ⟨fun _ => hS, hW⟩))
/-- and it waits for i: S may fall -/
theorem wpAnyJ_free {md : Region.Mode} {S : World → Prop} {i j : Nat} {oj : Oper} {fuel : Nat} {listed : Array Bool} (hr : Region.ready md ops listed = [j]) (hw : waits md ops j i = true) (hj : ops[j]? = some oj)
    (h : ∀ K' : Act → World → Prop, Shut (∀ a w, wpAnyJ P md ops Q i S fuel (listed.setIfInBounds j true) a w → K' a w) → if Region.wanted oj (yielded ops a.tmps) = true then Oper.wp P oj a w K' Q else K' (a.put oj.dst undef) w) :
    wpAnyJ P md ops Q i S (fuel + 1) listed a w := by
  refine ⟨fun h => (by rw [hr] at h; cases h), fun x hx => ?_⟩
  rw [hr] at hx
  obtain rfl := List.mem_singleton.1 hx
  exact wpOp_step hj (fun K' hK => h K' (fun a w hW => hK a w ⟨fun h => (by rw [hw] at h; cases h), hW⟩))
theorem wpAnyJ_done {md : Region.Mode} {S : World → Prop} {i : Nat} {listed : Array Bool} (hr : Region.ready md ops listed = []) (h : Q .normal a w) : ∀ fuel, wpAnyJ P md ops Q i S fuel listed a w
  | 0 => ⟨hr, h⟩
  | _ + 1 => ⟨fun _ => h, by rw [hr]; simp⟩
/-- one cell of a block is stored, the block said in parts -/
theorem wp_putc (ty : TypeId) (x y : Operand) (ho : o.op = .store ty x y) (g : Nat) (pre post : List Value) (u : Value) (n : Nat) (hn : pre.length = n) (hx : a.eval x = .pointer (some ⟨g, n, none⟩)) (v : Value) (hy : a.eval y = v) (h1 : v.oneCell' = true) {t : TypeId} (hB : Blk w g (pre ++ ([u] ++ post)) t)
    (hsz : (P.info? ty).map (·.size) = some 1)
    (h : ∀ w', Blk w' g (pre ++ ([v] ++ post)) t → Fr (fun k => k = g) w w' → w'.heap.size = w.heap.size → K (a.put o.dst undef) w') : Oper.wp P o a w K Q := by
  subst hn
  refine wp_setc ty x y ho g pre.length hx v hy h1 hB (by simp) hsz (fun w' k1 k2 k3 => h w' ?_ k2 k3)
  have e : (pre ++ ([u] ++ post)).set pre.length v = pre ++ ([v] ++ post) := by
    rw [List.set_append_right _ _ (Nat.le_refl _)]
    simp
  rw [e] at k1
  exact k1
theorem wpList_putc (hgd : o.guard = none) (ty : TypeId) (x y : Operand) (ho : o.op = .store ty x y) (g : Nat) (pre post : List Value) (u : Value) (n : Nat) (hn : pre.length = n) (hx : a.eval x = .pointer (some ⟨g, n, none⟩)) (v : Value) (hy : a.eval y = v) (h1 : v.oneCell' = true) {t : TypeId} (hB : Blk w g (pre ++ ([u] ++ post)) t)
    (hsz : (P.info? ty).map (·.size) = some 1)
    (h : ∀ w', Blk w' g (pre ++ ([v] ++ post)) t → Fr (fun k => k = g) w w' → w'.heap.size = w.heap.size → wpList P ops Q rest (a.put o.dst undef) w') : wpList P ops Q (o :: rest) a w :=
  wpList_plain hgd fun _ hK => wp_putc ty x y ho g pre post u n hn hx v hy h1 hB hsz (fun w' h1 h2 h3 => hK _ _ (h w' h1 h2 h3))
/-- two values of many cells are compared -/
theorem exec_eql {t rt : TypeId} {x y : Operand} (hgt : P.eqGuardType P.depth t = false) (ho : o.op = .binOp .eql t x y rt) {c d : Array Value} (hx : a.eval x = .agg c) (hy : a.eval y = .agg d) {r : Bool} (hr : (Op.equalIn 10000 t (.agg c) (.agg d)).run P w = .ok r w) : (execOp a.eval o).run P w = .ok (.value (.bool r)) w := by
  unfold execOp
  simp only [ho, hx, hy, Sem.run_bind, run_eql_struct, run_eqGuard_agg (hm := hgt), hr, Result.andThen_ok, Sem.run_pure]
end
end Go.Proofs.Ytjdohjoljobinaa.Ops
