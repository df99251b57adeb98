/- More laws at single operations that leave the world opaque: a slice of one element is made, a slice is appended, one cell of a block is stored or loaded. Program-independent; no condition. Words for the wire's writers of things that read as plain data. No condition. Walks of the wire's writer at a transaction of the main chain. Condition: the bytes are at most 2^47. The walks of the program's MainTx. Condition: the bytes are at most 2^47. Walks of the wire's writer at a text and at a truth, and of the reference's. Condition: the bytes are at most 2^47. Walks of the reference's writer at a transaction of the main chain, and of its MainTx. Condition: the bytes are at most 2^47. Plain laws of the codec: what is read as a number, or as a text, stands at the front as it is written. No program here. -/
import Derived.Test.YtmenchnjajpkmaaGreatDoorEvie
import Derived.Test.YtmenchnjajpkmaaGreatDoorEvih
import Derived.Test.YtmenchnjajpkmaaGreatDoorEvia
section
namespace Go.Proofs.YtmenchnjajpkmaaGreatDoor.Ops
open Go Go.RowKit Mem Arr
section
variable {P : Program} {w : World} {ops : Array Oper} {rest : List Oper} {o : Oper} {a : Act} {K : Act → World → Prop} {Q : Exit → Act → World → Prop}
theorem wp_build1 {t e : TypeId} {z : Value} {k bytes : Nat} (T : ElemT P t e z k bytes) (x : Operand) (ho : o.op = .buildSlice t 1 #[(0, x)]) (l : List Value) (hx : a.eval x = .agg l.toArray) (hs : l.length = k) (hk : k ≤ 16777216)
    (h : ∀ w', Blk w' w.heap.size l e → Below w.heap.size w w' → w.heap.size + 1 = w'.heap.size → K (a.put o.dst (.slice (some ⟨w.heap.size, 0, none⟩) 1 1)) w') : Oper.wp P o a w K Q := by
  have hr := Arr.run_buildSlice T [.agg l.toArray] (by simp [Value.cells, hs]) (by simpa using hk) (by simp) w
  simp at hr
  unfold Oper.wp
  simp [execOp, ho, hx, hr, Value.cells, Result.andThen]
  exact h _ (Blk.new w _ _ _ rfl) (below_alloc _ _) (by simp)
theorem wpList_build1 (hgd : o.guard = none) {t e : TypeId} {z : Value} {k bytes : Nat} (T : ElemT P t e z k bytes) (x : Operand) (ho : o.op = .buildSlice t 1 #[(0, x)]) (l : List Value) (hx : a.eval x = .agg l.toArray) (hs : l.length = k) (hk : k ≤ 16777216)
    (h : ∀ w', Blk w' w.heap.size l e → Below w.heap.size w w' → w.heap.size + 1 = w'.heap.size → wpList P ops Q rest (a.put o.dst (.slice (some ⟨w.heap.size, 0, none⟩) 1 1)) w') : wpList P ops Q (o :: rest) a w :=
  wpList_plain hgd fun _ hK => wp_build1 T x ho l hx hs hk (fun w' h1 h2 h3 => hK _ _ (h w' h1 h2 h3))
/-- of one cell -/
theorem wp_build1c {t e : TypeId} {z : Value} {bytes : Nat} (T : ElemT P t e z 1 bytes) (x : Operand) (ho : o.op = .buildSlice t 1 #[(0, x)]) (v : Value) (hx : a.eval x = v) (hs : v.oneCell' = true)
    (h : ∀ w', Blk w' w.heap.size [v] e → Below w.heap.size w w' → w.heap.size + 1 = w'.heap.size → K (a.put o.dst (.slice (some ⟨w.heap.size, 0, none⟩) 1 1)) w') : Oper.wp P o a w K Q := by
  have hc : v.cells = #[v] := by cases v <;> first | rfl | cases hs
  have hr := Arr.run_buildSlice T [v] (by simp [hc]) (by simp) (by simp) w
  simp [hc] at hr
  unfold Oper.wp
  simp [execOp, ho, hx, hr, Result.andThen]
  exact h _ (Blk.new w _ _ _ rfl) (below_alloc _ _) (by simp)
theorem wp_append_arr (s x : Operand) (t : TypeId)
    (ho : o.op = .call { callee := .builtin .append, args := #[s, x], argTypes := #[t, t] }) (base : Nat) (e : TypeId) {z : Value} {k bytes : Nat} (T : ElemT P t e z k bytes)
    (v : Value) (xs : List (List Value)) (hs : a.eval s = v) (hown : Arr.OwnA k base e w v xs) {D : Nat → Prop} (y : Value) (ys : List (List Value)) (hx : a.eval x = y) (hy : Arr.Arr k D w y ys)
    (h1 : ∀ x ∈ ys, ∀ c ∈ x, c.oneCell' = true) (h63 : xs.length + ys.length ≤ maxLen) (hbytes : (xs.length + ys.length) * bytes ≤ 140737488355328) (hb : base ≤ w.heap.size) (m : Nat) (hn : m = xs.length + ys.length)
    (h : ∀ (a' : Option Addr) (cap' : Nat) (w' : World), Arr.OwnA k base e w' (.slice a' m cap') (xs ++ ys) → w.grownBy w' v.ownBlock → ((Value.slice a' m cap').ownBlock = v.ownBlock ∨ (Value.slice a' m cap').ownBlock = some w.heap.size) → K (a.put o.dst (.slice a' m cap')) w') :
    Oper.wp P o a w K Q := by
  subst hn
  obtain ⟨a', cap', w', h0, q1, q2, q4⟩ := Arr.run_append_arr (P := P) w t o.type base e T v xs hown y ys hy h1 h63 hbytes hb
  unfold Oper.wp
  simp [execOp, ho, resolve, invoke, builtin, hs, hx, h0, Result.andThen]
  exact h a' cap' w' q1 q2 q4
/-- one cell of a block is stored -/
theorem run_storeVar_cell {g i : Nat} {l : List Value} {t : TypeId} (hB : Blk w g l t) (hi : i < l.length) (ty : TypeId) (hsz : (P.info? ty).map (·.size) = some 1) (v : Value) (h1 : v.oneCell' = true) :
    (storeVar ty ⟨g, i, none⟩ v).run P w = .ok () (w.setCell ⟨g, i, none⟩ v) := by
  have hc : v.cells = #[v] := by cases v <;> first | rfl | cases h1
  have hcell := hB.cell (List.getElem?_eq_getElem hi)
  have hfree := hB.free i
  cases hq : P.info? ty with
  | none => simp [hq] at hsz
  | some j =>
    have hs : j.size = 1 := by simpa [hq] using hsz
    have hst : (store ⟨g, i, none⟩ v .plain).run P w = .ok () (w.setCell ⟨g, i, none⟩ v) := by
      rw [run_store P w _ v _ h1]
      simp [hcell, hfree]
    simp [storeVar, sizeOf, typeInfo, hq, hc, hs, storeCells, Addr.add, hst, Sem.run_bind, Result.andThen]
theorem wp_setc (ty : TypeId) (x y : Operand) (ho : o.op = .store ty x y) (g i : Nat) (hx : a.eval x = .pointer (some ⟨g, i, none⟩)) (v : Value) (hy : a.eval y = v) (h1 : v.oneCell' = true) {l : List Value} {t : TypeId} (hB : Blk w g l t) (hi : i < l.length)
    (hsz : (P.info? ty).map (·.size) = some 1)
    (h : ∀ w', Blk w' g (l.set i v) t → Fr (fun k => k = g) w w' → w'.heap.size = w.heap.size → K (a.put o.dst undef) w') : Oper.wp P o a w K Q := by
  unfold Oper.wp execOp
  simp only [ho, hx, hy, Instr.storeAt, Instr.sureAddr, Sem.run_bind, Sem.run_pure, Result.andThen_ok, run_storeVar_cell hB hi ty hsz v h1]
  exact h _ (hB.set i v) (Fr.setCell (S := fun k => k = g) (p := ⟨g, i, none⟩) (Fr.refl _ w) (.inr rfl) _) (by simp [World.setCell])
theorem wpList_setc (hgd : o.guard = none) (ty : TypeId) (x y : Operand) (ho : o.op = .store ty x y) (g i : Nat) (hx : a.eval x = .pointer (some ⟨g, i, none⟩)) (v : Value) (hy : a.eval y = v) (h1 : v.oneCell' = true) {l : List Value} {t : TypeId} (hB : Blk w g l t) (hi : i < l.length)
    (hsz : (P.info? ty).map (·.size) = some 1)
    (h : ∀ w', Blk w' g (l.set i v) t → Fr (fun k => k = g) w w' → w'.heap.size = w.heap.size → wpList P ops Q rest (a.put o.dst undef) w') : wpList P ops Q (o :: rest) a w :=
  wpList_plain hgd fun _ hK => wp_setc ty x y ho g i hx v hy h1 hB hi hsz (fun w' h1 h2 h3 => hK _ _ (h w' h1 h2 h3))
/-- operation j waits for i -/
def waits (md : Region.Mode) (ops : Array Oper) (j i : Nat) : Bool := match ops[j]? with | none => false | some o => o.after.any fun e => Region.binds md e && e.on == i
/-- whatever order is picked from here on, and behind each operation that does not wait for i S holds -/
def wpAnyJ (P : Program) (md : Region.Mode) (ops : Array Oper) (Q : Exit → Act → World → Prop) (i : Nat) (S : World → Prop) : Nat → Array Bool → Act → World → Prop
  | 0, listed, a, w => Region.ready md ops listed = [] ∧ Q .normal a w
  | fuel + 1, listed, a, w =>
    (Region.ready md ops listed = [] → Q .normal a w) ∧
    ∀ j ∈ Region.ready md ops listed, wpOp P ops Q j (fun a' w' => (waits md ops j i = false → S w') ∧ wpAnyJ P md ops Q i S fuel (listed.setIfInBounds j true) a' w') a w
theorem wpAnyJ_H {md : Region.Mode} {i : Nat} {S : World → Prop} : ∀ (fuel : Nat) (listed : Array Bool) (a : Act) (w : World), wpAnyJ P md ops Q i S fuel listed a w → wpAnyH P md ops Q (fun _ => True) fuel listed a w
  | 0, _, _, _, h => h
  | fuel + 1, _, _, _, h => ⟨h.1, fun j hj => wpOp_mono (fun a' w' h' => ⟨trivial, wpAnyJ_H fuel _ a' w' h'.2⟩) (h.2 j hj)⟩
theorem wpAnyJ_first {md : Region.Mode} {S : World → Prop} {i : Nat} {oi : Oper} {v : Value} (hi : ops[i]? = some oi) (hsel : ∀ (j : Nat) (o : Oper) cs b, ops[j]? = some o → o.op ≠ .select cs b)
    (hQ : ∀ c a w, Q (.panic c) (a.put oi.dst v) w → Q (.panic c) a w) :
    ∀ (fuel : Nat) (listed : Array Bool) (a : Act) (w : World),
      (∀ j oj, ops[j]? = some oj → j ≠ i → listed.getD j true = false → (∀ e ∈ oj.after, Region.binds md e = true → e.on ≠ i) → oi.apart ops oj = true) →
      i ∈ Region.ready md ops listed → YieldsIf P ops S oi v a → S w →
      wpAnyJ P md ops Q i S fuel (listed.setIfInBounds i true) (a.put oi.dst v) w → wpAnyH P md ops Q (fun _ => True) (fuel + 1) listed a w := by
  intro fuel
  induction fuel with
  | zero =>
    intro listed a w _ hr hy hS H
    refine ⟨fun h => (by rw [h] at hr; cases hr), fun j hj => ?_⟩
    by_cases hji : j = i
    · subst hji; exact hy.wpOp hi hS ⟨trivial, H⟩
    · have := ready_mono hj hji
      rw [H.1] at this
      cases this
  | succ fuel ih =>
    intro listed a w hfree hr hy hS H
    refine ⟨fun h => (by rw [h] at hr; cases hr), fun j hj => ?_⟩
    by_cases hji : j = i
    · subst hji; exact hy.wpOp hi hS ⟨trivial, wpAnyJ_H _ _ _ _ H⟩
    · have h1 := H.2 j (ready_mono hj hji)
      obtain ⟨hjun, oj, hoj, hall⟩ := mem_ready.1 hj
      have hnot : ∀ e ∈ oj.after, Region.binds md e = true → e.on ≠ i := fun e he hb heq => by
        have h1 := hall e he hb
        have h0 := (mem_ready.1 hr).1
        rw [heq] at h1
        rcases Nat.lt_or_ge i listed.size with h' | h'
        · simp [h'] at h0 h1; rw [h0] at h1; cases h1
        · simp [Array.getElem?_eq_none h'] at h1
      have hwt : waits md ops j i = false := by
        unfold waits
        rw [hoj]
        simp only [Array.any_eq_false', Bool.and_eq_true, beq_iff_eq, not_and]
        intro e he hb
        exact hnot e he hb
      have h2 := wpOp_putIf hoj (hfree j oj hoj hji hjun hnot) (fun cs b => hsel i oi cs b hi) (fun cs b => hsel j oj cs b hoj) hQ hy h1
      have hfree' : ∀ k ok, ops[k]? = some ok → k ≠ i → (listed.setIfInBounds j true).getD k true = false →
          (∀ e ∈ ok.after, Region.binds md e = true → e.on ≠ i) → oi.apart ops ok = true := fun k ok hk hki hun hno => by
        refine hfree k ok hk hki ?_ hno
        by_cases hjk : j = k
        · subst hjk; exact hjun
        · rw [getD_set_ne true hjk] at hun; exact hun
      refine wpOp_mono (fun a' w' h3 => ⟨trivial, ih (listed.setIfInBounds j true) a' w' hfree' (ready_mono hr (Ne.symm hji)) h3.1 (h3.2.1 hwt) ?_⟩) h2
      rw [Array.setIfInBounds_comm _ _ hji]
      exact h3.2.2
/-- take number i first: it yields v in every world that meets S; each operation that does not wait for it keeps S -/
theorem wpAnyH_before {md : Region.Mode} {S : World → Prop} {i : Nat} {oi : Oper} {v : Value} {fuel : Nat} {listed : Array Bool} (hi : ops[i]? = some oi)
    (hs : Region.noSelect ops = true) (hf : Region.free md ops listed i = true) (hr : (Region.ready md ops listed).contains i = true)
    (hQ : ∀ c a w, Q (.panic c) (a.put oi.dst v) w → Q (.panic c) a w) (hy : YieldsIf P ops S oi v a) (hS : S w)
    (h : wpAnyJ P md ops Q i S fuel (listed.setIfInBounds i true) (a.put oi.dst v) w) : wpAnyH P md ops Q (fun _ => True) (fuel + 1) listed a w :=
  wpAnyJ_first hi (Region.noSelect_spec hs) hQ fuel listed a w (Region.free_spec hi hf) (by simpa using hr) hy hS h
/-- one operation alone is ready, and does not wait for i -/
theorem wpAnyJ_keep {md : Region.Mode} {S : World → Prop} {i j : Nat} {oj : Oper} {fuel : Nat} {listed : Array Bool} (hr : Region.ready md ops listed = [j]) (hj : ops[j]? = some oj)
    (h : ∀ K' : Act → World → Prop, Shut (∀ a w, S w → wpAnyJ P md ops Q i S fuel (listed.setIfInBounds j true) a w → K' a w) → if Region.wanted oj (yielded ops a.tmps) = true then Oper.wp P oj a w K' Q else K' (a.put oj.dst undef) w) :
    wpAnyJ P md ops Q i S (fuel + 1) listed a w := by
  refine ⟨fun h => (by rw [hr] at h; cases h), fun x hx => ?_⟩
  rw [hr] at hx
  obtain rfl := List.mem_singleton.1 hx
  exact wpOp_step hj (fun K' hK => h K' (fun a w hS hW => hK a w ⟨fun _ => hS, hW⟩))
/-- and it waits for i: S may fall -/
theorem wpAnyJ_free {md : Region.Mode} {S : World → Prop} {i j : Nat} {oj : Oper} {fuel : Nat} {listed : Array Bool} (hr : Region.ready md ops listed = [j]) (hw : waits md ops j i = true) (hj : ops[j]? = some oj)
    (h : ∀ K' : Act → World → Prop, Shut (∀ a w, wpAnyJ P md ops Q i S fuel (listed.setIfInBounds j true) a w → K' a w) → if Region.wanted oj (yielded ops a.tmps) = true then Oper.wp P oj a w K' Q else K' (a.put oj.dst undef) w) :
    wpAnyJ P md ops Q i S (fuel + 1) listed a w := by
  refine ⟨fun h => (by rw [hr] at h; cases h), fun x hx => ?_⟩
  rw [hr] at hx
  obtain rfl := List.mem_singleton.1 hx
  exact wpOp_step hj (fun K' hK => h K' (fun a w hW => hK a w ⟨fun h => (by rw [hw] at h; cases h), hW⟩))
theorem wpAnyJ_done {md : Region.Mode} {S : World → Prop} {i : Nat} {listed : Array Bool} (hr : Region.ready md ops listed = []) (h : Q .normal a w) : ∀ fuel, wpAnyJ P md ops Q i S fuel listed a w
  | 0 => ⟨hr, h⟩
  | _ + 1 => ⟨fun _ => h, by rw [hr]; simp⟩
/-- one cell of a block is stored, the block said in parts -/
theorem wp_putc (ty : TypeId) (x y : Operand) (ho : o.op = .store ty x y) (g : Nat) (pre post : List Value) (u : Value) (n : Nat) (hn : pre.length = n) (hx : a.eval x = .pointer (some ⟨g, n, none⟩)) (v : Value) (hy : a.eval y = v) (h1 : v.oneCell' = true) {t : TypeId} (hB : Blk w g (pre ++ ([u] ++ post)) t)
    (hsz : (P.info? ty).map (·.size) = some 1)
    (h : ∀ w', Blk w' g (pre ++ ([v] ++ post)) t → Fr (fun k => k = g) w w' → w'.heap.size = w.heap.size → K (a.put o.dst undef) w') : Oper.wp P o a w K Q := by
  subst hn
  refine wp_setc ty x y ho g pre.length hx v hy h1 hB (by simp) hsz (fun w' k1 k2 k3 => h w' ?_ k2 k3)
  have e : (pre ++ ([u] ++ post)).set pre.length v = pre ++ ([v] ++ post) := by
    rw [List.set_append_right _ _ (Nat.le_refl _)]
    simp
  rw [e] at k1
  exact k1
theorem wpList_putc (hgd : o.guard = none) (ty : TypeId) (x y : Operand) (ho : o.op = .store ty x y) (g : Nat) (pre post : List Value) (u : Value) (n : Nat) (hn : pre.length = n) (hx : a.eval x = .pointer (some ⟨g, n, none⟩)) (v : Value) (hy : a.eval y = v) (h1 : v.oneCell' = true) {t : TypeId} (hB : Blk w g (pre ++ ([u] ++ post)) t)
    (hsz : (P.info? ty).map (·.size) = some 1)
    (h : ∀ w', Blk w' g (pre ++ ([v] ++ post)) t → Fr (fun k => k = g) w w' → w'.heap.size = w.heap.size → wpList P ops Q rest (a.put o.dst undef) w') : wpList P ops Q (o :: rest) a w :=
  wpList_plain hgd fun _ hK => wp_putc ty x y ho g pre post u n hn hx v hy h1 hB hsz (fun w' h1 h2 h3 => hK _ _ (h w' h1 h2 h3))
/-- two values of many cells are compared -/
theorem exec_eql {t rt : TypeId} {x y : Operand} (hgt : P.eqGuardType P.depth t = false) (ho : o.op = .binOp .eql t x y rt) {c d : Array Value} (hx : a.eval x = .agg c) (hy : a.eval y = .agg d) {r : Bool} (hr : (Op.equalIn 10000 t (.agg c) (.agg d)).run P w = .ok r w) : (execOp a.eval o).run P w = .ok (.value (.bool r)) w := by
  unfold execOp
  simp only [ho, hx, hy, Sem.run_bind, run_eql_struct, run_eqGuard_agg (hm := hgt), hr, Result.andThen_ok, Sem.run_pure]
end
end Go.Proofs.YtmenchnjajpkmaaGreatDoor.Ops
end

section
namespace Go.Proofs.YtmenchnjajpkmaaGreatDoor.Wg
open Go Go.RowKit Mem Codec CodecW Ww Rw Arr Ops Wt Reps
set_option linter.unusedVariables false

theorem plus_dis {S D : Nat → Prop} {w0 w w1 wi : World} (h : ∀ b, b < w.heap.size → D b → ¬ Plus S w0 w b) (hz : w.heap.size ≤ w1.heap.size) : ∀ b, b < wi.heap.size → (b < w.heap.size ∧ D b) → ¬ Plus (Plus S w0 w) w1 wi b := fun b _ hb e => by
  rcases e with e | e
  · exact h b hb.1 hb.2 e
  · have := e.1; omega
theorem plus_dis1 {S D : Nat → Prop} {w0 w w1 wi : World} (h : ∀ b, b < w.heap.size → D b → ¬ Plus S w0 w b) (hz : w.heap.size ≤ w1.heap.size) : ∀ b, b < wi.heap.size → (b < w.heap.size ∧ D b) → ¬ Plus S w0 w b := fun b _ hb e => h b hb.1 hb.2 e
end Go.Proofs.YtmenchnjajpkmaaGreatDoor.Wg
end

section
namespace Go.Proofs.YtmenchnjajpkmaaGreatDoor.Wm
open Go Go.RowKit Mem Codec CodecW Ww Rw Arr Ops Wt Reps Wg
set_option linter.unusedVariables false
set_option linter.unusedSimpArgs false

abbrev XMo := Nat × List UInt8
def RMo : (Nat → Prop) → World → List Value → XMo → Prop := (PairR RU64 (RDgs 32))
theorem rep_Mo : Rep 33 RMo := (rep_pair rep_u64 (rep_dgs 32 (by omega)))
def encMo (x : Nat × List UInt8) : List UInt8 := num x.1 8 ++ x.2
def badMo (_ : Nat × List UInt8) : Bool := false
theorem zeroMo (w : World) : (zeroValue 58).run Tryz.prog w = .ok (.agg (Value.int .u64 0 :: List.replicate 32 (Value.int .u8 0)).toArray) w := by kernel_rfl
theorem zeroMo_len : (Value.int .u64 0 :: List.replicate 32 (Value.int .u8 0)).length = 33 := rfl
set_option maxHeartbeats 8000000 in
set_option maxRecDepth 100000 in
theorem mainOut_calls (S D : Nat → Prop) (w0 w : World) (q : Nat) (m : List UInt8) (bad : Bool) (cs : List Value) (x : XMo) (hR : RMo D w cs x) (hD : ∀ b, b < w.heap.size → D b → ¬ Plus S w0 w b) (H : At S w0 w q m bad) (hlen : m.length + (encMo x).length + 9 ≤ 140737488355328) :
    Calls Tryz.prog 98 #[.pointer (some ⟨q, 0, none⟩), .agg cs.toArray] w fun e w' => e = .returned (.tuple #[]) ∧ At S w0 w' q (m ++ encMo x) (bad || badMo x) := by
  have hR1 := rep_Mo.lt hR
  obtain ⟨a0, b0, rfl, h0, h1⟩ := id hR1
  obtain ⟨k0, rfl⟩ := h0
  obtain ⟨k1, rfl⟩ := h1
  have KL1 := Lib.hid k1
  have HF0 := Lib.hid (fun (w' : World) (h : Blk w' w.heap.size ([Value.int .u64 (x.1 : Int)] ++ (x.2.map byt)) 58) => blk_one h ([]) (x.2.map byt) (Value.int .u64 (x.1 : Int)) (by simp) 0 (by simp [KL1.out]))
  have HF1 := Lib.hid (fun (w' : World) (h : Blk w' w.heap.size ([Value.int .u64 (x.1 : Int)] ++ (x.2.map byt)) 58) => blk_part h ([Value.int .u64 (x.1 : Int)]) (x.2.map byt) ([]) (by simp) 1 (by simp [KL1.out]))
  obtain ⟨ca, hca⟩ : ∃ ca, ([Value.int .u64 (x.1 : Int)] ++ (x.2.map byt)).toArray = ca := ⟨_, rfl⟩
  have HB := Lib.hid (show Blk (w.alloc (.cells ca 58)) w.heap.size ([Value.int .u64 (x.1 : Int)] ++ (x.2.map byt)) 58 from Blk.new w _ _ _ hca.symm)
  have HX := Lib.hid (fun w' m' b' => @At.box S w0 w w' q m bad (.cells ca 58) m' b' ([Value.int .u64 (x.1 : Int)] ++ (x.2.map byt)) 58 H)
  have H1 := Lib.hid (H.enter (.cells ca 58))
  have HL := Lib.hid (fun w' m' b' => @At.leave S w0 w w' q m bad (.cells ca 58) m' b' H)
  have HD := Lib.hid hD
  have hz : (w.alloc (.cells ca 58)).heap.size = w.heap.size + 1 := by simp
  simp only [encMo, List.length_append, num_length, List.length_cons, List.length_nil] at hlen
  rw [hca]
  clear H hR hR1 hca hD
  obtain ⟨T, hT⟩ : ∃ T, Plus S w0 w = T := ⟨_, rfl⟩
  rw [hT] at HL H1 HX HD
  clear hT
  go_enter Tryz.func98, Tryz.ntmps98
  go_upto_region 1 with fail
  have HB0 := Lib.hid (fun w' m' b' g => HX.out w' m' b' g HB.out)
  have B1 := Lib.hid HB.out
  clear HX HB
  generalize (w.alloc (.cells ca 58)) = w1 at *
  have HD2 := Lib.hid (show ∀ wi : World, ∀ b, b < wi.heap.size → (b < w.heap.size ∧ D b) → ¬ Plus T w1 wi b from fun wi b _ hb e => by
    rcases e with e | e
    · exact HD.out b hb.1 hb.2 e
    · have := e.1; omega)
  obtain ⟨p, h1, h2, h3⟩ := H1.out.drew.opened
  have HW := Lib.hid h2
  have HQ := Lib.hid h1
  have c0 := h1.cell (i := 0) rfl
  have cc : w1.cell? ⟨q, 0, none⟩ = some (.pointer (some ⟨p, 0, none⟩)) := c0
  have d0 := HF0.out _ B1.out
  clear h1 h2 h3
  go_wp2_with fail
  go_still_tail 6, (by kernel_rfl)
  change wpList _ _ _ _ _ w1.drew
  go_wp2_with fail
  refine (long_calls _ w1.drew p _ x.1 k0 HW.out (by (try simp only [List.length_append, num_length]); omega)).mono ?_
  rintro e w2 ⟨rfl, g1, g2⟩
  have g3 := H1.out.drew.shut HQ.out g1 g2
  have H2 := Lib.hid g3
  have B2 := Lib.hid (HB0.out _ _ _ H2.out)
  clear g1 g2 g3 HW HQ c0 cc d0 H1 B1
  have SZ := Lib.hid (Ww.szD (d := x.2) k1)
  go_wp2_with (first | (with_reducible refine wpList_load_mid rfl _ _ rfl w.heap.size 1 rfl (x.2.map byt) _ (HF1.out _ B2.out) Tryz.underlying24 rfl SZ.out ?_))
  refine (digest_calls _ _ w2 q _ _ x.2 KL1.out H2.out (by (try simp only [List.length_append, num_length]); have := KL1.out; omega)).mono ?_
  rintro e w3 ⟨rfl, g1⟩
  have H3 := Lib.hid g1
  have B3 := Lib.hid (HB0.out _ _ _ H3.out)
  clear g1 H2 B2 SZ
  have HFF := Lib.hid (HL.out _ _ _ H3.out)
  clear H3 B3 HL HB0
  go_wp2
  go_end0
  refine ⟨rfl, ?_⟩
  have := HFF.out
  simpa [encMo, badMo, List.append_assoc] using this
set_option maxHeartbeats 8000000 in
set_option maxRecDepth 100000 in
theorem listMo_calls (S D : Nat → Prop) (w0 w : World) (q : Nat) (m : List UInt8) (bad : Bool) (v : Value) (l : List _) (hA : Sl 33 RMo D w v l) (hD : ∀ b, b < w.heap.size → D b → ¬ Plus S w0 w b) (most : Int) (H : At S w0 w q m bad) (hlen : m.length + (var l.length).length + (l.flatMap encMo).length + 9 ≤ 140737488355328) :
    Calls Tryz.prog 97 #[.pointer (some ⟨q, 0, none⟩), v, .int .i64 most, .func (.func 98) #[] #[]] w fun e w' => e = .returned (.tuple #[]) ∧ At S w0 w' q (m ++ (var l.length ++ l.flatMap encMo)) (bad || !decide ((l.length : Int) ≤ most) || l.any badMo) := by
  obtain ⟨a, c, rfl, hc1, hc2, _⟩ := hA.form
  unfold maxLen at hc2
  have HL := Lib.hid (fun w' m' b' => @At.back S w0 w w' q m m' bad b' H)
  have H0 := Lib.hid H.enter0
  have HA := Lib.hid (hA.mono rep_Mo (E := fun b => b < w.heap.size ∧ D b) (fun b h1 h2 => ⟨h1, h2⟩))
  have HD := Lib.hid hD
  have hvl := var_len9 l.length
  obtain ⟨T, hT⟩ : ∃ T, Plus S w0 w = T := ⟨_, rfl⟩
  rw [hT] at HL H0 HD
  clear H hA hD hT
  obtain ⟨ok, hok⟩ : ∃ ok, decide ((l.length : Int) ≤ most) = ok := ⟨_, rfl⟩
  rw [hok]
  go_enter Tryz.func97, Tryz.ntmps97
  go_wp2_with fail
  try rw [hok]
  refine (must_calls _ _ w q m bad ok H0.out).mono ?_
  rintro e w1 ⟨rfl, g1⟩
  obtain ⟨p, k1, k2, k3⟩ := g1.opened
  have G1 := Lib.hid g1
  have HQ := Lib.hid k1
  have HW := Lib.hid k2
  have c0 := k1.cell (i := 0) rfl
  clear g1 k1 k2 k3
  go_wp2_with fail
  refine (var_calls _ w1 p m l.length (by omega) HW.out (by omega)).mono ?_
  rintro e w2 ⟨rfl, r1, r2⟩
  have G2 := Lib.hid (G1.out.shut HQ.out r1 r2)
  clear r1 r2 c0 HW HQ G1
  go_wp2
  go_loopw [26] (fun i' wx => ∃ i : Nat, i ≤ l.length ∧ i' = .int .i64 (i : Int) ∧ At T w wx q (m ++ (var l.length ++ (l.take i).flatMap encMo)) (bad || !ok || (l.take i).any badMo)) (fun i' _ => l.length - (intOf i').toNat)
  case atStart => exact ⟨0, Nat.zero_le _, rfl, by simpa using G2.out⟩
  case round =>
    obtain ⟨i, hi, rfl, hS⟩ := hrel
    have SX := Lib.hid hS
    clear hS
    by_cases hlt : i < l.length
    · obtain ⟨bi, oi, ci', cs, e0, _, r0, r1⟩ := (HA.out.fr rep_Mo SX.out.2.1 (fun b hb hd => HD.out b hb hd.2)).at i hlt
      cases e0
      obtain ⟨g, hg⟩ : ∃ g, l[i]'hlt = g := ⟨_, rfl⟩
      rw [hg] at r1
      have HR := Lib.hid r1
      have HCL := Lib.hid (rep_Mo.len r1)
      have HC1 := Lib.hid (rep_Mo.one r1)
      have HSZ := Lib.hid (show (Tryz.prog.info? 58).map (·.size) = some cs.length by rw [HCL.out]; kernel_rfl)
      have HRG := Lib.hid r0
      have hNX : (l.take (i + 1)).flatMap encMo = (l.take i).flatMap encMo ++ encMo g := by rw [List.take_add_one, List.getElem?_eq_getElem hlt, hg]; simp
      have hNB := Lib.hid (show (l.take (i + 1)).any badMo = ((l.take i).any badMo || badMo g) by rw [List.take_add_one, List.getElem?_eq_getElem hlt, hg]; simp)
      have hflen : ((l.take i).flatMap encMo).length + (encMo g).length ≤ (l.flatMap encMo).length := by
        have := congrArg List.length hNX
        rw [List.length_append] at this
        rw [← this]
        conv => rhs; rw [← List.take_append_drop (i + 1) l, List.flatMap_append, List.length_append]
        omega
      have HNX := Lib.hid hNX
      have hltI : (i : Int) < (l.length : Int) := by omega
      have h0I : (0 : Int) ≤ (i : Int) := by omega
      clear hg r0 r1 hNX
      go_upto_region 5 with (first
        | (with_reducible refine wpList_load_mid rfl _ _ rfl bi (oi + i * 33) rfl cs _ HRG.out Tryz.underlying58 rfl HSZ.out ?_)
        | ((with_reducible refine wpList_alloc rfl _ rfl _ (zeroMo _) (fun wa ka ca za => ?_)); have KA := Lib.hid ka; have CA := Lib.hid ca; clear ka ca)
        | ((with_reducible refine wpList_put rfl _ _ _ rfl wr.heap.size cs _ rfl rfl KA.out HSZ.out (zeroMo_len.trans HCL.out.symm) HC1.out (fun wb kb fb zb => ?_)); have KB := Lib.hid kb; have CB := Lib.hid (CA.out.trans (fb.below CA.out.size (fun k hk => by have : k = wr.heap.size := hk; omega))); have SB := Lib.hid (At.below SX.out CB.out); have HRB := Lib.hid (rep_Mo.below HR.out CB.out); clear kb fb))
      have HD2 := Lib.hid (show ∀ b, b < wb.heap.size → (b < w.heap.size ∧ D b) → ¬ Plus T w wb b from fun b _ h e => by
        rcases e with e | e
        · exact HD.out b h.1 h.2 e
        · have := e.1; omega)
      clear KA CA HRG CB SX HR
      generalize wr.heap.size = gb at *
      go_wp2_with (first | (with_reducible refine wpList_load_blk rfl _ _ rfl gb cs rfl KB.out _ Tryz.underlying58 rfl HSZ.out ?_))
      refine (mainOut_calls _ _ _ wb q _ _ cs g HRB.out HD2.out SB.out (by simp only [List.length_append]; omega)).mono ?_
      rintro e wc ⟨rfl, g3⟩
      have G3 := Lib.hid g3
      clear g3 SB KB
      go_wp2
      go_roundw
      case rel => exact ⟨i + 1, by omega, by go_num, by rw [HNX.out, hNB.out]; have := G3.out; simpa [List.append_assoc, Bool.or_assoc] using this⟩
      case measure => simp [intOf]; omega
    · obtain rfl : i = l.length := by omega
      have GF := Lib.hid (show At T w wr q (m ++ (var l.length ++ l.flatMap encMo)) (bad || !ok || l.any badMo) by have := SX.out; rwa [List.take_length] at this)
      clear SX
      go_wp2
      go_end0
      exact ⟨rfl, HL.out _ _ _ GF.out⟩
abbrev XMt := Nat × (List (Nat × List UInt8))
def RMt : (Nat → Prop) → World → List Value → XMt → Prop := (PairR RU64 (RSl 33 RMo))
theorem rep_Mt : Rep 2 RMt := (rep_pair rep_u64 (rep_rsl rep_Mo))
def encMt (x : XMt) : List UInt8 := num x.1 8 ++ (var x.2.length ++ x.2.flatMap encMo)
def badMt (x : XMt) : Bool := !decide ((x.2.length : Int) ≤ 16) || x.2.any badMo
set_option maxHeartbeats 8000000 in
set_option maxRecDepth 100000 in
theorem mainTx_to (S D : Nat → Prop) (w0 w : World) (q : Nat) (m : List UInt8) (bad : Bool) (cs : List Value) (x : XMt) (hR : RMt D w cs x) (hD : ∀ b, b < w.heap.size → D b → ¬ Plus S w0 w b) (H : At S w0 w q m bad) (hlen : m.length + (encMt x).length + 9 ≤ 140737488355328) :
    Calls Tryz.prog 73 #[.pointer (some ⟨q, 0, none⟩), .agg cs.toArray] w fun e w' => e = .returned (.tuple #[]) ∧ At S w0 w' q (m ++ encMt x) (bad || badMt x) := by
  have hR1 := rep_Mt.lt hR
  obtain ⟨a0, b0, rfl, h0, h1⟩ := id hR1
  obtain ⟨k0, rfl⟩ := h0
  obtain ⟨v1, rfl, g1⟩ := h1
  have G1 := Lib.hid (g1.below rep_Mo (below_alloc w (.cells ([Value.int .u64 (x.1 : Int)] ++ ([v1])).toArray 56)))
  have HF0 := Lib.hid (fun (w' : World) (h : Blk w' w.heap.size ([Value.int .u64 (x.1 : Int)] ++ ([v1])) 56) => blk_one h ([]) ([v1]) (Value.int .u64 (x.1 : Int)) (by simp) 0 (by rfl))
  have HF1 := Lib.hid (fun (w' : World) (h : Blk w' w.heap.size ([Value.int .u64 (x.1 : Int)] ++ ([v1])) 56) => blk_one h ([Value.int .u64 (x.1 : Int)]) ([]) (v1) (by simp) 1 (by rfl))
  obtain ⟨ca, hca⟩ : ∃ ca, ([Value.int .u64 (x.1 : Int)] ++ ([v1])).toArray = ca := ⟨_, rfl⟩
  have HB := Lib.hid (show Blk (w.alloc (.cells ca 56)) w.heap.size ([Value.int .u64 (x.1 : Int)] ++ ([v1])) 56 from Blk.new w _ _ _ hca.symm)
  have HX := Lib.hid (fun w' m' b' => @At.box S w0 w w' q m bad (.cells ca 56) m' b' ([Value.int .u64 (x.1 : Int)] ++ ([v1])) 56 H)
  have H1 := Lib.hid (H.enter (.cells ca 56))
  have HL := Lib.hid (fun w' m' b' => @At.leave S w0 w w' q m bad (.cells ca 56) m' b' H)
  have HD := Lib.hid hD
  have hz : (w.alloc (.cells ca 56)).heap.size = w.heap.size + 1 := by simp
  simp only [encMt, List.length_append, num_length, List.length_cons, List.length_nil] at hlen
  rw [hca] at G1 ⊢
  clear H hR hR1 hca hD g1
  obtain ⟨T, hT⟩ : ∃ T, Plus S w0 w = T := ⟨_, rfl⟩
  rw [hT] at HL H1 HX HD
  clear hT
  go_enter Tryz.func73, Tryz.ntmps73
  go_upto_region 1 with fail
  have HB0 := Lib.hid (fun w' m' b' g => HX.out w' m' b' g HB.out)
  have B1 := Lib.hid HB.out
  clear HX HB
  generalize (w.alloc (.cells ca 56)) = w1 at *
  have HD2 := Lib.hid (show ∀ wi : World, ∀ b, b < wi.heap.size → (b < w.heap.size ∧ D b) → ¬ Plus T w1 wi b from fun wi b _ hb e => by
    rcases e with e | e
    · exact HD.out b hb.1 hb.2 e
    · have := e.1; omega)
  obtain ⟨p, h1, h2, h3⟩ := H1.out.drew.opened
  have HW := Lib.hid h2
  have HQ := Lib.hid h1
  have c0 := h1.cell (i := 0) rfl
  have cc : w1.cell? ⟨q, 0, none⟩ = some (.pointer (some ⟨p, 0, none⟩)) := c0
  have d0 := HF0.out _ B1.out
  clear h1 h2 h3
  go_wp2_with fail
  go_still_tail 6, (by kernel_rfl)
  change wpList _ _ _ _ _ w1.drew
  go_wp2_with fail
  refine (long_calls _ w1.drew p _ x.1 k0 HW.out (by (try simp only [List.length_append, num_length]); omega)).mono ?_
  rintro e w2 ⟨rfl, g1, g2⟩
  have g3 := H1.out.drew.shut HQ.out g1 g2
  have H2 := Lib.hid g3
  have B2 := Lib.hid (HB0.out _ _ _ H2.out)
  clear g1 g2 g3 HW HQ c0 cc d0 H1 B1
  have d0 := HF1.out _ B2.out
  go_wp2_with fail
  refine (listMo_calls _ _ _ w2 q _ _ _ (x.2) (G1.out.fr rep_Mo H2.out.2.1 (fun b _ h => HD.out b h.1 h.2)) (HD2.out _) 16 H2.out (by (try simp only [List.length_append, num_length]); omega)).mono ?_
  rintro e w3 ⟨rfl, g1⟩
  have H3 := Lib.hid g1
  have B3 := Lib.hid (HB0.out _ _ _ H3.out)
  clear g1 d0 H2 B2
  have HFF := Lib.hid (HL.out _ _ _ H3.out)
  clear H3 B3 HL HB0
  go_wp2
  go_end0
  refine ⟨rfl, ?_⟩
  have := HFF.out
  simp only [List.append_assoc, Bool.or_assoc] at this
  exact this
end Go.Proofs.YtmenchnjajpkmaaGreatDoor.Wm
end

section
namespace Go.Proofs.YtmenchnjajpkmaaGreatDoor.Wm
open Go Go.RowKit Mem Codec CodecW Ww Rw Arr Ops Wt Reps Wg
set_option linter.unusedVariables false

set_option maxHeartbeats 8000000 in
set_option maxRecDepth 100000 in
theorem writtenMainTx_calls (w : World) (cs : List Value) (x : _) (hR : RMt Any w cs x) (hn : (encMt x).length + 9 ≤ 140737488355328) :
    Calls Tryz.prog 72 #[.agg cs.toArray, .func (.func 73) #[] #[]] w fun e w' => Wt.Told w.heap.size (encMt x) (badMt x) e w' ∧ Below w.heap.size w w' := by
  obtain ⟨ca, hca⟩ : ∃ ca, cs.toArray = ca := ⟨_, rfl⟩
  have HB := Lib.hid (show Blk (w.alloc (.cells ca 56)) w.heap.size cs 56 from Blk.new w _ _ _ hca.symm)
  have B1 := Lib.hid (below_alloc w (.cells ca 56))
  have hz : w.heap.size + 1 ≤ (w.alloc (.cells ca 56)).heap.size := by simp
  have HA := Lib.hid (rep_Mt.mono hR (E := fun k => k < w.heap.size) (fun k h1 _ => h1))
  have HSZ := Lib.hid (show (Tryz.prog.info? 56).map (·.size) = some cs.length by rw [rep_Mt.len hR]; kernel_rfl)
  obtain ⟨en, hen⟩ : ∃ en, encMt x = en := ⟨_, rfl⟩
  obtain ⟨bb, hbb⟩ : ∃ bb, badMt x = bb := ⟨_, rfl⟩
  have HLN := Lib.hid (show en.length ≤ 140737488355328 by rw [← hen]; omega)
  have HN := Lib.hid hn
  rw [hen, hbb]
  have HEN := Lib.hid hen
  have HBB := Lib.hid hbb
  have HCA := Lib.hid hca
  rw [hca]
  clear hR hn hen hbb hca
  go_enter Tryz.func72, Tryz.ntmps72
  go_upto_region 1 with fail
  generalize (w.alloc (.cells ca 56)) = w1 at *
  go_wp2_with fail
  refine (CodecW.new_calls w1).mono ?_
  rintro e w2 ⟨p, rfl, hp1, hp2, hp3⟩
  have hs2 := hp3.size
  have H2 := Lib.hid (Wh.made_at hp2)
  have HB2 := Lib.hid ((HB.out.below hp3).alloc (.cells #[.pointer (some ⟨p, 0, none⟩), .bool false] 166))
  have B2 := Lib.hid ((B1.out.trans (hp3.mono (by omega))).alloc (by have := B1.out.size; omega) (.cells #[.pointer (some ⟨p, 0, none⟩), .bool false] 166))
  have hs3 : w2.heap.size + 1 = (w2.alloc (.cells #[.pointer (some ⟨p, 0, none⟩), .bool false] 166)).heap.size := by simp
  have hpw : w.heap.size < p := by omega
  clear hp2 hp3 HB B1
  go_upto_region 2 with fail
  generalize (w2.alloc (.cells #[.pointer (some ⟨p, 0, none⟩), .bool false] 166)) = w3 at *
  have HA3 := Lib.hid (rep_Mt.below HA.out B2.out)
  go_wp2_with (first | (with_reducible refine wpList_load_blk rfl _ _ rfl w.heap.size cs rfl HB2.out _ Tryz.underlying56 rfl HSZ.out ?_))
  refine (mainTx_to _ (fun k => k < w.heap.size) _ w3 _ [] false cs x HA3.out (fun k _ h e => by rcases e with (e | e) | e <;> omega) H2.out (by have := HN.out; simp; omega)).mono ?_
  rintro e w4 ⟨rfl, g1⟩
  obtain ⟨⟨g2, p2, g3, g4⟩, g5, g6⟩ := id g1
  have hg5 := g5.size
  have c1 := g3.cell (i := 1) rfl
  have c0 := g3.cell (i := 0) rfl
  have HW := Lib.hid g4
  have B4 := Lib.hid (B2.out.trans (show Below w.heap.size w3 w4 from g5.below (by omega) (fun k h => by omega)))
  have hb4 := B4.out.size
  rw [List.nil_append, Bool.false_or] at *
  clear g1 g2 g3 g4 g5 g6 H2 HB2 B2 HA HA3
  rw [HEN.out] at HW
  rw [HBB.out] at c1
  clear HEN HBB HN
  cases bb
  · go_wp2_with fail
    refine (CodecR.bytes_calls _ w4 p2 _ HW.out HLN.out).mono ?_
    rintro e w5 ⟨a, c, rfl, g1, g2⟩
    have G1 := Lib.hid g1
    have BF := Lib.hid (B4.out.trans (g2.mono hb4))
    clear g1 g2 c0 c1 HW B4
    go_wp2
    go_ret2
    exact ⟨⟨a, c, rfl, G1.out.mono hb4⟩, BF.out⟩
  · go_wp2
    go_ret2
    exact ⟨⟨none, 0, rfl, OwnB.nil _ _ _⟩, B4.out⟩
set_option maxHeartbeats 4000000 in
set_option maxRecDepth 100000 in
theorem MainTx_told (w : World) (cs : List Value) (x : _) (hR : RMt Any w cs x) (hn : (encMt x).length + 9 ≤ 140737488355328) :
    Calls Tryz.prog 48 #[.agg cs.toArray] w fun e w' => Wt.Told w.heap.size (encMt x) (badMt x) e w' ∧ Below w.heap.size w w' := by
  obtain ⟨ca, hca⟩ : ∃ ca, cs.toArray = ca := ⟨_, rfl⟩
  have HB := Lib.hid (show Blk (w.alloc (.cells ca 56)) w.heap.size cs 56 from Blk.new w _ _ _ hca.symm)
  have B1 := Lib.hid (below_alloc w (.cells ca 56))
  have hz : w.heap.size + 1 = (w.alloc (.cells ca 56)).heap.size := by simp
  have HA := Lib.hid (rep_Mt.below hR B1.out)
  have HSZ := Lib.hid (show (Tryz.prog.info? 56).map (·.size) = some cs.length by rw [rep_Mt.len hR]; kernel_rfl)
  have HCA := Lib.hid hca
  rw [hca]
  clear hR hca
  go_enter Tryz.func48, Tryz.ntmps48
  go_upto_region 1 with fail
  generalize (w.alloc (.cells ca 56)) = w1 at *
  go_wp2_with (first | (with_reducible refine wpList_load_blk rfl _ _ rfl w.heap.size cs rfl HB.out _ Tryz.underlying56 rfl HSZ.out ?_))
  refine (writtenMainTx_calls w1 cs x HA.out hn).mono ?_
  rintro e w2 ⟨⟨a, c, rfl, g1⟩, g2⟩
  have G1 := Lib.hid g1
  have G2 := Lib.hid (B1.out.trans (g2.mono (by omega)))
  clear g1 g2 B1 HB HA
  go_wp2
  go_ret2
  exact ⟨⟨a, c, rfl, G1.out.mono (by omega)⟩, G2.out⟩
end Go.Proofs.YtmenchnjajpkmaaGreatDoor.Wm
end

section
namespace Go.Proofs.YtmenchnjajpkmaaGreatDoor.Ws
open Go Go.RowKit Mem Codec CodecW Ww Rw Arr Ops Wt Reps Wg
set_option linter.unusedVariables false

/-- a truth's byte -/
def tb (is : Bool) : UInt8 := if is then 1 else 0
end Go.Proofs.YtmenchnjajpkmaaGreatDoor.Ws
end

section
namespace Go.Proofs.YtmenchnjajpkmaaGreatDoor.Wm
open Go Go.RowKit Mem Codec CodecW Ww Rw Arr Ops Wt Reps Wg Ws
set_option linter.unusedVariables false
set_option linter.unusedSimpArgs false

set_option maxHeartbeats 8000000 in
set_option maxRecDepth 100000 in
theorem rmainTx_to (S D : Nat → Prop) (w0 w : World) (q : Nat) (m : List UInt8) (bad : Bool) (cs : List Value) (x : XMt) (hR : RMt D w cs x) (hD : ∀ b, b < w.heap.size → D b → ¬ Plus S w0 w b) (H : RAt S w0 w q m bad) (hlen : m.length + (encMt x).length + 9 ≤ 140737488355328) :
    Calls Tryz.prog 36 #[.pointer (some ⟨q, 0, none⟩), .agg cs.toArray] w fun e w' => e = .returned (.tuple #[]) ∧ RAt S w0 w' q (m ++ encMt x) (bad || badMt x) := by
  have hR1 := rep_Mt.lt hR
  obtain ⟨a0, b0, rfl, h0, h1⟩ := id hR1
  obtain ⟨k0, rfl⟩ := h0
  obtain ⟨v1, rfl, g1⟩ := h1
  have G1 := Lib.hid (g1.below rep_Mo (below_alloc w (.cells ([Value.int .u64 (x.1 : Int)] ++ ([v1])).toArray 56)))
  have HF0 := Lib.hid (fun (w' : World) (h : Blk w' w.heap.size ([Value.int .u64 (x.1 : Int)] ++ ([v1])) 56) => blk_one h ([]) ([v1]) (Value.int .u64 (x.1 : Int)) (by simp) 0 (by rfl))
  have HF1 := Lib.hid (fun (w' : World) (h : Blk w' w.heap.size ([Value.int .u64 (x.1 : Int)] ++ ([v1])) 56) => blk_one h ([Value.int .u64 (x.1 : Int)]) ([]) (v1) (by simp) 1 (by rfl))
  obtain ⟨ca, hca⟩ : ∃ ca, ([Value.int .u64 (x.1 : Int)] ++ ([v1])).toArray = ca := ⟨_, rfl⟩
  have HB := Lib.hid (show Blk (w.alloc (.cells ca 56)) w.heap.size ([Value.int .u64 (x.1 : Int)] ++ ([v1])) 56 from Blk.new w _ _ _ hca.symm)
  have HX := Lib.hid (fun w' m' b' => @Rw.RAt.box S w0 w w' q m bad (.cells ca 56) m' b' ([Value.int .u64 (x.1 : Int)] ++ ([v1])) 56 H)
  have H1 := Lib.hid (H.enter (.cells ca 56))
  have HL := Lib.hid (fun w' m' b' => @Rw.RAt.leave S w0 w w' q m bad (.cells ca 56) m' b' H)
  have HD := Lib.hid hD
  have hz : (w.alloc (.cells ca 56)).heap.size = w.heap.size + 1 := by simp
  simp only [encMt, List.length_append, num_length, List.length_cons, List.length_nil] at hlen
  rw [hca] at G1 ⊢
  clear H hR hR1 hca hD g1
  obtain ⟨T, hT⟩ : ∃ T, Plus S w0 w = T := ⟨_, rfl⟩
  rw [hT] at HL H1 HX HD
  clear hT
  go_enter Tryz.func36, Tryz.ntmps36
  go_upto_region 1 with fail
  have HB0 := Lib.hid (fun w' m' b' g => HX.out w' m' b' g HB.out)
  have B1 := Lib.hid HB.out
  clear HX HB
  generalize (w.alloc (.cells ca 56)) = w1 at *
  have HD2 := Lib.hid (show ∀ wi : World, ∀ b, b < wi.heap.size → (b < w.heap.size ∧ D b) → ¬ Plus T w1 wi b from fun wi b _ hb e => by
    rcases e with e | e
    · exact HD.out b hb.1 hb.2 e
    · have := e.1; omega)
  have d0 := HF0.out _ B1.out
  go_wp2_with fail
  refine (Rw.num_to _ _ w1 q _ _ (x.1) 8 k0 (by omega) H1.out (by (try simp only [List.length_append, num_length, List.length_cons, List.length_nil]); omega)).mono ?_
  rintro e w2 ⟨rfl, g1⟩
  have H2 := Lib.hid g1
  have B2 := Lib.hid (HB0.out _ _ _ H2.out)
  clear g1 d0 H1 B1
  have d0 := HF1.out _ B2.out
  obtain ⟨la, lc, hlv, hlc, hlm, _⟩ := ((G1.out.fr rep_Mo H2.out.2.1 (fun b _ h => HD.out b h.1 h.2))).form
  unfold maxLen at hlm
  rw [hlv] at d0
  have HLV := Lib.hid hlv
  have hvl := var_len9 (x.2).length
  clear hlv
  go_wp2_with fail
  refine (many_calls _ _ w2 q _ _ (x.2).length 16 H2.out (by omega) (by (try simp only [List.length_append, num_length, List.length_cons, List.length_nil]); omega)).mono ?_
  rintro e w3 ⟨rfl, g1⟩
  have H3 := Lib.hid g1
  have B3 := Lib.hid (HB0.out _ _ _ H3.out)
  clear g1 d0 H2 B2
  go_wp2
  go_loopw [4] (fun i' wx => ∃ i : Nat, i ≤ (x.2).length ∧ i' = .int .i64 (i : Int) ∧ RAt T w1 wx q ((m ++ num (x.1) 8 ++ var (x.2).length) ++ ((x.2).take i).flatMap encMo) ((bad || !decide (((x.2).length : Int) ≤ 16)) || ((x.2).take i).any badMo)) (fun i' _ => (x.2).length - (intOf i').toNat)
  case atStart => exact ⟨0, Nat.zero_le _, rfl, by simpa [List.append_assoc] using H3.out⟩
  case round =>
    obtain ⟨i, hi, rfl, hS⟩ := hrel
    have SX := Lib.hid hS
    have BX := Lib.hid (HB0.out _ _ _ hS)
    clear hS
    have cx := HF1.out _ BX.out
    rw [HLV.out] at cx
    by_cases hlt : i < (x.2).length
    · have hAt := (G1.out.fr rep_Mo SX.out.2.1 (fun b _ h => HD.out b h.1 h.2)).at i hlt
      rw [HLV.out] at hAt
      obtain ⟨bi, oi, ci', cs, e0, _, r0, r1⟩ := hAt
      cases e0
      obtain ⟨g, hg⟩ : ∃ g, (x.2)[i]'hlt = g := ⟨_, rfl⟩
      rw [hg] at r1
      have HGE := Lib.hid hg
      have hNX : ((x.2).take (i + 1)).flatMap encMo = ((x.2).take i).flatMap encMo ++ encMo g := by rw [List.take_add_one, List.getElem?_eq_getElem hlt, hg]; simp
      have HNB := Lib.hid (show ((x.2).take (i + 1)).any badMo = (((x.2).take i).any badMo || badMo g) by rw [List.take_add_one, List.getElem?_eq_getElem hlt, hg]; simp)
      have hflen : (((x.2).take i).flatMap encMo).length + (encMo g).length ≤ ((x.2).flatMap encMo).length := by
        have := congrArg List.length hNX
        rw [List.length_append] at this
        rw [← this]
        conv => rhs; rw [← List.take_append_drop (i + 1) (x.2), List.flatMap_append, List.length_append]
        omega
      have HNX := Lib.hid hNX
      have hltI : (i : Int) < ((x.2).length : Int) := by omega
      have h0I : (0 : Int) ≤ (i : Int) := by omega
      clear hg hNX
      obtain ⟨e1, e2, rfl, ⟨k0, rfl⟩, k1, rfl⟩ := id r1
      have hel : (encMo g).length = 8 + g.2.length := by simp [encMo, num_length]
      have d0 : wr.cell? ⟨bi, oi + i * 33, none⟩ = some (.int .u64 (g.1 : Int)) := r0 0 _ rfl
      have SZ := Lib.hid (Ww.szD (d := g.2) k1)
      have K1 := Lib.hid k1
      have K0 := Lib.hid k0
      clear r0 r1 k1 k0
      go_wp2_with fail
      refine (Rw.num_to _ _ wr q _ _ g.1 8 K0.out (by omega) SX.out (by (try simp only [List.length_append, num_length]); omega)).mono ?_
      rintro e wb ⟨rfl, g1⟩
      have hAt := (G1.out.fr rep_Mo g1.2.1 (fun b _ h => HD.out b h.1 h.2)).at i hlt
      rw [HLV.out] at hAt
      obtain ⟨bi2, oi2, ci2, cs2, e0, _, r0, r1⟩ := hAt
      cases e0
      rw [HGE.out] at r1
      obtain ⟨e1, e2, rfl, ⟨_, rfl⟩, _, rfl⟩ := id r1
      have HRG := Lib.hid (show wb.rangeAt bi (oi + i * 33 + 1) (g.2.map byt) from fun j v hv => by have := r0 (j + 1) v (by simpa using hv); rwa [show oi + i * 33 + (j + 1) = oi + i * 33 + 1 + j by omega] at this)
      have S2 := Lib.hid g1
      have BX2 := Lib.hid (HB0.out _ _ _ g1)
      have cy := HF1.out _ BX2.out
      rw [HLV.out] at cy
      clear g1 r0 r1 d0 SX BX cx
      go_wp2_with (first | (with_reducible refine wpList_load_mid rfl _ _ rfl bi (oi + i * 33 + 1) rfl (g.2.map byt) _ HRG.out Tryz.underlying24 rfl SZ.out ?_))
      refine (Rw.digest_to _ _ wb q _ _ g.2 K1.out S2.out (by (try simp only [List.length_append, num_length]); have := K1.out; omega)).mono ?_
      rintro e wc ⟨rfl, g3⟩
      have G3 := Lib.hid (show RAt T w1 wc q (((m ++ num x.1 8 ++ var x.2.length) ++ (x.2.take i).flatMap encMo) ++ encMo g) (((bad || !decide ((x.2.length : Int) ≤ 16)) || (x.2.take i).any badMo) || badMo g) by have h := g3; simpa [encMo, badMo, List.append_assoc] using h)
      clear g3 S2 BX2 cy HRG SZ
      go_wp2
      go_roundw
      case rel => exact ⟨i + 1, by omega, by go_num, by rw [HNX.out, HNB.out]; have := G3.out; simpa [List.append_assoc, Bool.or_assoc] using this⟩
      case measure => simp [intOf]; omega
    · obtain rfl : i = (x.2).length := by omega
      have H4 := Lib.hid (show RAt T w1 wr q ((m ++ num (x.1) 8 ++ var (x.2).length) ++ (x.2).flatMap encMo) ((bad || !decide (((x.2).length : Int) ≤ 16)) || (x.2).any badMo) by have := SX.out; rwa [List.take_length] at this)
      have B4 := Lib.hid (HB0.out _ _ _ H4.out)
      clear SX HLV BX
      have HFF := Lib.hid (HL.out _ _ _ H4.out)
      clear H4 B4 HL HB0
      go_wp2
      go_end0
      refine ⟨rfl, ?_⟩
      have := HFF.out
      simp only [List.append_assoc, Bool.or_assoc] at this
      exact this
set_option maxHeartbeats 4000000 in
set_option maxRecDepth 100000 in
theorem rMainTx_told (w : World) (cs : List Value) (x : _) (hR : RMt Any w cs x) (hn : (encMt x).length + 9 ≤ 140737488355328) :
    Calls Tryz.prog 11 #[.agg cs.toArray] w fun e w' => Wt.Told 0 (encMt x) (badMt x) e w' ∧ Below w.heap.size w w' := by
  obtain ⟨ca, hca⟩ : ∃ ca, cs.toArray = ca := ⟨_, rfl⟩
  have HB := Lib.hid (show Blk (w.alloc (.cells ca 56)) w.heap.size cs 56 from Blk.new w _ _ _ hca.symm)
  have B1 := Lib.hid (below_alloc w (.cells ca 56))
  have hz : w.heap.size + 1 ≤ (w.alloc (.cells ca 56)).heap.size := by simp
  have HA := Lib.hid (rep_Mt.mono hR (E := fun k => k < w.heap.size) (fun k h1 _ => h1))
  have HSZ := Lib.hid (show (Tryz.prog.info? 56).map (·.size) = some cs.length by rw [rep_Mt.len hR]; kernel_rfl)
  rw [hca]
  clear hR hca
  go_enter Tryz.func11, Tryz.ntmps11
  go_upto_region 1 with fail
  generalize (w.alloc (.cells ca 56)) = w1 at *
  have H2 := Lib.hid (Rw.RAt.start (RfW.RefIs.new w1) (fun k h => by simp; omega))
  have HB2 := Lib.hid (HB.out.alloc (.cells #[.slice none 0 0, .bool false] 91))
  have B2 := Lib.hid (B1.out.alloc (by omega) (.cells #[.slice none 0 0, .bool false] 91))
  have hs3 : w1.heap.size + 1 ≤ (w1.alloc (.cells #[.slice none 0 0, .bool false] 91)).heap.size := by simp
  clear HB B1
  go_upto_region 2 with fail
  generalize (w1.alloc (.cells #[.slice none 0 0, .bool false] 91)) = w3 at *
  have HA3 := Lib.hid (rep_Mt.below HA.out B2.out)
  go_wp2_with (first | (with_reducible refine wpList_load_blk rfl _ _ rfl w.heap.size cs rfl HB2.out _ Tryz.underlying56 rfl HSZ.out ?_))
  refine (rmainTx_to _ (fun k => k < w.heap.size) _ w3 _ [] false cs x HA3.out (fun k _ h e => by rcases e with e | e <;> omega) H2.out (by simp; omega)).mono ?_
  rintro e w4 ⟨rfl, g1⟩
  rw [List.nil_append, Bool.false_or] at g1
  have G1 := Lib.hid g1.1
  have BF := Lib.hid (B2.out.trans (show Below w.heap.size w3 w4 from g1.2.1.below (by omega) (fun k h => by omega)))
  clear g1 H2 B2 HB2
  go_wp2_with fail
  refine (done_calls _ w4 _ _ _ G1.out).mono ?_
  rintro e w5 ⟨⟨a', c', rfl, o5⟩, rfl⟩
  have O5 := Lib.hid o5
  clear o5 G1
  go_wp2
  go_ret2
  exact ⟨⟨a', c', rfl, O5.out⟩, BF.out⟩
end Go.Proofs.YtmenchnjajpkmaaGreatDoor.Wm
end

section
namespace Go.Proofs.YtmenchnjajpkmaaGreatDoor.Codec
theorem Rd.take_ok {r : Rd} {n : Nat} (h : (r.take n).1.e = 0) : r.e = 0 ∧ r.rest = (r.take n).2 ++ (r.take n).1.rest ∧ (r.take n).2.length = n := by
  unfold Rd.take at *
  by_cases he : r.e = 0
  · by_cases hl : r.rest.length < n
    · simp [he, hl] at h
    · simp [he, hl]
      omega
  · simp [he] at h
theorem Rd.num_ok {r : Rd} {k : Nat} (hk : k ≤ 8) (h : (r.num k).1.e = 0) : r.e = 0 ∧ r.rest = Codec.num (r.num k).2 k ++ (r.num k).1.rest ∧ (r.num k).2 < 256 ^ k := by
  obtain ⟨h1, h2, h3⟩ := Rd.take_ok h
  have h4 := num_said (r.take k).2 (by omega)
  have h5 := said_bound (r.take k).2 (by omega)
  rw [h3] at h4 h5
  refine ⟨h1, ?_, h5⟩
  show _ = Codec.num (said (r.take k).2) k ++ (r.take k).1.rest
  rw [h4]; exact h2
theorem Rd.more_e {s : Rd} {c : Nat} (h : (s.more c).1.e = 0) : s.e = 0 := by
  unfold Rd.more at h
  split at h
  · exact (Rd.num_ok (by omega) h).1
  · split at h
    · exact (Rd.num_ok (by omega) h).1
    · split at h
      · exact (Rd.num_ok (by omega) h).1
      · exact h
theorem Rd.var_ok {r : Rd} {most : Nat} (h : (r.var most).1.e = 0) : r.e = 0 ∧ r.rest = Codec.var (r.var most).2 ++ (r.var most).1.rest ∧ (r.var most).2 ≤ most := by
  have hv : r.var most = (let m := (r.num 1).1.more (r.num 1).2; if m.1.e ≠ 0 then (⟨r.rest, m.1.e⟩, 0) else if m.2.1 < m.2.2 then (⟨r.rest, 111⟩, 0) else if most < m.2.1 then (⟨r.rest, 112⟩, 0) else (m.1, m.2.1)) := rfl
  dsimp only at hv
  by_cases h1 : ((r.num 1).1.more (r.num 1).2).1.e = 0
  · by_cases h2 : ((r.num 1).1.more (r.num 1).2).2.1 < ((r.num 1).1.more (r.num 1).2).2.2
    · rw [hv, if_neg (by simpa using h1), if_pos h2] at h; simp at h
    · by_cases h3 : most < ((r.num 1).1.more (r.num 1).2).2.1
      · rw [hv, if_neg (by simpa using h1), if_neg h2, if_pos h3] at h; simp at h
      · rw [hv, if_neg (by simpa using h1), if_neg h2, if_neg h3]
        obtain ⟨k1, k2, k3⟩ := Rd.num_ok (k := 1) (by omega) (Rd.more_e h1)
        refine ⟨k1, ?_, by simpa using h3⟩
        generalize (r.num 1).1 = s at *
        generalize (r.num 1).2 = c at *
        rw [k2]
        have e1 : Codec.num c 1 = [UInt8.ofNat c] := by simp [Codec.num]
        rw [e1]
        clear hv h k1 k2 e1 h3
        unfold Rd.more at *
        by_cases c1 : c = 253
        · simp only [if_pos c1] at *
          obtain ⟨_, j2, j3⟩ := Rd.num_ok (k := 2) (by omega) h1
          rw [c1, j2]
          have : Codec.var (s.num 2).2 = 253 :: Codec.num (s.num 2).2 2 := by unfold Codec.var; rw [if_neg (by omega), if_pos (by omega)]
          rw [this]; simp
        · simp only [if_neg c1] at *
          by_cases c2 : c = 254
          · simp only [if_pos c2] at *
            obtain ⟨_, j2, j3⟩ := Rd.num_ok (k := 4) (by omega) h1
            rw [c2, j2]
            have : Codec.var (s.num 4).2 = 254 :: Codec.num (s.num 4).2 4 := by unfold Codec.var; rw [if_neg (by omega), if_neg (by omega), if_pos (by omega)]
            rw [this]; simp
          · simp only [if_neg c2] at *
            by_cases c3 : c = 255
            · simp only [if_pos c3] at *
              obtain ⟨_, j2, j3⟩ := Rd.num_ok (k := 8) (by omega) h1
              rw [c3, j2]
              have : Codec.var (s.num 8).2 = 255 :: Codec.num (s.num 8).2 8 := by unfold Codec.var; rw [if_neg (by omega), if_neg (by omega), if_neg (by omega)]
              rw [this]; simp
            · simp only [if_neg c3] at *
              have : Codec.var c = [UInt8.ofNat c] := by unfold Codec.var; rw [if_pos (by omega)]
              rw [this]
  · rw [hv, if_pos h1] at h; exact absurd h h1
theorem Rd.var_bad {r : Rd} {most : Nat} (h : (r.var most).1.e ≠ 0) : (r.var most).2 = 0 ∧ (r.var most).1.rest = r.rest := by
  have hv : r.var most = (let m := (r.num 1).1.more (r.num 1).2; if m.1.e ≠ 0 then (⟨r.rest, m.1.e⟩, 0) else if m.2.1 < m.2.2 then (⟨r.rest, 111⟩, 0) else if most < m.2.1 then (⟨r.rest, 112⟩, 0) else (m.1, m.2.1)) := rfl
  dsimp only at hv
  by_cases h1 : ((r.num 1).1.more (r.num 1).2).1.e = 0
  · by_cases h2 : ((r.num 1).1.more (r.num 1).2).2.1 < ((r.num 1).1.more (r.num 1).2).2.2
    · rw [hv, if_neg (by simpa using h1), if_pos h2]; exact ⟨rfl, rfl⟩
    · by_cases h3 : most < ((r.num 1).1.more (r.num 1).2).2.1
      · rw [hv, if_neg (by simpa using h1), if_neg h2, if_pos h3]; exact ⟨rfl, rfl⟩
      · rw [hv, if_neg (by simpa using h1), if_neg h2, if_neg h3] at h; exact absurd h1 h
  · rw [hv, if_pos h1]; exact ⟨rfl, rfl⟩
theorem Rd.num_zero {r : Rd} {k : Nat} (h : (r.num k).2 ≠ 0) : (r.num k).1.e = 0 := by
  unfold Rd.num at *
  dsimp only at *
  unfold Rd.take at *
  by_cases he : r.e = 0
  · by_cases hl : r.rest.length < k
    · simp [he, hl, said] at h
    · simp [he, hl]
  · simp [he, said] at h
/-- how much is read, against how long the number is -/
theorem Rd.more_len_eq {r : Rd} (h : ((r.num 1).1.more (r.num 1).2).1.e = 0) :
    (vlen ((r.num 1).1.more (r.num 1).2).2.1 ≠ r.rest.length - ((r.num 1).1.more (r.num 1).2).1.rest.length) = (((r.num 1).1.more (r.num 1).2).2.1 < ((r.num 1).1.more (r.num 1).2).2.2) := by
  obtain ⟨k1, k2, k3⟩ := Rd.num_ok (k := 1) (by omega) (Rd.more_e h)
  have hl := congrArg List.length k2
  rw [List.length_append, num_length] at hl
  generalize (r.num 1).1 = s at *
  generalize (r.num 1).2 = c at *
  clear k1 k2
  unfold Rd.more at *
  by_cases c1 : c = 253
  · simp only [if_pos c1] at *
    obtain ⟨_, j2, j3⟩ := Rd.num_ok (k := 2) (by omega) h
    have hl2 := congrArg List.length j2
    rw [List.length_append, num_length] at hl2
    unfold vlen
    apply propext
    constructor
    · intro hh; by_cases h1 : (s.num 2).2 < 253
      · exact h1
      · rw [if_neg h1, if_pos (by omega)] at hh; omega
    · intro hh; rw [if_pos hh]; omega
  · simp only [if_neg c1] at *
    by_cases c2 : c = 254
    · simp only [if_pos c2] at *
      obtain ⟨_, j2, j3⟩ := Rd.num_ok (k := 4) (by omega) h
      have hl2 := congrArg List.length j2
      rw [List.length_append, num_length] at hl2
      unfold vlen
      apply propext
      constructor
      · intro hh; by_cases h1 : (s.num 4).2 < 65536
        · exact h1
        · rw [if_neg (by omega), if_neg h1, if_pos (by omega)] at hh; omega
      · intro hh; by_cases h1 : (s.num 4).2 < 253
        · rw [if_pos h1]; omega
        · rw [if_neg h1, if_pos hh]; omega
    · simp only [if_neg c2] at *
      by_cases c3 : c = 255
      · simp only [if_pos c3] at *
        obtain ⟨_, j2, j3⟩ := Rd.num_ok (k := 8) (by omega) h
        have hl2 := congrArg List.length j2
        rw [List.length_append, num_length] at hl2
        unfold vlen
        apply propext
        constructor
        · intro hh; by_cases h1 : (s.num 8).2 < 4294967296
          · exact h1
          · rw [if_neg (by omega), if_neg (by omega), if_neg h1] at hh; omega
        · intro hh; by_cases h1 : (s.num 8).2 < 253
          · rw [if_pos h1]; omega
          · by_cases h2 : (s.num 8).2 < 65536
            · rw [if_neg h1, if_pos h2]; omega
            · rw [if_neg h1, if_neg h2, if_pos hh]; omega
      · simp only [if_neg c3] at *
        unfold vlen
        rw [if_pos (by omega)]
        apply propext
        constructor
        · intro hh; omega
        · intro hh; omega
/-- a number as the reference reads it -/
def Rd.rvar (r : Rd) (most : Nat) (neg : Bool) : Rd × Nat :=
  let m := (r.num 1).1.more (r.num 1).2
  if m.1.e ≠ 0 then (⟨r.rest, m.1.e⟩, 0) else if m.2.1 < m.2.2 then (⟨r.rest, 111⟩, 0) else if neg = true ∨ most < m.2.1 then (⟨r.rest, 112⟩, 0) else (m.1, m.2.1)
theorem Rd.rvar_false (r : Rd) (most : Nat) : r.rvar most false = r.var most := by
  unfold Rd.rvar Rd.var
  simp
theorem Rd.rvar_room (r : Rd) (most : Int) (m2 : Nat) (h : 0 ≤ most → (m2 : Int) = most) : r.rvar m2 (decide (most < 0)) = r.room most := by
  by_cases hn : most < 0
  · rw [decide_eq_true hn]
    unfold Rd.room
    rw [show most.toNat = 0 by omega]
    unfold Rd.rvar Rd.var
    dsimp only
    generalize (r.num 1).1.more (r.num 1).2 = m
    obtain ⟨s, n, l⟩ := m
    dsimp only
    by_cases h1 : s.e = 0
    · by_cases h2 : n < l
      · simp [h1, h2]
      · by_cases h3 : 0 < n
        · simp [h1, h2, h3]
        · simp [h1, h2, h3, hn]
    · simp [h1]
  · rw [decide_eq_false hn, Rd.rvar_false]
    unfold Rd.room
    rw [show most.toNat = m2 by have := h (by omega); omega]
    simp [hn]
end Go.Proofs.YtmenchnjajpkmaaGreatDoor.Codec
end
