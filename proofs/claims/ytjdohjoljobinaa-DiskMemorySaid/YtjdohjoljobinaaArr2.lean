/- Words for slices whose elements are written: two elements change places; a slice is turned round. Program-independent; no condition. -/
import Derived.Test.YtjdohjoljobinaaArr
import Derived.Great.FillDense
namespace Go.Proofs.Ytjdohjoljobinaa.Arr
open Go Go.RowKit Mem Row

/-- elements of k cells each that lie in block b from off on and may be written -/
def Wr (k : Nat) (w : World) (b off : Nat) (xs : List (List Value)) : Prop := (∀ x ∈ xs, x.length = k) ∧ ∀ i (h : i < xs.length), w.rangeAt b (off + i * k) (xs[i]'h) ∧ w.there b (off + i * k) k
section
variable {k : Nat} {w w' : World} {b off : Nat} {xs : List (List Value)}
theorem Wr.drew (h : Wr k w b off xs) : Wr k w.drew b off xs := ⟨h.1, fun i hi => ⟨(World.rangeAt_drew _ _ _ _).2 (h.2 i hi).1, (World.there_drew _ _ _ _).2 (h.2 i hi).2⟩⟩
theorem Wr.arr {D : Nat → Prop} (h : Wr k w b off xs) (hd : D b) {cap : Nat} (hc : xs.length ≤ cap) (hm : cap ≤ maxLen) : Arr k D w (.slice (some ⟨b, off, none⟩) xs.length cap) xs :=
  ⟨_, cap, rfl, ⟨hc, hm, fun h => by cases h⟩, h.1, .inr ⟨b, off, rfl, hd, fun i hi => (h.2 i hi).1⟩⟩
theorem mul_apart {i j k : Nat} (h : i < j) : i * k + k ≤ j * k := by have := Nat.mul_le_mul_right k h; rw [Nat.succ_mul] at this; exact this
/-- one element is stored -/
theorem Wr.set (h : Wr k w b off xs) (i : Nat) (hi : i < xs.length) (x : List Value) (hx : x.length = k) : Wr k (w.setCells b (off + i * k) x) b off (xs.set i x) := by
  refine ⟨fun y hy => ?_, fun j hj => ⟨?_, World.there_setCells (h.2 j (by simpa using hj)).2 _ _ _⟩⟩
  · rcases List.mem_or_eq_of_mem_set hy with hy | hy
    · exact h.1 y hy
    · rw [hy]; exact hx
  · rw [List.length_set] at hj
    rw [List.getElem_set]
    by_cases e : i = j
    · subst e
      rw [if_pos rfl]
      exact World.rangeAt_setCells_same w b _ x (by rw [hx]; exact (h.2 i hi).2)
    · rw [if_neg e]
      refine World.rangeAt_setCells_apart (h.2 j hj).1 _ _ _ (.inr ?_)
      rw [h.1 _ (List.getElem_mem hj), hx]
      rcases Nat.lt_or_gt_of_ne e with h1 | h1
      · right; have := mul_apart (k := k) h1; omega
      · left; have := mul_apart (k := k) h1; omega
theorem Fr.setCells {S : Nat → Prop} {a w : World} (h : Fr S a w) {b : Nat} (hb : a.heap.size ≤ b ∨ S b) : ∀ (o : Nat) (vs : List Value), Fr S a (w.setCells b o vs) := by
  intro o vs
  induction vs generalizing w o with
  | nil => exact h
  | cons v r ih => exact ih (h.setCell (p := ⟨b, o, none⟩) hb v) (o + 1)
theorem OwnV.wr {base : Nat} {e : TypeId} {v : Value} (h : OwnA k base e w v xs) (hx : xs ≠ []) : ∃ g cap, v = .slice (some ⟨g, 0, none⟩) xs.length cap ∧ xs.length ≤ cap ∧ cap ≤ maxLen ∧ base ≤ g ∧ g < w.heap.size ∧ Wr k w g 0 xs := by
  obtain ⟨a, cap, h1, h2, h3, _⟩ := h.form
  obtain ⟨g, cap', e1, hg, hlt, hc⟩ := h.1.at (List.length_pos_iff.2 hx)
  have har := h.arr
  rw [h1] at e1
  cases e1
  refine ⟨g, cap, h1, h2, h3, hg, hlt, h.2, fun i hi => ?_⟩
  obtain ⟨b, off, cap2, e2, _, hr⟩ := har.at i hi
  rw [h1] at e2
  cases e2
  refine ⟨hr, fun j hj => ⟨hr.isSome j (by rw [h.2 _ (List.getElem_mem hi)]; exact hj), ?_⟩⟩
  subst h1
  exact h.1.frozenAt _
end
theorem dg_flat (m : List UInt8) : (m.map byt).toArray = ([Value.agg (m.map byt).toArray].flatMap fun v => v.cells.toList).toArray := by simp [Value.cells]
/-- '[]T{..}' (or the values behind an append's slice): the elements' cells, side by side, in a new block -/
theorem run_buildSlice {P : Program} {t e : TypeId} {z : Value} {k bytes : Nat} (T : ElemT P t e z k bytes) (vs : List Value) (hv : ∀ v ∈ vs, v.cells.size = k) (hn : vs.length * k ≤ 16777216) (h0 : 0 < vs.length) (w : World) :
    (Instr.buildSlice t vs.length ((vs.zipIdx 0).map fun x => (x.2, x.1)).toArray).run P w = .ok (.slice (some ⟨w.heap.size, 0, none⟩) vs.length vs.length) (w.alloc (.cells (vs.flatMap fun v => v.cells.toList).toArray e)) := by
  obtain ⟨i, hi, hz, hsz, hby⟩ := T.info
  have hpos := T.pos
  have hmul : vs.length * k ≠ 0 := Nat.mul_ne_zero (by omega) (by omega)
  have hfill := Great.fill_whole T.pos vs ((Array.range (vs.length * k)).map (fun x => z.cells[x % z.cells.size]!)) hv (by simp)
  have hsize : (sizeOf e).run P w = .ok k w := by simp [sizeOf, typeInfo, hi, hsz]
  have hzero : (zeroValue e).run P w = .ok z w := by simp [zeroValue, typeInfo, hi, hz]
  unfold Instr.buildSlice
  rw [Sem.run_bind, run_underlying T.und]
  simp only [Result.andThen_ok]
  rw [Sem.run_bind, hsize]
  simp only [Result.andThen_ok]
  rw [if_neg (by omega)]
  rw [if_neg hmul]
  simp only [Sem.run_bind, hzero, Result.andThen_ok, Sem.run_pure]
  simp only [hfill]
  simp [newRow, Result.andThen]
theorem wpList_buildSlice {P : Program} (w : World) {ops : Array Oper} {rest : List Oper} {o : Oper} {a : Act} {Q : Exit → Act → World → Prop} (hgd : o.guard = none) {t e : TypeId} {z : Value} {k bytes : Nat} (T : ElemT P t e z k bytes) (n : Nat) (parts : List (Nat × Operand))
    (ho : o.op = .buildSlice t n parts.toArray) (vs : List Value) (hp : parts.map (fun p => (p.1, a.eval p.2)) = (vs.zipIdx 0).map fun x => (x.2, x.1)) (hl : n = vs.length) (hv : ∀ v ∈ vs, v.cells.size = k) (hn : vs.length * k ≤ 16777216) (h0 : 0 < vs.length)
    (cs : Array Value) (hcs : cs = (vs.flatMap fun v => v.cells.toList).toArray)
    (h : wpList P ops Q rest (a.put o.dst (.slice (some ⟨w.heap.size, 0, none⟩) n n)) (w.alloc (.cells cs e))) : wpList P ops Q (o :: rest) a w := by
  subst hl hcs
  refine wpList_plain hgd fun K hK => ?_
  have hr := run_buildSlice T vs hv hn h0 w
  unfold Oper.wp
  simp [execOp, ho, List.map_toArray, hp, hr, Result.andThen]
  exact hK _ _ h
/-- one element, a value of many cells -/
theorem wpList_buildSlice1 {P : Program} (w : World) {ops : Array Oper} {rest : List Oper} {o : Oper} {a : Act} {Q : Exit → Act → World → Prop} (hgd : o.guard = none) {t e : TypeId} {z : Value} {k bytes : Nat} (T : ElemT P t e z k bytes) (x : Operand)
    (ho : o.op = .buildSlice t 1 #[(0, x)]) (cs : Array Value) (hx : a.eval x = .agg cs) (hs : cs.size = k) (hk : k ≤ 16777216)
    (h : wpList P ops Q rest (a.put o.dst (.slice (some ⟨w.heap.size, 0, none⟩) 1 1)) (w.alloc (.cells cs e))) : wpList P ops Q (o :: rest) a w :=
  wpList_buildSlice w hgd T 1 [(0, x)] ho [.agg cs] (by simp [hx]) rfl (by simpa [Value.cells] using hs) (by simpa using hk) (by simp) cs (by simp [Value.cells]) h
/-- two elements, values of many cells -/
theorem wpList_buildSlice2 {P : Program} (w : World) {ops : Array Oper} {rest : List Oper} {o : Oper} {a : Act} {Q : Exit → Act → World → Prop} (hgd : o.guard = none) {t e : TypeId} {z : Value} {k bytes : Nat} (T : ElemT P t e z k bytes) (x y : Operand)
    (ho : o.op = .buildSlice t 2 #[(0, x), (1, y)]) (cs ds : Array Value) (hx : a.eval x = .agg cs) (hy : a.eval y = .agg ds) (hs : cs.size = k) (hd : ds.size = k) (hk : 2 * k ≤ 16777216)
    (h : wpList P ops Q rest (a.put o.dst (.slice (some ⟨w.heap.size, 0, none⟩) 2 2)) (w.alloc (.cells (cs ++ ds) e))) : wpList P ops Q (o :: rest) a w :=
  wpList_buildSlice w hgd T 2 [(0, x), (1, y)] ho [.agg cs, .agg ds] (by simp [hx, hy]) rfl (by intro v hv; rcases List.mem_cons.1 hv with rfl | hv; exact hs; rw [List.mem_singleton.1 hv]; exact hd) (by simpa using hk) (by simp) (cs ++ ds) (by simp [Value.cells]) h
/-- 'append(s, x...)', s the call's own (or nil), x any slice of such elements -/
theorem run_append_arr {P : Program} (w : World) (t ty base e : TypeId) {z : Value} {k bytes : Nat} (T : ElemT P t e z k bytes) (v : Value) (xs : List (List Value)) (hown : OwnA k base e w v xs) {D : Nat → Prop} (y : Value) (ys : List (List Value)) (hy : Arr k D w y ys)
    (h1 : ∀ x ∈ ys, ∀ c ∈ x, c.oneCell' = true) (h63 : xs.length + ys.length ≤ maxLen) (hbytes : (xs.length + ys.length) * bytes ≤ 140737488355328) (hb : base ≤ w.heap.size) :
    ∃ a' cap' w', (Builtin.append_ #[t, t] ty #[v, y]).run P w = .ok (.slice a' (xs.length + ys.length) cap') w' ∧ OwnA k base e w' (.slice a' (xs.length + ys.length) cap') (xs ++ ys) ∧ w.grownBy w' v.ownBlock ∧
      ((Value.slice a' (xs.length + ys.length) cap').ownBlock = v.ownBlock ∨ (Value.slice a' (xs.length + ys.length) cap').ownBlock = some w.heap.size) := by
  obtain ⟨i, hi, hz, hsz, hby⟩ := T.info
  have hlen := hy.len
  have hfl := flatten_length ys hlen
  obtain ⟨ad, c, rfl, hk, _, hm⟩ := hy
  cases ad with
  | none =>
    have hm0 : ys = [] := by
      rcases hm with hm | ⟨b, off, hc, _⟩
      · exact hm
      · cases hc
    subst hm0
    obtain rfl := hk.2.2 rfl
    obtain ⟨va, vc, rfl, _⟩ := hown.form
    exact ⟨va, vc, w, run_append_owned_none (P := P) (w := w) base t ty e i k T.und hi _ _ _ hown.1, by simpa using hown, World.grownBy.refl _ _, .inl rfl⟩
  | some ad =>
    obtain ⟨a', cap', w', q0, q1, q2, q3⟩ := run_append_val (P := P) w t ty base e T v xs.length xs.flatten hown.1 ad ys.length c ys.flatten (by rw [hfl]) (by
      intro j u hj
      rcases hm with hm | ⟨b, off, hc, _, hl⟩
      · subst hm; simp at hj
      · simp only [Option.some.injEq] at hc; subst hc
        have hjl : j < ys.length * k := by rw [← hfl]; exact (List.getElem?_eq_some_iff.1 hj).1
        have hq : j / k < ys.length := Nat.div_lt_of_lt_mul (by rw [Nat.mul_comm]; exact hjl)
        have hr := Nat.mod_lt j T.pos
        have hd : j / k * k + j % k = j := by rw [Nat.mul_comm]; exact Nat.div_add_mod j k
        have h2 := flatten_getElem? ys hlen (j / k) hq (j % k) hr
        rw [hd, hj] at h2
        have h3 := hl (j / k) hq (j % k) u h2.symm
        rw [Addr.add_mid]
        rw [Nat.add_assoc, hd] at h3
        exact h3) (by
      intro u hu
      obtain ⟨x, hx, hc⟩ := List.mem_flatten.1 hu
      exact h1 x hx u hc) h63 hbytes hb
    refine ⟨a', cap', w', q0, ⟨by rw [List.length_append, List.flatten_append]; exact q1, ?_⟩, q2, q3⟩
    intro x hx
    rcases List.mem_append.1 hx with hx | hx
    · exact hown.2 x hx
    · exact hlen x hx
theorem wpList_append_arr {P : Program} (w : World) {ops : Array Oper} {rest : List Oper} {o : Oper} {a : Act} {Q : Exit → Act → World → Prop} (hgd : o.guard = none) (s x : Operand) (t : TypeId)
    (ho : o.op = .call { callee := .builtin .append, args := #[s, x], argTypes := #[t, t] }) (base : Nat) (e : TypeId) {z : Value} {k bytes : Nat} (T : ElemT P t e z k bytes)
    (v : Value) (xs : List (List Value)) (hs : a.eval s = v) (hown : OwnA k base e w v xs) {D : Nat → Prop} (y : Value) (ys : List (List Value)) (hx : a.eval x = y) (hy : Arr k D w y ys)
    (h1 : ∀ x ∈ ys, ∀ c ∈ x, c.oneCell' = true) (h63 : xs.length + ys.length ≤ maxLen) (hbytes : (xs.length + ys.length) * bytes ≤ 140737488355328) (hb : base ≤ w.heap.size) (n : Nat) (hn : n = xs.length + ys.length)
    (h : ∀ (a' : Option Addr) (cap' : Nat) (w' : World), OwnA k base e w' (.slice a' n cap') (xs ++ ys) → w.grownBy w' v.ownBlock → ((Value.slice a' n cap').ownBlock = v.ownBlock ∨ (Value.slice a' n cap').ownBlock = some w.heap.size) → wpList P ops Q rest (a.put o.dst (.slice a' n cap')) w') :
    wpList P ops Q (o :: rest) a w := by
  subst hn
  obtain ⟨a', cap', w', h0, q1, q2, q4⟩ := run_append_arr (P := P) w t o.type base e T v xs hown y ys hy h1 h63 hbytes hb
  refine wpList_plain hgd fun K hK => ?_
  unfold Oper.wp
  simp [execOp, ho, resolve, invoke, builtin, hs, hx, h0, Result.andThen]
  exact hK _ _ (h a' cap' w' q1 q2 q4)
/-- elements i and j change places -/
def swp (xs : List (List Value)) (i j : Nat) : List (List Value) := (xs.set i (xs.getD j [])).set j (xs.getD i [])
/-- the first i elements and the last i have changed places -/
def Half (xs ys : List (List Value)) (i : Nat) : Prop := ys.length = xs.length ∧ ∀ p, p < xs.length → ys[p]? = if p < i ∨ xs.length - i ≤ p then xs[xs.length - 1 - p]? else xs[p]?
theorem Half.zero (xs : List (List Value)) : Half xs xs 0 := ⟨rfl, fun p hp => by rw [if_neg (by omega)]⟩
theorem Half.step {xs ys : List (List Value)} {i : Nat} (h : Half xs ys i) (hi : i < xs.length - 1 - i) : Half xs (swp ys i (xs.length - 1 - i)) (i + 1) := by
  obtain ⟨hl, h⟩ := h
  refine ⟨by simp [swp, hl], fun p hp => ?_⟩
  have gi := h i (by omega)
  have gj := h (xs.length - 1 - i) (by omega)
  rw [if_neg (by omega)] at gi gj
  unfold swp
  rw [List.getElem?_set, List.getElem?_set]
  by_cases e1 : xs.length - 1 - i = p
  · rw [if_pos e1, if_pos (by simp; omega), if_pos (by omega), List.getD_eq_getElem?_getD, gi]
    subst e1
    rw [show xs.length - 1 - (xs.length - 1 - i) = i by omega, List.getElem?_eq_getElem (by omega)]; rfl
  · rw [if_neg e1]
    by_cases e2 : i = p
    · subst e2
      rw [if_pos rfl, if_pos (by omega), if_pos (by omega), List.getD_eq_getElem?_getD, gj, List.getElem?_eq_getElem (by omega)]; rfl
    · rw [if_neg e2, h p hp]
      by_cases c : p < i ∨ xs.length - i ≤ p
      · rw [if_pos c, if_pos (by omega)]
      · rw [if_neg c, if_neg (by omega)]
theorem Half.done {xs ys : List (List Value)} {i : Nat} (h : Half xs ys i) (hi : ¬ (i : Int) < (xs.length : Int) - 1 - i) (h2 : (i : Int) ≤ xs.length) : ys = xs.reverse := by
  obtain ⟨hl, h⟩ := h
  apply List.ext_getElem?
  intro p
  by_cases hp : p < xs.length
  · rw [h p hp, List.getElem?_reverse hp]
    by_cases c : p < i ∨ xs.length - i ≤ p
    · rw [if_pos c]
    · rw [if_neg c]
      rw [show xs.length - 1 - p = p by omega]
  · rw [List.getElem?_eq_none (by omega), List.getElem?_eq_none (by simp; omega)]
end Go.Proofs.Ytjdohjoljobinaa.Arr
