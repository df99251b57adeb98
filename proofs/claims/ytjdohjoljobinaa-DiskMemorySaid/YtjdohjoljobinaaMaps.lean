/- Words for maps whose keys are of one kind: what they hold, in the order in which it was laid in; a lookup, a store, the length. Program-independent; no condition. -/
import Derived.Test.YtjdohjoljobinaaMem2
import Derived.Maps.OwnSet
import Derived.Maps.OwnOps
import Derived.DeepKeys4
import Derived.OrdersHeld
namespace Go.Proofs.Ytjdohjoljobinaa.Maps
open Go Go.RowKit Mem
open Go.ChangeMaps Go.MapKept
open Go.Maps (Keyed)

/-- block b of w is a map that holds the pairs l, in the order in which they were laid in -/
def MapIs (P : Program) (k : TypeId) (w : World) (b : Nat) (l : List (Value × Value)) : Prop :=
  ∃ es clock, w.heap[b]? = some (.map es clock) ∧ es.toList.map (fun e => (e.key, e.val)) = l ∧ Stamped es clock ∧ ∀ p ∈ l, ∃ kl, keyOf P k p.1 = some kl
section
variable {P : Program} {k : TypeId} {w w' : World} {b : Nat} {l : List (Value × Value)}
theorem MapIs.lt (h : MapIs P k w b l) : b < w.heap.size := by
  obtain ⟨_, _, h, _⟩ := h
  exact (Array.getElem?_eq_some_iff.1 h).1
theorem MapIs.fr {S : Nat → Prop} (h : MapIs P k w b l) (hf : Fr S w w') (hn : ¬ S b) : MapIs P k w' b l := by
  have hlt := h.lt
  obtain ⟨es, clock, h1, h2⟩ := h
  exact ⟨es, clock, (hf.block b hlt hn).trans h1, h2⟩
theorem MapIs.below (h : MapIs P k w b l) (hf : Below w.heap.size w w') : MapIs P k w' b l := h.fr (Fr.ofBelow hf) (by have := h.lt; omega)
theorem MapIs.drew (h : MapIs P k w b l) : MapIs P k w.drew b l := h
theorem MapIs.new (P : Program) (k : TypeId) (w : World) : MapIs P k (w.alloc (.map #[] 0)) w.heap.size [] :=
  ⟨#[], 0, by rw [World.alloc]; simp, rfl, stamped_empty 0, by simp⟩
theorem MapIs.apart (h : MapIs P k w b l) : l.Pairwise (fun p q => p.1 ≠ q.1) := by
  obtain ⟨es, clock, _, rfl, hs, _⟩ := h
  rw [List.pairwise_map]
  exact ((stamped_iff es clock).1 hs).2.2
/-- what stands at a key -/
def AtKey (l : List (Value × Value)) (key : Value) (r : Option Value) : Prop := (r = none ∧ ∀ p ∈ l, p.1 ≠ key) ∨ ∃ v, r = some v ∧ (key, v) ∈ l
theorem pair_one {key u v : Value} : ∀ {l : List (Value × Value)}, l.Pairwise (fun p q => p.1 ≠ q.1) → (key, u) ∈ l → (key, v) ∈ l → u = v
  | p :: r, hp, hu, hv => by
    rw [List.pairwise_cons] at hp
    rcases List.mem_cons.1 hu with rfl | hu
    · rcases List.mem_cons.1 hv with hv | hv
      · exact (congrArg Prod.snd hv).symm
      · exact absurd rfl (hp.1 (key, v) hv)
    · rcases List.mem_cons.1 hv with hv | hv
      · rw [← hv] at hp; exact absurd rfl (hp.1 (key, u) hu)
      · exact pair_one hp.2 hu hv
theorem find_at (K : Keyed P k) {es : Array MapEntry} (he : es.toList.map (fun e => (e.key, e.val)) = l) (hl : ∀ p ∈ l, ∃ kl, keyOf P k p.1 = some kl) (hp : l.Pairwise (fun p q => p.1 ≠ q.1)) {key : Value} {kl : Lit} (hk : keyOf P k key = some kl) {r : Option Value} (hr : AtKey l key r) (w : World) :
    (r = none ∧ (Instr.findKey k key es.toList).run P w = .ok none w ∧ ∀ e ∈ es.toList, e.key ≠ key) ∨ ∃ j e, r = some e.val ∧ (Instr.findKey k key es.toList).run P w = .ok (some (j, e.val)) w ∧ es.toList[j]? = some e ∧ e.key = key := by
  have hes : ∀ e ∈ es.toList, ∃ l, keyOf P k e.key = some l := fun e hm => hl (e.key, e.val) (by rw [← he]; exact List.mem_map.2 ⟨e, hm, rfl⟩)
  rcases K.find w hk es.toList hes with ⟨h1, h2⟩ | ⟨j, e, h1, h2, h3⟩
  · left
    refine ⟨?_, h1, h2⟩
    rcases hr with ⟨hr, _⟩ | ⟨v, hr, hm⟩
    · exact hr
    · rw [← he] at hm
      obtain ⟨e, hm, e1⟩ := List.mem_map.1 hm
      exact absurd (congrArg Prod.fst e1) (h2 e hm)
  · right
    have hmem : (key, e.val) ∈ l := by rw [← he]; exact List.mem_map.2 ⟨e, List.mem_of_getElem? h2, by rw [h3]⟩
    refine ⟨j, e, ?_, h1, h2, h3⟩
    rcases hr with ⟨_, hr⟩ | ⟨v, hr, hm⟩
    · exact absurd rfl (hr _ hmem)
    · rw [hr, pair_one hp hm hmem]
/-- 'm[k]', 'v, is := m[k]' -/
theorem run_look {t e : TypeId} (h : MapIs P k w b l) (K : Keyed P k) (ht : P.underlying t = some (.map k e)) {z : Value} (hz : (zeroValue e).run P w = .ok z w) {key : Value} {kl : Lit} (hk : keyOf P k key = some kl) {r : Option Value} (hr : AtKey l key r) (ok : Bool) :
    (Instr.lookup t (.map (some b)) key ok).run P w = .ok (if ok = true then .tuple #[r.getD z, .bool r.isSome] else r.getD z) w := by
  have hp := h.apart
  obtain ⟨es, clock, hb, he, hs, hl⟩ := h
  rcases find_at K he hl hp hk hr w with ⟨rfl, h1, _⟩ | ⟨j, e, rfl, h1, _, _⟩
  · simp [Instr.lookup, run_underlying ht, MapKept.run_getObj_map hb, K.check w _ hk, h1, hz, Result.andThen]
  · simp [Instr.lookup, run_underlying ht, MapKept.run_getObj_map hb, K.check w _ hk, h1, Result.andThen]
/-- 'len(m)' -/
theorem run_len {t e : TypeId} (h : MapIs P k w b l) (ht : P.underlying t = some (.map k e)) (ty : TypeId) : (Builtin.len_ #[t] ty #[.map (some b)]).run P w = .ok (.int .i64 (l.length : Int)) w := by
  obtain ⟨es, clock, hb, rfl, _⟩ := h
  simp [Builtin.len_, run_underlying ht, MapKept.run_getObj_map hb, goInt, Result.andThen]
/-- 'm[k] = v' at a new key -/
theorem run_lay {t e : TypeId} (h : MapIs P k w b l) (K : Keyed P k) (ht : P.underlying t = some (.map k e)) {key : Value} {kl : Lit} (hk : keyOf P k key = some kl) (hr : ∀ p ∈ l, p.1 ≠ key) (val : Value) :
    ∃ w', (Instr.mapUpdate t (.map (some b)) key val).run P w = .ok () w' ∧ MapIs P k w' b (l ++ [(key, val)]) ∧ Fr (fun i => i = b) w w' := by
  have hp := h.apart
  obtain ⟨es, clock, hb, he, hs, hl⟩ := h
  rcases find_at K he hl hp hk (.inl ⟨rfl, hr⟩) w with ⟨_, h1, h2⟩ | ⟨j, e, h3, _⟩
  · refine ⟨setBlock w b (.map (es.push ⟨key, val, clock⟩) (clock + 1)), ?_, ⟨_, _, heap_setBlock_same hb _, by simp [he], stamped_push hs h2, ?_⟩, ⟨rfl, rfl, rfl, by simp [setBlock], fun i hi hne => heap_setBlock_other hb _ hne⟩⟩
    · simp [Instr.mapUpdate, run_underlying ht, MapKept.run_getObj_map hb, K.check w false hk, h1, MapKept.run_setObj_map _ hb, Result.andThen, setBlock]
    · intro p hp
      rcases List.mem_append.1 hp with hp | hp
      · exact hl p hp
      · rw [List.mem_singleton.1 hp]; exact ⟨kl, hk⟩
  · cases h3
end
section
variable {P : Program} {k : TypeId} {b : Nat} {l : List (Value × Value)} {w : World} {ops : Array Oper} {rest : List Oper} {o : Oper} {a : Act} {Q : Exit → Act → World → Prop}
theorem wpList_look (hg : o.guard = none) (m x : Operand) (t : TypeId) (ok : Bool) (hop : o.op = Op.lookup t m x ok) (e : TypeId) (K : Keyed P k) (ht : P.underlying t = some (.map k e)) {z : Value} (hz : (zeroValue e).run P w = .ok z w)
    (hm : a.eval m = .map (some b)) (h : MapIs P k w b l) (key : Value) (kl : Lit) (hx : a.eval x = key) (hk : keyOf P k key = some kl) (r : Option Value) (hr : AtKey l key r)
    (hK : wpList P ops Q rest (a.put o.dst (if ok = true then .tuple #[r.getD z, .bool r.isSome] else r.getD z)) w) : wpList P ops Q (o :: rest) a w := by
  refine wpList_plain hg fun K' hK' => ?_
  unfold Oper.wp
  simp [execOp, hop, hm, hx, run_look h K ht hz hk hr ok, Result.andThen]
  exact hK' _ _ hK
theorem wpList_lay (hg : o.guard = none) (m x v : Operand) (t : TypeId) (hop : o.op = Op.mapUpdate t m x v) (e : TypeId) (K : Keyed P k) (ht : P.underlying t = some (.map k e))
    (hm : a.eval m = .map (some b)) (h : MapIs P k w b l) (key val : Value) (kl : Lit) (hx : a.eval x = key) (hv : a.eval v = val) (hk : keyOf P k key = some kl) (hr : ∀ p ∈ l, p.1 ≠ key)
    (hK : ∀ w', MapIs P k w' b (l ++ [(key, val)]) → Fr (fun i => i = b) w w' → wpList P ops Q rest (a.put o.dst undef) w') : wpList P ops Q (o :: rest) a w := by
  refine wpList_plain hg fun K' hK' => ?_
  obtain ⟨w', hrun, r1, r2⟩ := run_lay h K ht hk hr val
  unfold Oper.wp
  simp [execOp, hop, hm, hx, hv, hrun, Result.andThen]
  exact hK' _ _ (hK w' r1 r2)
theorem wpList_maplen (hg : o.guard = none) (m : Operand) (t : TypeId) (hop : o.op = .call { callee := .builtin .len, args := #[m], argTypes := #[t] }) (e : TypeId) (ht : P.underlying t = some (.map k e))
    (hm : a.eval m = .map (some b)) (h : MapIs P k w b l) (hK : wpList P ops Q rest (a.put o.dst (.int .i64 (l.length : Int))) w) : wpList P ops Q (o :: rest) a w := by
  refine wpList_plain hg fun K' hK' => ?_
  unfold Oper.wp
  simp [execOp, hop, resolve, invoke, builtin, hm, run_len h ht, Result.andThen]
  exact hK' _ _ hK
end
section
variable {P : Program} {k : TypeId} {b : Nat} {l : List (Value × Value)} {w : World} {ops : Array Oper} {o : Oper} {a : Act} {Q : Exit → Act → World → Prop} {S : World → Prop} {K : Act → World → Prop}
/-- in a region that draws -/
theorem yieldsIf_look (hw : Region.wanted o (yielded ops a.tmps) = true) (m x : Operand) (t : TypeId) (ok : Bool) (hop : o.op = Op.lookup t m x ok) (e : TypeId) (K : Keyed P k) (ht : P.underlying t = some (.map k e)) {z : Value} (hz : ∀ w, (zeroValue e).run P w = .ok z w)
    (hm : a.eval m = .map (some b)) (h : ∀ w, S w → MapIs P k w b l) (key : Value) (kl : Lit) (hx : a.eval x = key) (hk : keyOf P k key = some kl) (r : Option Value) (hr : AtKey l key r) (u : Value) (hu : (if ok = true then .tuple #[r.getD z, .bool r.isSome] else r.getD z) = u) : YieldsIf P ops S o u a :=
  .inl ⟨hw, fun w hw' => by
    subst hu
    unfold execOp
    simp [hop, hm, hx, run_look (h w hw') K ht (hz w) hk hr ok, Result.andThen]⟩
theorem wp_lay (m x v : Operand) (t : TypeId) (hop : o.op = Op.mapUpdate t m x v ∨ o.op = Op.insert t m x v) (e : TypeId) (K' : Keyed P k) (ht : P.underlying t = some (.map k e))
    (hm : a.eval m = .map (some b)) (h : MapIs P k w b l) (key val : Value) (kl : Lit) (hx : a.eval x = key) (hv : a.eval v = val) (hk : keyOf P k key = some kl) (hr : ∀ p ∈ l, p.1 ≠ key)
    (hK : ∀ w', MapIs P k w' b (l ++ [(key, val)]) → Fr (fun i => i = b) w w' → K (a.put o.dst undef) w') : Oper.wp P o a w K Q := by
  obtain ⟨w', hrun, r1, r2⟩ := run_lay h K' ht hk hr val
  unfold Oper.wp
  rcases hop with hop | hop <;> simp [execOp, hop, hm, hx, hv, hrun, Result.andThen] <;> exact hK w' r1 r2
theorem wp_makeMap (t : TypeId) (ho : o.op = .makeMap t none) (h : ∀ w', MapIs P k w' w.heap.size [] → Below w.heap.size w w' → w.heap.size + 1 = w'.heap.size → K (a.put o.dst (.map (some w.heap.size))) w') : Oper.wp P o a w K Q := by
  unfold Oper.wp
  simp [execOp, ho, Instr.makeMap, Result.andThen]
  exact h _ (MapIs.new P k w) ((Below.refl _ _).alloc (Nat.le_refl _) _) (by simp)
end
/-- an array of bytes as a key -/
theorem mapM_some {α β : Type} (f : α → Option β) (g : α → β) : ∀ xs : List α, (∀ x ∈ xs, f x = some (g x)) → xs.mapM f = some (xs.map g)
  | [], _ => rfl
  | x :: xs, h => by rw [List.mapM_cons, h x (by simp), mapM_some f g xs (fun y hy => h y (by simp [hy]))]; rfl
theorem keyOf_bytes {P : Program} {k e : TypeId} {n : Nat} (hk : P.underlying k = some (.array n e)) (he : P.underlying e = some (.int .u8)) (hc : P.cellsOf k = n) (hce : P.cellsOf e = 1) (hkt : P.keyType k = true) (hts : 0 < P.types.size) (d : List UInt8) (hd : d.length = n) : ∃ kl, keyOf P k (.agg (d.map byt).toArray) = some kl := by
  have hf : (Value.agg (d.map byt).toArray).formed P k = true := by simp [Value.formed, hk, hc, hd]
  unfold keyOf
  simp only [hk, hkt, hf, Bool.and_self, if_true, Value.cells]
  unfold Program.keyLits
  simp only [hk]
  rw [if_pos (by simp [hd, hc])]
  obtain ⟨m, hm⟩ : ∃ m, P.types.size = m + 1 := ⟨P.types.size - 1, by omega⟩
  rw [hm]
  rw [mapM_some _ (fun i => [Lit.int .u8 ((d[i]?.getD 0).toNat : Int)]) _ (fun i hi => ?_)]
  · exact ⟨_, rfl⟩
  · have hi : i < d.length := by rw [hd]; exact List.mem_range.1 hi
    have hdt : ((d.map byt).toArray.toList.drop (i * P.cellsOf e)).take (P.cellsOf e) = [byt (d[i]'hi)] := by
      rw [hce, Nat.mul_one]
      rw [List.drop_eq_getElem_cons (by simpa using hi)]
      simp
    rw [hdt]
    have hw : (Lit.int .u8 ((d[i]'hi).toNat : Int)).wf = true := by
      have := (d[i]'hi).toNat_lt
      have e1 : IntKind.u8.min = 0 := by kernel_rfl
      have e2 : IntKind.u8.max = 255 := by kernel_rfl
      simp only [Lit.wf, e1, e2, decide_eq_true_eq, Bool.and_eq_true]
      omega
    unfold Program.keyLits
    simp only [he, List.getElem?_eq_getElem hi, Option.getD_some]
    simp only [hw, and_self, if_true]
end Go.Proofs.Ytjdohjoljobinaa.Maps
