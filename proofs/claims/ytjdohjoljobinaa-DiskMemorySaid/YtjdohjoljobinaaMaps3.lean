/- More words for maps: a key is taken out; a map is copied. Program-independent; no condition. -/
import Derived.Test.YtjdohjoljobinaaMaps2
namespace Go.Proofs.Ytjdohjoljobinaa.Maps
open Go Go.RowKit Mem
open Go.ChangeMaps Go.MapKept
open Go.Maps (Keyed)
set_option linter.unusedVariables false

def DelAt (l : List (Value × Value)) (key : Value) (l' : List (Value × Value)) : Prop := (∃ pre old post, l = pre ++ ((key, old) :: post) ∧ l' = pre ++ post) ∨ ((∀ p ∈ l, p.1 ≠ key) ∧ l' = l)
theorem map_erase {α β : Type} (f : α → β) : ∀ (l : List α) (i : Nat), (l.eraseIdx i).map f = (l.map f).eraseIdx i
  | [], _ => rfl
  | _ :: _, 0 => rfl
  | a :: l, i + 1 => by simp [map_erase f l i]
section
variable {P : Program} {k : TypeId} {w w' : World} {b : Nat} {l : List (Value × Value)}
/-- 'delete(m, k)' -/
theorem run_del {t e : TypeId} (h : MapIs P k w b l) (K : Keyed P k) (ht : P.underlying t = some (.map k e)) {key : Value} {kl : Lit} (hk : keyOf P k key = some kl) {l' : List (Value × Value)} (hd : DelAt l key l') (ty : TypeId) :
    ∃ w', (Builtin.delete_ #[t, k] ty #[.map (some b), key]).run P w = .ok (.tuple #[]) w' ∧ MapIs P k w' b l' ∧ Fr (fun i => i = b) w w' := by
  have hp := h.apart
  obtain ⟨es, clock, hb, he, hs, hkl⟩ := h
  rcases hd with ⟨pre, old, post, hl, hl'⟩ | ⟨hn, rfl⟩
  · have hmem : (key, old) ∈ l := by rw [hl]; simp
    rcases find_at K he hkl hp hk (.inr ⟨old, rfl, hmem⟩) w with ⟨h1, _⟩ | ⟨j, e0, _, h1, h2, h3⟩
    · cases h1
    · have hj : l[j]? = some (key, e0.val) := by rw [← he, List.getElem?_map, h2]; simp [h3]
      have hpj : j = pre.length := place_one hp hj (by rw [hl, List.getElem?_append_right (Nat.le_refl _), Nat.sub_self]; rfl)
      have htl : (es.eraseIdxIfInBounds j).toList.map (fun e => (e.key, e.val)) = l' := by
        rw [Array.toList_eraseIdxIfInBounds, map_erase, he, hl, hpj, hl', List.eraseIdx_append_of_length_le (Nat.le_refl _), Nat.sub_self]
        rfl
      refine ⟨setBlock w b (.map (es.eraseIdxIfInBounds j) clock), ?_, ⟨_, _, heap_setBlock_same hb _, htl, stamped_erase hs j, fun p hp => hkl p ?_⟩, ⟨rfl, rfl, rfl, by simp [setBlock], fun i hi hne => heap_setBlock_other hb _ hne⟩⟩
      · simp [Builtin.delete_, run_underlying ht, MapKept.run_getObj_map hb, K.check w _ hk, h1, MapKept.run_setObj_map _ hb, Result.andThen, setBlock]
      · rw [hl'] at hp
        rw [hl]
        rcases List.mem_append.1 hp with h | h
        · exact List.mem_append_left _ h
        · exact List.mem_append_right _ (List.mem_cons_of_mem _ h)
  · rcases find_at K he hkl hp hk (.inl ⟨rfl, hn⟩) w with ⟨_, h1, h2⟩ | ⟨j, e0, h1, _⟩
    · refine ⟨setBlock w b (.map es clock), ?_, ⟨_, _, heap_setBlock_same hb _, he, hs, hkl⟩, ⟨rfl, rfl, rfl, by simp [setBlock], fun i hi hne => heap_setBlock_other hb _ hne⟩⟩
      simp [Builtin.delete_, run_underlying ht, MapKept.run_getObj_map hb, K.check w _ hk, h1, MapKept.run_setObj_map _ hb, Result.andThen, setBlock]
    · cases h1
theorem MapIs.clone {es : Array MapEntry} {clock : Nat} (h : MapIs P k w b l) (hb : w.heap[b]? = some (.map es clock)) : MapIs P k (w.alloc (.map es clock)) w.heap.size l := by
  obtain ⟨es', clock', h1, h2⟩ := h
  rw [hb] at h1
  cases h1
  exact ⟨es, clock, by rw [World.alloc]; simp, h2⟩
end
section
variable {P : Program} {k : TypeId} {b : Nat} {l : List (Value × Value)} {w : World} {ops : Array Oper} {rest : List Oper} {o : Oper} {a : Act} {Q : Exit → Act → World → Prop} {K : Act → World → Prop}
theorem wp_del (m x : Operand) (t : TypeId) (hop : o.op = .call { callee := .builtin .delete, args := #[m, x], argTypes := #[t, k] }) (e : TypeId) (K' : Keyed P k) (ht : P.underlying t = some (.map k e))
    (hm : a.eval m = .map (some b)) (h : MapIs P k w b l) (key : Value) (kl : Lit) (hx : a.eval x = key) (hk : keyOf P k key = some kl) {l' : List (Value × Value)} (hd : DelAt l key l')
    (hK : ∀ w', MapIs P k w' b l' → Fr (fun i => i = b) w w' → K (a.put o.dst (.tuple #[])) w') : Oper.wp P o a w K Q := by
  obtain ⟨w', hrun, r1, r2⟩ := run_del h K' ht hk hd o.type
  unfold Oper.wp
  simp [execOp, hop, resolve, invoke, builtin, hm, hx, hrun, Result.andThen]
  exact hK w' r1 r2
theorem wpList_del (hg : o.guard = none) (m x : Operand) (t : TypeId) (hop : o.op = .call { callee := .builtin .delete, args := #[m, x], argTypes := #[t, k] }) (e : TypeId) (K' : Keyed P k) (ht : P.underlying t = some (.map k e))
    (hm : a.eval m = .map (some b)) (h : MapIs P k w b l) (key : Value) (kl : Lit) (hx : a.eval x = key) (hk : keyOf P k key = some kl) {l' : List (Value × Value)} (hd : DelAt l key l')
    (hK : ∀ w', MapIs P k w' b l' → Fr (fun i => i = b) w w' → wpList P ops Q rest (a.put o.dst (.tuple #[])) w') : wpList P ops Q (o :: rest) a w :=
  wpList_plain hg fun _ hK' => wp_del m x t hop e K' ht hm h key kl hx hk hd (fun w' h1 h2 => hK' _ _ (hK w' h1 h2))
end
end Go.Proofs.Ytjdohjoljobinaa.Maps
