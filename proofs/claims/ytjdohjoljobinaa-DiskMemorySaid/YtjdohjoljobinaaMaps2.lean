/- More words for maps: a store at a key that is there. Program-independent; no condition. -/
import Derived.Test.YtjdohjoljobinaaMaps
namespace Go.Proofs.Ytjdohjoljobinaa.Maps
open Go Go.RowKit Mem
open Go.ChangeMaps Go.MapKept
open Go.Maps (Keyed)
set_option linter.unusedVariables false

section
variable {P : Program} {k : TypeId} {w w' : World} {b : Nat} {l : List (Value × Value)}
theorem place_one {key : Value} : ∀ {l : List (Value × Value)} {i j : Nat} {u v : Value}, l.Pairwise (fun p q => p.1 ≠ q.1) → l[i]? = some (key, u) → l[j]? = some (key, v) → i = j := by
  intro l i j u v hp hi hj
  rcases Nat.lt_trichotomy i j with h | h | h
  · have hj2 := (List.getElem?_eq_some_iff.1 hj).1
    have := List.pairwise_iff_getElem.1 hp i j (by omega) hj2 h
    rw [(List.getElem?_eq_some_iff.1 hi).2, (List.getElem?_eq_some_iff.1 hj).2] at this
    exact absurd rfl this
  · exact h
  · have hi2 := (List.getElem?_eq_some_iff.1 hi).1
    have := List.pairwise_iff_getElem.1 hp j i (by omega) hi2 h
    rw [(List.getElem?_eq_some_iff.1 hi).2, (List.getElem?_eq_some_iff.1 hj).2] at this
    exact absurd rfl this
/-- 'm[k] = v' at a key that is there -/
theorem run_relay {t e : TypeId} (h : MapIs P k w b l) (K : Keyed P k) (ht : P.underlying t = some (.map k e)) {key : Value} {kl : Lit} (hk : keyOf P k key = some kl) {pre post : List (Value × Value)} {old : Value} (hl : l = pre ++ ((key, old) :: post)) (val : Value) :
    ∃ w', (Instr.mapUpdate t (.map (some b)) key val).run P w = .ok () w' ∧ MapIs P k w' b (pre ++ ((key, val) :: post)) ∧ Fr (fun i => i = b) w w' := by
  have hp := h.apart
  obtain ⟨es, clock, hb, he, hs, hkl⟩ := h
  have hmem : (key, old) ∈ l := by rw [hl]; simp
  rcases find_at K he hkl hp hk (.inr ⟨old, rfl, hmem⟩) w with ⟨h1, _⟩ | ⟨j, e0, _, h1, h2, h3⟩
  · cases h1
  · have hj : l[j]? = some (key, e0.val) := by rw [← he, List.getElem?_map, h2]; simp [h3]
    have hpj : j = pre.length := place_one hp hj (by rw [hl, List.getElem?_append_right (Nat.le_refl _), Nat.sub_self]; rfl)
    have hesj : es[j]? = some e0 := by rw [← Array.getElem?_toList]; exact h2
    have htl : (es.modify j fun e => { e with key, val := val }).toList.map (fun e => (e.key, e.val)) = pre ++ ((key, val) :: post) := by
      have hm : (es.modify j fun e => { e with key, val := val }).toList.map (fun e => (e.key, e.val)) = (es.toList.map (fun e => (e.key, e.val))).set j (key, val) := by
        apply List.ext_getElem?
        intro i
        rw [List.getElem?_map, Array.getElem?_toList, Array.getElem?_modify, List.getElem?_set, List.getElem?_map, Array.getElem?_toList]
        by_cases hij : j = i
        · subst hij
          have hlt : j < es.size := (Array.getElem?_eq_some_iff.1 hesj).1
          rw [if_pos rfl, if_pos rfl, if_pos (by simpa using hlt), hesj]
          rfl
        · rw [if_neg hij, if_neg hij]
      rw [hm, he, hl, hpj, List.set_append_right _ _ (Nat.le_refl _), Nat.sub_self]
      rfl
    refine ⟨setBlock w b (.map (es.modify j fun e => { e with key, val := val }) clock), ?_, ⟨_, _, heap_setBlock_same hb _, htl, ?_, ?_⟩, ⟨rfl, rfl, rfl, by simp [setBlock], fun i hi hne => heap_setBlock_other hb _ hne⟩⟩
    · simp [Instr.mapUpdate, run_underlying ht, MapKept.run_getObj_map hb, K.check w false hk, h1, hesj, h3, K.stays w hk, MapKept.run_setObj_map _ hb, Result.andThen, setBlock]
    · exact stamped_modify hs j _ (fun e _ => rfl) (fun e _ hej => by rw [hesj] at hej; cases hej; exact h3.symm)
    · intro p hpm
      rcases List.mem_append.1 hpm with hpm | hpm
      · exact hkl p (by rw [hl]; exact List.mem_append_left _ hpm)
      · rcases List.mem_cons.1 hpm with rfl | hpm
        · exact ⟨kl, hk⟩
        · exact hkl p (by rw [hl]; exact List.mem_append_right _ (List.mem_cons_of_mem _ hpm))
end
section
variable {P : Program} {k : TypeId} {b : Nat} {l : List (Value × Value)} {w : World} {ops : Array Oper} {o : Oper} {a : Act} {Q : Exit → Act → World → Prop} {K : Act → World → Prop}
/-- a store puts a pair in its key's place, or behind all -/
def PutAt (l : List (Value × Value)) (key val : Value) (l' : List (Value × Value)) : Prop :=
  (∃ pre old post, l = pre ++ ((key, old) :: post) ∧ l' = pre ++ ((key, val) :: post)) ∨ ((∀ p ∈ l, p.1 ≠ key) ∧ l' = l ++ [(key, val)])
theorem wp_set (m x v : Operand) (t : TypeId) (hop : o.op = Op.mapUpdate t m x v ∨ o.op = Op.insert t m x v) (e : TypeId) (K' : Keyed P k) (ht : P.underlying t = some (.map k e))
    (hm : a.eval m = .map (some b)) (h : MapIs P k w b l) (key val : Value) (kl : Lit) (hx : a.eval x = key) (hv : a.eval v = val) (hk : keyOf P k key = some kl) {l' : List (Value × Value)} (hr : PutAt l key val l')
    (hK : ∀ w', MapIs P k w' b l' → Fr (fun i => i = b) w w' → K (a.put o.dst undef) w') : Oper.wp P o a w K Q := by
  rcases hr with ⟨pre, old, post, hl, rfl⟩ | ⟨hn, rfl⟩
  · obtain ⟨w', hrun, r1, r2⟩ := run_relay h K' ht hk hl val
    unfold Oper.wp
    rcases hop with hop | hop <;> simp [execOp, hop, hm, hx, hv, hrun, Result.andThen] <;> exact hK w' r1 r2
  · exact wp_lay m x v t hop e K' ht hm h key val kl hx hv hk hn hK
end
end Go.Proofs.Ytjdohjoljobinaa.Maps
