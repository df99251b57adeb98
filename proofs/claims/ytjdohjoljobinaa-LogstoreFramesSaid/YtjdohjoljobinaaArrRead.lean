/- How arguments read: a slice of arrays of bytes, as the words of Arr. Program-independent; no condition. -/
import Derived.Test.YtjdohjoljobinaaRead
import Derived.Test.YtjdohjoljobinaaBulk
import Derived.Test.YtjdohjoljobinaaArr
import Derived.Deep.Slices
namespace Go.Proofs.Ytjdohjoljobinaa.Read
open Go Go.RowKit Go.ChangeShapes Go.WideShapes Mem Arr
variable {H : Type} {enc : TypeId × Value → H} {P : Program} {W : World}

/-- an array of bytes, as cells -/
theorem cells_arr {t e : TypeId} {n : Nat} {cs : List Value} {d : DataW H} {ps : List MemPlace} {held spare} {base fuel : Nat} (ht : P.underlying t = some (.array n e)) (he : P.underlying e = some (.int .u8)) (hc : P.cellsOf e = 1)
    (hsz : cs.length = n) (hf : DataW.trod enc P W base spare held fuel t cs = some (d, ps)) :
    ∃ l : List UInt8, cs = l.map byt ∧ l.length = n := by
  obtain ⟨xs, m, hxe, _, _, hx, hall⟩ := DataW.trod_array ht hf
  have hcell : ∀ i, (hi : i < n) → ∃ c : UInt8, cs[i]'(by omega) = byt c := by
    intro i hi
    have h1 := hall i hi
    rw [hc, Nat.mul_one, List.getElem?_eq_getElem (by omega : i < xs.length)] at h1
    obtain ⟨z, hz, _, hw⟩ := DataW.trod_int he h1
    refine ⟨u8of z, ?_⟩
    have h2 : (cs.drop i).take 1 = [cs[i]'(by omega)] := by
      rw [List.take_one, List.head?_drop]
      simp [hsz, hi]
    rw [h2] at hz
    simp only [List.cons.injEq, and_true] at hz
    rw [hz, byt, u8of_eq hw]
  refine ⟨(List.range n).map fun i => if h : i < n then (hcell i h).choose else 0, ?_, by simp⟩
  apply List.ext_getElem
  · simp [hsz]
  · intro i h1 h2
    have hi : i < n := by omega
    have := (hcell i hi).choose_spec
    rw [this]
    simp [hi]
/-- a slice of arrays of bytes -/
theorem cells_arrs {t e f : TypeId} {k : Nat} {cs : List Value} {d : DataW H} {ps : List MemPlace} {held spare} {base fuel : Nat} (ht : P.underlying t = some (.slice e)) (he : P.underlying e = some (.array k f)) (hf8 : P.underlying f = some (.int .u8)) (hcf : P.cellsOf f = 1) (hce : P.cellsOf e = k) (hk0 : 0 < k)
    (hf : DataW.trod enc P W base spare held fuel t cs = some (d, ps)) :
    ∃ v ds, cs = [v] ∧ Arr k Any W v (ds.map fun (x : List UInt8) => x.map byt) ∧ (∀ x ∈ ds, x.length = k) ∧ ((d = .nil ∧ ds = []) ∨ ∃ el sp, d = .slice el sp ∧ el.length = ds.length) := by
  rcases Deep.open_slice ht hf with ⟨rfl, hx⟩ | ⟨x, l, c, m, n, D, Pl, rfl, _, hl, hm, hmm, hx, hall⟩
  · simp only [Prod.mk.injEq] at hx
    exact ⟨_, [], rfl, ⟨none, 0, rfl, ⟨Nat.le_refl _, Nat.zero_le _, fun _ => rfl⟩, by simp, .inl rfl⟩, by simp, .inl ⟨hx.1, rfl⟩⟩
  · simp only [Prod.mk.injEq] at hx
    have hml : l ≤ m := by rw [hmm]; split <;> omega
    obtain ⟨X, hX⟩ := Deep.choose_lt (n := l) (p := fun i (y : List UInt8) => W.cells? base (x.add (i * k)) k = some (y.map byt) ∧ y.length = k) (fun i hi => by
      obtain ⟨cs', h1, h2⟩ := hall i (by omega)
      rw [hce] at h1
      obtain ⟨_, hlen, _⟩ := World.cells?_some h1
      obtain ⟨y, rfl, hy⟩ := cells_arr he hf8 hcf hlen h2
      exact ⟨y, h1, hy⟩)
    refine ⟨_, (List.range l).map X, rfl, ⟨some x, c, by simp, ⟨by simpa using hl, hm, fun h => by cases h⟩, ?_, ?_⟩, ?_, .inr ⟨_, _, hx.1, by simp⟩⟩
    · intro z hz
      simp only [List.mem_map, List.mem_range] at hz
      obtain ⟨_, ⟨i, hi, rfl⟩, rfl⟩ := hz
      simpa using (hX i hi).2
    · by_cases h0 : l = 0
      · left; subst h0; rfl
      right
      obtain ⟨b, off, spot⟩ := x
      have h00 := (World.cells?_some (hX 0 (by omega)).1).2.2 0 hk0
      have hlen0 := (hX 0 (by omega)).2
      rw [List.getElem?_eq_getElem (by simpa [hlen0] using hk0)] at h00
      have hspot : spot = none := by simpa [Addr.add] using World.cell?_spot h00
      subst hspot
      refine ⟨b, off, rfl, trivial, fun i hi j u hu => ?_⟩
      have hi' : i < l := by simpa using hi
      simp only [List.getElem_map, List.getElem_range] at hu
      have hj : j < k := by have := (List.getElem?_eq_some_iff.1 hu).1; simpa [(hX i hi').2] using this
      have := (World.cells?_some (hX i hi').1).2.2 j hj
      rw [hu] at this
      rw [← this, add_plain, add_plain]
    · intro z hz
      simp only [List.mem_map, List.mem_range] at hz
      obtain ⟨i, hi, rfl⟩ := hz
      exact (hX i hi).2
theorem read_arrs {t e f : TypeId} {k : Nat} {v : Value} {d : DataW H} {ps : List MemPlace} {held spare} {base b0 : Nat} (ht : P.underlying t = some (.slice e)) (he : P.underlying e = some (.array k f)) (hf8 : P.underlying f = some (.int .u8)) (hcf : P.cellsOf f = 1) (hce : P.cellsOf e = k) (hk0 : 0 < k)
    (hval : Value.okWide P W .any b0 t v) (h : DataW.Trod enc P W base spare held t v d ps) :
    ∃ ds, Arr k Any W v (ds.map fun (x : List UInt8) => x.map byt) ∧ (∀ x ∈ ds, x.length = k) ∧ ((d = .nil ∧ ds = []) ∨ ∃ el sp, d = .slice el sp ∧ el.length = ds.length) := by
  obtain ⟨a, len, cap, rfl⟩ := okWide_slice ht hval
  obtain ⟨fuel, hf⟩ := h
  obtain ⟨v', ds, hv, h1, h2, h3⟩ := cells_arrs ht he hf8 hcf hce hk0 hf
  obtain rfl : v' = .slice a len cap := by simpa [Value.cells] using hv.symm
  exact ⟨ds, h1, h2, h3⟩
theorem reach_arrs {α : Type} {ts : List TypeId} {ds : List (DataW H)} (hsz : (DataW.weightsEach P ts ds).all (· ≤ reachBytes) = true) {j : Nat} {t e : TypeId} {d : DataW H} {l : List α} {k : Nat}
    (hj : ts[j]? = some t) (hd : ds[j]? = some d) (hu : P.underlying t = some (.slice e)) (hb : P.bytesOf e = k) (h : (d = .nil ∧ l = []) ∨ ∃ el sp, d = .slice el sp ∧ el.length = l.length) :
    l.length * k ≤ 140737488351232 := by
  rcases h with ⟨_, rfl⟩ | ⟨el, sp, rfl, hl⟩
  · simp
  · have := sized_slice hsz hj hd hu
    rw [hb] at this
    simp only [reachBytes] at this
    rw [← hl]
    exact Nat.le_trans (Nat.mul_le_mul_right k (Nat.le_add_right _ _)) this
end Go.Proofs.Ytjdohjoljobinaa.Read
