/- How arguments read: a slice of bytes that came in, as the words of Mem. Program-independent; no condition. -/
import Derived.Test.YtjdohjoljobinaaMem
import Derived.ProofKit
import Derived.ChangeOld
import Derived.SizedLaws
namespace Go.Proofs.Ytjdohjoljobinaa.Read
open Go Go.RowKit Go.ChangeShapes Go.WideShapes Mem
variable {H : Type} {enc : TypeId × Value → H} {P : Program} {W : World}

def u8of (n : Int) : UInt8 := UInt8.ofNat n.toNat
theorem u8of_eq {n : Int} (h : (Lit.int .u8 n).wf = true) : ((u8of n).toNat : Int) = n := by
  have := bounds_u8 h
  unfold u8of
  rw [UInt8.toNat_ofNat']; omega

theorem read_bytes {t e : TypeId} {v : Value} {d : DataW H} {ps : List MemPlace} {held spare} {base b0 : Nat} (ht : P.underlying t = some (.slice e)) (he : P.underlying e = some (.int .u8)) (hc : P.cellsOf e = 1)
    (hval : Value.okWide P W .any b0 t v) (h : DataW.Trod enc P W base spare held t v d ps) :
    ∃ l, Byt Any W v l ∧ ((d = .nil ∧ l = []) ∨ ∃ el sp, d = .slice el sp ∧ el.length = l.length) := by
  obtain ⟨a, len, cap, rfl⟩ := okWide_slice ht hval
  obtain ⟨fuel, hf⟩ := h
  rcases open_ints ht he hc hf with ⟨hcs, hx⟩ | ⟨x, l, c, zs, hcs, _, hl, hm, hz, hx, hcell, hwz⟩
  · simp [Value.cells] at hcs
    obtain ⟨rfl, rfl, rfl⟩ := hcs
    simp only [Prod.mk.injEq] at hx
    exact ⟨[], Byt.nil _ _, .inl ⟨hx.1, rfl⟩⟩
  · simp [Value.cells] at hcs
    obtain ⟨rfl, rfl, rfl⟩ := hcs
    simp only [Prod.mk.injEq] at hx
    have hzl : len ≤ zs.length := by rw [hz]; split <;> omega
    have hlen : ((zs.take len).map u8of).length = len := by simp; omega
    refine ⟨(zs.take len).map u8of, ⟨some x, cap, by rw [hlen], ⟨by omega, hm, fun h => by cases h⟩, ?_⟩, .inr ⟨_, _, hx.1, by simp [lits]⟩⟩
    by_cases h0 : len = 0
    · left; subst h0; rfl
    · right
      obtain ⟨b, off, rfl, hc2⟩ := ints_at hcell (by omega)
      refine ⟨b, off, rfl, trivial, fun i hi => ?_⟩
      have hi2 : i < len := by omega
      have h3 := hc2 i (by omega)
      rw [h3]
      have hw := hwz (zs[i]'(by omega)) (List.getElem_mem _)
      simp [u8of_eq hw, List.getElem?_eq_getElem (show i < zs.length by omega)]
theorem reach_bytes {ts : List TypeId} {ds : List (DataW H)} (hsz : (DataW.weightsEach P ts ds).all (· ≤ reachBytes) = true) {j : Nat} {t e : TypeId} {d : DataW H} {l : List UInt8}
    (hj : ts[j]? = some t) (hd : ds[j]? = some d) (hu : P.underlying t = some (.slice e)) (hb : P.bytesOf e = 1) (h : (d = .nil ∧ l = []) ∨ ∃ el sp, d = .slice el sp ∧ el.length = l.length) :
    l.length ≤ 140737488351232 := by
  rcases h with ⟨_, rfl⟩ | ⟨el, sp, rfl, hl⟩
  · simp
  · have := sized_slice hsz hj hd hu
    rw [hb] at this
    simp only [reachBytes] at this
    omega
/-- an array of bytes that came in -/
theorem read_arr {t e : TypeId} {n : Nat} {v : Value} {d : DataW H} {ps : List MemPlace} {held spare} {base b0 : Nat} (ht : P.underlying t = some (.array n e)) (he : P.underlying e = some (.int .u8)) (hc : P.cellsOf e = 1) (hct : P.cellsOf t = n)
    (hval : Value.okWide P W .any b0 t v) (h : DataW.Trod enc P W base spare held t v d ps) :
    ∃ l : List UInt8, v = .agg (l.map byt).toArray ∧ l.length = n := by
  simp only [Value.okWide, ht] at hval
  obtain ⟨cs, rfl, hsz, _⟩ := hval
  obtain ⟨fuel, hf⟩ := h
  obtain ⟨xs, m, rfl, _, _, hx, hall⟩ := DataW.trod_array ht hf
  rw [hct] at hsz
  have hcell : ∀ i, (hi : i < n) → ∃ c : UInt8, cs[i]'(by omega) = byt c := by
    intro i hi
    have h1 := hall i hi
    rw [hc, Nat.mul_one, List.getElem?_eq_getElem (by omega : i < xs.length)] at h1
    obtain ⟨z, hz, _, hw⟩ := DataW.trod_int he h1
    refine ⟨u8of z, ?_⟩
    have h2 : (((Value.agg cs).cells.toList).drop i).take 1 = [cs[i]'(by omega)] := by
      simp only [Value.cells]
      rw [List.take_one, List.head?_drop]
      simp [hsz, hi]
    rw [h2] at hz
    simp only [List.cons.injEq, and_true] at hz
    rw [hz, byt, u8of_eq hw]
  refine ⟨(List.range n).map fun i => if h : i < n then (hcell i h).choose else 0, ?_, by simp⟩
  congr 1
  apply Array.ext
  · simp [hsz]
  · intro i h1 h2
    have hi : i < n := by omega
    have := (hcell i hi).choose_spec
    rw [this]
    simp [hi]
end Go.Proofs.Ytjdohjoljobinaa.Read
