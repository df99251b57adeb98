/- Words for slices whose elements are so many cells each: what they read as, pieces of them, what the call's own hold. Program-independent; no condition. -/
import Derived.Test.YtjdohjoljobinaaRow
import Derived.Deep.MidRow
namespace Go.Proofs.Ytjdohjoljobinaa.Arr
open Go Go.RowKit Mem Row

/-- a slice whose elements are k cells each, which lie in a block of D -/
def Arr (k : Nat) (D : Nat → Prop) (w : World) (v : Value) (xs : List (List Value)) : Prop :=
  ∃ a cap, v = .slice a xs.length cap ∧ (xs.length ≤ cap ∧ cap ≤ maxLen ∧ (a = none → cap = 0)) ∧ (∀ x ∈ xs, x.length = k) ∧ (xs = [] ∨ ∃ b off, a = some ⟨b, off, none⟩ ∧ D b ∧ ∀ i (h : i < xs.length), w.rangeAt b (off + i * k) (xs[i]'h))
section
variable {k : Nat} {D E : Nat → Prop} {w w' : World} {v : Value} {xs : List (List Value)}
theorem rangeAt_fr {S : Nat → Prop} {b o : Nat} {cs : List Value} (h : w.rangeAt b o cs) (hf : Fr S w w') (hn : ¬ S b) : w'.rangeAt b o cs := fun j u hu => hf.cell (h j u hu) hn
theorem rangeAt_lt {b o : Nat} {cs : List Value} (h : w.rangeAt b o cs) (hc : cs ≠ []) : b < w.heap.size := by
  have h0 := h 0 (cs[0]'(List.length_pos_iff.2 hc)) (by simp)
  exact World.block_lt_of_cell? w _ h0
theorem Arr.len (h : Arr k D w v xs) : ∀ x ∈ xs, x.length = k := h.choose_spec.choose_spec.2.2.1
theorem Arr.form (h : Arr k D w v xs) : ∃ a cap, v = .slice a xs.length cap ∧ xs.length ≤ cap ∧ cap ≤ maxLen ∧ (a = none → cap = 0) := by
  obtain ⟨a, cap, h1, h2, _⟩ := h; exact ⟨a, cap, h1, h2⟩
theorem Arr.at (h : Arr k D w v xs) (i : Nat) (hi : i < xs.length) : ∃ b off cap, v = .slice (some ⟨b, off, none⟩) xs.length cap ∧ D b ∧ w.rangeAt b (off + i * k) (xs[i]'hi) := by
  obtain ⟨a, cap, h1, h2, _, h | ⟨b, off, rfl, hd, h⟩⟩ := h
  · subst h; simp at hi
  · exact ⟨b, off, cap, h1, hd, h i hi⟩
theorem Arr.mono (h : Arr k D w v xs) (hk : 0 < k) (hd : ∀ b, b < w.heap.size → D b → E b) : Arr k E w v xs := by
  obtain ⟨a, cap, h1, h2, h3, h⟩ := h
  refine ⟨a, cap, h1, h2, h3, ?_⟩
  by_cases hx : xs = []
  · exact .inl hx
  · rcases h with h | ⟨b, off, rfl, hb, h⟩
    · exact .inl h
    · have h0 : 0 < xs.length := List.length_pos_iff.2 hx
      have hl := h3 (xs[0]'h0) (List.getElem_mem h0)
      exact .inr ⟨b, off, rfl, hd b (rangeAt_lt (h 0 h0) (fun e => by rw [e] at hl; simp at hl; omega)) hb, h⟩
theorem Arr.fr {S : Nat → Prop} (h : Arr k D w v xs) (hk : 0 < k) (hf : Fr S w w') (hn : ∀ b, b < w.heap.size → D b → ¬ S b) : Arr k D w' v xs := by
  obtain ⟨a, cap, h1, h2, h3, h⟩ := h.mono (E := fun b => b < w.heap.size ∧ D b) hk (fun _ h1 h2 => ⟨h1, h2⟩)
  refine ⟨a, cap, h1, h2, h3, h.imp_right ?_⟩
  rintro ⟨b, off, rfl, hb, h⟩
  exact ⟨b, off, rfl, hb.2, fun i hi => rangeAt_fr (h i hi) hf (hn b hb.1 hb.2)⟩
theorem Arr.below (h : Arr k D w v xs) (hk : 0 < k) (hf : Below w.heap.size w w') : Arr k D w' v xs := h.fr hk (Fr.ofBelow hf) (fun b h1 _ h2 => by omega)
theorem Arr.drew (h : Arr k D w v xs) : Arr k D w.drew v xs := h
theorem Arr.drewN (h : Arr k D w v xs) (n : Nat) : Arr k D (w.drewN n) v xs := h
theorem Arr.nil (k : Nat) (D : Nat → Prop) (w : World) : Arr k D w (.slice none 0 0) [] := ⟨none, 0, rfl, ⟨Nat.le_refl _, Nat.zero_le _, fun _ => rfl⟩, by simp, .inl rfl⟩
theorem Arr.any (h : Arr k D w v xs) : Arr k Any w v xs := by
  obtain ⟨a, cap, h1, h2, h3, h⟩ := h
  exact ⟨a, cap, h1, h2, h3, h.imp_right fun ⟨b, off, e, _, h⟩ => ⟨b, off, e, trivial, h⟩⟩
end

theorem flatten_getElem? {k : Nat} : ∀ (xs : List (List Value)), (∀ x ∈ xs, x.length = k) → ∀ (i : Nat) (hi : i < xs.length) (j : Nat), j < k → xs.flatten[i * k + j]? = (xs[i]'hi)[j]?
  | [], _, i, hi, _, _ => by simp at hi
  | x :: r, hx, i, hi, j, hj => by
    have h0 := hx x (by simp)
    rw [List.flatten_cons]
    cases i with
    | zero => rw [List.getElem?_append_left (by omega)]; simp
    | succ i =>
      rw [List.getElem?_append_right (by rw [h0, Nat.succ_mul]; omega), h0, show (i + 1) * k + j - k = i * k + j by rw [Nat.succ_mul]; omega]
      exact flatten_getElem? r (fun y hy => hx y (by simp [hy])) i (by simpa using hi) j hj
theorem flatten_length {k : Nat} : ∀ (xs : List (List Value)), (∀ x ∈ xs, x.length = k) → xs.flatten.length = xs.length * k
  | [], _ => by simp
  | x :: r, hx => by
    have h0 := hx x (by simp)
    have h1 := flatten_length r (fun y hy => hx y (by simp [hy]))
    rw [List.flatten_cons, List.length_append, h0, h1, List.length_cons, Nat.succ_mul]; omega

/-- what the call's own slice holds -/
def OwnA (k base : Nat) (e : TypeId) (w : World) (v : Value) (xs : List (List Value)) : Prop := OwnV k base e w v xs.length xs.flatten ∧ (∀ x ∈ xs, x.length = k)
section
variable {k base base' : Nat} {e : TypeId} {w w' : World} {v : Value} {xs : List (List Value)}
theorem OwnA.nil (k base : Nat) (e : TypeId) (w : World) : OwnA k base e w (.slice none 0 0) [] := ⟨OwnV.nil _ _ _ _, by simp⟩
theorem OwnA.drew (h : OwnA k base e w v xs) : OwnA k base e w.drew v xs := h
theorem OwnA.alloc (h : OwnA k base e w v xs) (o : Obj) : OwnA k base e (w.alloc o) v xs := ⟨h.1.alloc o, h.2⟩
theorem OwnA.fr {S : Nat → Prop} (h : OwnA k base e w v xs) (hf : Fr S w w') (hn : ∀ b, v.ownBlock = some b → ¬ S b) : OwnA k base e w' v xs := ⟨h.1.fr hf hn, h.2⟩
theorem OwnA.below (h : OwnA k base e w v xs) (hf : Below w.heap.size w w') : OwnA k base e w' v xs := ⟨h.1.below hf, h.2⟩
theorem OwnA.mono (h : OwnA k base e w v xs) (hb : base' ≤ base) : OwnA k base' e w v xs := ⟨h.1.mono hb, h.2⟩
theorem OwnA.lt (h : OwnA k base e w v xs) : ∀ b, v.ownBlock = some b → base ≤ b ∧ b < w.heap.size := h.1.lt
theorem OwnA.form (h : OwnA k base e w v xs) : ∃ a cap, v = .slice a xs.length cap ∧ xs.length ≤ cap ∧ cap ≤ maxLen ∧ (a = none → cap = 0) := h.1.form
theorem OwnA.arr (h : OwnA k base e w v xs) : Arr k (fun b => v.ownBlock = some b ∧ base ≤ b) w v xs := by
  obtain ⟨a, cap, h1, h2, h3, h4⟩ := h.form
  refine ⟨a, cap, h1, ⟨h2, h3, h4⟩, h.2, ?_⟩
  by_cases hx : xs = []
  · exact .inl hx
  · obtain ⟨g, cap', e1, hg, hlt, hc⟩ := h.1.at (List.length_pos_iff.2 hx)
    rw [h1] at e1
    cases e1
    refine .inr ⟨g, 0, rfl, ⟨by rw [h1]; rfl, hg⟩, fun i hi j u hu => ?_⟩
    have hk := h.2 (xs[i]'hi) (List.getElem_mem hi)
    have hj : j < k := by rw [← hk]; exact (List.getElem?_eq_some_iff.1 hu).1
    have hl := flatten_length xs h.2
    have hik : i * k + j < xs.length * k := by
      have : (i + 1) * k ≤ xs.length * k := Nat.mul_le_mul_right k hi
      rw [Nat.succ_mul] at this; omega
    rw [Nat.zero_add, hc (i * k + j) hik]
    have := flatten_getElem? xs h.2 i hi j hj
    rw [hu, List.getElem?_eq_getElem (by omega)] at this
    exact this
/-- one more element, appended: as the law for append of one new value leaves it -/
theorem OwnA.push {v' : Value} {x : List Value} (h : OwnA k base e w v xs) (hx : x.length = k) (h1 : OwnV k base e w' v' (xs.length + 1) (xs.flatten ++ x)) : OwnA k base e w' v' (xs ++ [x]) := by
  refine ⟨by rw [List.length_append, List.length_singleton, List.flatten_append]; simpa using h1, ?_⟩
  intro y hy
  rcases List.mem_append.1 hy with hy | hy
  · exact h.2 y hy
  · rw [List.mem_singleton.1 hy]; exact hx
end

/-- a slice of one new element -/
theorem arr_one {k : Nat} {D : Nat → Prop} (w : World) (cs : Array Value) (e : TypeId) (f : Nat × Nat) (x : List Value) (hx : x.length = k) (hcs : cs = x.toArray) (hd : D w.heap.size) : Arr k D (w.alloc (.cells cs e f)) (.slice (some ⟨w.heap.size, 0, none⟩) 1 1) [x] := by
  subst hcs
  refine ⟨_, 1, rfl, ⟨by simp, by unfold maxLen; omega, fun h => by cases h⟩, by simpa using hx, .inr ⟨_, 0, rfl, hd, fun i hi j u hu => ?_⟩⟩
  obtain rfl : i = 0 := by simpa using hi
  have e1 : (w.alloc (.cells x.toArray e f)).heap[w.heap.size]? = some (.cells x.toArray e f) := heap_alloc_new w _
  simp only [World.cell?, e1]
  simpa using hu

/-- a piece of a slice -/
theorem run_slice_arr {P : Program} {t e : TypeId} {k : Nat} {D : Nat → Prop} {w : World} {v : Value} {xs : List (List Value)} {z : Value} {bytes : Nat} (T : ElemT P t e z k bytes) (h : Arr k D w v xs) (lo hi : Nat) (h1 : lo ≤ hi) (h2 : hi ≤ xs.length) :
    ∃ a cap, (∀ (kl kh : IntKind) (w' : World), (Instr.sliceAt t v (some (.int kl (lo : Int))) (some (.int kh (hi : Int))) none).run P w' = .ok (.slice a (hi - lo) cap) w') ∧
      (lo = 0 → ∀ (kh : IntKind) (w' : World), (Instr.sliceAt t v none (some (.int kh (hi : Int))) none).run P w' = .ok (.slice a (hi - lo) cap) w') ∧
      (hi = xs.length → ∀ (kl : IntKind) (w' : World), (Instr.sliceAt t v (some (.int kl (lo : Int))) none none).run P w' = .ok (.slice a (hi - lo) cap) w') ∧
      Arr k D w (.slice a (hi - lo) cap) ((xs.take hi).drop lo) := by
  have hlen := h.len
  obtain ⟨a, c, rfl, ⟨hlc, hcm, hnone⟩, _, hb⟩ := h
  obtain ⟨i, hi1, hz, hsz, hby⟩ := T.info
  have hsize : ∀ w', (sizeOf e).run P w' = .ok k w' := fun w' => by simp [sizeOf, typeInfo, hi1, hsz]
  have el : ((lo : Int)).toNat = lo := rfl
  refine ⟨if c = lo then a else a.map (·.add (lo * k)), c - lo, ?_, ?_, ?_, ?_⟩
  · intro kl kh w'
    have : ((lo : Int) ≤ hi) := by omega
    simp [Instr.sliceAt, Instr.slice, run_underlying T.und, Instr.sliceBounds, run_sliceBound, hsize, show (hi : Int) ≤ c from by omega, this]
  · intro h0 kh w'
    subst h0
    simp [Instr.sliceAt, Instr.slice, run_underlying T.und, Instr.sliceBounds, run_sliceBound, hsize, show (hi : Int) ≤ c from by omega]
  · intro h0 kl w'
    subst h0
    simp [Instr.sliceAt, Instr.slice, run_underlying T.und, Instr.sliceBounds, run_sliceBound, hsize, show (lo : Int) ≤ xs.length from by omega]
  · have hlen2 : ((xs.take hi).drop lo).length = hi - lo := by simp; omega
    refine ⟨_, c - lo, by rw [hlen2], ⟨by omega, by omega, ?_⟩, fun x hx => hlen x (List.mem_of_mem_take (List.mem_of_mem_drop hx)), ?_⟩
    · intro hn
      split at hn
      · omega
      · cases a with
        | none => have := hnone rfl; omega
        | some x => simp at hn
    · by_cases he : hi - lo = 0
      · left; apply List.length_eq_zero_iff.1; omega
      · right
        rcases hb with hb | ⟨b, off, rfl, hd, hl⟩
        · subst hb; simp at h2; omega
        · have hne : c ≠ lo := by omega
          refine ⟨b, off + lo * k, ?_, hd, fun i hi2 => ?_⟩
          · rw [if_neg hne]
            simp only [Option.map_some, Option.some.injEq]
            unfold Addr.add
            split
            · rename_i h0; rw [h0]; rfl
            · rfl
          · have := hl (lo + i) (by omega)
            rw [Nat.add_assoc, ← Nat.add_mul]
            simpa [List.getElem_drop, List.getElem_take] using this
/-- a beginning of a slice whose room ends with it -/
theorem run_slice_arr3 {P : Program} {t e : TypeId} {k : Nat} {D : Nat → Prop} {w : World} {v : Value} {xs : List (List Value)} {z : Value} {bytes : Nat} (T : ElemT P t e z k bytes) (h : Arr k D w v xs) (hi : Nat) (h2 : hi ≤ xs.length) :
    ∃ a, (∀ (kh km : IntKind) (w' : World), (Instr.sliceAt t v none (some (.int kh (hi : Int))) (some (.int km (hi : Int)))).run P w' = .ok (.slice a hi hi) w') ∧ Arr k D w (.slice a hi hi) (xs.take hi) := by
  have hlen := h.len
  obtain ⟨a, c, rfl, ⟨hlc, hcm, hnone⟩, _, hb⟩ := h
  obtain ⟨i, hi1, hz, hsz, hby⟩ := T.info
  have hsize : ∀ w', (sizeOf e).run P w' = .ok k w' := fun w' => by simp [sizeOf, typeInfo, hi1, hsz]
  refine ⟨a, ?_, ?_⟩
  · intro kh km w'
    simp [Instr.sliceAt, Instr.slice, run_underlying T.und, Instr.sliceBounds, run_sliceBound, hsize, show (hi : Int) ≤ c from by omega]
    intro _
    cases a <;> simp [Addr.add]
  · have hl2 : (xs.take hi).length = hi := by simp; omega
    refine ⟨a, hi, by rw [hl2], ⟨by omega, by omega, fun h => by have := hnone h; omega⟩, fun x hx => hlen x (List.mem_of_mem_take hx), ?_⟩
    rcases hb with hb | ⟨b, off, rfl, hd, hl⟩
    · left; subst hb; simp
    · right; exact ⟨b, off, rfl, hd, fun i hi3 => by simpa [List.getElem_take] using hl i (by omega)⟩
end Go.Proofs.Ytjdohjoljobinaa.Arr
