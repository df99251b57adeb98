/- Headers of the main chain: their bytes, their ids. In plain Lean. -/
import Derived.Test.YtmenchnjajpkmaaDoorCodecPure
import Derived.Test.YtmenchnjajpkmaaDoorShaTagged
namespace Go.Proofs.YtmenchnjajpkmaaDoor.Mh
open Go ShaW Mem Codec

abbrev Dg := List UInt8
structure Hd where
  prev : Dg
  root : Dg
  height : Nat
  nonce : Nat
def Hd.Ok (h : Hd) : Prop := h.prev.length = 32 ∧ h.root.length = 32 ∧ h.height < 18446744073709551616 ∧ h.nonce < 18446744073709551616
def Hd.cells (h : Hd) : List Value := h.prev.map byt ++ h.root.map byt ++ [.int .u64 (h.height : Int), .int .u64 (h.nonce : Int)]
abbrev hv (h : Hd) : Value := .agg h.cells.toArray
abbrev dv (d : Dg) : Value := .agg (d.map byt).toArray
def encH (h : Hd) : List UInt8 := h.prev ++ (h.root ++ (num h.height 8 ++ num h.nonce 8))
def idName : ByteArray := ⟨#[116, 111, 108, 108, 104, 111, 117, 115, 101, 47, 109, 97, 105, 110]⟩
def mainId (h : Hd) : Dg := tagged idName [encH h]
theorem mainId_length (h : Hd) : (mainId h).length = 32 := tagged_length _ _
theorem Hd.Ok.len {h : Hd} (ok : h.Ok) : h.cells.length = 66 := by simp [Hd.cells, ok.1, ok.2.1]
theorem Hd.one (h : Hd) : ∀ v ∈ h.cells, v.oneCell' = true := by
  intro v hv
  simp only [Hd.cells, List.mem_append, List.mem_map, List.mem_cons, List.not_mem_nil, or_false] at hv
  rcases hv with (⟨_, _, rfl⟩ | ⟨_, _, rfl⟩) | rfl | rfl <;> rfl
theorem Hd.cell_height {h : Hd} (ok : h.Ok) : h.cells[64]? = some (.int .u64 (h.height : Int)) := by
  unfold Hd.cells
  rw [List.getElem?_append_right (by simp [ok.1, ok.2.1])]
  simp [ok.1, ok.2.1]
theorem Hd.cell_nonce {h : Hd} (ok : h.Ok) : h.cells[65]? = some (.int .u64 (h.nonce : Int)) := by
  unfold Hd.cells
  rw [List.getElem?_append_right (by simp [ok.1, ok.2.1])]
  simp [ok.1, ok.2.1]
theorem Hd.at_prev {h : Hd} {j : Nat} {u : Value} (hu : (h.prev.map byt)[j]? = some u) : h.cells[0 + j]? = some u := by
  have hj := (List.getElem?_eq_some_iff.1 hu).1
  unfold Hd.cells
  rw [Nat.zero_add, List.append_assoc, List.getElem?_append_left hj]
  exact hu
theorem Hd.at_root {h : Hd} (ok : h.Ok) {j : Nat} {u : Value} (hu : (h.root.map byt)[j]? = some u) : h.cells[32 + j]? = some u := by
  have hj := (List.getElem?_eq_some_iff.1 hu).1
  unfold Hd.cells
  rw [List.append_assoc, List.getElem?_append_right (by simp [ok.1]), List.length_map, ok.1, Nat.add_sub_cancel_left, List.getElem?_append_left hj]
  exact hu

/-- where a header stands -/
def find (hs : List Hd) (id : Dg) : Option Nat := hs.findIdx? (fun h => mainId h == id)
theorem find_some {hs : List Hd} {id : Dg} {k : Nat} (h : find hs id = some k) : ∃ g, hs[k]? = some g ∧ mainId g = id ∧ ∀ j g', j < k → hs[j]? = some g' → mainId g' ≠ id := by
  unfold find at h
  rw [List.findIdx?_eq_some_iff_getElem] at h
  obtain ⟨hk, h1, h2⟩ := h
  refine ⟨hs[k], List.getElem?_eq_getElem hk, by simpa using h1, fun j g' hj hg e => ?_⟩
  have hj2 : j < hs.length := by omega
  rw [List.getElem?_eq_getElem hj2] at hg
  cases hg
  have := h2 j hj
  simp [e] at this
theorem find_none {hs : List Hd} {id : Dg} (h : find hs id = none) : ∀ g ∈ hs, mainId g ≠ id := by
  unfold find at h
  rw [List.findIdx?_eq_none_iff] at h
  intro g hg e
  have := h g hg
  simp [e] at this
/-- a track: no two of one id; each one but the first lies on one ahead of it -/
structure Trk (hs : List Hd) : Prop where
  ne : 0 < hs.length
  ok : ∀ h ∈ hs, h.Ok
  nd : ∀ (i j : Nat) (g h : Hd), hs[i]? = some g → hs[j]? = some h → mainId g = mainId h → i = j
  up : ∀ (i : Nat) (h : Hd), hs[i]? = some h → 0 < i → ∃ (j : Nat) (g : Hd), j < i ∧ hs[j]? = some g ∧ mainId g = h.prev
theorem Trk.find {hs : List Hd} (T : Trk hs) {k : Nat} {g : Hd} (hg : hs[k]? = some g) : find hs (mainId g) = some k := by
  cases h : Mh.find hs (mainId g) with
  | none => exact absurd rfl (find_none h g (List.mem_of_getElem? hg))
  | some j =>
    obtain ⟨g', h1, h2, _⟩ := find_some h
    rw [T.nd j k g' g h1 hg h2]
theorem Trk.one {h : Hd} (ok : h.Ok) : Trk [h] where
  ne := by simp
  ok g hg := by rw [List.mem_singleton.1 hg]; exact ok
  nd i j g g' hi hj _ := by
    have h1 := (List.getElem?_eq_some_iff.1 hi).1
    have h2 := (List.getElem?_eq_some_iff.1 hj).1
    simp at h1 h2; omega
  up i g hi h0 := by have h1 := (List.getElem?_eq_some_iff.1 hi).1; simp at h1; omega
/-- the error, and the track behind it -/
def addE (hs : List Hd) (h : Hd) : Int :=
  if (find hs (mainId h)).isSome then 170 else match Mh.find hs h.prev with
    | none => 171
    | some k => if h.height = 0 ∨ ((hs[k]?.map Hd.height).getD 0) + 1 ≠ h.height then 172 else 0
def addL (hs : List Hd) (h : Hd) : List Hd := if addE hs h = 0 then hs ++ [h] else hs
theorem addE_ok {hs : List Hd} {h : Hd} (e : addE hs h = 0) : find hs (mainId h) = none ∧ ∃ k g, find hs h.prev = some k ∧ hs[k]? = some g ∧ g.height + 1 = h.height := by
  unfold addE at e
  split at e
  · cases e
  rename_i h1
  refine ⟨by simpa using h1, ?_⟩
  cases hp : find hs h.prev with
  | none => simp [hp] at e
  | some k =>
    obtain ⟨g, hg, _⟩ := find_some hp
    refine ⟨k, g, rfl, hg, ?_⟩
    simp only [hp, hg, Option.map_some, Option.getD_some] at e
    split at e
    · cases e
    · omega
theorem Trk.add {hs : List Hd} (T : Trk hs) {h : Hd} (ok : h.Ok) : Trk (addL hs h) := by
  unfold addL
  split
  · rename_i e
    obtain ⟨h1, k, g, h2, h3, h4⟩ := addE_ok e
    refine ⟨by simp, fun x hx => ?_, fun i j x y hi hj hxy => ?_, fun i x hi h0 => ?_⟩
    · rcases List.mem_append.1 hx with hx | hx
      · exact T.ok x hx
      · rw [List.mem_singleton.1 hx]; exact ok
    · have key : ∀ (i : Nat) (x : Hd), (hs ++ [h])[i]? = some x → (i < hs.length ∧ hs[i]? = some x) ∨ (i = hs.length ∧ x = h) := by
        intro i x hi
        by_cases hlt : i < hs.length
        · rw [List.getElem?_append_left hlt] at hi; exact .inl ⟨hlt, hi⟩
        · have := (List.getElem?_eq_some_iff.1 hi).1
          simp at this
          obtain rfl : i = hs.length := by omega
          simp at hi
          exact .inr ⟨rfl, hi.symm⟩
      rcases key i x hi with ⟨_, hi2⟩ | ⟨e1, rfl⟩ <;> rcases key j y hj with ⟨_, hj2⟩ | ⟨e2, e3⟩
      · exact T.nd i j x y hi2 hj2 hxy
      · rw [e3] at hxy; exact absurd hxy (find_none h1 x (List.mem_of_getElem? hi2))
      · exact absurd hxy.symm (find_none h1 y (List.mem_of_getElem? hj2))
      · omega
    · by_cases hlt : i < hs.length
      · rw [List.getElem?_append_left hlt] at hi
        obtain ⟨j, g, hj, hg, hp⟩ := T.up i x hi h0
        exact ⟨j, g, hj, by rw [List.getElem?_append_left (by omega)]; exact hg, hp⟩
      · have := (List.getElem?_eq_some_iff.1 hi).1
        simp at this
        obtain rfl : i = hs.length := by omega
        simp at hi
        subst hi
        have hk := (List.getElem?_eq_some_iff.1 h3).1
        obtain ⟨g', hg', hp, _⟩ := find_some h2
        rw [h3] at hg'; cases hg'
        exact ⟨k, g, hk, by rw [List.getElem?_append_left hk]; exact h3, hp⟩
  · exact T
/-- which one is the best -/
def ht (hs : List Hd) (k : Nat) : Nat := (hs[k]?.map Hd.height).getD 0
def bestN (hs : List Hd) : Nat → Nat
  | 0 => 0
  | n + 1 => if ht hs (bestN hs n) < ht hs n then n else bestN hs n
def best (hs : List Hd) : Nat := bestN hs hs.length
theorem bestN_le (hs : List Hd) : ∀ n, bestN hs n ≤ n - 1
  | 0 => Nat.le_refl _
  | n + 1 => by
    unfold bestN
    have := bestN_le hs n
    split <;> omega
theorem best_lt {hs : List Hd} (h : 0 < hs.length) : best hs < hs.length := by have := bestN_le hs hs.length; unfold best; omega
theorem ht_snoc (hs : List Hd) (h : Hd) {k : Nat} (hk : k < hs.length) : ht (hs ++ [h]) k = ht hs k := by unfold ht; rw [List.getElem?_append_left hk]
theorem bestN_snoc (hs : List Hd) (h : Hd) (h0 : 0 < hs.length) : ∀ n, n ≤ hs.length → bestN (hs ++ [h]) n = bestN hs n
  | 0, _ => rfl
  | n + 1, hn => by
    have ih := bestN_snoc hs h h0 n (by omega)
    have hb := bestN_le hs n
    unfold bestN
    rw [ih, ht_snoc hs h (by omega), ht_snoc hs h (by omega)]
theorem best_snoc (hs : List Hd) (h : Hd) (h0 : 0 < hs.length) : best (hs ++ [h]) = if ht hs (best hs) < h.height then hs.length else best hs := by
  unfold best
  rw [List.length_append, List.length_singleton, bestN, bestN_snoc hs h h0 _ (Nat.le_refl _), ht_snoc hs h (show bestN hs hs.length < hs.length from best_lt h0)]
  have : ht (hs ++ [h]) hs.length = h.height := by simp [ht]
  rw [this]
/-- how deep one lies under another one -/
def dep (hs : List Hd) (id : Dg) : Nat → Nat → Option Nat
  | 0, _ => none
  | f + 1, k => match hs[k]? with
    | none => none
    | some h => if mainId h = id then some 0 else if k = 0 then none else match Mh.find hs h.prev with
      | none => none
      | some j => (dep hs id f j).map (· + 1)
theorem Trk.prev {hs : List Hd} (T : Trk hs) {k : Nat} {h : Hd} (hk : hs[k]? = some h) (h0 : 0 < k) : ∃ (j : Nat) (g : Hd), Mh.find hs h.prev = some j ∧ hs[j]? = some g ∧ mainId g = h.prev ∧ j < k := by
  obtain ⟨j, g, h1, h2, h3⟩ := T.up k h hk h0
  exact ⟨j, g, by rw [← h3]; exact T.find h2, h2, h3, h1⟩
theorem Trk.fuel {hs : List Hd} (T : Trk hs) (id : Dg) : ∀ (k f : Nat), k < f → dep hs id f k = dep hs id (k + 1) k := by
  intro k
  induction k using Nat.strongRecOn with
  | ind k ih =>
    intro f hf
    obtain ⟨f, rfl⟩ : ∃ m, f = m + 1 := ⟨f - 1, by omega⟩
    unfold dep
    cases hk : hs[k]? with
    | none => rfl
    | some h =>
      simp only
      split
      · rfl
      · split
        · rfl
        · obtain ⟨j, g, h1, h2, h3, h4⟩ := T.prev hk (by omega)
          simp only [h1]
          rw [ih j h4 f (by omega), ih j h4 k (by omega)]
def depth (hs : List Hd) (id over : Dg) : Option Nat := match find hs over with
  | none => none
  | some k => dep hs id (k + 1) k
theorem Trk.dep_eq {hs : List Hd} (T : Trk hs) (id : Dg) {k : Nat} {h : Hd} (hk : hs[k]? = some h) : dep hs id (k + 1) k = if mainId h = id then some 0 else if k = 0 then none else (depth hs id h.prev).map (· + 1) := by
  rw [dep]
  simp only [hk]
  split
  · rfl
  · split
    · rfl
    · obtain ⟨j, g, h1, h2, h3, h4⟩ := T.prev hk (by omega)
      unfold depth
      simp only [h1]
      rw [T.fuel id j k h4]
theorem Trk.depth_eq {hs : List Hd} (T : Trk hs) (id : Dg) {k : Nat} {h : Hd} (hk : hs[k]? = some h) : depth hs id (mainId h) = if mainId h = id then some 0 else if k = 0 then none else (depth hs id h.prev).map (· + 1) := by
  have h1 := T.find hk
  unfold depth
  rw [h1]
  exact T.dep_eq id hk
theorem dep_le (hs : List Hd) (id : Dg) : ∀ (f k n : Nat), dep hs id f k = some n → n < f
  | 0, _, _, h => by simp [dep] at h
  | f + 1, k, n, h => by
    unfold dep at h
    split at h
    · cases h
    · split at h
      · cases h; omega
      · split at h
        · cases h
        · split at h
          · cases h
          · rename_i j _
            cases hd : dep hs id f j with
            | none => rw [hd] at h; cases h
            | some m =>
              rw [hd] at h
              simp only [Option.map_some, Option.some.injEq] at h
              have := dep_le hs id f j m hd
              omega
end Go.Proofs.YtmenchnjajpkmaaDoor.Mh
