/- How a thing of so many cells reads as plain data, and slices of such things. Program-independent; no condition. -/
import Derived.Test.YtjdohjoljobinaaArr3
import Derived.Test.YtjdohjoljobinaaOps
namespace Go.Proofs.Ytjdohjoljobinaa.Reps
open Go Go.RowKit Mem Row Arr Ops
set_option linter.unusedVariables false

/-- both lists, one by one -/
inductive All2 {α β : Type} (R : α → β → Prop) : List α → List β → Prop
  | nil : All2 R [] []
  | cons {a b l m} : R a b → All2 R l m → All2 R (a :: l) (b :: m)
section
variable {α β : Type} {R R' : α → β → Prop}
theorem All2.length {l : List α} {m : List β} (h : All2 R l m) : l.length = m.length := by
  induction h with
  | nil => rfl
  | cons _ _ ih => simp [ih]
theorem All2.imp {l : List α} {m : List β} (h : All2 R l m) (hi : ∀ a b, R a b → R' a b) : All2 R' l m := by
  induction h with
  | nil => exact .nil
  | cons h1 _ ih => exact .cons (hi _ _ h1) ih
theorem All2.append {l l' : List α} {m m' : List β} (h : All2 R l m) (h' : All2 R l' m') : All2 R (l ++ l') (m ++ m') := by
  induction h with
  | nil => exact h'
  | cons h1 _ ih => exact .cons h1 ih
theorem All2.snoc {l : List α} {m : List β} {a : α} {b : β} (h : All2 R l m) (h1 : R a b) : All2 R (l ++ [a]) (m ++ [b]) := h.append (.cons h1 .nil)
theorem All2.get {l : List α} {m : List β} (h : All2 R l m) : ∀ (i : Nat) (hi : i < l.length) (hj : i < m.length), R (l[i]'hi) (m[i]'hj) := by
  induction h with
  | nil => intro i hi; simp at hi
  | cons h1 _ ih =>
    intro i hi hj
    cases i with
    | zero => exact h1
    | succ i => exact ih i (by simpa using hi) (by simpa using hj)
theorem All2.left {l : List α} {m : List β} (h : All2 R l m) {a : α} (ha : a ∈ l) : ∃ b, b ∈ m ∧ R a b := by
  induction h with
  | nil => cases ha
  | cons h1 _ ih =>
    rcases List.mem_cons.1 ha with rfl | ha
    · exact ⟨_, by simp, h1⟩
    · obtain ⟨b, h2, h3⟩ := ih ha; exact ⟨b, by simp [h2], h3⟩
theorem All2.ofMap {γ : Type} (f : γ → α) (g : γ → β) : ∀ (l : List γ), (∀ x ∈ l, R (f x) (g x)) → All2 R (l.map f) (l.map g)
  | [], _ => .nil
  | x :: r, h => .cons (h x (by simp)) (All2.ofMap f g r (fun y hy => h y (by simp [hy])))
end

/-- a way in which so many cells read as plain data, whose memory lies in blocks of D -/
structure Rep {α : Type} (k : Nat) (R : (Nat → Prop) → World → List Value → α → Prop) : Prop where
  pos : 0 < k
  len : ∀ {D w cs x}, R D w cs x → cs.length = k
  one : ∀ {D w cs x}, R D w cs x → ∀ v ∈ cs, v.oneCell' = true
  fr : ∀ {D S w w' cs x}, R D w cs x → Fr S w w' → (∀ b, b < w.heap.size → D b → ¬ S b) → R D w' cs x
  mono : ∀ {D E w cs x}, R D w cs x → (∀ b, b < w.heap.size → D b → E b) → R E w cs x
section
variable {α β : Type} {k : Nat} {R : (Nat → Prop) → World → List Value → α → Prop}
theorem Rep.below (T : Rep k R) {D : Nat → Prop} {w w' : World} {cs : List Value} {x : α} (h : R D w cs x) (hb : Below w.heap.size w w') : R D w' cs x := T.fr h (Fr.ofBelow hb) (fun b h1 _ h2 => by omega)
theorem Rep.lt (T : Rep k R) {D : Nat → Prop} {w : World} {cs : List Value} {x : α} (h : R D w cs x) : R (fun b => b < w.heap.size ∧ D b) w cs x := T.mono h (fun _ h1 h2 => ⟨h1, h2⟩)
theorem Rep.any (T : Rep k R) {D : Nat → Prop} {w : World} {cs : List Value} {x : α} (h : R D w cs x) : R Any w cs x := T.mono h (fun _ _ _ => trivial)
theorem Rep.fr_lt (T : Rep k R) {D S : Nat → Prop} {w w' : World} {cs : List Value} {x : α} (h : R D w cs x) (hf : Fr S w w') (hn : ∀ b, b < w.heap.size → D b → ¬ S b) : R (fun b => b < w.heap.size ∧ D b) w' cs x := T.fr (T.lt h) hf (fun b h1 h2 => hn b h1 h2.2)

/-- a slice of such things -/
def Sl (k : Nat) (R : (Nat → Prop) → World → List Value → α → Prop) (D : Nat → Prop) (w : World) (v : Value) (xs : List α) : Prop := ∃ css, Arr k D w v css ∧ All2 (R D w) css xs
theorem Sl.form {D : Nat → Prop} {w : World} {v : Value} {xs : List α} (h : Sl k R D w v xs) : ∃ a cap, v = .slice a xs.length cap ∧ xs.length ≤ cap ∧ cap ≤ maxLen ∧ (a = none → cap = 0) := by
  obtain ⟨css, h1, h2⟩ := h
  rw [← h2.length]
  exact h1.form
theorem Sl.at {D : Nat → Prop} {w : World} {v : Value} {xs : List α} (h : Sl k R D w v xs) (i : Nat) (hi : i < xs.length) : ∃ b off cap cs, v = .slice (some ⟨b, off, none⟩) xs.length cap ∧ D b ∧ w.rangeAt b (off + i * k) cs ∧ R D w cs (xs[i]'hi) := by
  obtain ⟨css, h1, h2⟩ := h
  have hl := h2.length
  obtain ⟨b, off, cap, e1, e2, e3⟩ := h1.at i (by omega)
  rw [hl] at e1
  exact ⟨b, off, cap, _, e1, e2, e3, h2.get i (by omega) hi⟩
theorem Sl.nil (k : Nat) (R : (Nat → Prop) → World → List Value → α → Prop) (D : Nat → Prop) (w : World) : Sl k R D w (.slice none 0 0) [] := ⟨[], Arr.nil _ _ _, .nil⟩
theorem rep_sl (T : Rep k R) : Rep 1 (fun D w cs (xs : List α) => ∃ v, cs = [v] ∧ Sl k R D w v xs) where
  pos := by omega
  len := by rintro D w cs x ⟨v, rfl, _⟩; rfl
  one := by
    rintro D w cs x ⟨v, rfl, h⟩ u hu
    obtain ⟨a, c, rfl, _⟩ := h.form
    rw [List.mem_singleton.1 hu]; rfl
  fr := by
    rintro D S w w' cs x ⟨v, rfl, css, h1, h2⟩ hf hn
    exact ⟨v, rfl, css, h1.fr T.pos hf hn, h2.imp fun _ _ h => T.fr h hf hn⟩
  mono := by
    rintro D E w cs x ⟨v, rfl, css, h1, h2⟩ hn
    exact ⟨v, rfl, css, h1.mono T.pos hn, h2.imp fun _ _ h => T.mono h hn⟩
theorem Sl.fr (T : Rep k R) {D S : Nat → Prop} {w w' : World} {v : Value} {xs : List α} (h : Sl k R D w v xs) (hf : Fr S w w') (hn : ∀ b, b < w.heap.size → D b → ¬ S b) : Sl k R D w' v xs := by
  obtain ⟨css, h1, h2⟩ := h
  exact ⟨css, h1.fr T.pos hf hn, h2.imp fun _ _ h => T.fr h hf hn⟩
theorem Sl.mono (T : Rep k R) {D E : Nat → Prop} {w : World} {v : Value} {xs : List α} (h : Sl k R D w v xs) (hn : ∀ b, b < w.heap.size → D b → E b) : Sl k R E w v xs := by
  obtain ⟨css, h1, h2⟩ := h
  exact ⟨css, h1.mono T.pos hn, h2.imp fun _ _ h => T.mono h hn⟩
theorem Sl.below (T : Rep k R) {D : Nat → Prop} {w w' : World} {v : Value} {xs : List α} (h : Sl k R D w v xs) (hb : Below w.heap.size w w') : Sl k R D w' v xs := h.fr T (Fr.ofBelow hb) (fun b h1 _ h2 => by omega)
/-- a slice of bytes as one cell -/
theorem rep_byt : Rep 1 (fun D w cs (l : List UInt8) => ∃ v, cs = [v] ∧ Byt D w v l) where
  pos := by omega
  len := by rintro D w cs x ⟨v, rfl, _⟩; rfl
  one := by
    rintro D w cs x ⟨v, rfl, a, c, rfl, _⟩ u hu
    rw [List.mem_singleton.1 hu]; rfl
  fr := by
    rintro D S w w' cs x ⟨v, rfl, h⟩ hf hn
    exact ⟨v, rfl, h.fr hf hn⟩
  mono := by
    rintro D E w cs x ⟨v, rfl, h⟩ hn
    exact ⟨v, rfl, h.mono hn⟩
/-- plain cells -/
theorem rep_plain (k : Nat) (hk : 0 < k) (f : α → List Value) (Ok : α → Prop) (hl : ∀ x, Ok x → (f x).length = k) (h1 : ∀ x, Ok x → ∀ v ∈ f x, v.oneCell' = true) : Rep k (fun (_ : Nat → Prop) (_ : World) cs (x : α) => Ok x ∧ cs = f x) where
  pos := hk
  len := by rintro D w cs x ⟨h, rfl⟩; exact hl x h
  one := by rintro D w cs x ⟨h, rfl⟩; exact h1 x h
  fr := by rintro D S w w' cs x h _ _; exact h
  mono := by rintro D E w cs x h _; exact h
/-- two side by side -/
def PairR (R : (Nat → Prop) → World → List Value → α → Prop) (R' : (Nat → Prop) → World → List Value → β → Prop) : (Nat → Prop) → World → List Value → α × β → Prop := fun D w cs x => ∃ c1 c2, cs = c1 ++ c2 ∧ R D w c1 x.1 ∧ R' D w c2 x.2
theorem rep_pair {m : Nat} {R' : (Nat → Prop) → World → List Value → β → Prop} (T : Rep k R) (U : Rep m R') : Rep (k + m) (PairR R R') where
  pos := by have := T.pos; omega
  len := by rintro D w cs x ⟨c1, c2, rfl, h1, h2⟩; rw [List.length_append, T.len h1, U.len h2]
  one := by
    rintro D w cs x ⟨c1, c2, rfl, h1, h2⟩ v hv
    rcases List.mem_append.1 hv with hv | hv
    · exact T.one h1 v hv
    · exact U.one h2 v hv
  fr := by rintro D S w w' cs x ⟨c1, c2, rfl, h1, h2⟩ hf hn; exact ⟨c1, c2, rfl, T.fr h1 hf hn, U.fr h2 hf hn⟩
  mono := by rintro D E w cs x ⟨c1, c2, rfl, h1, h2⟩ hn; exact ⟨c1, c2, rfl, T.mono h1 hn, U.mono h2 hn⟩
/-- read through a function -/
theorem rep_conv (T : Rep k R) (q : β → α) : Rep k (fun D w cs (x : β) => R D w cs (q x)) where
  pos := T.pos
  len := T.len
  one := T.one
  fr := T.fr
  mono := T.mono
/-- one more thing, appended: v is the slice that was, v' the one that is -/
theorem push (T : Rep k R) {N : Nat} {v v' : Value} {A0 A F : World} {css : List (List Value)} {xs : List α} {cs : List Value} {x : α} {S S2 : Nat → Prop}
    (h6 : All2 (R (fun b => N ≤ b ∧ v.ownBlock ≠ some b) A0) css xs) (hx : R (fun b => A0.heap.size ≤ b) A cs x) (hf : Fr S A0 A) (hs : ∀ k, N ≤ k → ¬ S k) (hN : N ≤ A0.heap.size) (hv : ∀ k, v.ownBlock = some k → k < A0.heap.size)
    (hF : Fr S2 A F) (hs2 : ∀ k, k < A.heap.size → N ≤ k → S2 k → v.ownBlock = some k) (hv' : v'.ownBlock = v.ownBlock ∨ ∃ g, v'.ownBlock = some g ∧ A.heap.size ≤ g) :
    All2 (R (fun b => N ≤ b ∧ v'.ownBlock ≠ some b) F) (css ++ [cs]) (xs ++ [x]) := by
  have hsz := hf.size
  have hne : ∀ b, b < A.heap.size → v.ownBlock ≠ some b → v'.ownBlock ≠ some b := fun b hb h e => by
    rcases hv' with h1 | ⟨g, h1, h2⟩
    · exact h (h1.symm.trans e)
    · rw [h1] at e; cases e; omega
  refine All2.snoc (h6.imp fun _ _ h => ?_) ?_
  · have k1 := T.lt (T.fr h hf (fun b _ h1 e => hs b h1.1 e))
    exact T.mono (T.fr k1 hF (fun b hb h1 e => h1.2.2 (hs2 b hb h1.2.1 e))) (fun b _ h1 => ⟨h1.2.1, hne b h1.1 h1.2.2⟩)
  · have hb0 : ∀ b, A0.heap.size ≤ b → v.ownBlock ≠ some b := fun b h e => by have := hv b e; omega
    have k1 := T.lt hx
    exact T.mono (T.fr k1 hF (fun b hb h1 e => hb0 b h1.2 (hs2 b hb (by omega) e))) (fun b _ h1 => ⟨by omega, hne b h1.1 (hb0 b h1.2)⟩)
/-- the call's own list, read -/
theorem sl_own (T : Rep k R) {N : Nat} {e : TypeId} {w : World} {v : Value} {css : List (List Value)} {xs : List α} (h : OwnA k N e w v css) (h2 : All2 (R (fun b => N ≤ b ∧ v.ownBlock ≠ some b) w) css xs) : Sl k R (fun b => N ≤ b) w v xs :=
  ⟨css, h.arr.mono T.pos (fun b _ h => h.2), h2.imp fun _ _ h => T.mono h (fun b _ h => h.1)⟩
/-- one cell: a number, a truth, a slice -/
def RU64 : (Nat → Prop) → World → List Value → Nat → Prop := fun _ _ cs x => x < 18446744073709551616 ∧ cs = [.int .u64 (x : Int)]
def RU32 : (Nat → Prop) → World → List Value → Nat → Prop := fun _ _ cs x => x < 4294967296 ∧ cs = [.int .u32 (x : Int)]
def RI64 : (Nat → Prop) → World → List Value → Int → Prop := fun _ _ cs x => (-9223372036854775808 ≤ x ∧ x ≤ 9223372036854775807) ∧ cs = [.int .i64 x]
def RBool : (Nat → Prop) → World → List Value → Bool → Prop := fun _ _ cs x => True ∧ cs = [.bool x]
def RDgs (n : Nat) : (Nat → Prop) → World → List Value → List UInt8 → Prop := fun _ _ cs x => x.length = n ∧ cs = x.map byt
abbrev RDg : (Nat → Prop) → World → List Value → List UInt8 → Prop := RDgs 32
def RBy : (Nat → Prop) → World → List Value → List UInt8 → Prop := fun D w cs l => ∃ v, cs = [v] ∧ Byt D w v l
def RSl (k : Nat) (R : (Nat → Prop) → World → List Value → α → Prop) : (Nat → Prop) → World → List Value → List α → Prop := fun D w cs xs => ∃ v, cs = [v] ∧ Sl k R D w v xs
theorem one_mem {v : Value} (h : v.oneCell' = true) : ∀ u ∈ [v], u.oneCell' = true := fun u hu => by rw [List.mem_singleton.1 hu]; exact h
theorem rep_u64 : Rep 1 RU64 := rep_plain 1 (by omega) (fun x : Nat => [.int .u64 (x : Int)]) (fun x => x < 18446744073709551616) (fun _ _ => rfl) (fun _ _ => one_mem rfl)
theorem rep_u32 : Rep 1 RU32 := rep_plain 1 (by omega) (fun x : Nat => [.int .u32 (x : Int)]) (fun x => x < 4294967296) (fun _ _ => rfl) (fun _ _ => one_mem rfl)
theorem rep_i64 : Rep 1 RI64 := rep_plain 1 (by omega) (fun x : Int => [.int .i64 x]) (fun x => -9223372036854775808 ≤ x ∧ x ≤ 9223372036854775807) (fun _ _ => rfl) (fun _ _ => one_mem rfl)
theorem rep_bool : Rep 1 RBool := rep_plain 1 (by omega) (fun x : Bool => [.bool x]) (fun _ => True) (fun _ _ => rfl) (fun _ _ => one_mem rfl)
theorem rep_dgs (n : Nat) (hn : 0 < n) : Rep n (RDgs n) :=
  rep_plain n hn (fun x : List UInt8 => x.map byt) (fun x => x.length = n) (fun x h => by simpa using h) (fun x _ v hv => by obtain ⟨_, _, rfl⟩ := List.mem_map.1 hv; rfl)
theorem rep32 : Rep 32 RDg := rep_dgs 32 (by omega)
theorem rep_by : Rep 1 RBy := rep_byt
theorem rep_rsl (T : Rep k R) : Rep 1 (RSl k R) := rep_sl T
/-- one cell of a block -/
theorem blk_one {w : World} {b : Nat} {l : List Value} {e : TypeId} (h : Blk w b l e) (pre post : List Value) (v : Value) (hl : l = pre ++ (v :: post)) (n : Nat) (hn : pre.length = n) : w.cell? ⟨b, n, none⟩ = some v := by
  refine h.cell ?_
  subst hl; subst hn
  rw [List.getElem?_append_right (Nat.le_refl _), Nat.sub_self]; rfl
end
end Go.Proofs.Ytjdohjoljobinaa.Reps
