/- How a thing of so many cells reads as plain data, and slices of such things. Program-independent; no condition. More laws at single operations that leave the world opaque: a slice of one element is made, a slice is appended, one cell of a block is stored or loaded. Program-independent; no condition. Words for the wire's writers of things that read as plain data. No condition. Walks of the wire's writer at a text and at a truth, and of the reference's. Condition: the bytes are at most 2^47. Walks of the wire's writer at a tag and an amount that are not blinded. Condition: the bytes are at most 2^47. Walks of the wire's writer at an output that is not blinded, its points noughts; wire.Out at noughts. Condition: the bytes are at most 2^47. Walks of the wire's writer at a transaction of the main chain. Condition: the bytes are at most 2^47. The walks of the program's MainTx. Condition: the bytes are at most 2^47. Plain laws of the codec: what is read as a number, or as a text, stands at the front as it is written. No program here. -/
import Derived.Test.YtmenchnjajpkmaaGreatWHec
import Derived.Test.YtmenchnjajpkmaaGreatWHea
section
namespace Go.Proofs.YtmenchnjajpkmaaGreat.Reps
open Go Go.RowKit Mem Row Arr Ops
set_option linter.unusedVariables false

/-- both lists, one by one -/
inductive All2 {α β : Type} (R : α → β → Prop) : List α → List β → Prop
  | nil : All2 R [] []
  | cons {a b l m} : R a b → All2 R l m → All2 R (a :: l) (b :: m)
section
variable {α β : Type} {R R' : α → β → Prop}
theorem All2.length {l : List α} {m : List β} (h : All2 R l m) : l.length = m.length := by
  induction h with
  | nil => rfl
  | cons _ _ ih => simp [ih]
theorem All2.imp {l : List α} {m : List β} (h : All2 R l m) (hi : ∀ a b, R a b → R' a b) : All2 R' l m := by
  induction h with
  | nil => exact .nil
  | cons h1 _ ih => exact .cons (hi _ _ h1) ih
theorem All2.append {l l' : List α} {m m' : List β} (h : All2 R l m) (h' : All2 R l' m') : All2 R (l ++ l') (m ++ m') := by
  induction h with
  | nil => exact h'
  | cons h1 _ ih => exact .cons h1 ih
theorem All2.snoc {l : List α} {m : List β} {a : α} {b : β} (h : All2 R l m) (h1 : R a b) : All2 R (l ++ [a]) (m ++ [b]) := h.append (.cons h1 .nil)
theorem All2.get {l : List α} {m : List β} (h : All2 R l m) : ∀ (i : Nat) (hi : i < l.length) (hj : i < m.length), R (l[i]'hi) (m[i]'hj) := by
  induction h with
  | nil => intro i hi; simp at hi
  | cons h1 _ ih =>
    intro i hi hj
    cases i with
    | zero => exact h1
    | succ i => exact ih i (by simpa using hi) (by simpa using hj)
theorem All2.left {l : List α} {m : List β} (h : All2 R l m) {a : α} (ha : a ∈ l) : ∃ b, b ∈ m ∧ R a b := by
  induction h with
  | nil => cases ha
  | cons h1 _ ih =>
    rcases List.mem_cons.1 ha with rfl | ha
    · exact ⟨_, by simp, h1⟩
    · obtain ⟨b, h2, h3⟩ := ih ha; exact ⟨b, by simp [h2], h3⟩
theorem All2.ofMap {γ : Type} (f : γ → α) (g : γ → β) : ∀ (l : List γ), (∀ x ∈ l, R (f x) (g x)) → All2 R (l.map f) (l.map g)
  | [], _ => .nil
  | x :: r, h => .cons (h x (by simp)) (All2.ofMap f g r (fun y hy => h y (by simp [hy])))
end

/-- a way in which so many cells read as plain data, whose memory lies in blocks of D -/
structure Rep {α : Type} (k : Nat) (R : (Nat → Prop) → World → List Value → α → Prop) : Prop where
  pos : 0 < k
  len : ∀ {D w cs x}, R D w cs x → cs.length = k
  one : ∀ {D w cs x}, R D w cs x → ∀ v ∈ cs, v.oneCell' = true
  fr : ∀ {D S w w' cs x}, R D w cs x → Fr S w w' → (∀ b, b < w.heap.size → D b → ¬ S b) → R D w' cs x
  mono : ∀ {D E w cs x}, R D w cs x → (∀ b, b < w.heap.size → D b → E b) → R E w cs x
section
variable {α β : Type} {k : Nat} {R : (Nat → Prop) → World → List Value → α → Prop}
theorem Rep.below (T : Rep k R) {D : Nat → Prop} {w w' : World} {cs : List Value} {x : α} (h : R D w cs x) (hb : Below w.heap.size w w') : R D w' cs x := T.fr h (Fr.ofBelow hb) (fun b h1 _ h2 => by omega)
theorem Rep.lt (T : Rep k R) {D : Nat → Prop} {w : World} {cs : List Value} {x : α} (h : R D w cs x) : R (fun b => b < w.heap.size ∧ D b) w cs x := T.mono h (fun _ h1 h2 => ⟨h1, h2⟩)
theorem Rep.any (T : Rep k R) {D : Nat → Prop} {w : World} {cs : List Value} {x : α} (h : R D w cs x) : R Any w cs x := T.mono h (fun _ _ _ => trivial)
theorem Rep.fr_lt (T : Rep k R) {D S : Nat → Prop} {w w' : World} {cs : List Value} {x : α} (h : R D w cs x) (hf : Fr S w w') (hn : ∀ b, b < w.heap.size → D b → ¬ S b) : R (fun b => b < w.heap.size ∧ D b) w' cs x := T.fr (T.lt h) hf (fun b h1 h2 => hn b h1 h2.2)

/-- a slice of such things -/
def Sl (k : Nat) (R : (Nat → Prop) → World → List Value → α → Prop) (D : Nat → Prop) (w : World) (v : Value) (xs : List α) : Prop := ∃ css, Arr k D w v css ∧ All2 (R D w) css xs
theorem Sl.form {D : Nat → Prop} {w : World} {v : Value} {xs : List α} (h : Sl k R D w v xs) : ∃ a cap, v = .slice a xs.length cap ∧ xs.length ≤ cap ∧ cap ≤ maxLen ∧ (a = none → cap = 0) := by
  obtain ⟨css, h1, h2⟩ := h
  rw [← h2.length]
  exact h1.form
theorem Sl.at {D : Nat → Prop} {w : World} {v : Value} {xs : List α} (h : Sl k R D w v xs) (i : Nat) (hi : i < xs.length) : ∃ b off cap cs, v = .slice (some ⟨b, off, none⟩) xs.length cap ∧ D b ∧ w.rangeAt b (off + i * k) cs ∧ R D w cs (xs[i]'hi) := by
  obtain ⟨css, h1, h2⟩ := h
  have hl := h2.length
  obtain ⟨b, off, cap, e1, e2, e3⟩ := h1.at i (by omega)
  rw [hl] at e1
  exact ⟨b, off, cap, _, e1, e2, e3, h2.get i (by omega) hi⟩
theorem Sl.nil (k : Nat) (R : (Nat → Prop) → World → List Value → α → Prop) (D : Nat → Prop) (w : World) : Sl k R D w (.slice none 0 0) [] := ⟨[], Arr.nil _ _ _, .nil⟩
theorem rep_sl (T : Rep k R) : Rep 1 (fun D w cs (xs : List α) => ∃ v, cs = [v] ∧ Sl k R D w v xs) where
  pos := by omega
  len := by rintro D w cs x ⟨v, rfl, _⟩; rfl
  one := by
    rintro D w cs x ⟨v, rfl, h⟩ u hu
    obtain ⟨a, c, rfl, _⟩ := h.form
    rw [List.mem_singleton.1 hu]; rfl
  fr := by
    rintro D S w w' cs x ⟨v, rfl, css, h1, h2⟩ hf hn
    exact ⟨v, rfl, css, h1.fr T.pos hf hn, h2.imp fun _ _ h => T.fr h hf hn⟩
  mono := by
    rintro D E w cs x ⟨v, rfl, css, h1, h2⟩ hn
    exact ⟨v, rfl, css, h1.mono T.pos hn, h2.imp fun _ _ h => T.mono h hn⟩
theorem Sl.fr (T : Rep k R) {D S : Nat → Prop} {w w' : World} {v : Value} {xs : List α} (h : Sl k R D w v xs) (hf : Fr S w w') (hn : ∀ b, b < w.heap.size → D b → ¬ S b) : Sl k R D w' v xs := by
  obtain ⟨css, h1, h2⟩ := h
  exact ⟨css, h1.fr T.pos hf hn, h2.imp fun _ _ h => T.fr h hf hn⟩
theorem Sl.mono (T : Rep k R) {D E : Nat → Prop} {w : World} {v : Value} {xs : List α} (h : Sl k R D w v xs) (hn : ∀ b, b < w.heap.size → D b → E b) : Sl k R E w v xs := by
  obtain ⟨css, h1, h2⟩ := h
  exact ⟨css, h1.mono T.pos hn, h2.imp fun _ _ h => T.mono h hn⟩
theorem Sl.below (T : Rep k R) {D : Nat → Prop} {w w' : World} {v : Value} {xs : List α} (h : Sl k R D w v xs) (hb : Below w.heap.size w w') : Sl k R D w' v xs := h.fr T (Fr.ofBelow hb) (fun b h1 _ h2 => by omega)
/-- a slice of bytes as one cell -/
theorem rep_byt : Rep 1 (fun D w cs (l : List UInt8) => ∃ v, cs = [v] ∧ Byt D w v l) where
  pos := by omega
  len := by rintro D w cs x ⟨v, rfl, _⟩; rfl
  one := by
    rintro D w cs x ⟨v, rfl, a, c, rfl, _⟩ u hu
    rw [List.mem_singleton.1 hu]; rfl
  fr := by
    rintro D S w w' cs x ⟨v, rfl, h⟩ hf hn
    exact ⟨v, rfl, h.fr hf hn⟩
  mono := by
    rintro D E w cs x ⟨v, rfl, h⟩ hn
    exact ⟨v, rfl, h.mono hn⟩
/-- plain cells -/
theorem rep_plain (k : Nat) (hk : 0 < k) (f : α → List Value) (Ok : α → Prop) (hl : ∀ x, Ok x → (f x).length = k) (h1 : ∀ x, Ok x → ∀ v ∈ f x, v.oneCell' = true) : Rep k (fun (_ : Nat → Prop) (_ : World) cs (x : α) => Ok x ∧ cs = f x) where
  pos := hk
  len := by rintro D w cs x ⟨h, rfl⟩; exact hl x h
  one := by rintro D w cs x ⟨h, rfl⟩; exact h1 x h
  fr := by rintro D S w w' cs x h _ _; exact h
  mono := by rintro D E w cs x h _; exact h
/-- two side by side -/
def PairR (R : (Nat → Prop) → World → List Value → α → Prop) (R' : (Nat → Prop) → World → List Value → β → Prop) : (Nat → Prop) → World → List Value → α × β → Prop := fun D w cs x => ∃ c1 c2, cs = c1 ++ c2 ∧ R D w c1 x.1 ∧ R' D w c2 x.2
theorem rep_pair {m : Nat} {R' : (Nat → Prop) → World → List Value → β → Prop} (T : Rep k R) (U : Rep m R') : Rep (k + m) (PairR R R') where
  pos := by have := T.pos; omega
  len := by rintro D w cs x ⟨c1, c2, rfl, h1, h2⟩; rw [List.length_append, T.len h1, U.len h2]
  one := by
    rintro D w cs x ⟨c1, c2, rfl, h1, h2⟩ v hv
    rcases List.mem_append.1 hv with hv | hv
    · exact T.one h1 v hv
    · exact U.one h2 v hv
  fr := by rintro D S w w' cs x ⟨c1, c2, rfl, h1, h2⟩ hf hn; exact ⟨c1, c2, rfl, T.fr h1 hf hn, U.fr h2 hf hn⟩
  mono := by rintro D E w cs x ⟨c1, c2, rfl, h1, h2⟩ hn; exact ⟨c1, c2, rfl, T.mono h1 hn, U.mono h2 hn⟩
/-- read through a function -/
theorem rep_conv (T : Rep k R) (q : β → α) : Rep k (fun D w cs (x : β) => R D w cs (q x)) where
  pos := T.pos
  len := T.len
  one := T.one
  fr := T.fr
  mono := T.mono
/-- one more thing, appended: v is the slice that was, v' the one that is -/
theorem push (T : Rep k R) {N : Nat} {v v' : Value} {A0 A F : World} {css : List (List Value)} {xs : List α} {cs : List Value} {x : α} {S S2 : Nat → Prop}
    (h6 : All2 (R (fun b => N ≤ b ∧ v.ownBlock ≠ some b) A0) css xs) (hx : R (fun b => A0.heap.size ≤ b) A cs x) (hf : Fr S A0 A) (hs : ∀ k, N ≤ k → ¬ S k) (hN : N ≤ A0.heap.size) (hv : ∀ k, v.ownBlock = some k → k < A0.heap.size)
    (hF : Fr S2 A F) (hs2 : ∀ k, k < A.heap.size → N ≤ k → S2 k → v.ownBlock = some k) (hv' : v'.ownBlock = v.ownBlock ∨ ∃ g, v'.ownBlock = some g ∧ A.heap.size ≤ g) :
    All2 (R (fun b => N ≤ b ∧ v'.ownBlock ≠ some b) F) (css ++ [cs]) (xs ++ [x]) := by
  have hsz := hf.size
  have hne : ∀ b, b < A.heap.size → v.ownBlock ≠ some b → v'.ownBlock ≠ some b := fun b hb h e => by
    rcases hv' with h1 | ⟨g, h1, h2⟩
    · exact h (h1.symm.trans e)
    · rw [h1] at e; cases e; omega
  refine All2.snoc (h6.imp fun _ _ h => ?_) ?_
  · have k1 := T.lt (T.fr h hf (fun b _ h1 e => hs b h1.1 e))
    exact T.mono (T.fr k1 hF (fun b hb h1 e => h1.2.2 (hs2 b hb h1.2.1 e))) (fun b _ h1 => ⟨h1.2.1, hne b h1.1 h1.2.2⟩)
  · have hb0 : ∀ b, A0.heap.size ≤ b → v.ownBlock ≠ some b := fun b h e => by have := hv b e; omega
    have k1 := T.lt hx
    exact T.mono (T.fr k1 hF (fun b hb h1 e => hb0 b h1.2 (hs2 b hb (by omega) e))) (fun b _ h1 => ⟨by omega, hne b h1.1 (hb0 b h1.2)⟩)
/-- the call's own list, read -/
theorem sl_own (T : Rep k R) {N : Nat} {e : TypeId} {w : World} {v : Value} {css : List (List Value)} {xs : List α} (h : OwnA k N e w v css) (h2 : All2 (R (fun b => N ≤ b ∧ v.ownBlock ≠ some b) w) css xs) : Sl k R (fun b => N ≤ b) w v xs :=
  ⟨css, h.arr.mono T.pos (fun b _ h => h.2), h2.imp fun _ _ h => T.mono h (fun b _ h => h.1)⟩
/-- one cell: a number, a truth, a slice -/
def RU64 : (Nat → Prop) → World → List Value → Nat → Prop := fun _ _ cs x => x < 18446744073709551616 ∧ cs = [.int .u64 (x : Int)]
def RU32 : (Nat → Prop) → World → List Value → Nat → Prop := fun _ _ cs x => x < 4294967296 ∧ cs = [.int .u32 (x : Int)]
def RI64 : (Nat → Prop) → World → List Value → Int → Prop := fun _ _ cs x => (-9223372036854775808 ≤ x ∧ x ≤ 9223372036854775807) ∧ cs = [.int .i64 x]
def RBool : (Nat → Prop) → World → List Value → Bool → Prop := fun _ _ cs x => True ∧ cs = [.bool x]
def RDgs (n : Nat) : (Nat → Prop) → World → List Value → List UInt8 → Prop := fun _ _ cs x => x.length = n ∧ cs = x.map byt
abbrev RDg : (Nat → Prop) → World → List Value → List UInt8 → Prop := RDgs 32
def RBy : (Nat → Prop) → World → List Value → List UInt8 → Prop := fun D w cs l => ∃ v, cs = [v] ∧ Byt D w v l
def RSl (k : Nat) (R : (Nat → Prop) → World → List Value → α → Prop) : (Nat → Prop) → World → List Value → List α → Prop := fun D w cs xs => ∃ v, cs = [v] ∧ Sl k R D w v xs
theorem one_mem {v : Value} (h : v.oneCell' = true) : ∀ u ∈ [v], u.oneCell' = true := fun u hu => by rw [List.mem_singleton.1 hu]; exact h
theorem rep_u64 : Rep 1 RU64 := rep_plain 1 (by omega) (fun x : Nat => [.int .u64 (x : Int)]) (fun x => x < 18446744073709551616) (fun _ _ => rfl) (fun _ _ => one_mem rfl)
theorem rep_u32 : Rep 1 RU32 := rep_plain 1 (by omega) (fun x : Nat => [.int .u32 (x : Int)]) (fun x => x < 4294967296) (fun _ _ => rfl) (fun _ _ => one_mem rfl)
theorem rep_i64 : Rep 1 RI64 := rep_plain 1 (by omega) (fun x : Int => [.int .i64 x]) (fun x => -9223372036854775808 ≤ x ∧ x ≤ 9223372036854775807) (fun _ _ => rfl) (fun _ _ => one_mem rfl)
theorem rep_bool : Rep 1 RBool := rep_plain 1 (by omega) (fun x : Bool => [.bool x]) (fun _ => True) (fun _ _ => rfl) (fun _ _ => one_mem rfl)
theorem rep_dgs (n : Nat) (hn : 0 < n) : Rep n (RDgs n) :=
  rep_plain n hn (fun x : List UInt8 => x.map byt) (fun x => x.length = n) (fun x h => by simpa using h) (fun x _ v hv => by obtain ⟨_, _, rfl⟩ := List.mem_map.1 hv; rfl)
theorem rep32 : Rep 32 RDg := rep_dgs 32 (by omega)
theorem rep_by : Rep 1 RBy := rep_byt
theorem rep_rsl (T : Rep k R) : Rep 1 (RSl k R) := rep_sl T
/-- one cell of a block -/
theorem blk_one {w : World} {b : Nat} {l : List Value} {e : TypeId} (h : Blk w b l e) (pre post : List Value) (v : Value) (hl : l = pre ++ (v :: post)) (n : Nat) (hn : pre.length = n) : w.cell? ⟨b, n, none⟩ = some v := by
  refine h.cell ?_
  subst hl; subst hn
  rw [List.getElem?_append_right (Nat.le_refl _), Nat.sub_self]; rfl
end
end Go.Proofs.YtmenchnjajpkmaaGreat.Reps
end

section
namespace Go.Proofs.YtmenchnjajpkmaaGreat.Ops
open Go Go.RowKit Mem Arr
section
variable {P : Program} {w : World} {ops : Array Oper} {rest : List Oper} {o : Oper} {a : Act} {K : Act → World → Prop} {Q : Exit → Act → World → Prop}
theorem wp_build1 {t e : TypeId} {z : Value} {k bytes : Nat} (T : ElemT P t e z k bytes) (x : Operand) (ho : o.op = .buildSlice t 1 #[(0, x)]) (l : List Value) (hx : a.eval x = .agg l.toArray) (hs : l.length = k) (hk : k ≤ 16777216)
    (h : ∀ w', Blk w' w.heap.size l e → Below w.heap.size w w' → w.heap.size + 1 = w'.heap.size → K (a.put o.dst (.slice (some ⟨w.heap.size, 0, none⟩) 1 1)) w') : Oper.wp P o a w K Q := by
  have hr := Arr.run_buildSlice T [.agg l.toArray] (by simp [Value.cells, hs]) (by simpa using hk) (by simp) w
  simp at hr
  unfold Oper.wp
  simp [execOp, ho, hx, hr, Value.cells, Result.andThen]
  exact h _ (Blk.new w _ _ _ rfl) (below_alloc _ _) (by simp)
theorem wpList_build1 (hgd : o.guard = none) {t e : TypeId} {z : Value} {k bytes : Nat} (T : ElemT P t e z k bytes) (x : Operand) (ho : o.op = .buildSlice t 1 #[(0, x)]) (l : List Value) (hx : a.eval x = .agg l.toArray) (hs : l.length = k) (hk : k ≤ 16777216)
    (h : ∀ w', Blk w' w.heap.size l e → Below w.heap.size w w' → w.heap.size + 1 = w'.heap.size → wpList P ops Q rest (a.put o.dst (.slice (some ⟨w.heap.size, 0, none⟩) 1 1)) w') : wpList P ops Q (o :: rest) a w :=
  wpList_plain hgd fun _ hK => wp_build1 T x ho l hx hs hk (fun w' h1 h2 h3 => hK _ _ (h w' h1 h2 h3))
/-- of one cell -/
theorem wp_build1c {t e : TypeId} {z : Value} {bytes : Nat} (T : ElemT P t e z 1 bytes) (x : Operand) (ho : o.op = .buildSlice t 1 #[(0, x)]) (v : Value) (hx : a.eval x = v) (hs : v.oneCell' = true)
    (h : ∀ w', Blk w' w.heap.size [v] e → Below w.heap.size w w' → w.heap.size + 1 = w'.heap.size → K (a.put o.dst (.slice (some ⟨w.heap.size, 0, none⟩) 1 1)) w') : Oper.wp P o a w K Q := by
  have hc : v.cells = #[v] := by cases v <;> first | rfl | cases hs
  have hr := Arr.run_buildSlice T [v] (by simp [hc]) (by simp) (by simp) w
  simp [hc] at hr
  unfold Oper.wp
  simp [execOp, ho, hx, hr, Result.andThen]
  exact h _ (Blk.new w _ _ _ rfl) (below_alloc _ _) (by simp)
theorem wp_append_arr (s x : Operand) (t : TypeId)
    (ho : o.op = .call { callee := .builtin .append, args := #[s, x], argTypes := #[t, t] }) (base : Nat) (e : TypeId) {z : Value} {k bytes : Nat} (T : ElemT P t e z k bytes)
    (v : Value) (xs : List (List Value)) (hs : a.eval s = v) (hown : Arr.OwnA k base e w v xs) {D : Nat → Prop} (y : Value) (ys : List (List Value)) (hx : a.eval x = y) (hy : Arr.Arr k D w y ys)
    (h1 : ∀ x ∈ ys, ∀ c ∈ x, c.oneCell' = true) (h63 : xs.length + ys.length ≤ maxLen) (hbytes : (xs.length + ys.length) * bytes ≤ 140737488355328) (hb : base ≤ w.heap.size) (m : Nat) (hn : m = xs.length + ys.length)
    (h : ∀ (a' : Option Addr) (cap' : Nat) (w' : World), Arr.OwnA k base e w' (.slice a' m cap') (xs ++ ys) → w.grownBy w' v.ownBlock → ((Value.slice a' m cap').ownBlock = v.ownBlock ∨ (Value.slice a' m cap').ownBlock = some w.heap.size) → K (a.put o.dst (.slice a' m cap')) w') :
    Oper.wp P o a w K Q := by
  subst hn
  obtain ⟨a', cap', w', h0, q1, q2, q4⟩ := Arr.run_append_arr (P := P) w t o.type base e T v xs hown y ys hy h1 h63 hbytes hb
  unfold Oper.wp
  simp [execOp, ho, resolve, invoke, builtin, hs, hx, h0, Result.andThen]
  exact h a' cap' w' q1 q2 q4
/-- one cell of a block is stored -/
theorem run_storeVar_cell {g i : Nat} {l : List Value} {t : TypeId} (hB : Blk w g l t) (hi : i < l.length) (ty : TypeId) (hsz : (P.info? ty).map (·.size) = some 1) (v : Value) (h1 : v.oneCell' = true) :
    (storeVar ty ⟨g, i, none⟩ v).run P w = .ok () (w.setCell ⟨g, i, none⟩ v) := by
  have hc : v.cells = #[v] := by cases v <;> first | rfl | cases h1
  have hcell := hB.cell (List.getElem?_eq_getElem hi)
  have hfree := hB.free i
  cases hq : P.info? ty with
  | none => simp [hq] at hsz
  | some j =>
    have hs : j.size = 1 := by simpa [hq] using hsz
    have hst : (store ⟨g, i, none⟩ v .plain).run P w = .ok () (w.setCell ⟨g, i, none⟩ v) := by
      rw [run_store P w _ v _ h1]
      simp [hcell, hfree]
    simp [storeVar, sizeOf, typeInfo, hq, hc, hs, storeCells, Addr.add, hst, Sem.run_bind, Result.andThen]
theorem wp_setc (ty : TypeId) (x y : Operand) (ho : o.op = .store ty x y) (g i : Nat) (hx : a.eval x = .pointer (some ⟨g, i, none⟩)) (v : Value) (hy : a.eval y = v) (h1 : v.oneCell' = true) {l : List Value} {t : TypeId} (hB : Blk w g l t) (hi : i < l.length)
    (hsz : (P.info? ty).map (·.size) = some 1)
    (h : ∀ w', Blk w' g (l.set i v) t → Fr (fun k => k = g) w w' → w'.heap.size = w.heap.size → K (a.put o.dst undef) w') : Oper.wp P o a w K Q := by
  unfold Oper.wp execOp
  simp only [ho, hx, hy, Instr.storeAt, Instr.sureAddr, Sem.run_bind, Sem.run_pure, Result.andThen_ok, run_storeVar_cell hB hi ty hsz v h1]
  exact h _ (hB.set i v) (Fr.setCell (S := fun k => k = g) (p := ⟨g, i, none⟩) (Fr.refl _ w) (.inr rfl) _) (by simp [World.setCell])
theorem wpList_setc (hgd : o.guard = none) (ty : TypeId) (x y : Operand) (ho : o.op = .store ty x y) (g i : Nat) (hx : a.eval x = .pointer (some ⟨g, i, none⟩)) (v : Value) (hy : a.eval y = v) (h1 : v.oneCell' = true) {l : List Value} {t : TypeId} (hB : Blk w g l t) (hi : i < l.length)
    (hsz : (P.info? ty).map (·.size) = some 1)
    (h : ∀ w', Blk w' g (l.set i v) t → Fr (fun k => k = g) w w' → w'.heap.size = w.heap.size → wpList P ops Q rest (a.put o.dst undef) w') : wpList P ops Q (o :: rest) a w :=
  wpList_plain hgd fun _ hK => wp_setc ty x y ho g i hx v hy h1 hB hi hsz (fun w' h1 h2 h3 => hK _ _ (h w' h1 h2 h3))
/-- operation j waits for i -/
def waits (md : Region.Mode) (ops : Array Oper) (j i : Nat) : Bool := match ops[j]? with | none => false | some o => o.after.any fun e => Region.binds md e && e.on == i
/-- whatever order is picked from here on, and behind each operation that does not wait for i S holds -/
def wpAnyJ (P : Program) (md : Region.Mode) (ops : Array Oper) (Q : Exit → Act → World → Prop) (i : Nat) (S : World → Prop) : Nat → Array Bool → Act → World → Prop
  | 0, listed, a, w => Region.ready md ops listed = [] ∧ Q .normal a w
  | fuel + 1, listed, a, w =>
    (Region.ready md ops listed = [] → Q .normal a w) ∧
    ∀ j ∈ Region.ready md ops listed, wpOp P ops Q j (fun a' w' => (waits md ops j i = false → S w') ∧ wpAnyJ P md ops Q i S fuel (listed.setIfInBounds j true) a' w') a w
theorem wpAnyJ_H {md : Region.Mode} {i : Nat} {S : World → Prop} : ∀ (fuel : Nat) (listed : Array Bool) (a : Act) (w : World), wpAnyJ P md ops Q i S fuel listed a w → wpAnyH P md ops Q (fun _ => True) fuel listed a w
  | 0, _, _, _, h => h
  | fuel + 1, _, _, _, h => ⟨h.1, fun j hj => wpOp_mono (fun a' w' h' => ⟨trivial, wpAnyJ_H fuel _ a' w' h'.2⟩) (h.2 j hj)⟩
theorem wpAnyJ_first {md : Region.Mode} {S : World → Prop} {i : Nat} {oi : Oper} {v : Value} (hi : ops[i]? = some oi) (hsel : ∀ (j : Nat) (o : Oper) cs b, ops[j]? = some o → o.op ≠ .select cs b)
    (hQ : ∀ c a w, Q (.panic c) (a.put oi.dst v) w → Q (.panic c) a w) :
    ∀ (fuel : Nat) (listed : Array Bool) (a : Act) (w : World),
      (∀ j oj, ops[j]? = some oj → j ≠ i → listed.getD j true = false → (∀ e ∈ oj.after, Region.binds md e = true → e.on ≠ i) → oi.apart ops oj = true) →
      i ∈ Region.ready md ops listed → YieldsIf P ops S oi v a → S w →
      wpAnyJ P md ops Q i S fuel (listed.setIfInBounds i true) (a.put oi.dst v) w → wpAnyH P md ops Q (fun _ => True) (fuel + 1) listed a w := by
  intro fuel
  induction fuel with
  | zero =>
    intro listed a w _ hr hy hS H
    refine ⟨fun h => (by rw [h] at hr; cases hr), fun j hj => ?_⟩
    by_cases hji : j = i
    · subst hji; exact hy.wpOp hi hS ⟨trivial, H⟩
    · have := ready_mono hj hji
      rw [H.1] at this
      cases this
  | succ fuel ih =>
    intro listed a w hfree hr hy hS H
    refine ⟨fun h => (by rw [h] at hr; cases hr), fun j hj => ?_⟩
    by_cases hji : j = i
    · subst hji; exact hy.wpOp hi hS ⟨trivial, wpAnyJ_H _ _ _ _ H⟩
    · have h1 := H.2 j (ready_mono hj hji)
      obtain ⟨hjun, oj, hoj, hall⟩ := mem_ready.1 hj
      have hnot : ∀ e ∈ oj.after, Region.binds md e = true → e.on ≠ i := fun e he hb heq => by
        have h1 := hall e he hb
        have h0 := (mem_ready.1 hr).1
        rw [heq] at h1
        rcases Nat.lt_or_ge i listed.size with h' | h'
        · simp [h'] at h0 h1; rw [h0] at h1; cases h1
        · simp [Array.getElem?_eq_none h'] at h1
      have hwt : waits md ops j i = false := by
        unfold waits
        rw [hoj]
        simp only [Array.any_eq_false', Bool.and_eq_true, beq_iff_eq, not_and]
        intro e he hb
        exact hnot e he hb
      have h2 := wpOp_putIf hoj (hfree j oj hoj hji hjun hnot) (fun cs b => hsel i oi cs b hi) (fun cs b => hsel j oj cs b hoj) hQ hy h1
      have hfree' : ∀ k ok, ops[k]? = some ok → k ≠ i → (listed.setIfInBounds j true).getD k true = false →
          (∀ e ∈ ok.after, Region.binds md e = true → e.on ≠ i) → oi.apart ops ok = true := fun k ok hk hki hun hno => by
        refine hfree k ok hk hki ?_ hno
        by_cases hjk : j = k
        · subst hjk; exact hjun
        · rw [getD_set_ne true hjk] at hun; exact hun
      refine wpOp_mono (fun a' w' h3 => ⟨trivial, ih (listed.setIfInBounds j true) a' w' hfree' (ready_mono hr (Ne.symm hji)) h3.1 (h3.2.1 hwt) ?_⟩) h2
      rw [Array.setIfInBounds_comm _ _ hji]
      exact h3.2.2
/-- take number i first: it yields v in every world that meets S; each operation that does not wait for it keeps S -/
theorem wpAnyH_before {md : Region.Mode} {S : World → Prop} {i : Nat} {oi : Oper} {v : Value} {fuel : Nat} {listed : Array Bool} (hi : ops[i]? = some oi)
    (hs : Region.noSelect ops = true) (hf : Region.free md ops listed i = true) (hr : (Region.ready md ops listed).contains i = true)
    (hQ : ∀ c a w, Q (.panic c) (a.put oi.dst v) w → Q (.panic c) a w) (hy : YieldsIf P ops S oi v a) (hS : S w)
    (h : wpAnyJ P md ops Q i S fuel (listed.setIfInBounds i true) (a.put oi.dst v) w) : wpAnyH P md ops Q (fun _ => True) (fuel + 1) listed a w :=
  wpAnyJ_first hi (Region.noSelect_spec hs) hQ fuel listed a w (Region.free_spec hi hf) (by simpa using hr) hy hS h
/-- one operation alone is ready, and does not wait for i -/
theorem wpAnyJ_keep {md : Region.Mode} {S : World → Prop} {i j : Nat} {oj : Oper} {fuel : Nat} {listed : Array Bool} (hr : Region.ready md ops listed = [j]) (hj : ops[j]? = some oj)
    (h : ∀ K' : Act → World → Prop, Shut (∀ a w, S w → wpAnyJ P md ops Q i S fuel (listed.setIfInBounds j true) a w → K' a w) → if Region.wanted oj (yielded ops a.tmps) = true then Oper.wp P oj a w K' Q else K' (a.put oj.dst undef) w) :
    wpAnyJ P md ops Q i S (fuel + 1) listed a w := by
  refine ⟨fun h => (by rw [hr] at h; cases h), fun x hx => ?_⟩
  rw [hr] at hx
  obtain rfl := List.mem_singleton.1 hx
  exact wpOp_step hj (fun K' hK => h K' (fun a w hS hW => hK a w ⟨fun _ => hS, hW⟩))
/-- and it waits for i: S may fall -/
theorem wpAnyJ_free {md : Region.Mode} {S : World → Prop} {i j : Nat} {oj : Oper} {fuel : Nat} {listed : Array Bool} (hr : Region.ready md ops listed = [j]) (hw : waits md ops j i = true) (hj : ops[j]? = some oj)
    (h : ∀ K' : Act → World → Prop, Shut (∀ a w, wpAnyJ P md ops Q i S fuel (listed.setIfInBounds j true) a w → K' a w) → if Region.wanted oj (yielded ops a.tmps) = true then Oper.wp P oj a w K' Q else K' (a.put oj.dst undef) w) :
    wpAnyJ P md ops Q i S (fuel + 1) listed a w := by
  refine ⟨fun h => (by rw [hr] at h; cases h), fun x hx => ?_⟩
  rw [hr] at hx
  obtain rfl := List.mem_singleton.1 hx
  exact wpOp_step hj (fun K' hK => h K' (fun a w hW => hK a w ⟨fun h => (by rw [hw] at h; cases h), hW⟩))
theorem wpAnyJ_done {md : Region.Mode} {S : World → Prop} {i : Nat} {listed : Array Bool} (hr : Region.ready md ops listed = []) (h : Q .normal a w) : ∀ fuel, wpAnyJ P md ops Q i S fuel listed a w
  | 0 => ⟨hr, h⟩
  | _ + 1 => ⟨fun _ => h, by rw [hr]; simp⟩
/-- one cell of a block is stored, the block said in parts -/
theorem wp_putc (ty : TypeId) (x y : Operand) (ho : o.op = .store ty x y) (g : Nat) (pre post : List Value) (u : Value) (n : Nat) (hn : pre.length = n) (hx : a.eval x = .pointer (some ⟨g, n, none⟩)) (v : Value) (hy : a.eval y = v) (h1 : v.oneCell' = true) {t : TypeId} (hB : Blk w g (pre ++ ([u] ++ post)) t)
    (hsz : (P.info? ty).map (·.size) = some 1)
    (h : ∀ w', Blk w' g (pre ++ ([v] ++ post)) t → Fr (fun k => k = g) w w' → w'.heap.size = w.heap.size → K (a.put o.dst undef) w') : Oper.wp P o a w K Q := by
  subst hn
  refine wp_setc ty x y ho g pre.length hx v hy h1 hB (by simp) hsz (fun w' k1 k2 k3 => h w' ?_ k2 k3)
  have e : (pre ++ ([u] ++ post)).set pre.length v = pre ++ ([v] ++ post) := by
    rw [List.set_append_right _ _ (Nat.le_refl _)]
    simp
  rw [e] at k1
  exact k1
theorem wpList_putc (hgd : o.guard = none) (ty : TypeId) (x y : Operand) (ho : o.op = .store ty x y) (g : Nat) (pre post : List Value) (u : Value) (n : Nat) (hn : pre.length = n) (hx : a.eval x = .pointer (some ⟨g, n, none⟩)) (v : Value) (hy : a.eval y = v) (h1 : v.oneCell' = true) {t : TypeId} (hB : Blk w g (pre ++ ([u] ++ post)) t)
    (hsz : (P.info? ty).map (·.size) = some 1)
    (h : ∀ w', Blk w' g (pre ++ ([v] ++ post)) t → Fr (fun k => k = g) w w' → w'.heap.size = w.heap.size → wpList P ops Q rest (a.put o.dst undef) w') : wpList P ops Q (o :: rest) a w :=
  wpList_plain hgd fun _ hK => wp_putc ty x y ho g pre post u n hn hx v hy h1 hB hsz (fun w' h1 h2 h3 => hK _ _ (h w' h1 h2 h3))
/-- two values of many cells are compared -/
theorem exec_eql {t rt : TypeId} {x y : Operand} (hgt : P.eqGuardType P.depth t = false) (ho : o.op = .binOp .eql t x y rt) {c d : Array Value} (hx : a.eval x = .agg c) (hy : a.eval y = .agg d) {r : Bool} (hr : (Op.equalIn 10000 t (.agg c) (.agg d)).run P w = .ok r w) : (execOp a.eval o).run P w = .ok (.value (.bool r)) w := by
  unfold execOp
  simp only [ho, hx, hy, Sem.run_bind, run_eql_struct, run_eqGuard_agg (hm := hgt), hr, Result.andThen_ok, Sem.run_pure]
end
end Go.Proofs.YtmenchnjajpkmaaGreat.Ops
end

section
namespace Go.Proofs.YtmenchnjajpkmaaGreat.Wg
open Go Go.RowKit Mem Codec CodecW Ww Rw Arr Ops Wt Reps
set_option linter.unusedVariables false

theorem plus_dis {S D : Nat → Prop} {w0 w w1 wi : World} (h : ∀ b, b < w.heap.size → D b → ¬ Plus S w0 w b) (hz : w.heap.size ≤ w1.heap.size) : ∀ b, b < wi.heap.size → (b < w.heap.size ∧ D b) → ¬ Plus (Plus S w0 w) w1 wi b := fun b _ hb e => by
  rcases e with e | e
  · exact h b hb.1 hb.2 e
  · have := e.1; omega
theorem plus_dis1 {S D : Nat → Prop} {w0 w w1 wi : World} (h : ∀ b, b < w.heap.size → D b → ¬ Plus S w0 w b) (hz : w.heap.size ≤ w1.heap.size) : ∀ b, b < wi.heap.size → (b < w.heap.size ∧ D b) → ¬ Plus S w0 w b := fun b _ hb e => h b hb.1 hb.2 e
end Go.Proofs.YtmenchnjajpkmaaGreat.Wg
end

section
namespace Go.Proofs.YtmenchnjajpkmaaGreat.Ws
open Go Go.RowKit Mem Codec CodecW Ww Rw Arr Ops Wt Reps Wg
set_option linter.unusedVariables false

set_option maxHeartbeats 4000000 in
theorem short_calls (S D : Nat → Prop) (w0 w : World) (q : Nat) (m : List UInt8) (bad : Bool) (v : Value) (b : List UInt8) (hB : Byt D w v b) (hD : ∀ k, k < w.heap.size → D k → ¬ Plus S w0 w k) (most : Int) (H : At S w0 w q m bad) (hlen : m.length + (text b).length + 9 ≤ 140737488355328) :
    Calls Tryz.prog 82 #[.pointer (some ⟨q, 0, none⟩), v, .int .i64 most] w fun e w' => e = .returned (.tuple #[]) ∧ At S w0 w' q (m ++ text b) (bad || !decide ((b.length : Int) ≤ most)) := by
  obtain ⟨va, vc, rfl, _, _⟩ := id hB
  have hlb : b.length ≤ 140737488355328 := by simp only [text, List.length_append] at hlen; omega
  have hlt : (text b).length = (var b.length).length + b.length := by simp [text]
  rw [hlt] at hlen
  have H0 := Lib.hid H.enter0
  have HL := Lib.hid (fun w' m' b' => @At.back S w0 w w' q m m' bad b' H)
  have HB := Lib.hid (hB.mono (E := fun k => k < w.heap.size ∧ D k) (fun k h1 h2 => ⟨h1, h2⟩))
  have HD := Lib.hid hD
  obtain ⟨T, hT⟩ : ∃ T, Plus S w0 w = T := ⟨_, rfl⟩
  rw [hT] at HL H0 HD
  clear H hB hD hT hlt
  obtain ⟨ok, hok⟩ : ∃ ok, decide ((b.length : Int) ≤ most) = ok := ⟨_, rfl⟩
  rw [hok]
  go_enter Tryz.func82, Tryz.ntmps82
  go_wp2_with fail
  try rw [hok]
  refine (must_calls _ _ w q m bad ok H0.out).mono ?_
  rintro e w1 ⟨rfl, g1⟩
  obtain ⟨p, k1, k2, k3⟩ := g1.opened
  have G1 := Lib.hid g1
  have HQ := Lib.hid k1
  have HW := Lib.hid k2
  have c0 := k1.cell (i := 0) rfl
  have HB1 := Lib.hid (HB.out.fr g1.2.1 (fun k _ h => HD.out k h.1 h.2))
  clear g1 k1 k2 k3
  go_wp2_with fail
  refine (text_calls _ _ w1 p m _ b HW.out HB1.out (fun k _ h e => by
    rcases e.1 with e | e
    · exact HD.out k h.1 h.2 e
    · have := e.1; omega) (by omega)).mono ?_
  rintro e w2 ⟨rfl, r1, r2⟩
  have G2 := Lib.hid (HL.out _ _ _ (G1.out.shut HQ.out r1 r2))
  clear r1 r2 c0 HW HQ G1
  go_wp2
  go_end0
  exact ⟨rfl, G2.out⟩
/-- a truth's byte -/
def tb (is : Bool) : UInt8 := if is then 1 else 0
set_option maxHeartbeats 4000000 in
theorem truth_calls (S : Nat → Prop) (w0 w : World) (q : Nat) (m : List UInt8) (bad : Bool) (is : Bool) (H : At S w0 w q m bad) (hlen : m.length + 1 ≤ 140737488355328) :
    Calls Tryz.prog 83 #[.pointer (some ⟨q, 0, none⟩), .bool is] w fun e w' => e = .returned (.tuple #[]) ∧ At S w0 w' q (m ++ [tb is]) bad := by
  obtain ⟨p, k1, k2, k3⟩ := H.opened
  have G1 := Lib.hid H
  have HQ := Lib.hid k1
  have HW := Lib.hid k2
  have c0 := k1.cell (i := 0) rfl
  clear H k1 k2 k3
  cases is
  · go_enter Tryz.func83, Tryz.ntmps83
    go_wp2_with fail
    refine (byte_calls _ w p m _ 0 rfl HW.out hlen).mono ?_
    rintro e w2 ⟨rfl, r1, r2⟩
    have G2 := Lib.hid (G1.out.shut HQ.out r1 r2)
    clear r1 r2 c0 HW HQ G1
    go_wp2
    go_end0
    exact ⟨rfl, G2.out⟩
  · go_enter Tryz.func83, Tryz.ntmps83
    go_wp2_with fail
    refine (byte_calls _ w p m _ 1 rfl HW.out hlen).mono ?_
    rintro e w2 ⟨rfl, r1, r2⟩
    have G2 := Lib.hid (G1.out.shut HQ.out r1 r2)
    clear r1 r2 c0 HW HQ G1
    go_wp2
    go_end0
    exact ⟨rfl, G2.out⟩
set_option maxHeartbeats 4000000 in
theorem rtext_calls (S D : Nat → Prop) (w0 w : World) (q : Nat) (m : List UInt8) (bad : Bool) (v : Value) (b : List UInt8) (hB : Byt D w v b) (hD : ∀ k, k < w.heap.size → D k → ¬ Plus S w0 w k) (most : Int) (H : RAt S w0 w q m bad) (hlen : m.length + (text b).length + 9 ≤ 140737488355328) :
    Calls Tryz.prog 85 #[.pointer (some ⟨q, 0, none⟩), v, .int .i64 most] w fun e w' => e = .returned (.tuple #[]) ∧ RAt S w0 w' q (m ++ text b) (bad || !decide ((b.length : Int) ≤ most)) := by
  obtain ⟨va, vc, rfl, _, _⟩ := id hB
  have hlt : (text b).length = (var b.length).length + b.length := by simp [text]
  have hlb : b.length + 9 ≤ 140737488355328 := by omega
  have H0 := Lib.hid H.enter0
  have HL := Lib.hid (fun w' m' b' => @Rw.RAt.leave0 S w0 w w' q m bad m' b' H)
  have HB := Lib.hid (hB.mono (E := fun k => k < w.heap.size ∧ D k) (fun k h1 h2 => ⟨h1, h2⟩))
  have HD := Lib.hid hD
  obtain ⟨T, hT⟩ : ∃ T, Plus S w0 w = T := ⟨_, rfl⟩
  rw [hT] at HL H0 HD
  clear H hB hD hT hlt
  obtain ⟨ok, hok⟩ : ∃ ok, decide ((b.length : Int) ≤ most) = ok := ⟨_, rfl⟩
  rw [hok]
  go_enter Tryz.func85, Tryz.ntmps85
  go_wp2_with fail
  try rw [hok]
  refine (rmust_calls _ _ w q m bad ok H0.out).mono ?_
  rintro e w1 ⟨rfl, g1⟩
  have G1 := Lib.hid g1
  have HB1 := Lib.hid (HB.out.fr g1.2.1 (fun k _ h => HD.out k h.1 h.2))
  clear g1
  go_wp2_with fail
  refine (CodecN.ref_text_calls w1 _ _ b HB1.out hlb).mono ?_
  rintro e w2 ⟨v2, rfl, o1, o2⟩
  have G2 := Lib.hid (RAt.below G1.out o2)
  have O1 := Lib.hid o1.byt
  clear o1 o2 G1
  go_wp2_with fail
  refine (raw_to _ _ _ w2 q _ _ _ _ G2.out O1.out (by omega)).mono ?_
  rintro e w3 ⟨rfl, r1⟩
  have GF := Lib.hid (HL.out _ _ _ r1)
  clear r1
  go_wp2
  go_end0
  exact ⟨rfl, GF.out⟩
set_option maxHeartbeats 4000000 in
theorem rtruth_calls (S : Nat → Prop) (w0 w : World) (q : Nat) (m : List UInt8) (bad : Bool) (is : Bool) (H : RAt S w0 w q m bad) (hlen : m.length + 1 ≤ 140737488355328) :
    Calls Tryz.prog 86 #[.pointer (some ⟨q, 0, none⟩), .bool is] w fun e w' => e = .returned (.tuple #[]) ∧ RAt S w0 w' q (m ++ [tb is]) bad := by
  cases is
  · have G1 := Lib.hid (RAt.below H (below_alloc w (.cells #[.int .u8 0] 5)))
    clear H
    go_enter Tryz.func86, Tryz.ntmps86
    go_wp2_with fail
    refine (raw_to _ Any w0 _ q m _ _ [0] G1.out (byt_one w _ 0 rfl) hlen).mono ?_
    rintro e w2 ⟨rfl, r1⟩
    have GF := Lib.hid r1
    clear r1
    go_wp2
    go_end0
    exact ⟨rfl, GF.out⟩
  · have G1 := Lib.hid (RAt.below H (below_alloc w (.cells #[.int .u8 1] 5)))
    clear H
    go_enter Tryz.func86, Tryz.ntmps86
    go_wp2_with fail
    refine (raw_to _ Any w0 _ q m _ _ [1] G1.out (byt_one w _ 1 rfl) hlen).mono ?_
    rintro e w2 ⟨rfl, r1⟩
    have GF := Lib.hid r1
    clear r1
    go_wp2
    go_end0
    exact ⟨rfl, GF.out⟩
end Go.Proofs.YtmenchnjajpkmaaGreat.Ws
end

section
namespace Go.Proofs.YtmenchnjajpkmaaGreat.Wo
open Go Go.RowKit Mem Codec CodecW Ww Rw Arr Ops Wt Reps Wg Ws
set_option linter.unusedVariables false

/-- a point of noughts -/
def zPt : List Value := List.replicate 8 (.int .u64 0) ++ [Value.bool false]
theorem builtPt (l : List (Nat × Operand)) (a : Act) (h : l = []) : Tryz.prog.built 81 (l.map fun p => (p.1, a.eval p.2)) = some zPt.toArray := by subst h; kernel_rfl
theorem eqPt0 (w : World) : (Op.equalIn 10000 81 (.agg zPt.toArray) (.agg zPt.toArray)).run Tryz.prog w = .ok true w := by kernel_rfl
set_option maxHeartbeats 8000000 in
set_option maxRecDepth 100000 in
theorem tagN_calls (S : Nat → Prop) (w0 w : World) (q : Nat) (m : List UInt8) (bad : Bool) (id : List UInt8) (hid : id.length = 32) (pc : List Value) (hpc : pc.length = 9) (eb : Bool) (heq : ∀ w, (Op.equalIn 10000 81 (.agg pc.toArray) (.agg zPt.toArray)).run Tryz.prog w = .ok eb w) (H : At S w0 w q m bad) (hlen : m.length + 33 ≤ 140737488355328) :
    Calls Tryz.prog 105 #[.pointer (some ⟨q, 0, none⟩), .agg ([Value.bool false] ++ (id.map byt ++ pc)).toArray] w fun e w' => e = .returned (.tuple #[]) ∧ At S w0 w' q (m ++ ([0] ++ id)) (bad || !eb) := by
  have KL := Lib.hid hid
  have PL := Lib.hid hpc
  have SZD := Lib.hid (Ww.szD hid)
  have SZP := Lib.hid (show (Tryz.prog.info? 81).map (·.size) = some pc.length by rw [hpc]; kernel_rfl)
  have HF0 := Lib.hid (fun (w' : World) (h : Blk w' w.heap.size ([Value.bool false] ++ (id.map byt ++ pc)) 83) => blk_one h [] (id.map byt ++ pc) (.bool false) rfl 0 rfl)
  have HF1 := Lib.hid (fun (w' : World) (h : Blk w' w.heap.size ([Value.bool false] ++ (id.map byt ++ pc)) 83) => blk_part h [Value.bool false] (id.map byt) pc rfl 1 rfl)
  have HF2 := Lib.hid (fun (w' : World) (h : Blk w' w.heap.size ([Value.bool false] ++ (id.map byt ++ pc)) 83) => blk_part h ([Value.bool false] ++ id.map byt) pc [] (by simp) 33 (by simp [hid]))
  obtain ⟨ca, hca⟩ : ∃ ca, ([Value.bool false] ++ (id.map byt ++ pc)).toArray = ca := ⟨_, rfl⟩
  have HB := Lib.hid (show Blk (w.alloc (.cells ca 83)) w.heap.size ([Value.bool false] ++ (id.map byt ++ pc)) 83 from Blk.new w _ _ _ hca.symm)
  have HX := Lib.hid (fun w' m' b' => @At.box S w0 w w' q m bad (.cells ca 83) m' b' ([Value.bool false] ++ (id.map byt ++ pc)) 83 H)
  have H1 := Lib.hid (H.enter (.cells ca 83))
  have HL := Lib.hid (fun w' m' b' => @At.leave S w0 w w' q m bad (.cells ca 83) m' b' H)
  have HQE := Lib.hid heq
  rw [hca]
  clear H hca hid hpc heq
  obtain ⟨T, hT⟩ : ∃ T, Plus S w0 w = T := ⟨_, rfl⟩
  rw [hT] at HL H1 HX
  clear hT
  go_enter Tryz.func105, Tryz.ntmps105
  go_upto_region 1 with fail
  have HB0 := Lib.hid (fun w' m' b' g => HX.out w' m' b' g HB.out)
  have B1 := Lib.hid HB.out
  clear HX HB
  generalize (w.alloc (.cells ca 83)) = w1 at *
  have d0 := HF0.out _ B1.out
  go_wp2_with fail
  refine (truth_calls _ _ w1 q m bad false H1.out (by omega)).mono ?_
  rintro e w2 ⟨rfl, g1⟩
  have H2 := Lib.hid g1
  have B2 := Lib.hid (HB0.out _ _ _ H2.out)
  clear g1 d0 H1 B1
  have d0 := HF0.out _ B2.out
  have heq := HQE.out
  go_wp2_with (first
    | (with_reducible refine wpList_load_mid rfl _ _ rfl w.heap.size 33 rfl pc _ (HF2.out _ B2.out) Tryz.underlying81 rfl SZP.out ?_)
    | (with_reducible refine wpList_built rfl _ [] rfl zPt (builtPt _ _ rfl) ?_))
  refine (must_calls _ _ w2 q _ bad eb H2.out).mono ?_
  rintro e w3 ⟨rfl, g1⟩
  have H3 := Lib.hid g1
  have B3 := Lib.hid (HB0.out _ _ _ H3.out)
  clear g1 d0 H2 B2 heq
  go_wp2_with (first | (with_reducible refine wpList_load_mid rfl _ _ rfl w.heap.size 1 rfl (id.map byt) _ (HF1.out _ B3.out) Tryz.underlying27 rfl SZD.out ?_))
  refine (digest_calls _ _ w3 q _ _ id KL.out H3.out (by simp only [List.length_append, List.length_singleton]; have := KL.out; omega)).mono ?_
  rintro e w4 ⟨rfl, g1⟩
  have HFF := Lib.hid (HL.out _ _ _ g1)
  clear g1 H3 B3 HL HB0
  go_wp2
  go_end0
  refine ⟨rfl, ?_⟩
  have := HFF.out
  simp only [List.append_assoc] at this
  exact this
set_option maxHeartbeats 8000000 in
set_option maxRecDepth 100000 in
theorem amountN_calls (S : Nat → Prop) (w0 w : World) (q : Nat) (m : List UInt8) (bad : Bool) (n : Nat) (hn : n < 18446744073709551616) (pc : List Value) (hpc : pc.length = 9) (eb : Bool) (heq : ∀ w, (Op.equalIn 10000 81 (.agg pc.toArray) (.agg zPt.toArray)).run Tryz.prog w = .ok eb w) (H : At S w0 w q m bad) (hlen : m.length + 9 ≤ 140737488355328) :
    Calls Tryz.prog 106 #[.pointer (some ⟨q, 0, none⟩), .agg ([Value.bool false] ++ ([Value.int .u64 (n : Int)] ++ pc)).toArray] w fun e w' => e = .returned (.tuple #[]) ∧ At S w0 w' q (m ++ ([0] ++ num n 8)) (bad || !eb) := by
  have PL := Lib.hid hpc
  have SZP := Lib.hid (show (Tryz.prog.info? 81).map (·.size) = some pc.length by rw [hpc]; kernel_rfl)
  have HF0 := Lib.hid (fun (w' : World) (h : Blk w' w.heap.size ([Value.bool false] ++ ([Value.int .u64 (n : Int)] ++ pc)) 85) => blk_one h [] ([Value.int .u64 (n : Int)] ++ pc) (.bool false) rfl 0 rfl)
  have HF1 := Lib.hid (fun (w' : World) (h : Blk w' w.heap.size ([Value.bool false] ++ ([Value.int .u64 (n : Int)] ++ pc)) 85) => blk_one h [Value.bool false] pc (.int .u64 (n : Int)) rfl 1 rfl)
  have HF2 := Lib.hid (fun (w' : World) (h : Blk w' w.heap.size ([Value.bool false] ++ ([Value.int .u64 (n : Int)] ++ pc)) 85) => blk_part h ([Value.bool false] ++ [Value.int .u64 (n : Int)]) pc [] (by simp) 2 (by simp))
  obtain ⟨ca, hca⟩ : ∃ ca, ([Value.bool false] ++ ([Value.int .u64 (n : Int)] ++ pc)).toArray = ca := ⟨_, rfl⟩
  have HB := Lib.hid (show Blk (w.alloc (.cells ca 85)) w.heap.size ([Value.bool false] ++ ([Value.int .u64 (n : Int)] ++ pc)) 85 from Blk.new w _ _ _ hca.symm)
  have HX := Lib.hid (fun w' m' b' => @At.box S w0 w w' q m bad (.cells ca 85) m' b' ([Value.bool false] ++ ([Value.int .u64 (n : Int)] ++ pc)) 85 H)
  have H1 := Lib.hid (H.enter (.cells ca 85))
  have HL := Lib.hid (fun w' m' b' => @At.leave S w0 w w' q m bad (.cells ca 85) m' b' H)
  have HQE := Lib.hid heq
  rw [hca]
  clear H hca hpc heq
  obtain ⟨T, hT⟩ : ∃ T, Plus S w0 w = T := ⟨_, rfl⟩
  rw [hT] at HL H1 HX
  clear hT
  go_enter Tryz.func106, Tryz.ntmps106
  go_upto_region 1 with fail
  have HB0 := Lib.hid (fun w' m' b' g => HX.out w' m' b' g HB.out)
  have B1 := Lib.hid HB.out
  clear HX HB
  generalize (w.alloc (.cells ca 85)) = w1 at *
  have d0 := HF0.out _ B1.out
  go_wp2_with fail
  refine (truth_calls _ _ w1 q m bad false H1.out (by omega)).mono ?_
  rintro e w2 ⟨rfl, g1⟩
  have H2 := Lib.hid g1
  have B2 := Lib.hid (HB0.out _ _ _ H2.out)
  clear g1 d0 H1 B1
  have d0 := HF0.out _ B2.out
  have heq := HQE.out
  go_wp2_with (first
    | (with_reducible refine wpList_load_mid rfl _ _ rfl w.heap.size 2 rfl pc _ (HF2.out _ B2.out) Tryz.underlying81 rfl SZP.out ?_)
    | (with_reducible refine wpList_built rfl _ [] rfl zPt (builtPt _ _ rfl) ?_))
  refine (must_calls _ _ w2 q _ bad eb H2.out).mono ?_
  rintro e w3 ⟨rfl, g1⟩
  have H3 := Lib.hid g1
  have B3 := Lib.hid (HB0.out _ _ _ H3.out)
  clear g1 d0 H2 B2 heq
  obtain ⟨p, h1, h2, h3⟩ := H3.out.drew.opened
  have HW := Lib.hid h2
  have HQ := Lib.hid h1
  have c0 := h1.cell (i := 0) rfl
  have cc : w3.cell? ⟨q, 0, none⟩ = some (.pointer (some ⟨p, 0, none⟩)) := c0
  have d0 := HF1.out _ B3.out
  clear h1 h2 h3
  go_wp2_with fail
  go_still_tail 6, (by kernel_rfl)
  change wpList _ _ _ _ _ w3.drew
  go_wp2_with fail
  refine (long_calls _ w3.drew p _ n hn HW.out (by simp only [List.length_append, List.length_singleton]; omega)).mono ?_
  rintro e w4 ⟨rfl, g1, g2⟩
  have HFF := Lib.hid (HL.out _ _ _ (H3.out.drew.shut HQ.out g1 g2))
  clear g1 g2 HW HQ c0 cc d0 H3 B3 HL HB0
  go_wp2
  go_end0
  refine ⟨rfl, ?_⟩
  have := HFF.out
  simp only [List.append_assoc] at this
  exact this
end Go.Proofs.YtmenchnjajpkmaaGreat.Wo
end

section
namespace Go.Proofs.YtmenchnjajpkmaaGreat.Wo
open Go Go.RowKit Mem Codec CodecW Ww Rw Arr Ops Wt Reps Wg Ws
set_option linter.unusedVariables false
set_option linter.unusedSimpArgs false

def RTg0 : (Nat → Prop) → World → List Value → List UInt8 → Prop := fun _ _ cs x => x.length = 32 ∧ cs = [Value.bool false] ++ (x.map byt ++ zPt)
def RAm0 : (Nat → Prop) → World → List Value → Nat → Prop := fun _ _ cs x => x < 18446744073709551616 ∧ cs = [Value.bool false] ++ ([Value.int .u64 (x : Int)] ++ zPt)
theorem zPt_one : ∀ v ∈ zPt, v.oneCell' = true := by
  intro v hv
  simp only [zPt, List.mem_append, List.mem_replicate, List.mem_singleton] at hv
  rcases hv with ⟨_, rfl⟩ | rfl <;> rfl
theorem rep_tg0 : Rep 42 RTg0 := rep_plain 42 (by omega) (fun x : List UInt8 => [Value.bool false] ++ (x.map byt ++ zPt)) (fun x => x.length = 32) (fun x h => by simp [h, zPt]) (fun x _ v hv => by
  simp only [List.mem_append, List.mem_singleton, List.mem_map] at hv
  rcases hv with rfl | ⟨_, _, rfl⟩ | hv
  · rfl
  · rfl
  · exact zPt_one v hv)
theorem rep_am0 : Rep 11 RAm0 := rep_plain 11 (by omega) (fun x : Nat => [Value.bool false] ++ ([Value.int .u64 (x : Int)] ++ zPt)) (fun x => x < 18446744073709551616) (fun x h => by simp [zPt]) (fun x _ v hv => by
  simp only [List.mem_append, List.mem_singleton] at hv
  rcases hv with rfl | rfl | hv
  · rfl
  · rfl
  · exact zPt_one v hv)
def encTg0 (x : List UInt8) : List UInt8 := [0] ++ x
def encAm0 (x : Nat) : List UInt8 := [0] ++ num x 8
def badNo {α : Type} (_ : α) : Bool := false
theorem tag0_calls (S D : Nat → Prop) (w0 w : World) (q : Nat) (m : List UInt8) (bad : Bool) (cs : List Value) (x : List UInt8) (hR : RTg0 D w cs x) (hD : ∀ b, b < w.heap.size → D b → ¬ Plus S w0 w b) (H : At S w0 w q m bad) (hlen : m.length + (encTg0 x).length + 9 ≤ 140737488355328) :
    Calls Tryz.prog 105 #[.pointer (some ⟨q, 0, none⟩), .agg cs.toArray] w fun e w' => e = .returned (.tuple #[]) ∧ At S w0 w' q (m ++ encTg0 x) (bad || badNo x) := by
  obtain ⟨h1, rfl⟩ := hR
  refine (tagN_calls S w0 w q m bad x h1 zPt rfl true eqPt0 H (by simp only [encTg0, List.length_append, List.length_singleton] at hlen; omega)).mono ?_
  rintro e w' ⟨h2, h3⟩
  exact ⟨h2, h3⟩
theorem amount0_calls (S D : Nat → Prop) (w0 w : World) (q : Nat) (m : List UInt8) (bad : Bool) (cs : List Value) (x : Nat) (hR : RAm0 D w cs x) (hD : ∀ b, b < w.heap.size → D b → ¬ Plus S w0 w b) (H : At S w0 w q m bad) (hlen : m.length + (encAm0 x).length + 9 ≤ 140737488355328) :
    Calls Tryz.prog 106 #[.pointer (some ⟨q, 0, none⟩), .agg cs.toArray] w fun e w' => e = .returned (.tuple #[]) ∧ At S w0 w' q (m ++ encAm0 x) (bad || badNo x) := by
  obtain ⟨h1, rfl⟩ := hR
  refine (amountN_calls S w0 w q m bad x h1 zPt rfl true eqPt0 H (by simp only [encAm0, List.length_append, List.length_singleton, num_length] at hlen; omega)).mono ?_
  rintro e w' ⟨h2, h3⟩
  exact ⟨h2, h3⟩
abbrev XOu0 := Int × (List UInt8) × Nat × List UInt8 × List UInt8 × List UInt8 × List UInt8
def ROu0 : (Nat → Prop) → World → List Value → XOu0 → Prop := (PairR RI64 (PairR RTg0 (PairR RAm0 (PairR RBy (PairR RBy (PairR RBy RBy))))))
theorem rep_Ou0 : Rep 58 ROu0 := (rep_pair rep_i64 (rep_pair rep_tg0 (rep_pair rep_am0 (rep_pair rep_by (rep_pair rep_by (rep_pair rep_by rep_by))))))
def encOu0 (x : XOu0) : List UInt8 := [u8 (x.1)] ++ (encTg0 (x.2.1) ++ (encAm0 (x.2.2.1) ++ (text (x.2.2.2.1) ++ (text (x.2.2.2.2.1) ++ (text (x.2.2.2.2.2.1) ++ text (x.2.2.2.2.2.2))))))
def badOu0 (x : XOu0) : Bool := !(decide (1 ≤ x.1) && decide (x.1 ≤ 4)) || (!decide (((x.2.2.2.1).length : Int) ≤ 6000) || (!decide (((x.2.2.2.2.1).length : Int) ≤ 6000) || (!decide (((x.2.2.2.2.2.1).length : Int) ≤ 128) || !decide (((x.2.2.2.2.2.2).length : Int) ≤ 256))))
set_option maxHeartbeats 8000000 in
set_option maxRecDepth 100000 in
theorem out0_to (S D : Nat → Prop) (w0 w : World) (q : Nat) (m : List UInt8) (bad : Bool) (cs : List Value) (x : XOu0) (hR : ROu0 D w cs x) (hD : ∀ b, b < w.heap.size → D b → ¬ Plus S w0 w b) (H : At S w0 w q m bad) (hlen : m.length + (encOu0 x).length + 9 ≤ 140737488355328) :
    Calls Tryz.prog 72 #[.pointer (some ⟨q, 0, none⟩), .agg cs.toArray] w fun e w' => e = .returned (.tuple #[]) ∧ At S w0 w' q (m ++ encOu0 x) (bad || badOu0 x) := by
  have hR1 := rep_Ou0.lt hR
  obtain ⟨a0, b0, rfl, h0, c1, b1, rfl, h1, c2, b2, rfl, h2, a3, b3, rfl, h3, a4, b4, rfl, h4, a5, b5, rfl, h5, h6⟩ := id hR1
  obtain ⟨k0, rfl⟩ := h0
  obtain ⟨v3, rfl, g3⟩ := h3
  obtain ⟨v4, rfl, g4⟩ := h4
  obtain ⟨v5, rfl, g5⟩ := h5
  obtain ⟨v6, rfl, g6⟩ := h6
  have G1 := Lib.hid (rep_tg0.below h1 (below_alloc w (.cells ([Value.int .i64 x.1] ++ (c1 ++ (c2 ++ ([v3] ++ ([v4] ++ ([v5] ++ ([v6]))))))).toArray 87)))
  have G2 := Lib.hid (rep_am0.below h2 (below_alloc w (.cells ([Value.int .i64 x.1] ++ (c1 ++ (c2 ++ ([v3] ++ ([v4] ++ ([v5] ++ ([v6]))))))).toArray 87)))
  have G3 := Lib.hid (g3.below (below_alloc w (.cells ([Value.int .i64 x.1] ++ (c1 ++ (c2 ++ ([v3] ++ ([v4] ++ ([v5] ++ ([v6]))))))).toArray 87)))
  have G4 := Lib.hid (g4.below (below_alloc w (.cells ([Value.int .i64 x.1] ++ (c1 ++ (c2 ++ ([v3] ++ ([v4] ++ ([v5] ++ ([v6]))))))).toArray 87)))
  have G5 := Lib.hid (g5.below (below_alloc w (.cells ([Value.int .i64 x.1] ++ (c1 ++ (c2 ++ ([v3] ++ ([v4] ++ ([v5] ++ ([v6]))))))).toArray 87)))
  have G6 := Lib.hid (g6.below (below_alloc w (.cells ([Value.int .i64 x.1] ++ (c1 ++ (c2 ++ ([v3] ++ ([v4] ++ ([v5] ++ ([v6]))))))).toArray 87)))
  have HCL1 := Lib.hid (rep_tg0.len h1)
  have HSZ1 := Lib.hid (show (Tryz.prog.info? 83).map (·.size) = some c1.length by rw [HCL1.out]; kernel_rfl)
  have HCL2 := Lib.hid (rep_am0.len h2)
  have HSZ2 := Lib.hid (show (Tryz.prog.info? 85).map (·.size) = some c2.length by rw [HCL2.out]; kernel_rfl)
  have HF0 := Lib.hid (fun (w' : World) (h : Blk w' w.heap.size ([Value.int .i64 x.1] ++ (c1 ++ (c2 ++ ([v3] ++ ([v4] ++ ([v5] ++ ([v6]))))))) 87) => blk_one h ([]) (c1 ++ (c2 ++ ([v3] ++ ([v4] ++ ([v5] ++ ([v6])))))) (Value.int .i64 x.1) (by simp) 0 (by simp [HCL1.out, HCL2.out]))
  have HF1 := Lib.hid (fun (w' : World) (h : Blk w' w.heap.size ([Value.int .i64 x.1] ++ (c1 ++ (c2 ++ ([v3] ++ ([v4] ++ ([v5] ++ ([v6]))))))) 87) => blk_part h ([Value.int .i64 x.1]) (c1) (c2 ++ ([v3] ++ ([v4] ++ ([v5] ++ ([v6]))))) (by simp) 1 (by simp [HCL1.out, HCL2.out]))
  have HF2 := Lib.hid (fun (w' : World) (h : Blk w' w.heap.size ([Value.int .i64 x.1] ++ (c1 ++ (c2 ++ ([v3] ++ ([v4] ++ ([v5] ++ ([v6]))))))) 87) => blk_part h ([Value.int .i64 x.1] ++ (c1)) (c2) ([v3] ++ ([v4] ++ ([v5] ++ ([v6])))) (by simp) 43 (by simp [HCL1.out, HCL2.out]))
  have HF3 := Lib.hid (fun (w' : World) (h : Blk w' w.heap.size ([Value.int .i64 x.1] ++ (c1 ++ (c2 ++ ([v3] ++ ([v4] ++ ([v5] ++ ([v6]))))))) 87) => blk_one h ([Value.int .i64 x.1] ++ (c1 ++ (c2))) ([v4] ++ ([v5] ++ ([v6]))) (v3) (by simp) 54 (by simp [HCL1.out, HCL2.out]))
  have HF4 := Lib.hid (fun (w' : World) (h : Blk w' w.heap.size ([Value.int .i64 x.1] ++ (c1 ++ (c2 ++ ([v3] ++ ([v4] ++ ([v5] ++ ([v6]))))))) 87) => blk_one h ([Value.int .i64 x.1] ++ (c1 ++ (c2 ++ ([v3])))) ([v5] ++ ([v6])) (v4) (by simp) 55 (by simp [HCL1.out, HCL2.out]))
  have HF5 := Lib.hid (fun (w' : World) (h : Blk w' w.heap.size ([Value.int .i64 x.1] ++ (c1 ++ (c2 ++ ([v3] ++ ([v4] ++ ([v5] ++ ([v6]))))))) 87) => blk_one h ([Value.int .i64 x.1] ++ (c1 ++ (c2 ++ ([v3] ++ ([v4]))))) ([v6]) (v5) (by simp) 56 (by simp [HCL1.out, HCL2.out]))
  have HF6 := Lib.hid (fun (w' : World) (h : Blk w' w.heap.size ([Value.int .i64 x.1] ++ (c1 ++ (c2 ++ ([v3] ++ ([v4] ++ ([v5] ++ ([v6]))))))) 87) => blk_one h ([Value.int .i64 x.1] ++ (c1 ++ (c2 ++ ([v3] ++ ([v4] ++ ([v5])))))) ([]) (v6) (by simp) 57 (by simp [HCL1.out, HCL2.out]))
  obtain ⟨ca, hca⟩ : ∃ ca, ([Value.int .i64 x.1] ++ (c1 ++ (c2 ++ ([v3] ++ ([v4] ++ ([v5] ++ ([v6]))))))).toArray = ca := ⟨_, rfl⟩
  have HB := Lib.hid (show Blk (w.alloc (.cells ca 87)) w.heap.size ([Value.int .i64 x.1] ++ (c1 ++ (c2 ++ ([v3] ++ ([v4] ++ ([v5] ++ ([v6]))))))) 87 from Blk.new w _ _ _ hca.symm)
  have HX := Lib.hid (fun w' m' b' => @At.box S w0 w w' q m bad (.cells ca 87) m' b' ([Value.int .i64 x.1] ++ (c1 ++ (c2 ++ ([v3] ++ ([v4] ++ ([v5] ++ ([v6]))))))) 87 H)
  have H1 := Lib.hid (H.enter (.cells ca 87))
  have HL := Lib.hid (fun w' m' b' => @At.leave S w0 w w' q m bad (.cells ca 87) m' b' H)
  have HD := Lib.hid hD
  have hz : (w.alloc (.cells ca 87)).heap.size = w.heap.size + 1 := by simp
  simp only [encOu0, List.length_append, num_length, List.length_cons, List.length_nil] at hlen
  rw [hca] at G1 G2 G3 G4 G5 G6 ⊢
  clear H hR hR1 hca hD h1 h2 g3 g4 g5 g6
  obtain ⟨T, hT⟩ : ∃ T, Plus S w0 w = T := ⟨_, rfl⟩
  rw [hT] at HL H1 HX HD
  clear hT
  go_enter Tryz.func72, Tryz.ntmps72
  go_upto_region 1 with fail
  have HB0 := Lib.hid (fun w' m' b' g => HX.out w' m' b' g HB.out)
  have B1 := Lib.hid HB.out
  clear HX HB
  generalize (w.alloc (.cells ca 87)) = w1 at *
  have HD2 := Lib.hid (show ∀ wi : World, ∀ b, b < wi.heap.size → (b < w.heap.size ∧ D b) → ¬ Plus T w1 wi b from fun wi b _ hb e => by
    rcases e with e | e
    · exact HD.out b hb.1 hb.2 e
    · have := e.1; omega)
  have d0 := HF0.out _ B1.out
  go_wp2_with fail
  refine (kind_calls _ _ w1 q _ _ (x.1) 1 4 (u8 (x.1)) (u8_wrap _) H1.out (by (try simp only [List.length_append, num_length, List.length_cons, List.length_nil]); omega)).mono ?_
  rintro e w2 ⟨rfl, g1⟩
  have H2 := Lib.hid g1
  have B2 := Lib.hid (HB0.out _ _ _ H2.out)
  clear g1 d0 H1 B1
  go_wp2_with (first | (with_reducible refine wpList_load_mid rfl _ _ rfl w.heap.size 1 rfl c1 _ (HF1.out _ B2.out) Tryz.underlying83 rfl HSZ1.out ?_))
  refine (tag0_calls _ _ _ w2 q _ _ c1 (x.2.1) (rep_tg0.fr G1.out H2.out.2.1 (fun b _ h => HD.out b h.1 h.2)) (HD2.out _) H2.out (by (try simp only [List.length_append, num_length, List.length_cons, List.length_nil]); omega)).mono ?_
  rintro e w3 ⟨rfl, g1⟩
  have H3 := Lib.hid g1
  have B3 := Lib.hid (HB0.out _ _ _ H3.out)
  clear g1 H2 B2
  go_wp2_with (first | (with_reducible refine wpList_load_mid rfl _ _ rfl w.heap.size 43 rfl c2 _ (HF2.out _ B3.out) Tryz.underlying85 rfl HSZ2.out ?_))
  refine (amount0_calls _ _ _ w3 q _ _ c2 (x.2.2.1) (rep_am0.fr G2.out H3.out.2.1 (fun b _ h => HD.out b h.1 h.2)) (HD2.out _) H3.out (by (try simp only [List.length_append, num_length, List.length_cons, List.length_nil]); omega)).mono ?_
  rintro e w4 ⟨rfl, g1⟩
  have H4 := Lib.hid g1
  have B4 := Lib.hid (HB0.out _ _ _ H4.out)
  clear g1 H3 B3
  have d0 := HF3.out _ B4.out
  go_wp2_with fail
  refine (short_calls _ _ _ w4 q _ _ _ (x.2.2.2.1) (G3.out.fr H4.out.2.1 (fun b _ h => HD.out b h.1 h.2)) (HD2.out _) 6000 H4.out (by (try simp only [List.length_append, num_length, List.length_cons, List.length_nil]); omega)).mono ?_
  rintro e w5 ⟨rfl, g1⟩
  have H5 := Lib.hid g1
  have B5 := Lib.hid (HB0.out _ _ _ H5.out)
  clear g1 d0 H4 B4
  have d0 := HF4.out _ B5.out
  go_wp2_with fail
  refine (short_calls _ _ _ w5 q _ _ _ (x.2.2.2.2.1) (G4.out.fr H5.out.2.1 (fun b _ h => HD.out b h.1 h.2)) (HD2.out _) 6000 H5.out (by (try simp only [List.length_append, num_length, List.length_cons, List.length_nil]); omega)).mono ?_
  rintro e w6 ⟨rfl, g1⟩
  have H6 := Lib.hid g1
  have B6 := Lib.hid (HB0.out _ _ _ H6.out)
  clear g1 d0 H5 B5
  have d0 := HF5.out _ B6.out
  go_wp2_with fail
  refine (short_calls _ _ _ w6 q _ _ _ (x.2.2.2.2.2.1) (G5.out.fr H6.out.2.1 (fun b _ h => HD.out b h.1 h.2)) (HD2.out _) 128 H6.out (by (try simp only [List.length_append, num_length, List.length_cons, List.length_nil]); omega)).mono ?_
  rintro e w7 ⟨rfl, g1⟩
  have H7 := Lib.hid g1
  have B7 := Lib.hid (HB0.out _ _ _ H7.out)
  clear g1 d0 H6 B6
  have d0 := HF6.out _ B7.out
  go_wp2_with fail
  refine (short_calls _ _ _ w7 q _ _ _ (x.2.2.2.2.2.2) (G6.out.fr H7.out.2.1 (fun b _ h => HD.out b h.1 h.2)) (HD2.out _) 256 H7.out (by (try simp only [List.length_append, num_length, List.length_cons, List.length_nil]); omega)).mono ?_
  rintro e w8 ⟨rfl, g1⟩
  have H8 := Lib.hid g1
  have B8 := Lib.hid (HB0.out _ _ _ H8.out)
  clear g1 d0 H7 B7
  have HFF := Lib.hid (HL.out _ _ _ H8.out)
  clear H8 B8 HL HB0
  go_wp2
  go_end0
  refine ⟨rfl, ?_⟩
  have := HFF.out
  simp only [badNo, Bool.or_false, List.append_assoc, Bool.or_assoc] at this
  exact this
set_option maxHeartbeats 8000000 in
set_option maxRecDepth 100000 in
theorem writtenOut0_calls (w : World) (cs : List Value) (x : _) (hR : ROu0 Any w cs x) (hn : (encOu0 x).length + 9 ≤ 140737488355328) :
    Calls Tryz.prog 71 #[.agg cs.toArray, .func (.func 72) #[] #[]] w fun e w' => Wt.Told w.heap.size (encOu0 x) (badOu0 x) e w' ∧ Below w.heap.size w w' := by
  obtain ⟨ca, hca⟩ : ∃ ca, cs.toArray = ca := ⟨_, rfl⟩
  have HB := Lib.hid (show Blk (w.alloc (.cells ca 87)) w.heap.size cs 87 from Blk.new w _ _ _ hca.symm)
  have B1 := Lib.hid (below_alloc w (.cells ca 87))
  have hz : w.heap.size + 1 ≤ (w.alloc (.cells ca 87)).heap.size := by simp
  have HA := Lib.hid (rep_Ou0.mono hR (E := fun k => k < w.heap.size) (fun k h1 _ => h1))
  have HSZ := Lib.hid (show (Tryz.prog.info? 87).map (·.size) = some cs.length by rw [rep_Ou0.len hR]; kernel_rfl)
  obtain ⟨en, hen⟩ : ∃ en, encOu0 x = en := ⟨_, rfl⟩
  obtain ⟨bb, hbb⟩ : ∃ bb, badOu0 x = bb := ⟨_, rfl⟩
  have HLN := Lib.hid (show en.length ≤ 140737488355328 by rw [← hen]; omega)
  have HN := Lib.hid hn
  rw [hen, hbb]
  have HEN := Lib.hid hen
  have HBB := Lib.hid hbb
  have HCA := Lib.hid hca
  rw [hca]
  clear hR hn hen hbb hca
  go_enter Tryz.func71, Tryz.ntmps71
  go_upto_region 1 with fail
  generalize (w.alloc (.cells ca 87)) = w1 at *
  go_wp2_with fail
  refine (CodecW.new_calls w1).mono ?_
  rintro e w2 ⟨p, rfl, hp1, hp2, hp3⟩
  have hs2 := hp3.size
  have H2 := Lib.hid (Wh.made_at hp2)
  have HB2 := Lib.hid ((HB.out.below hp3).alloc (.cells #[.pointer (some ⟨p, 0, none⟩), .bool false] 106))
  have B2 := Lib.hid ((B1.out.trans (hp3.mono (by omega))).alloc (by have := B1.out.size; omega) (.cells #[.pointer (some ⟨p, 0, none⟩), .bool false] 106))
  have hs3 : w2.heap.size + 1 = (w2.alloc (.cells #[.pointer (some ⟨p, 0, none⟩), .bool false] 106)).heap.size := by simp
  have hpw : w.heap.size < p := by omega
  clear hp2 hp3 HB B1
  go_upto_region 2 with fail
  generalize (w2.alloc (.cells #[.pointer (some ⟨p, 0, none⟩), .bool false] 106)) = w3 at *
  have HA3 := Lib.hid (rep_Ou0.below HA.out B2.out)
  go_wp2_with (first | (with_reducible refine wpList_load_blk rfl _ _ rfl w.heap.size cs rfl HB2.out _ Tryz.underlying87 rfl HSZ.out ?_))
  refine (out0_to _ (fun k => k < w.heap.size) _ w3 _ [] false cs x HA3.out (fun k _ h e => by rcases e with (e | e) | e <;> omega) H2.out (by have := HN.out; simp; omega)).mono ?_
  rintro e w4 ⟨rfl, g1⟩
  obtain ⟨⟨g2, p2, g3, g4⟩, g5, g6⟩ := id g1
  have hg5 := g5.size
  have c1 := g3.cell (i := 1) rfl
  have c0 := g3.cell (i := 0) rfl
  have HW := Lib.hid g4
  have B4 := Lib.hid (B2.out.trans (show Below w.heap.size w3 w4 from g5.below (by omega) (fun k h => by omega)))
  have hb4 := B4.out.size
  rw [List.nil_append, Bool.false_or] at *
  clear g1 g2 g3 g4 g5 g6 H2 HB2 B2 HA HA3
  rw [HEN.out] at HW
  rw [HBB.out] at c1
  clear HEN HBB HN
  cases bb
  · go_wp2_with fail
    refine (CodecR.bytes_calls _ w4 p2 _ HW.out HLN.out).mono ?_
    rintro e w5 ⟨a, c, rfl, g1, g2⟩
    have G1 := Lib.hid g1
    have BF := Lib.hid (B4.out.trans (g2.mono hb4))
    clear g1 g2 c0 c1 HW B4
    go_wp2
    go_ret2
    exact ⟨⟨a, c, rfl, G1.out.mono hb4⟩, BF.out⟩
  · go_wp2
    go_ret2
    exact ⟨⟨none, 0, rfl, OwnB.nil _ _ _⟩, B4.out⟩
set_option maxHeartbeats 4000000 in
set_option maxRecDepth 100000 in
theorem Out0_told (w : World) (cs : List Value) (x : _) (hR : ROu0 Any w cs x) (hn : (encOu0 x).length + 9 ≤ 140737488355328) :
    Calls Tryz.prog 36 #[.agg cs.toArray] w fun e w' => Wt.Told w.heap.size (encOu0 x) (badOu0 x) e w' ∧ Below w.heap.size w w' := by
  obtain ⟨ca, hca⟩ : ∃ ca, cs.toArray = ca := ⟨_, rfl⟩
  have HB := Lib.hid (show Blk (w.alloc (.cells ca 87)) w.heap.size cs 87 from Blk.new w _ _ _ hca.symm)
  have B1 := Lib.hid (below_alloc w (.cells ca 87))
  have hz : w.heap.size + 1 = (w.alloc (.cells ca 87)).heap.size := by simp
  have HA := Lib.hid (rep_Ou0.below hR B1.out)
  have HSZ := Lib.hid (show (Tryz.prog.info? 87).map (·.size) = some cs.length by rw [rep_Ou0.len hR]; kernel_rfl)
  have HCA := Lib.hid hca
  rw [hca]
  clear hR hca
  go_enter Tryz.func36, Tryz.ntmps36
  go_upto_region 1 with fail
  generalize (w.alloc (.cells ca 87)) = w1 at *
  go_wp2_with (first | (with_reducible refine wpList_load_blk rfl _ _ rfl w.heap.size cs rfl HB.out _ Tryz.underlying87 rfl HSZ.out ?_))
  refine (writtenOut0_calls w1 cs x HA.out hn).mono ?_
  rintro e w2 ⟨⟨a, c, rfl, g1⟩, g2⟩
  have G1 := Lib.hid g1
  have G2 := Lib.hid (B1.out.trans (g2.mono (by omega)))
  clear g1 g2 B1 HB HA
  go_wp2
  go_ret2
  exact ⟨⟨a, c, rfl, G1.out.mono (by omega)⟩, G2.out⟩
end Go.Proofs.YtmenchnjajpkmaaGreat.Wo
end

section
namespace Go.Proofs.YtmenchnjajpkmaaGreat.Wm
open Go Go.RowKit Mem Codec CodecW Ww Rw Arr Ops Wt Reps Wg
set_option linter.unusedVariables false
set_option linter.unusedSimpArgs false

abbrev XMo := Nat × List UInt8
def RMo : (Nat → Prop) → World → List Value → XMo → Prop := (PairR RU64 (RDgs 32))
theorem rep_Mo : Rep 33 RMo := (rep_pair rep_u64 (rep_dgs 32 (by omega)))
def encMo (x : Nat × List UInt8) : List UInt8 := num x.1 8 ++ x.2
def badMo (_ : Nat × List UInt8) : Bool := false
theorem zeroMo (w : World) : (zeroValue 76).run Tryz.prog w = .ok (.agg (Value.int .u64 0 :: List.replicate 32 (Value.int .u8 0)).toArray) w := by kernel_rfl
theorem zeroMo_len : (Value.int .u64 0 :: List.replicate 32 (Value.int .u8 0)).length = 33 := rfl
set_option maxHeartbeats 8000000 in
set_option maxRecDepth 100000 in
theorem mainOut_calls (S D : Nat → Prop) (w0 w : World) (q : Nat) (m : List UInt8) (bad : Bool) (cs : List Value) (x : XMo) (hR : RMo D w cs x) (hD : ∀ b, b < w.heap.size → D b → ¬ Plus S w0 w b) (H : At S w0 w q m bad) (hlen : m.length + (encMo x).length + 9 ≤ 140737488355328) :
    Calls Tryz.prog 56 #[.pointer (some ⟨q, 0, none⟩), .agg cs.toArray] w fun e w' => e = .returned (.tuple #[]) ∧ At S w0 w' q (m ++ encMo x) (bad || badMo x) := by
  have hR1 := rep_Mo.lt hR
  obtain ⟨a0, b0, rfl, h0, h1⟩ := id hR1
  obtain ⟨k0, rfl⟩ := h0
  obtain ⟨k1, rfl⟩ := h1
  have KL1 := Lib.hid k1
  have HF0 := Lib.hid (fun (w' : World) (h : Blk w' w.heap.size ([Value.int .u64 (x.1 : Int)] ++ (x.2.map byt)) 76) => blk_one h ([]) (x.2.map byt) (Value.int .u64 (x.1 : Int)) (by simp) 0 (by simp [KL1.out]))
  have HF1 := Lib.hid (fun (w' : World) (h : Blk w' w.heap.size ([Value.int .u64 (x.1 : Int)] ++ (x.2.map byt)) 76) => blk_part h ([Value.int .u64 (x.1 : Int)]) (x.2.map byt) ([]) (by simp) 1 (by simp [KL1.out]))
  obtain ⟨ca, hca⟩ : ∃ ca, ([Value.int .u64 (x.1 : Int)] ++ (x.2.map byt)).toArray = ca := ⟨_, rfl⟩
  have HB := Lib.hid (show Blk (w.alloc (.cells ca 76)) w.heap.size ([Value.int .u64 (x.1 : Int)] ++ (x.2.map byt)) 76 from Blk.new w _ _ _ hca.symm)
  have HX := Lib.hid (fun w' m' b' => @At.box S w0 w w' q m bad (.cells ca 76) m' b' ([Value.int .u64 (x.1 : Int)] ++ (x.2.map byt)) 76 H)
  have H1 := Lib.hid (H.enter (.cells ca 76))
  have HL := Lib.hid (fun w' m' b' => @At.leave S w0 w w' q m bad (.cells ca 76) m' b' H)
  have HD := Lib.hid hD
  have hz : (w.alloc (.cells ca 76)).heap.size = w.heap.size + 1 := by simp
  simp only [encMo, List.length_append, num_length, List.length_cons, List.length_nil] at hlen
  rw [hca]
  clear H hR hR1 hca hD
  obtain ⟨T, hT⟩ : ∃ T, Plus S w0 w = T := ⟨_, rfl⟩
  rw [hT] at HL H1 HX HD
  clear hT
  go_enter Tryz.func56, Tryz.ntmps56
  go_upto_region 1 with fail
  have HB0 := Lib.hid (fun w' m' b' g => HX.out w' m' b' g HB.out)
  have B1 := Lib.hid HB.out
  clear HX HB
  generalize (w.alloc (.cells ca 76)) = w1 at *
  have HD2 := Lib.hid (show ∀ wi : World, ∀ b, b < wi.heap.size → (b < w.heap.size ∧ D b) → ¬ Plus T w1 wi b from fun wi b _ hb e => by
    rcases e with e | e
    · exact HD.out b hb.1 hb.2 e
    · have := e.1; omega)
  obtain ⟨p, h1, h2, h3⟩ := H1.out.drew.opened
  have HW := Lib.hid h2
  have HQ := Lib.hid h1
  have c0 := h1.cell (i := 0) rfl
  have cc : w1.cell? ⟨q, 0, none⟩ = some (.pointer (some ⟨p, 0, none⟩)) := c0
  have d0 := HF0.out _ B1.out
  clear h1 h2 h3
  go_wp2_with fail
  go_still_tail 6, (by kernel_rfl)
  change wpList _ _ _ _ _ w1.drew
  go_wp2_with fail
  refine (long_calls _ w1.drew p _ x.1 k0 HW.out (by (try simp only [List.length_append, num_length]); omega)).mono ?_
  rintro e w2 ⟨rfl, g1, g2⟩
  have g3 := H1.out.drew.shut HQ.out g1 g2
  have H2 := Lib.hid g3
  have B2 := Lib.hid (HB0.out _ _ _ H2.out)
  clear g1 g2 g3 HW HQ c0 cc d0 H1 B1
  have SZ := Lib.hid (Ww.szD (d := x.2) k1)
  go_wp2_with (first | (with_reducible refine wpList_load_mid rfl _ _ rfl w.heap.size 1 rfl (x.2.map byt) _ (HF1.out _ B2.out) Tryz.underlying27 rfl SZ.out ?_))
  refine (digest_calls _ _ w2 q _ _ x.2 KL1.out H2.out (by (try simp only [List.length_append, num_length]); have := KL1.out; omega)).mono ?_
  rintro e w3 ⟨rfl, g1⟩
  have H3 := Lib.hid g1
  have B3 := Lib.hid (HB0.out _ _ _ H3.out)
  clear g1 H2 B2 SZ
  have HFF := Lib.hid (HL.out _ _ _ H3.out)
  clear H3 B3 HL HB0
  go_wp2
  go_end0
  refine ⟨rfl, ?_⟩
  have := HFF.out
  simpa [encMo, badMo, List.append_assoc] using this
set_option maxHeartbeats 8000000 in
set_option maxRecDepth 100000 in
theorem listMo_calls (S D : Nat → Prop) (w0 w : World) (q : Nat) (m : List UInt8) (bad : Bool) (v : Value) (l : List _) (hA : Sl 33 RMo D w v l) (hD : ∀ b, b < w.heap.size → D b → ¬ Plus S w0 w b) (most : Int) (H : At S w0 w q m bad) (hlen : m.length + (var l.length).length + (l.flatMap encMo).length + 9 ≤ 140737488355328) :
    Calls Tryz.prog 55 #[.pointer (some ⟨q, 0, none⟩), v, .int .i64 most, .func (.func 56) #[] #[]] w fun e w' => e = .returned (.tuple #[]) ∧ At S w0 w' q (m ++ (var l.length ++ l.flatMap encMo)) (bad || !decide ((l.length : Int) ≤ most) || l.any badMo) := by
  obtain ⟨a, c, rfl, hc1, hc2, _⟩ := hA.form
  unfold maxLen at hc2
  have HL := Lib.hid (fun w' m' b' => @At.back S w0 w w' q m m' bad b' H)
  have H0 := Lib.hid H.enter0
  have HA := Lib.hid (hA.mono rep_Mo (E := fun b => b < w.heap.size ∧ D b) (fun b h1 h2 => ⟨h1, h2⟩))
  have HD := Lib.hid hD
  have hvl := var_len9 l.length
  obtain ⟨T, hT⟩ : ∃ T, Plus S w0 w = T := ⟨_, rfl⟩
  rw [hT] at HL H0 HD
  clear H hA hD hT
  obtain ⟨ok, hok⟩ : ∃ ok, decide ((l.length : Int) ≤ most) = ok := ⟨_, rfl⟩
  rw [hok]
  go_enter Tryz.func55, Tryz.ntmps55
  go_wp2_with fail
  try rw [hok]
  refine (must_calls _ _ w q m bad ok H0.out).mono ?_
  rintro e w1 ⟨rfl, g1⟩
  obtain ⟨p, k1, k2, k3⟩ := g1.opened
  have G1 := Lib.hid g1
  have HQ := Lib.hid k1
  have HW := Lib.hid k2
  have c0 := k1.cell (i := 0) rfl
  clear g1 k1 k2 k3
  go_wp2_with fail
  refine (var_calls _ w1 p m l.length (by omega) HW.out (by omega)).mono ?_
  rintro e w2 ⟨rfl, r1, r2⟩
  have G2 := Lib.hid (G1.out.shut HQ.out r1 r2)
  clear r1 r2 c0 HW HQ G1
  go_wp2
  go_loopw [26] (fun i' wx => ∃ i : Nat, i ≤ l.length ∧ i' = .int .i64 (i : Int) ∧ At T w wx q (m ++ (var l.length ++ (l.take i).flatMap encMo)) (bad || !ok || (l.take i).any badMo)) (fun i' _ => l.length - (intOf i').toNat)
  case atStart => exact ⟨0, Nat.zero_le _, rfl, by simpa using G2.out⟩
  case round =>
    obtain ⟨i, hi, rfl, hS⟩ := hrel
    have SX := Lib.hid hS
    clear hS
    by_cases hlt : i < l.length
    · obtain ⟨bi, oi, ci', cs, e0, _, r0, r1⟩ := (HA.out.fr rep_Mo SX.out.2.1 (fun b hb hd => HD.out b hb hd.2)).at i hlt
      cases e0
      obtain ⟨g, hg⟩ : ∃ g, l[i]'hlt = g := ⟨_, rfl⟩
      rw [hg] at r1
      have HR := Lib.hid r1
      have HCL := Lib.hid (rep_Mo.len r1)
      have HC1 := Lib.hid (rep_Mo.one r1)
      have HSZ := Lib.hid (show (Tryz.prog.info? 76).map (·.size) = some cs.length by rw [HCL.out]; kernel_rfl)
      have HRG := Lib.hid r0
      have hNX : (l.take (i + 1)).flatMap encMo = (l.take i).flatMap encMo ++ encMo g := by rw [List.take_add_one, List.getElem?_eq_getElem hlt, hg]; simp
      have hNB := Lib.hid (show (l.take (i + 1)).any badMo = ((l.take i).any badMo || badMo g) by rw [List.take_add_one, List.getElem?_eq_getElem hlt, hg]; simp)
      have hflen : ((l.take i).flatMap encMo).length + (encMo g).length ≤ (l.flatMap encMo).length := by
        have := congrArg List.length hNX
        rw [List.length_append] at this
        rw [← this]
        conv => rhs; rw [← List.take_append_drop (i + 1) l, List.flatMap_append, List.length_append]
        omega
      have HNX := Lib.hid hNX
      have hltI : (i : Int) < (l.length : Int) := by omega
      have h0I : (0 : Int) ≤ (i : Int) := by omega
      clear hg r0 r1 hNX
      go_upto_region 5 with (first
        | (with_reducible refine wpList_load_mid rfl _ _ rfl bi (oi + i * 33) rfl cs _ HRG.out Tryz.underlying76 rfl HSZ.out ?_)
        | ((with_reducible refine wpList_alloc rfl _ rfl _ (zeroMo _) (fun wa ka ca za => ?_)); have KA := Lib.hid ka; have CA := Lib.hid ca; clear ka ca)
        | ((with_reducible refine wpList_put rfl _ _ _ rfl wr.heap.size cs _ rfl rfl KA.out HSZ.out (zeroMo_len.trans HCL.out.symm) HC1.out (fun wb kb fb zb => ?_)); have KB := Lib.hid kb; have CB := Lib.hid (CA.out.trans (fb.below CA.out.size (fun k hk => by have : k = wr.heap.size := hk; omega))); have SB := Lib.hid (At.below SX.out CB.out); have HRB := Lib.hid (rep_Mo.below HR.out CB.out); clear kb fb))
      have HD2 := Lib.hid (show ∀ b, b < wb.heap.size → (b < w.heap.size ∧ D b) → ¬ Plus T w wb b from fun b _ h e => by
        rcases e with e | e
        · exact HD.out b h.1 h.2 e
        · have := e.1; omega)
      clear KA CA HRG CB SX HR
      generalize wr.heap.size = gb at *
      go_wp2_with (first | (with_reducible refine wpList_load_blk rfl _ _ rfl gb cs rfl KB.out _ Tryz.underlying76 rfl HSZ.out ?_))
      refine (mainOut_calls _ _ _ wb q _ _ cs g HRB.out HD2.out SB.out (by simp only [List.length_append]; omega)).mono ?_
      rintro e wc ⟨rfl, g3⟩
      have G3 := Lib.hid g3
      clear g3 SB KB
      go_wp2
      go_roundw
      case rel => exact ⟨i + 1, by omega, by go_num, by rw [HNX.out, hNB.out]; have := G3.out; simpa [List.append_assoc, Bool.or_assoc] using this⟩
      case measure => simp [intOf]; omega
    · obtain rfl : i = l.length := by omega
      have GF := Lib.hid (show At T w wr q (m ++ (var l.length ++ l.flatMap encMo)) (bad || !ok || l.any badMo) by have := SX.out; rwa [List.take_length] at this)
      clear SX
      go_wp2
      go_end0
      exact ⟨rfl, HL.out _ _ _ GF.out⟩
abbrev XMt := Nat × (List (Nat × List UInt8))
def RMt : (Nat → Prop) → World → List Value → XMt → Prop := (PairR RU64 (RSl 33 RMo))
theorem rep_Mt : Rep 2 RMt := (rep_pair rep_u64 (rep_rsl rep_Mo))
def encMt (x : XMt) : List UInt8 := num x.1 8 ++ (var x.2.length ++ x.2.flatMap encMo)
def badMt (x : XMt) : Bool := !decide ((x.2.length : Int) ≤ 16) || x.2.any badMo
set_option maxHeartbeats 8000000 in
set_option maxRecDepth 100000 in
theorem mainTx_to (S D : Nat → Prop) (w0 w : World) (q : Nat) (m : List UInt8) (bad : Bool) (cs : List Value) (x : XMt) (hR : RMt D w cs x) (hD : ∀ b, b < w.heap.size → D b → ¬ Plus S w0 w b) (H : At S w0 w q m bad) (hlen : m.length + (encMt x).length + 9 ≤ 140737488355328) :
    Calls Tryz.prog 25 #[.pointer (some ⟨q, 0, none⟩), .agg cs.toArray] w fun e w' => e = .returned (.tuple #[]) ∧ At S w0 w' q (m ++ encMt x) (bad || badMt x) := by
  have hR1 := rep_Mt.lt hR
  obtain ⟨a0, b0, rfl, h0, h1⟩ := id hR1
  obtain ⟨k0, rfl⟩ := h0
  obtain ⟨v1, rfl, g1⟩ := h1
  have G1 := Lib.hid (g1.below rep_Mo (below_alloc w (.cells ([Value.int .u64 (x.1 : Int)] ++ ([v1])).toArray 25)))
  have HF0 := Lib.hid (fun (w' : World) (h : Blk w' w.heap.size ([Value.int .u64 (x.1 : Int)] ++ ([v1])) 25) => blk_one h ([]) ([v1]) (Value.int .u64 (x.1 : Int)) (by simp) 0 (by rfl))
  have HF1 := Lib.hid (fun (w' : World) (h : Blk w' w.heap.size ([Value.int .u64 (x.1 : Int)] ++ ([v1])) 25) => blk_one h ([Value.int .u64 (x.1 : Int)]) ([]) (v1) (by simp) 1 (by rfl))
  obtain ⟨ca, hca⟩ : ∃ ca, ([Value.int .u64 (x.1 : Int)] ++ ([v1])).toArray = ca := ⟨_, rfl⟩
  have HB := Lib.hid (show Blk (w.alloc (.cells ca 25)) w.heap.size ([Value.int .u64 (x.1 : Int)] ++ ([v1])) 25 from Blk.new w _ _ _ hca.symm)
  have HX := Lib.hid (fun w' m' b' => @At.box S w0 w w' q m bad (.cells ca 25) m' b' ([Value.int .u64 (x.1 : Int)] ++ ([v1])) 25 H)
  have H1 := Lib.hid (H.enter (.cells ca 25))
  have HL := Lib.hid (fun w' m' b' => @At.leave S w0 w w' q m bad (.cells ca 25) m' b' H)
  have HD := Lib.hid hD
  have hz : (w.alloc (.cells ca 25)).heap.size = w.heap.size + 1 := by simp
  simp only [encMt, List.length_append, num_length, List.length_cons, List.length_nil] at hlen
  rw [hca] at G1 ⊢
  clear H hR hR1 hca hD g1
  obtain ⟨T, hT⟩ : ∃ T, Plus S w0 w = T := ⟨_, rfl⟩
  rw [hT] at HL H1 HX HD
  clear hT
  go_enter Tryz.func25, Tryz.ntmps25
  go_upto_region 1 with fail
  have HB0 := Lib.hid (fun w' m' b' g => HX.out w' m' b' g HB.out)
  have B1 := Lib.hid HB.out
  clear HX HB
  generalize (w.alloc (.cells ca 25)) = w1 at *
  have HD2 := Lib.hid (show ∀ wi : World, ∀ b, b < wi.heap.size → (b < w.heap.size ∧ D b) → ¬ Plus T w1 wi b from fun wi b _ hb e => by
    rcases e with e | e
    · exact HD.out b hb.1 hb.2 e
    · have := e.1; omega)
  obtain ⟨p, h1, h2, h3⟩ := H1.out.drew.opened
  have HW := Lib.hid h2
  have HQ := Lib.hid h1
  have c0 := h1.cell (i := 0) rfl
  have cc : w1.cell? ⟨q, 0, none⟩ = some (.pointer (some ⟨p, 0, none⟩)) := c0
  have d0 := HF0.out _ B1.out
  clear h1 h2 h3
  go_wp2_with fail
  go_still_tail 6, (by kernel_rfl)
  change wpList _ _ _ _ _ w1.drew
  go_wp2_with fail
  refine (long_calls _ w1.drew p _ x.1 k0 HW.out (by (try simp only [List.length_append, num_length]); omega)).mono ?_
  rintro e w2 ⟨rfl, g1, g2⟩
  have g3 := H1.out.drew.shut HQ.out g1 g2
  have H2 := Lib.hid g3
  have B2 := Lib.hid (HB0.out _ _ _ H2.out)
  clear g1 g2 g3 HW HQ c0 cc d0 H1 B1
  have d0 := HF1.out _ B2.out
  go_wp2_with fail
  refine (listMo_calls _ _ _ w2 q _ _ _ (x.2) (G1.out.fr rep_Mo H2.out.2.1 (fun b _ h => HD.out b h.1 h.2)) (HD2.out _) 16 H2.out (by (try simp only [List.length_append, num_length]); omega)).mono ?_
  rintro e w3 ⟨rfl, g1⟩
  have H3 := Lib.hid g1
  have B3 := Lib.hid (HB0.out _ _ _ H3.out)
  clear g1 d0 H2 B2
  have HFF := Lib.hid (HL.out _ _ _ H3.out)
  clear H3 B3 HL HB0
  go_wp2
  go_end0
  refine ⟨rfl, ?_⟩
  have := HFF.out
  simp only [List.append_assoc, Bool.or_assoc] at this
  exact this
end Go.Proofs.YtmenchnjajpkmaaGreat.Wm
end

section
namespace Go.Proofs.YtmenchnjajpkmaaGreat.Wm
open Go Go.RowKit Mem Codec CodecW Ww Rw Arr Ops Wt Reps Wg
set_option linter.unusedVariables false

set_option maxHeartbeats 8000000 in
set_option maxRecDepth 100000 in
theorem writtenMainTx_calls (w : World) (cs : List Value) (x : _) (hR : RMt Any w cs x) (hn : (encMt x).length + 9 ≤ 140737488355328) :
    Calls Tryz.prog 24 #[.agg cs.toArray, .func (.func 25) #[] #[]] w fun e w' => Wt.Told w.heap.size (encMt x) (badMt x) e w' ∧ Below w.heap.size w w' := by
  obtain ⟨ca, hca⟩ : ∃ ca, cs.toArray = ca := ⟨_, rfl⟩
  have HB := Lib.hid (show Blk (w.alloc (.cells ca 25)) w.heap.size cs 25 from Blk.new w _ _ _ hca.symm)
  have B1 := Lib.hid (below_alloc w (.cells ca 25))
  have hz : w.heap.size + 1 ≤ (w.alloc (.cells ca 25)).heap.size := by simp
  have HA := Lib.hid (rep_Mt.mono hR (E := fun k => k < w.heap.size) (fun k h1 _ => h1))
  have HSZ := Lib.hid (show (Tryz.prog.info? 25).map (·.size) = some cs.length by rw [rep_Mt.len hR]; kernel_rfl)
  obtain ⟨en, hen⟩ : ∃ en, encMt x = en := ⟨_, rfl⟩
  obtain ⟨bb, hbb⟩ : ∃ bb, badMt x = bb := ⟨_, rfl⟩
  have HLN := Lib.hid (show en.length ≤ 140737488355328 by rw [← hen]; omega)
  have HN := Lib.hid hn
  rw [hen, hbb]
  have HEN := Lib.hid hen
  have HBB := Lib.hid hbb
  have HCA := Lib.hid hca
  rw [hca]
  clear hR hn hen hbb hca
  go_enter Tryz.func24, Tryz.ntmps24
  go_upto_region 1 with fail
  generalize (w.alloc (.cells ca 25)) = w1 at *
  go_wp2_with fail
  refine (CodecW.new_calls w1).mono ?_
  rintro e w2 ⟨p, rfl, hp1, hp2, hp3⟩
  have hs2 := hp3.size
  have H2 := Lib.hid (Wh.made_at hp2)
  have HB2 := Lib.hid ((HB.out.below hp3).alloc (.cells #[.pointer (some ⟨p, 0, none⟩), .bool false] 106))
  have B2 := Lib.hid ((B1.out.trans (hp3.mono (by omega))).alloc (by have := B1.out.size; omega) (.cells #[.pointer (some ⟨p, 0, none⟩), .bool false] 106))
  have hs3 : w2.heap.size + 1 = (w2.alloc (.cells #[.pointer (some ⟨p, 0, none⟩), .bool false] 106)).heap.size := by simp
  have hpw : w.heap.size < p := by omega
  clear hp2 hp3 HB B1
  go_upto_region 2 with fail
  generalize (w2.alloc (.cells #[.pointer (some ⟨p, 0, none⟩), .bool false] 106)) = w3 at *
  have HA3 := Lib.hid (rep_Mt.below HA.out B2.out)
  go_wp2_with (first | (with_reducible refine wpList_load_blk rfl _ _ rfl w.heap.size cs rfl HB2.out _ Tryz.underlying25 rfl HSZ.out ?_))
  refine (mainTx_to _ (fun k => k < w.heap.size) _ w3 _ [] false cs x HA3.out (fun k _ h e => by rcases e with (e | e) | e <;> omega) H2.out (by have := HN.out; simp; omega)).mono ?_
  rintro e w4 ⟨rfl, g1⟩
  obtain ⟨⟨g2, p2, g3, g4⟩, g5, g6⟩ := id g1
  have hg5 := g5.size
  have c1 := g3.cell (i := 1) rfl
  have c0 := g3.cell (i := 0) rfl
  have HW := Lib.hid g4
  have B4 := Lib.hid (B2.out.trans (show Below w.heap.size w3 w4 from g5.below (by omega) (fun k h => by omega)))
  have hb4 := B4.out.size
  rw [List.nil_append, Bool.false_or] at *
  clear g1 g2 g3 g4 g5 g6 H2 HB2 B2 HA HA3
  rw [HEN.out] at HW
  rw [HBB.out] at c1
  clear HEN HBB HN
  cases bb
  · go_wp2_with fail
    refine (CodecR.bytes_calls _ w4 p2 _ HW.out HLN.out).mono ?_
    rintro e w5 ⟨a, c, rfl, g1, g2⟩
    have G1 := Lib.hid g1
    have BF := Lib.hid (B4.out.trans (g2.mono hb4))
    clear g1 g2 c0 c1 HW B4
    go_wp2
    go_ret2
    exact ⟨⟨a, c, rfl, G1.out.mono hb4⟩, BF.out⟩
  · go_wp2
    go_ret2
    exact ⟨⟨none, 0, rfl, OwnB.nil _ _ _⟩, B4.out⟩
set_option maxHeartbeats 4000000 in
set_option maxRecDepth 100000 in
theorem MainTx_told (w : World) (cs : List Value) (x : _) (hR : RMt Any w cs x) (hn : (encMt x).length + 9 ≤ 140737488355328) :
    Calls Tryz.prog 6 #[.agg cs.toArray] w fun e w' => Wt.Told w.heap.size (encMt x) (badMt x) e w' ∧ Below w.heap.size w w' := by
  obtain ⟨ca, hca⟩ : ∃ ca, cs.toArray = ca := ⟨_, rfl⟩
  have HB := Lib.hid (show Blk (w.alloc (.cells ca 25)) w.heap.size cs 25 from Blk.new w _ _ _ hca.symm)
  have B1 := Lib.hid (below_alloc w (.cells ca 25))
  have hz : w.heap.size + 1 = (w.alloc (.cells ca 25)).heap.size := by simp
  have HA := Lib.hid (rep_Mt.below hR B1.out)
  have HSZ := Lib.hid (show (Tryz.prog.info? 25).map (·.size) = some cs.length by rw [rep_Mt.len hR]; kernel_rfl)
  have HCA := Lib.hid hca
  rw [hca]
  clear hR hca
  go_enter Tryz.func6, Tryz.ntmps6
  go_upto_region 1 with fail
  generalize (w.alloc (.cells ca 25)) = w1 at *
  go_wp2_with (first | (with_reducible refine wpList_load_blk rfl _ _ rfl w.heap.size cs rfl HB.out _ Tryz.underlying25 rfl HSZ.out ?_))
  refine (writtenMainTx_calls w1 cs x HA.out hn).mono ?_
  rintro e w2 ⟨⟨a, c, rfl, g1⟩, g2⟩
  have G1 := Lib.hid g1
  have G2 := Lib.hid (B1.out.trans (g2.mono (by omega)))
  clear g1 g2 B1 HB HA
  go_wp2
  go_ret2
  exact ⟨⟨a, c, rfl, G1.out.mono (by omega)⟩, G2.out⟩
end Go.Proofs.YtmenchnjajpkmaaGreat.Wm
end

section
namespace Go.Proofs.YtmenchnjajpkmaaGreat.Codec
theorem Rd.take_ok {r : Rd} {n : Nat} (h : (r.take n).1.e = 0) : r.e = 0 ∧ r.rest = (r.take n).2 ++ (r.take n).1.rest ∧ (r.take n).2.length = n := by
  unfold Rd.take at *
  by_cases he : r.e = 0
  · by_cases hl : r.rest.length < n
    · simp [he, hl] at h
    · simp [he, hl]
      omega
  · simp [he] at h
theorem Rd.num_ok {r : Rd} {k : Nat} (hk : k ≤ 8) (h : (r.num k).1.e = 0) : r.e = 0 ∧ r.rest = Codec.num (r.num k).2 k ++ (r.num k).1.rest ∧ (r.num k).2 < 256 ^ k := by
  obtain ⟨h1, h2, h3⟩ := Rd.take_ok h
  have h4 := num_said (r.take k).2 (by omega)
  have h5 := said_bound (r.take k).2 (by omega)
  rw [h3] at h4 h5
  refine ⟨h1, ?_, h5⟩
  show _ = Codec.num (said (r.take k).2) k ++ (r.take k).1.rest
  rw [h4]; exact h2
theorem Rd.more_e {s : Rd} {c : Nat} (h : (s.more c).1.e = 0) : s.e = 0 := by
  unfold Rd.more at h
  split at h
  · exact (Rd.num_ok (by omega) h).1
  · split at h
    · exact (Rd.num_ok (by omega) h).1
    · split at h
      · exact (Rd.num_ok (by omega) h).1
      · exact h
theorem Rd.var_ok {r : Rd} {most : Nat} (h : (r.var most).1.e = 0) : r.e = 0 ∧ r.rest = Codec.var (r.var most).2 ++ (r.var most).1.rest ∧ (r.var most).2 ≤ most := by
  have hv : r.var most = (let m := (r.num 1).1.more (r.num 1).2; if m.1.e ≠ 0 then (⟨r.rest, m.1.e⟩, 0) else if m.2.1 < m.2.2 then (⟨r.rest, 111⟩, 0) else if most < m.2.1 then (⟨r.rest, 112⟩, 0) else (m.1, m.2.1)) := rfl
  dsimp only at hv
  by_cases h1 : ((r.num 1).1.more (r.num 1).2).1.e = 0
  · by_cases h2 : ((r.num 1).1.more (r.num 1).2).2.1 < ((r.num 1).1.more (r.num 1).2).2.2
    · rw [hv, if_neg (by simpa using h1), if_pos h2] at h; simp at h
    · by_cases h3 : most < ((r.num 1).1.more (r.num 1).2).2.1
      · rw [hv, if_neg (by simpa using h1), if_neg h2, if_pos h3] at h; simp at h
      · rw [hv, if_neg (by simpa using h1), if_neg h2, if_neg h3]
        obtain ⟨k1, k2, k3⟩ := Rd.num_ok (k := 1) (by omega) (Rd.more_e h1)
        refine ⟨k1, ?_, by simpa using h3⟩
        generalize (r.num 1).1 = s at *
        generalize (r.num 1).2 = c at *
        rw [k2]
        have e1 : Codec.num c 1 = [UInt8.ofNat c] := by simp [Codec.num]
        rw [e1]
        clear hv h k1 k2 e1 h3
        unfold Rd.more at *
        by_cases c1 : c = 253
        · simp only [if_pos c1] at *
          obtain ⟨_, j2, j3⟩ := Rd.num_ok (k := 2) (by omega) h1
          rw [c1, j2]
          have : Codec.var (s.num 2).2 = 253 :: Codec.num (s.num 2).2 2 := by unfold Codec.var; rw [if_neg (by omega), if_pos (by omega)]
          rw [this]; simp
        · simp only [if_neg c1] at *
          by_cases c2 : c = 254
          · simp only [if_pos c2] at *
            obtain ⟨_, j2, j3⟩ := Rd.num_ok (k := 4) (by omega) h1
            rw [c2, j2]
            have : Codec.var (s.num 4).2 = 254 :: Codec.num (s.num 4).2 4 := by unfold Codec.var; rw [if_neg (by omega), if_neg (by omega), if_pos (by omega)]
            rw [this]; simp
          · simp only [if_neg c2] at *
            by_cases c3 : c = 255
            · simp only [if_pos c3] at *
              obtain ⟨_, j2, j3⟩ := Rd.num_ok (k := 8) (by omega) h1
              rw [c3, j2]
              have : Codec.var (s.num 8).2 = 255 :: Codec.num (s.num 8).2 8 := by unfold Codec.var; rw [if_neg (by omega), if_neg (by omega), if_neg (by omega)]
              rw [this]; simp
            · simp only [if_neg c3] at *
              have : Codec.var c = [UInt8.ofNat c] := by unfold Codec.var; rw [if_pos (by omega)]
              rw [this]
  · rw [hv, if_pos h1] at h; exact absurd h h1
theorem Rd.var_bad {r : Rd} {most : Nat} (h : (r.var most).1.e ≠ 0) : (r.var most).2 = 0 ∧ (r.var most).1.rest = r.rest := by
  have hv : r.var most = (let m := (r.num 1).1.more (r.num 1).2; if m.1.e ≠ 0 then (⟨r.rest, m.1.e⟩, 0) else if m.2.1 < m.2.2 then (⟨r.rest, 111⟩, 0) else if most < m.2.1 then (⟨r.rest, 112⟩, 0) else (m.1, m.2.1)) := rfl
  dsimp only at hv
  by_cases h1 : ((r.num 1).1.more (r.num 1).2).1.e = 0
  · by_cases h2 : ((r.num 1).1.more (r.num 1).2).2.1 < ((r.num 1).1.more (r.num 1).2).2.2
    · rw [hv, if_neg (by simpa using h1), if_pos h2]; exact ⟨rfl, rfl⟩
    · by_cases h3 : most < ((r.num 1).1.more (r.num 1).2).2.1
      · rw [hv, if_neg (by simpa using h1), if_neg h2, if_pos h3]; exact ⟨rfl, rfl⟩
      · rw [hv, if_neg (by simpa using h1), if_neg h2, if_neg h3] at h; exact absurd h1 h
  · rw [hv, if_pos h1]; exact ⟨rfl, rfl⟩
theorem Rd.num_zero {r : Rd} {k : Nat} (h : (r.num k).2 ≠ 0) : (r.num k).1.e = 0 := by
  unfold Rd.num at *
  dsimp only at *
  unfold Rd.take at *
  by_cases he : r.e = 0
  · by_cases hl : r.rest.length < k
    · simp [he, hl, said] at h
    · simp [he, hl]
  · simp [he, said] at h
/-- how much is read, against how long the number is -/
theorem Rd.more_len_eq {r : Rd} (h : ((r.num 1).1.more (r.num 1).2).1.e = 0) :
    (vlen ((r.num 1).1.more (r.num 1).2).2.1 ≠ r.rest.length - ((r.num 1).1.more (r.num 1).2).1.rest.length) = (((r.num 1).1.more (r.num 1).2).2.1 < ((r.num 1).1.more (r.num 1).2).2.2) := by
  obtain ⟨k1, k2, k3⟩ := Rd.num_ok (k := 1) (by omega) (Rd.more_e h)
  have hl := congrArg List.length k2
  rw [List.length_append, num_length] at hl
  generalize (r.num 1).1 = s at *
  generalize (r.num 1).2 = c at *
  clear k1 k2
  unfold Rd.more at *
  by_cases c1 : c = 253
  · simp only [if_pos c1] at *
    obtain ⟨_, j2, j3⟩ := Rd.num_ok (k := 2) (by omega) h
    have hl2 := congrArg List.length j2
    rw [List.length_append, num_length] at hl2
    unfold vlen
    apply propext
    constructor
    · intro hh; by_cases h1 : (s.num 2).2 < 253
      · exact h1
      · rw [if_neg h1, if_pos (by omega)] at hh; omega
    · intro hh; rw [if_pos hh]; omega
  · simp only [if_neg c1] at *
    by_cases c2 : c = 254
    · simp only [if_pos c2] at *
      obtain ⟨_, j2, j3⟩ := Rd.num_ok (k := 4) (by omega) h
      have hl2 := congrArg List.length j2
      rw [List.length_append, num_length] at hl2
      unfold vlen
      apply propext
      constructor
      · intro hh; by_cases h1 : (s.num 4).2 < 65536
        · exact h1
        · rw [if_neg (by omega), if_neg h1, if_pos (by omega)] at hh; omega
      · intro hh; by_cases h1 : (s.num 4).2 < 253
        · rw [if_pos h1]; omega
        · rw [if_neg h1, if_pos hh]; omega
    · simp only [if_neg c2] at *
      by_cases c3 : c = 255
      · simp only [if_pos c3] at *
        obtain ⟨_, j2, j3⟩ := Rd.num_ok (k := 8) (by omega) h
        have hl2 := congrArg List.length j2
        rw [List.length_append, num_length] at hl2
        unfold vlen
        apply propext
        constructor
        · intro hh; by_cases h1 : (s.num 8).2 < 4294967296
          · exact h1
          · rw [if_neg (by omega), if_neg (by omega), if_neg h1] at hh; omega
        · intro hh; by_cases h1 : (s.num 8).2 < 253
          · rw [if_pos h1]; omega
          · by_cases h2 : (s.num 8).2 < 65536
            · rw [if_neg h1, if_pos h2]; omega
            · rw [if_neg h1, if_neg h2, if_pos hh]; omega
      · simp only [if_neg c3] at *
        unfold vlen
        rw [if_pos (by omega)]
        apply propext
        constructor
        · intro hh; omega
        · intro hh; omega
/-- a number as the reference reads it -/
def Rd.rvar (r : Rd) (most : Nat) (neg : Bool) : Rd × Nat :=
  let m := (r.num 1).1.more (r.num 1).2
  if m.1.e ≠ 0 then (⟨r.rest, m.1.e⟩, 0) else if m.2.1 < m.2.2 then (⟨r.rest, 111⟩, 0) else if neg = true ∨ most < m.2.1 then (⟨r.rest, 112⟩, 0) else (m.1, m.2.1)
theorem Rd.rvar_false (r : Rd) (most : Nat) : r.rvar most false = r.var most := by
  unfold Rd.rvar Rd.var
  simp
theorem Rd.rvar_room (r : Rd) (most : Int) (m2 : Nat) (h : 0 ≤ most → (m2 : Int) = most) : r.rvar m2 (decide (most < 0)) = r.room most := by
  by_cases hn : most < 0
  · rw [decide_eq_true hn]
    unfold Rd.room
    rw [show most.toNat = 0 by omega]
    unfold Rd.rvar Rd.var
    dsimp only
    generalize (r.num 1).1.more (r.num 1).2 = m
    obtain ⟨s, n, l⟩ := m
    dsimp only
    by_cases h1 : s.e = 0
    · by_cases h2 : n < l
      · simp [h1, h2]
      · by_cases h3 : 0 < n
        · simp [h1, h2, h3]
        · simp [h1, h2, h3, hn]
    · simp [h1]
  · rw [decide_eq_false hn, Rd.rvar_false]
    unfold Rd.room
    rw [show most.toNat = m2 by have := h (by omega); omega]
    simp [hn]
end Go.Proofs.YtmenchnjajpkmaaGreat.Codec
end
