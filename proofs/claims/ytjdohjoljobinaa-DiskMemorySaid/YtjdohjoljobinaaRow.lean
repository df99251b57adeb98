/- Words for slices of values of the call's own: what they hold, and what append does. Program-independent; no condition. -/
import Derived.Test.YtjdohjoljobinaaMem
import Derived.OwnWalkIn
namespace Go.Proofs.Ytjdohjoljobinaa.Row
open Go Go.RowKit Mem

/-- a slice of the call's own that holds n values of so many cells, in a block from base on -/
def OwnV (size base : Nat) (e : TypeId) (w : World) (v : Value) (n : Nat) (vals : List Value) : Prop := w.ownsRow base e size v n vals
section
variable {size base base' : Nat} {e : TypeId} {w w' : World} {v : Value} {n : Nat} {vals : List Value}
theorem OwnV.nil (size base : Nat) (e : TypeId) (w : World) : OwnV size base e w (.slice none 0 0) 0 [] := World.ownsRow_nil _ _ _ _
theorem OwnV.drew (h : OwnV size base e w v n vals) : OwnV size base e w.drew v n vals := h
theorem OwnV.alloc (h : OwnV size base e w v n vals) (o : Obj) : OwnV size base e (w.alloc o) v n vals := World.ownsRow.alloc h o
theorem OwnV.fr {S : Nat → Prop} (h : OwnV size base e w v n vals) (hf : Fr S w w') (hn : ∀ k, v.ownBlock = some k → ¬ S k) : OwnV size base e w' v n vals := by
  refine ⟨h.1, ?_⟩
  rcases h.2 with h2 | ⟨g, cap, cur, rfl, hb, hgg, rest⟩
  · exact .inl h2
  · exact .inr ⟨g, cap, cur, rfl, hb, (hf.block g (Array.getElem?_eq_some_iff.1 hgg).1 (hn g rfl)).trans hgg, rest⟩
theorem OwnV.below (h : OwnV size base e w v n vals) (hf : Below w.heap.size w w') : OwnV size base e w' v n vals :=
  h.fr (Fr.ofBelow hf) (fun k hk h2 => by have := (World.ownsRow.lt h k hk).2; omega)
theorem OwnV.mono (h : OwnV size base e w v n vals) (hb : base' ≤ base) : OwnV size base' e w v n vals := by
  refine ⟨h.1, ?_⟩
  rcases h.2 with h2 | ⟨g, cap, cur, hv, hg, r⟩
  · exact .inl h2
  · exact .inr ⟨g, cap, cur, hv, by omega, r⟩
theorem OwnV.lt (h : OwnV size base e w v n vals) : ∀ k, v.ownBlock = some k → base ≤ k ∧ k < w.heap.size := World.ownsRow.lt h
theorem OwnV.len (h : OwnV size base e w v n vals) : vals.length = n * size := h.1
theorem OwnV.form (h : OwnV size base e w v n vals) : ∃ a cap, v = .slice a n cap ∧ n ≤ cap ∧ cap ≤ maxLen ∧ (a = none → cap = 0) := by
  rcases h.2 with ⟨rfl, rfl⟩ | ⟨g, cap, cur, hv, _, _, hc, hm, _⟩
  · exact ⟨none, 0, rfl, Nat.le_refl _, Nat.zero_le _, fun _ => rfl⟩
  · exact ⟨_, cap, hv, hc, hm, fun h => by cases h⟩
theorem OwnV.at (h : OwnV size base e w v n vals) (hn : 0 < n) : ∃ g cap, v = .slice (some ⟨g, 0, none⟩) n cap ∧ base ≤ g ∧ g < w.heap.size ∧ ∀ i (hi : i < n * size), w.cell? ⟨g, i, none⟩ = some (vals[i]'(by rw [h.len]; exact hi)) := by
  rcases h.2 with ⟨rfl, rfl⟩ | ⟨g, cap, cur, hv, hg, hh, hc, hm, hs, ht⟩
  · omega
  · subst hv
    refine ⟨g, cap, rfl, hg, (Array.getElem?_eq_some_iff.1 hh).1, fun i hi => ?_⟩
    have := h.cellAt i hi
    rw [this, List.getElem?_eq_getElem (by rw [h.len]; exact hi)]

/-- 'append(s, ..)' of a slice of the call's own and as many new values as lie at an address -/
theorem run_append_val {P : Program} (w : World) (t ty base e : TypeId) {z : Value} {bytes : Nat} (T : ElemT P t e z size bytes) (v : Value) (n : Nat) (vals : List Value) (hown : OwnV size base e w v n vals)
    (ad : Addr) (m c : Nat) (news : List Value) (hl : news.length = m * size) (hnews : ∀ j u, news[j]? = some u → w.cell? (ad.add j) = some u) (h1 : ∀ u ∈ news, u.oneCell' = true)
    (h63 : n + m ≤ maxLen) (hbytes : (n + m) * bytes ≤ 140737488355328) (hb : base ≤ w.heap.size) :
    ∃ a' cap' w', (Builtin.append_ #[t, t] ty #[v, .slice (some ad) m c]).run P w = .ok (.slice a' (n + m) cap') w' ∧ OwnV size base e w' (.slice a' (n + m) cap') (n + m) (vals ++ news) ∧ w.grownBy w' v.ownBlock ∧
      ((Value.slice a' (n + m) cap').ownBlock = v.ownBlock ∨ (Value.slice a' (n + m) cap').ownBlock = some w.heap.size) := by
  obtain ⟨i, hi, hz, hsz, hby⟩ := T.info
  obtain ⟨v', w', h0, h1, h2, h3, h4⟩ := run_append_own_at (P := P) w base t ty e i z size bytes T.und hi hz hsz hby T.zsz T.pos v n vals hown ad m c news hl hnews h1 h63 hbytes hb
  obtain ⟨a', cap', rfl, _⟩ := OwnV.form h1
  exact ⟨a', cap', w', h0, h1, h2, h4⟩

theorem wpList_append_val {P : Program} (w : World) {ops : Array Oper} {rest : List Oper} {o : Oper} {a : Act} {Q : Exit → Act → World → Prop} (hgd : o.guard = none) (s x : Operand) (t : TypeId)
    (ho : o.op = .call { callee := .builtin .append, args := #[s, x], argTypes := #[t, t] }) (base : Nat) (e : TypeId) {z : Value} {bytes : Nat} (T : ElemT P t e z size bytes)
    (v : Value) (n : Nat) (vals : List Value) (hs : a.eval s = v) (hown : OwnV size base e w v n vals) (ad : Addr) (m c : Nat) (news : List Value) (hx : a.eval x = .slice (some ad) m c) (hl : news.length = m * size)
    (hnews : ∀ j u, news[j]? = some u → w.cell? (ad.add j) = some u) (h1 : ∀ u ∈ news, u.oneCell' = true) (h63 : n + m ≤ maxLen) (hbytes : (n + m) * bytes ≤ 140737488355328) (hb : base ≤ w.heap.size)
    (h : ∀ (a' : Option Addr) (cap' : Nat) (w' : World), OwnV size base e w' (.slice a' (n + m) cap') (n + m) (vals ++ news) → w.grownBy w' v.ownBlock → ((Value.slice a' (n + m) cap').ownBlock = v.ownBlock ∨ (Value.slice a' (n + m) cap').ownBlock = some w.heap.size) → wpList P ops Q rest (a.put o.dst (.slice a' (n + m) cap')) w') :
    wpList P ops Q (o :: rest) a w := by
  obtain ⟨a', cap', w', h0, h1, h2, h4⟩ := run_append_val (P := P) w t o.type base e T v n vals hown ad m c news hl hnews h1 h63 hbytes hb
  refine wpList_plain hgd fun K hK => ?_
  unfold Oper.wp
  simp [execOp, ho, resolve, invoke, builtin, hs, hx, h0, Result.andThen]
  exact hK _ _ (h a' cap' w' h1 h2 h4)
/-- the same inside a fence -/
theorem wpListIn_append_val {F : Fence} {k : Nat} {P : Program} (w : World) {ops : Array Oper} {rest : List Oper} {o : Oper} {a : Act} {Q : Exit → Act → World → Prop} (hgd : o.guard = none) (s x : Operand) (t : TypeId)
    (ho : o.op = .call { callee := .builtin .append, args := #[s, x], argTypes := #[t, t] }) (base : Nat) (e : TypeId) {z : Value} {bytes : Nat} (T : ElemT P t e z size bytes)
    (v : Value) (n : Nat) (vals : List Value) (hs : a.eval s = v) (hown : OwnV size base e w v n vals) (ad : Addr) (m c : Nat) (news : List Value) (hx : a.eval x = .slice (some ad) m c) (hl : news.length = m * size)
    (hnews : ∀ j u, news[j]? = some u → w.cell? (ad.add j) = some u) (h1 : ∀ u ∈ news, u.oneCell' = true) (h63 : n + m ≤ maxLen) (hbytes : (n + m) * bytes ≤ 140737488355328) (hb : base ≤ w.heap.size)
    (h : ∀ (a' : Option Addr) (cap' : Nat) (w' : World), OwnV size base e w' (.slice a' (n + m) cap') (n + m) (vals ++ news) → w.grownBy w' v.ownBlock → ((Value.slice a' (n + m) cap').ownBlock = v.ownBlock ∨ (Value.slice a' (n + m) cap').ownBlock = some w.heap.size) → wpListIn F k P ops Q rest (a.put o.dst (.slice a' (n + m) cap')) w') :
    wpListIn F k P ops Q (o :: rest) a w := by
  obtain ⟨a', cap', w', h0, h1, h2, h4⟩ := run_append_val (P := P) w t o.type base e T v n vals hown ad m c news hl hnews h1 h63 hbytes hb
  refine wpListIn_plain hgd fun K hK => ?_
  unfold Oper.wpIn
  refine ⟨?_, ?_⟩
  · simp [Oper.about, ho, resolve, Target.leads, Sem.run_pure]
  · rw [Oper.semAt_plain F _ _ (by rw [ho]; intro c hc'; cases hc')]
    simp [execOp, ho, resolve, invoke, builtin, hs, hx, h0, Result.andThen]
    exact hK _ _ (h a' cap' w' h1 h2 h4)
end

/-- a list of texts: a slice of the call's own (or nil), in a block from base on, each of whose elements reads as a text that lies in another block from base on -/
def Texts (base : Nat) (e : TypeId) (w : World) (v : Value) (ls : List (List UInt8)) : Prop :=
  ∃ vals, OwnV 1 base e w v ls.length vals ∧ ∀ i (h : i < ls.length), ∃ x, vals[i]? = some x ∧ Byt (fun k => base ≤ k ∧ v.ownBlock ≠ some k) w x (ls[i]'h)
theorem Texts.nil (base : Nat) (e : TypeId) (w : World) : Texts base e w (.slice none 0 0) [] := ⟨[], OwnV.nil _ _ _ _, fun i h => by simp at h⟩
theorem Texts.fr {base : Nat} {e : TypeId} {w w' : World} {v : Value} {ls : List (List UInt8)} {S : Nat → Prop} (h : Texts base e w v ls) (hf : Fr S w w') (hn : ∀ k, k < w.heap.size → base ≤ k → ¬ S k) : Texts base e w' v ls := by
  obtain ⟨vals, h1, h2⟩ := h
  refine ⟨vals, h1.fr hf (fun k hk => hn k (h1.lt k hk).2 (h1.lt k hk).1), fun i hi => ?_⟩
  obtain ⟨x, hx, hb⟩ := h2 i hi
  exact ⟨x, hx, hb.fr hf (fun k hk h => hn k hk h.1)⟩
theorem Texts.below {base : Nat} {e : TypeId} {w w' : World} {v : Value} {ls : List (List UInt8)} (h : Texts base e w v ls) (hf : Below w.heap.size w w') : Texts base e w' v ls := by
  obtain ⟨vals, h1, h2⟩ := h
  refine ⟨vals, h1.below hf, fun i hi => ?_⟩
  obtain ⟨x, hx, hb⟩ := h2 i hi
  exact ⟨x, hx, hb.below hf⟩
theorem Texts.mono {base base' : Nat} {e : TypeId} {w : World} {v : Value} {ls : List (List UInt8)} (h : Texts base e w v ls) (hb : base' ≤ base) : Texts base' e w v ls := by
  obtain ⟨vals, h1, h2⟩ := h
  refine ⟨vals, h1.mono hb, fun i hi => ?_⟩
  obtain ⟨x, hx, hb'⟩ := h2 i hi
  exact ⟨x, hx, hb'.mono (fun k _ h => ⟨by omega, h.2⟩)⟩
theorem Texts.form {base : Nat} {e : TypeId} {w : World} {v : Value} {ls : List (List UInt8)} (h : Texts base e w v ls) : ∃ a cap, v = .slice a ls.length cap ∧ ls.length ≤ cap ∧ cap ≤ maxLen ∧ (a = none → cap = 0) := by
  obtain ⟨vals, h1, _⟩ := h
  exact h1.form
/-- one more, appended -/
theorem Texts.append {base : Nat} {e : TypeId} {w w1 w' : World} {v v' : Value} {ls : List (List UInt8)} {x : Value} {l : List UInt8} {vals : List Value} (hv : OwnV 1 base e w v ls.length vals)
    (hvals : ∀ i (h : i < ls.length), ∃ x, vals[i]? = some x ∧ Byt (fun k => base ≤ k ∧ v.ownBlock ≠ some k) w x (ls[i]'h)) (hx : Byt (fun k => base ≤ k ∧ v.ownBlock ≠ some k) w x l)
    (hw : Below w.heap.size w w1) (h1 : OwnV 1 base e w' v' (ls.length + 1) (vals ++ [x])) (h2 : w1.grownBy w' v.ownBlock) (h3 : v'.ownBlock = v.ownBlock ∨ v'.ownBlock = some w1.heap.size) : Texts base e w' v' (ls ++ [l]) := by
  have hs := hw.size
  have keep : ∀ (y : Value) (m : List UInt8), Byt (fun k => base ≤ k ∧ v.ownBlock ≠ some k) w y m → Byt (fun k => base ≤ k ∧ v'.ownBlock ≠ some k) w' y m := fun y m hy => by
    refine (((hy.lt.below hw).mono (E := fun k => k < w.heap.size ∧ base ≤ k ∧ v.ownBlock ≠ some k) (fun k _ h => h)).fr (Fr.ofGrown h2) (fun k _ h e => h.2.2 e)).mono (fun k _ h => ⟨h.2.1, fun e => ?_⟩)
    rcases h3 with h3 | h3
    · exact h.2.2 (h3 ▸ e)
    · rw [h3] at e; injection e with e; have := h.1; omega
  refine ⟨vals ++ [x], by rw [List.length_append]; exact h1, fun i hi => ?_⟩
  have hl := hv.len
  rw [List.length_append, List.length_singleton] at hi
  by_cases hlt : i < ls.length
  · obtain ⟨y, hy, hb⟩ := hvals i hlt
    refine ⟨y, by rw [List.getElem?_append_left (by omega)]; exact hy, ?_⟩
    rw [List.getElem_append_left hlt]
    exact keep _ _ hb
  · obtain rfl : i = ls.length := by omega
    refine ⟨x, by rw [List.getElem?_append_right (by omega)]; simp [hl], ?_⟩
    rw [List.getElem_append_right (by omega)]
    simp only [Nat.sub_self, List.getElem_cons_zero]
    exact keep _ _ hx
end Go.Proofs.Ytjdohjoljobinaa.Row
