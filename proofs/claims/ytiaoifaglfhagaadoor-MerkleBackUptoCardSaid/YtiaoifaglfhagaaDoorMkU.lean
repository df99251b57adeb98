/- What a clash of two paths is, in plain Lean; when two pairs are the same for the program. No condition. -/
import Derived.Test.YtiaoifaglfhagaaDoorMkT
import Derived.Laws.StructEq
namespace Go.Proofs.YtiaoifaglfhagaaDoor.MkW
open Go Go.RowKit Mem Sha ShaW Mk Arr Row
set_option linter.unusedVariables false

theorem pairOf_inj {x y d e : Dg} {s : Bool} (h : pairOf x d s = pairOf y e s) : x = y ∧ d = e := by
  cases s <;> simp [pairOf] at h
  · exact h
  · exact ⟨h.2, h.1⟩
theorem ups_len : ∀ (leaf : Dg) (ss : List Bool) (ds : List Dg), ss.length = ds.length → (ups leaf ss ds).length = ds.length
  | _, [], [], _ => rfl
  | _, [], _ :: _, h => by simp at h
  | _, _ :: _, [], h => by simp at h
  | leaf, s :: ss, d :: ds, h => by simp only [ups, List.length_cons]; rw [ups_len _ ss ds (by simpa using h)]
theorem ups_get (leaf : Dg) (ss : List Bool) (ds : List Dg) (hl : ss.length = ds.length) (i : Nat) (h1 : i < ss.length) (h2 : i < ds.length) :
    (ups leaf ss ds)[i]? = some (pairOf (topOf leaf (ss.take i) (ds.take i)) (ds[i]'h2) (ss[i]'h1)) := by
  induction ss generalizing leaf ds i with
  | nil => simp at h1
  | cons s ss ih =>
    cases ds with
    | nil => simp at h2
    | cons d ds =>
      cases i with
      | zero => simp [ups, topOf]
      | succ i =>
        simp only [ups, List.getElem?_cons_succ, List.take_succ_cons, topOf, List.getElem_cons_succ]
        exact ih _ ds (by simpa using hl) i (by simpa using h1) (by simpa using h2)
/-- where two paths part for the last time, the two pairs have one digest -/
theorem clash_at (a b : Dg) (ss : List Bool) (ps qs : List Dg) (hp : ss.length = ps.length) (hq : ss.length = qs.length) (htop : topOf a ss ps = topOf b ss qs) (i : Nat) (hi : i < ss.length) (x y : Dg × Dg)
    (hx : (ups a ss ps)[i]? = some x) (hy : (ups b ss qs)[i]? = some y) (habove : ∀ j : Nat, i < j → (ups a ss ps)[j]? = (ups b ss qs)[j]?) : nodeP x = nodeP y := by
  have ea := ups_get a ss ps hp i hi (by omega)
  have eb := ups_get b ss qs hq i hi (by omega)
  rw [hx] at ea; rw [hy] at eb
  have ea := Option.some.inj ea
  have eb := Option.some.inj eb
  have ta := topOf_take a ss ps i hi (by omega)
  have tb := topOf_take b ss qs i hi (by omega)
  rw [← ea] at ta
  rw [← eb] at tb
  rw [← ta, ← tb]
  by_cases hl : i + 1 = ss.length
  · rw [hl, List.take_length]
    rw [show ps.take ss.length = ps from List.take_of_length_le (by omega), show qs.take ss.length = qs from List.take_of_length_le (by omega)]
    exact htop
  · have hn := habove (i + 1) (by omega)
    rw [ups_get a ss ps hp (i + 1) (by omega) (by omega), ups_get b ss qs hq (i + 1) (by omega) (by omega)] at hn
    exact (pairOf_inj (Option.some.inj hn)).1
/-- two paths that never part are one, from one leaf -/
theorem clash_none (a b : Dg) (ss : List Bool) (ps qs : List Dg) (hp : ss.length = ps.length) (hq : ss.length = qs.length) (htop : topOf a ss ps = topOf b ss qs) (h : ∀ j : Nat, (ups a ss ps)[j]? = (ups b ss qs)[j]?) : a = b ∧ ps = qs := by
  have hd : ps = qs := by
    apply List.ext_getElem (by omega)
    intro j h1 h2
    have := h j
    rw [ups_get a ss ps hp j (by omega) h1, ups_get b ss qs hq j (by omega) h2] at this
    exact (pairOf_inj (Option.some.inj this)).2
  refine ⟨?_, hd⟩
  subst hd
  cases hs : ss with
  | nil =>
    subst hs
    have : ps = [] := List.length_eq_zero_iff.1 (by simpa using hp.symm)
    subst this
    simpa [topOf] using htop
  | cons s r =>
    have := h 0
    rw [ups_get a ss ps hp 0 (by rw [hs]; simp) (by rw [← hp, hs]; simp), ups_get b ss ps hq 0 (by rw [hs]; simp) (by rw [← hp, hs]; simp)] at this
    have := (pairOf_inj (Option.some.inj this)).1
    simpa [topOf] using this
theorem ups_mem : ∀ (leaf : Dg) (ss : List Bool) (ds : List Dg), leaf.length = 32 → (∀ d ∈ ds, d.length = 32) → ∀ x ∈ ups leaf ss ds, x.1.length = 32 ∧ x.2.length = 32
  | _, [], _, _, _, x, hx => by simp [ups] at hx
  | _, _ :: _, [], _, _, x, hx => by simp [ups] at hx
  | leaf, s :: ss, d :: ds, hl, hd, x, hx => by
    simp only [ups, List.mem_cons] at hx
    rcases hx with rfl | hx
    · cases s <;> simp [pairOf, hl, hd d (by simp)]
    · exact ups_mem _ ss ds (nodeD_length _ _) (fun e he => hd e (by simp [he])) x hx
theorem run_equal_u8' {P : Program} (k : Nat) {t e : TypeId} {n : Nat} {i : TypeInfo} (hu : P.underlying t = some (.array n e)) (hi : P.info? e = some i) (hc : P.cellsOf e = 1) (he : P.underlying e = some (.int .u8)) (w : World) (l m : List UInt8) (h1 : l.length = n) (h2 : m.length = n) :
    (Op.equalIn (k + 2) t (.agg (l.map byt).toArray) (.agg (m.map byt).toArray)).run P w = .ok (l == m) w := by
  have h := run_equalIn_array (P := P) (w := w) (k + 1) (l.map byt).toArray (m.map byt).toArray hu hi
  have h3 := run_eqItems_u8 (P := P) k he w l m (List.range n) (fun j hj => by have := List.mem_range.1 hj; omega)
  rw [all_range l m n h1 h2] at h3
  rw [h, hc, h3]
theorem pair_fields : ∃ f0 f1 : Field, (Tryd.prog.fieldsOf 57).toList = [f0, f1] ∧ f0.name ≠ "_" ∧ f0.type = 25 ∧ f0.offset = 0 ∧ f1.name ≠ "_" ∧ f1.type = 25 ∧ f1.offset = 32 := by
  have hu := Tryd.underlying57
  unfold Program.fieldsOf
  rw [hu]
  exact ⟨_, _, rfl, by decide, rfl, rfl, by decide, rfl, rfl⟩
theorem agg_D (w : World) : (isAgg 25).run Tryd.prog w = .ok true w := by
  unfold isAgg
  rw [Sem.run_bind, run_underlying Tryd.underlying25 w]
  rfl
theorem part_pair {P : Program} {t : TypeId} (hag : ∀ w, (isAgg t).run P w = .ok true w) (hsz : (P.info? t).map (·.size) = some 32) (a b : Dg) (w : World) (ha : a.length = 32) (hb : b.length = 32) :
    (part t (a.map byt ++ b.map byt).toArray 0).run P w = .ok (.agg (a.map byt).toArray) w ∧ (part t (a.map byt ++ b.map byt).toArray 32).run P w = .ok (.agg (b.map byt).toArray) w := by
  obtain ⟨i, hi, hsz⟩ := Option.map_eq_some_iff.1 hsz
  have e1 : (a.map byt ++ b.map byt).take 32 = a.map byt := List.take_left' (by simp [ha])
  have e2 : ((a.map byt ++ b.map byt).drop 32).take 32 = b.map byt := by
    rw [List.drop_left' (by simp [ha]), List.take_of_length_le (by simp [hb])]
  constructor
  · simp [part, hag, sizeOf, typeInfo, hi, hsz, e1]
  · simp [part, hag, sizeOf, typeInfo, hi, hsz, e2]
theorem eq_pair {P : Program} (k : Nat) {s t e : TypeId} {i : TypeInfo} (hst : P.underlying s = some (.struct (P.fieldsOf s))) (hp : P.stoodInHeld s = false)
    (hf : ∃ f0 f1 : Field, (P.fieldsOf s).toList = [f0, f1] ∧ f0.name ≠ "_" ∧ f0.type = t ∧ f0.offset = 0 ∧ f1.name ≠ "_" ∧ f1.type = t ∧ f1.offset = 32)
    (hag : ∀ w, (isAgg t).run P w = .ok true w) (hsz : (P.info? t).map (·.size) = some 32)
    (hu : P.underlying t = some (.array 32 e)) (hi : P.info? e = some i) (hc : P.cellsOf e = 1) (he : P.underlying e = some (.int .u8)) (w : World) (x1 x2 y1 y2 : Dg) (h1 : x1.length = 32) (h2 : x2.length = 32) (h3 : y1.length = 32) (h4 : y2.length = 32) :
    (Op.equalIn (k + 3) s (.agg (x1.map byt ++ x2.map byt).toArray) (.agg (y1.map byt ++ y2.map byt).toArray)).run P w = .ok (x1 == y1 && x2 == y2) w := by
  obtain ⟨f0, f1, hfl, n0, t0, o0, n1, t1, o1⟩ := hf
  have q1 := run_equal_u8' (P := P) k hu hi hc he w x1 y1 h1 h3
  have q2 := run_equal_u8' (P := P) k hu hi hc he w x2 y2 h2 h4
  have p1 := part_pair hag hsz x1 x2 w h1 h2
  have p2 := part_pair hag hsz y1 y2 w h3 h4
  have hs := run_equalIn_struct (P := P) w (k + 2) s (x1.map byt ++ x2.map byt).toArray (y1.map byt ++ y2.map byt).toArray hst hp
  rw [hs, hfl]
  simp only [Op.eqFields, Sem.run_ite, if_pos n0, if_pos n1, t0, t1, o0, o1, Sem.run_bind, p1.1, p2.1, Result.andThen_ok, q1]
  by_cases e1 : x1 = y1
  · subst e1
    simp only [beq_self_eq_true, Bool.not_true, Bool.false_eq_true, if_false, p1.2, p2.2, Result.andThen_ok, q2, Bool.true_and]
    by_cases e2 : x2 = y2
    · subst e2; simp
    · simp [e2]
  · simp [e1]
theorem run_equal_pair (w : World) (x y : Dg × Dg) (h1 : x.1.length = 32) (h2 : x.2.length = 32) (h3 : y.1.length = 32) (h4 : y.2.length = 32) :
    (Op.equalIn 10000 57 (.agg (x.1.map byt ++ x.2.map byt).toArray) (.agg (y.1.map byt ++ y.2.map byt).toArray)).run Tryd.prog w = .ok (x.1 == y.1 && x.2 == y.2) w :=
  eq_pair (P := Tryd.prog) 9997 (i := _) (by kernel_rfl) (by kernel_rfl) pair_fields agg_D szD Tryd.underlying25 rfl (by kernel_rfl) Tryd.underlying5 w x.1 x.2 y.1 y.2 h1 h2 h3 h4
end Go.Proofs.YtiaoifaglfhagaaDoor.MkW
