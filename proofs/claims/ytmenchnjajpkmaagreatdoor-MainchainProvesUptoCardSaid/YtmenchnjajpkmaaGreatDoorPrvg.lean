/- Walks of the wire's reader: must, kind, digest, key. Condition: the bytes are at most 2^47. The laws of Ops, inside a fence (in the body of a function that ranges over a function, or is ranged over). Program-independent; no condition. The walk of the codec's Items at keys: what its iterator promises. Condition: one thing's reader keeps its contract. rangeSeq, where the assignment of a round's values makes memory. Program-independent; no condition. Walks of the codec's Items and List at keys, and of the closure that things hands them. Condition: the bytes are at most 2^40; at most 65536 things. Walks of the wire's reader: things at keys, params. Condition: the bytes are at most 2^47. The walks of the program's ReadParams. Condition: the bytes are at most 2^47. Walks of the reference's R of layer 12: begin, fail, ok, ended. Condition: the bytes are at most 2^47. The walk of the reference's R.raw. Condition: the bytes are at most 2^47, so many as are asked at most 2^20. The walk of the reference's R.number. Condition: the bytes are at most 2^47. The walk of the reference's R.small. Condition: the bytes are at most 2^47. The walk of the reference's R.digest. Condition: the bytes are at most 2^47. The walk of the reference's R.many. Condition: the bytes are at most 2^47. How a thing of so many cells reads as plain data, and slices of such things. Program-independent; no condition. More laws at single operations that leave the world opaque: a slice of one element is made, a slice is appended, one cell of a block is stored or loaded. Program-independent; no condition. What the reference keeps while it reads a list: up to the first thing that fails, which it appends too. Plain; and the rows of keys. No condition. -/
import Derived.Test.YtmenchnjajpkmaaGreatDoorPrvf
import Derived.Laws.CopyOwn
import Derived.Deep.RegionHeld3
import Derived.OwnWalkIn
import Derived.Test.YtmenchnjajpkmaaGreatDoorPrvc
import Derived.Shelf.Abstract
import Derived.Shelf.RegionOpen
import Derived.TacticsInMore
import Derived.LoopNIn
import Derived.LoopIn
import Derived.Deep.OwnRows
section
namespace Go.Proofs.YtmenchnjajpkmaaGreatDoor.Wr
open Go Go.RowKit Mem Codec CodecR Arr Ops
set_option linter.unusedVariables false

def Rd.must (r : Rd) (ok : Bool) : Rd := if ok = true then r else r.fail 120
def Rd.kind (r : Rd) (lo hi : Int) : Rd × Int := (Rd.must (r.num 1).1 (decide (lo ≤ ((r.num 1).2 : Int)) && decide (((r.num 1).2 : Int) ≤ hi)), ((r.num 1).2 : Int))
/-- 32 bytes, noughts where there are none -/
def Rd.dig (r : Rd) : Rd × List UInt8 := ((r.raw 32).1, if (r.raw 32).2.length = 32 then (r.raw 32).2 else List.replicate 32 0)
theorem Rd.dig_len (r : Rd) : (Rd.dig r).2.length = 32 := by
  unfold Rd.dig
  dsimp only
  split
  · assumption
  · simp
section
variable {D : Nat → Prop} {w w' : World} {q : Nat} {r : Rd}
theorem rd_under {D : Nat → Prop} {w : World} {q : Nat} {r : Rd} (h : ReaderIs D w q r) : ReaderIs (fun k => k < w.heap.size ∧ D k) w q r := by
  obtain ⟨a, c, h1, h2, h3⟩ := h
  exact ⟨a, c, h1, h2.lt, fun h => h3 h.2⟩
theorem rd_back {D : Nat → Prop} {n : Nat} {w : World} {q : Nat} {r : Rd} (h : ReaderIs (fun k => k < n ∧ D k) w q r) (hq : q < n) : ReaderIs D w q r := by
  obtain ⟨a, c, h1, h2, h3⟩ := h
  exact ⟨a, c, h1, h2.mono (fun k _ h => h.2), fun h => h3 ⟨hq, h⟩⟩
theorem fr_box {o : Obj} (h : Fr (fun k => k = q) (w.alloc o) w') : Fr (fun k => k = q) w w' := ((Fr.refl _ w).alloc o).trans h
end
theorem raw32_len (r : Rd) : (r.raw 32).2.length = 32 ∨ (r.raw 32).2 = [] := by
  unfold Rd.raw
  rw [if_neg (by omega)]
  unfold Rd.take
  split
  · exact .inr rfl
  · split
    · exact .inr rfl
    · left
      have : (32 : Int).toNat = 32 := rfl
      rw [this] at *
      simp; omega
theorem zeroD (w : World) : (zeroValue 24).run Tryz.prog w = .ok (.agg (List.replicate 32 (.int .u8 0)).toArray) w := by kernel_rfl
/-- what a copied text's bytes are -/
theorem byt_src {D : Nat → Prop} {w : World} {a : Option Addr} {c : Nat} {l : List UInt8} (h : Byt D w (.slice a l.length c) l) (h0 : 0 < (l.map byt).length) : ∃ ad, a = some ad ∧ ∀ j v, (l.map byt)[j]? = some v → w.cell? (ad.add j) = some v := by
  obtain ⟨a', c', e, _, h⟩ := h
  cases e
  rcases h with h | ⟨b, off, rfl, _, hl⟩
  · subst h; simp at h0
  · refine ⟨_, rfl, fun j v hv => ?_⟩
    obtain ⟨hj, rfl⟩ := List.getElem?_eq_some_iff.1 hv
    rw [List.length_map] at hj
    rw [List.getElem_map]
    have := hl j hj
    unfold Addr.add
    split
    · rename_i h0; subst h0; exact this
    · exact this
theorem splice32 (r : Rd) : splice (List.replicate 32 (.int .u8 0)) 0 ((r.raw 32).2.map byt) = (Rd.dig r).2.map byt := by
  unfold Rd.dig splice
  dsimp only
  rcases raw32_len r with h | h
  · rw [if_pos h]
    simp [h]
  · rw [h]
    simp
set_option maxHeartbeats 4000000 in
set_option maxRecDepth 100000 in
theorem digest_calls (D : Nat → Prop) (w : World) (q : Nat) (r : Rd) (H : ReaderIs D w q r) (hl : r.rest.length ≤ 140737488355328) :
    Calls Tryz.prog 93 #[.agg #[.pointer (some ⟨q, 0, none⟩)]] w fun e w' => e = .returned (.agg ((Rd.dig r).2.map byt).toArray) ∧ ReaderIs D w' q (Rd.dig r).1 ∧ Fr (fun k => k = q) w w' := by
  have hql := H.lt
  have H1 := Lib.hid ((rd_under H).below (below_alloc w (.cells #[.pointer (some ⟨q, 0, none⟩)] 106)))
  have HB := Lib.hid (Blk.new w #[.pointer (some ⟨q, 0, none⟩)] 106 _ rfl)
  have HA := Lib.hid (below_alloc w (.cells #[.pointer (some ⟨q, 0, none⟩)] 106))
  have hz : w.heap.size + 1 = (w.alloc (.cells #[.pointer (some ⟨q, 0, none⟩)] 106)).heap.size := by simp
  have HSP := Lib.hid (splice32 r)
  have HRL := Lib.hid (raw32_len r)
  have HDL := Lib.hid (Rd.dig_len r)
  have hd1 : (Rd.dig r).1 = (r.raw 32).1 := rfl
  clear H
  go_enter Tryz.func93, Tryz.ntmps93
  go_upto_region 1 with (first
    | ((with_reducible refine wpList_alloc rfl _ rfl _ (zeroD _) (fun wa ka ca za => ?_)); have KA := Lib.hid ka; have CA := Lib.hid ca; clear ka ca))
  generalize (w.alloc (.cells #[.pointer (some ⟨q, 0, none⟩)] 106)) = w1 at *
  go_upto_region 2 with (first
    | ((with_reducible refine wpList_alloc rfl _ rfl _ (zeroD _) (fun wb kb cb zb => ?_)); have KB := Lib.hid kb; have CB := Lib.hid cb; clear kb cb))
  have H2 := Lib.hid ((H1.out.below CA.out).below CB.out)
  have HB2 := Lib.hid ((HB.out.below CA.out).below CB.out)
  have KA2 := Lib.hid (KA.out.below CB.out)
  have B2 := Lib.hid ((HA.out.trans (CA.out.mono (by omega))).trans (CB.out.mono (by omega)))
  have c0 := HB2.out.cell (i := 0) rfl
  clear H1 HB HA CA CB KA c0
  have hg1 : w1.heap.size < wa.heap.size := by omega
  have hg2 : wa.heap.size < wb.heap.size := by omega
  have hg0 : w.heap.size < w1.heap.size := by omega
  obtain ⟨g1, hg1e⟩ : ∃ g, w1.heap.size = g := ⟨_, rfl⟩
  rw [hg1e] at hg1 hg0 KA2
  obtain ⟨g2, hg2e⟩ : ∃ g, wa.heap.size = g := ⟨_, rfl⟩
  rw [hg2e] at hg1 hg2 KB
  refine wp_region_held_drew (S := (fun w' => (∃ l, Blk w' g2 l 24) ∧ Blk w' g1 (List.replicate 32 (.int .u8 0)) 24 ∧ Blk w' w.heap.size [.pointer (some ⟨q, 0, none⟩)] 106 ∧ Fr (fun k => k = q) w w')) (by kernel_rfl) ⟨⟨_, KB.out.drew⟩, KA2.out.drew, HB2.out.drew, (Fr.ofBelowAll B2.out (Nat.le_refl _)).drew⟩ (fun hHeld => ?_)
  refine wpAnyH_take (i := 0) (oi := ⟨_, _, _, _, _, _⟩) (v := ?_) rfl (by kernel_rfl) (by kernel_rfl) (by kernel_rfl) (fun _ _ _ h => h) (Or.inl ⟨by rfl, ?_⟩) (by assumption) ?_
  rotate_left
  · intro w hSw; go_simp; try (with_reducible rfl)
  try simp only [Act.put, List.setIfInBounds_toArray, List.set_cons_zero, List.set_cons_succ]
  refine wpAnyH_take (i := 1) (oi := ⟨_, _, _, _, _, _⟩) (v := ?_) rfl (by kernel_rfl) (by kernel_rfl) (by kernel_rfl) (fun _ _ _ h => h) (Or.inl ⟨by rfl, ?_⟩) (by assumption) ?_
  rotate_left
  · intro w hSw; go_simp; try (with_reducible rfl)
  try simp only [Act.put, List.setIfInBounds_toArray, List.set_cons_zero, List.set_cons_succ]
  refine wpAnyH_take (i := 2) (oi := ⟨_, _, _, _, _, _⟩) (v := .pointer (some ⟨q, 0, none⟩)) rfl (by kernel_rfl) (by kernel_rfl) (by kernel_rfl) (fun _ _ _ h => h) (Or.inl ⟨by rfl, fun w hSw => (by have c := hSw.2.2.1.cell (i := 0) rfl; go_simp; try (with_reducible rfl))⟩) (by assumption) ?_
  try simp only [Act.put, List.setIfInBounds_toArray, List.set_cons_zero, List.set_cons_succ]
  refine wpAnyH_ready (rs := [3]) (by kernel_rfl) (by simp) ?_
  refine AllReadyH.cons (o := ⟨_, _, _, _, _, _⟩) rfl (fun K hK => ?_) AllReadyH.nil
  go_simp
  have k2 := KB.out.lt
  have k1 := hHeld.2.1.lt
  refine (CodecR.raw_r_calls _ wb.drew q r 32 H2.out (by omega) (by omega) hl).mono ?_
  rintro e wc ⟨a, c, rfl, o1, o2, o3⟩
  refine hK.out _ _ (by exact ⟨hHeld.1.elim fun l hl => ⟨l, hl.fr o3 (by omega)⟩, hHeld.2.1.fr o3 (by omega), hHeld.2.2.1.fr o3 (by omega), hHeld.2.2.2.trans o3⟩) (fun hHeld => ?_)
  have O1 := Lib.hid o1.byt
  have KB3 := Lib.hid (KB.out.drew.fr o3 (by omega))
  have O2 := Lib.hid o2
  clear o1 o2 o3
  try simp only [Act.put, List.setIfInBounds_toArray, List.set_cons_zero, List.set_cons_succ]
  clear hK
  refine wpAnyH_ready (rs := [4]) (by kernel_rfl) (by simp) ?_
  refine AllReadyH.cons (o := ⟨_, _, _, _, _, _⟩) rfl (fun K hK => ?_) AllReadyH.nil
  refine step_copy_splice rfl (.tmp 4) (.tmp 7) 25 25 rfl 5 Tryz.underlying25 (by kernel_rfl) (some ⟨g2, 0, none⟩) a 32 32 (r.raw 32).2.length c rfl rfl g2 0 (List.replicate 32 (.int .u8 0)) 24 KB3.out ((r.raw 32).2.map byt) (by rw [List.length_map]; rcases HRL.out with h | h <;> rw [h] <;> rfl) (fun h => ⟨rfl, byt_src O1.out h⟩) (by rw [List.length_map]; rcases HRL.out with h | h <;> rw [h] <;> simp) (Wt.oneK _) g2 wc (Below.refl _ _) (Nat.le_refl _) (fun wd kd bd => ?_)
  refine hK.out _ _ (by exact ⟨⟨_, kd.out⟩, hHeld.2.1.fr (Fr.ofBelow bd) (by show ¬ g2 ≤ g1; omega), hHeld.2.2.1.fr (Fr.ofBelow bd) (by show ¬ g2 ≤ w.heap.size; omega), hHeld.2.2.2.trans' (Fr.ofBelow bd) (fun i hi (h : g2 ≤ i) => by omega)⟩) (fun hHeld => ?_)
  have KD := kd.out
  rw [HSP.out] at KD
  have HKD := Lib.hid (show Blk wd g2 ((Rd.dig r).2.map byt) 24 from KD)
  have O3 := Lib.hid (O2.out.fr (Fr.ofBelow bd) (by show ¬ g2 ≤ q; omega) (fun k _ h (e : g2 ≤ k) => by have := h.1; omega))
  clear KD kd O2 O1 KB3
  try simp only [Act.put, List.setIfInBounds_toArray, List.set_cons_zero, List.set_cons_succ]
  clear hK
  refine wpAnyH_done (by kernel_rfl) ?_ _
  have SZ := Lib.hid (Ww.szD HDL.out)
  have K1 := Lib.hid hHeld.2.1
  have FF := Lib.hid hHeld.2.2.2
  clear hHeld
  go_wp2_with (first
    | (with_reducible refine wpList_load_blk rfl _ _ rfl g2 ((Rd.dig r).2.map byt) rfl HKD.out _ Tryz.underlying24 rfl SZ.out ?_)
    | ((with_reducible refine wpList_put rfl _ _ _ rfl g1 ((Rd.dig r).2.map byt) _ rfl rfl K1.out SZ.out (by simp [HDL.out]) (Wt.oneK _) (fun we ke fe ze => ?_)); have KE := Lib.hid ke; have FE := Lib.hid fe; clear ke fe))
  exact bodyPost_ret (v := .agg ((Rd.dig r).2.map byt).toArray) (results_row1 Tryz.results93 _ _ g1 _ _ rfl KE.out Tryz.underlying24 rfl SZ.out) rfl ⟨rfl, rd_back (O3.out.fr FE.out (by omega) (fun k _ h (e : k = g1) => by have := h.1; omega)) hql, FF.out.trans' FE.out (fun i hi (e : i = g1) => by omega)⟩
end Go.Proofs.YtmenchnjajpkmaaGreatDoor.Wr
end

section
namespace Go.Proofs.YtmenchnjajpkmaaGreatDoor.Ops
open Go Go.RowKit Mem
section
variable {F : Fence} {n : Nat} {P : Program} {w : World} {ops : Array Oper} {rest : List Oper} {o : Oper} {a : Act} {K : Act → World → Prop} {Q : Exit → Act → World → Prop}
theorem wpIn_value {v : Value} {w' : World} (hab : o.about P w a.eval = none) (hd : ∀ c, o.op ≠ .defer c) (hrun : (execOp a.eval o).run P w = .ok (.value v) w') (h : K (a.put o.dst v) w') : o.wpIn F n P a w K Q := by
  unfold Oper.wpIn
  refine ⟨fun f hf => (by rw [hab] at hf; cases hf), ?_⟩
  rw [Oper.semAt_plain F _ _ hd, hrun]
  exact h
theorem wpListIn_alloc (hgd : o.guard = none) (t : TypeId) (ho : o.op = .alloc t) (zs : List Value) (hz : (zeroValue t).run P w = .ok (.agg zs.toArray) w)
    (h : ∀ w', Blk w' w.heap.size zs t → Below w.heap.size w w' → w.heap.size + 1 = w'.heap.size → wpListIn F n P ops Q rest (a.put o.dst (.pointer (some ⟨w.heap.size, 0, none⟩))) w') : wpListIn F n P ops Q (o :: rest) a w :=
  wpListIn_plain hgd fun K hK => wpIn_value (v := .pointer (some ⟨w.heap.size, 0, none⟩)) (w' := w.alloc (.cells zs.toArray t)) (by simp [Oper.about, ho]) (by rw [ho]; intro c h; cases h)
    (by simp [execOp, ho, Instr.alloc, hz, newVar, newRow, Value.cells, Result.andThen]) (hK _ _ (h _ (Blk.new w _ _ _ rfl) (below_alloc _ _) (by simp)))
theorem wpListIn_put (hgd : o.guard = none) (ty : TypeId) (x y : Operand) (ho : o.op = .store ty x y) (g : Nat) (l old : List Value) (hx : a.eval x = .pointer (some ⟨g, 0, none⟩)) (hy : a.eval y = .agg l.toArray) {t : TypeId} (hB : Blk w g old t)
    (hi : (P.info? ty).map (·.size) = some l.length) (hl : old.length = l.length) (h1 : ∀ v ∈ l, v.oneCell' = true)
    (h : ∀ w', Blk w' g l t → Fr (fun k => k = g) w w' → w'.heap.size = w.heap.size → wpListIn F n P ops Q rest (a.put o.dst undef) w') : wpListIn F n P ops Q (o :: rest) a w := by
  refine wpListIn_plain hgd fun K hK => ?_
  unfold Oper.wpIn
  refine ⟨fun f hf => (by simp [Oper.about, ho] at hf), ?_⟩
  rw [Oper.semAt_plain F _ _ (by rw [ho]; intro c h; cases h)]
  have hr := run_storeVar_row (P := P) w g t ty old.toArray l.toArray hB (by simpa using hi) (by simpa using hl) (by rw [Array.all_eq_true']; intro v hv; exact h1 v (by simpa using hv))
  have e : (execOp a.eval o).run P w = .ok .skip (w.setRow g l.toArray) := by
    unfold execOp
    simp only [ho, hx, hy, Instr.storeAt, Instr.sureAddr, Sem.run_bind, Sem.run_pure, Result.andThen_ok, hr]
  rw [e]
  exact hK _ _ (h _ (hB.row l) (Fr.setRow (S := fun k => k = g) (Fr.refl _ w) (.inr rfl) _) (by simp))
theorem wpListIn_load_blk (hgd : o.guard = none) (ty : TypeId) (x : Operand) (ho : o.op = .load ty x) (g : Nat) (l : List Value) (hx : a.eval x = .pointer (some ⟨g, 0, none⟩)) {t : TypeId} (hB : Blk w g l t) (d : TypeDesc) (hu : P.underlying ty = some d)
    (hd : d.isRow = true) (hi : (P.info? ty).map (·.size) = some l.length) (h : wpListIn F n P ops Q rest (a.put o.dst (.agg l.toArray)) w) : wpListIn F n P ops Q (o :: rest) a w :=
  wpListIn_plain hgd fun K hK => wpIn_value (v := .agg l.toArray) (w' := w) (by simp [Oper.about, ho]) (by rw [ho]; intro c h; cases h)
    (by unfold execOp; simp only [ho, hx, Instr.loadAt, Instr.sureAddr, Sem.run_bind, Sem.run_pure, Result.andThen_ok, run_loadVar_mid w g 0 ty l d (blk_range hB) hu hd hi]) (hK _ _ h)
/-- the same of an operation behind a guard that lets it -/
theorem wpListIn_load_blkw (hw : Region.wanted o (yielded ops a.tmps) = true) (ty : TypeId) (x : Operand) (ho : o.op = .load ty x) (g : Nat) (l : List Value) (hx : a.eval x = .pointer (some ⟨g, 0, none⟩)) {t : TypeId} (hB : Blk w g l t) (d : TypeDesc) (hu : P.underlying ty = some d)
    (hd : d.isRow = true) (hi : (P.info? ty).map (·.size) = some l.length) (h : wpListIn F n P ops Q rest (a.put o.dst (.agg l.toArray)) w) : wpListIn F n P ops Q (o :: rest) a w :=
  wpListIn_step fun K hK => by
    rw [if_pos hw]
    exact wpIn_value (v := .agg l.toArray) (w' := w) (by simp [Oper.about, ho]) (by rw [ho]; intro c h; cases h)
      (by unfold execOp; simp only [ho, hx, Instr.loadAt, Instr.sureAddr, Sem.run_bind, Sem.run_pure, Result.andThen_ok, run_loadVar_mid w g 0 ty l d (blk_range hB) hu hd hi]) (hK _ _ h)
/-- a slice of one element of many cells -/
theorem wpListIn_buildSlice1 (hgd : o.guard = none) {t e : TypeId} {z : Value} {k bytes : Nat} (T : ElemT P t e z k bytes) (x : Operand) (ho : o.op = .buildSlice t 1 #[(0, x)]) (l : List Value) (hx : a.eval x = .agg l.toArray) (hs : l.length = k) (hk : k ≤ 16777216)
    (h : ∀ w', Blk w' w.heap.size l e → Below w.heap.size w w' → w.heap.size + 1 = w'.heap.size → wpListIn F n P ops Q rest (a.put o.dst (.slice (some ⟨w.heap.size, 0, none⟩) 1 1)) w') : wpListIn F n P ops Q (o :: rest) a w := by
  refine wpListIn_plain hgd fun K hK => wpIn_value (v := .slice (some ⟨w.heap.size, 0, none⟩) 1 1) (w' := w.alloc (.cells l.toArray e)) (by simp [Oper.about, ho]) (by rw [ho]; intro c h; cases h) ?_ (hK _ _ (h _ (Blk.new w _ _ _ rfl) (below_alloc _ _) (by simp)))
  have hr := Arr.run_buildSlice T [.agg l.toArray] (by simp [Value.cells, hs]) (by simpa using hk) (by simp) w
  simp at hr
  simp [execOp, ho, hx, hr, Value.cells, Result.andThen]
theorem wpListIn_append_arr (hgd : o.guard = none) (s x : Operand) (t : TypeId)
    (ho : o.op = .call { callee := .builtin .append, args := #[s, x], argTypes := #[t, t] }) (base : Nat) (e : TypeId) {z : Value} {k bytes : Nat} (T : ElemT P t e z k bytes)
    (v : Value) (xs : List (List Value)) (hs : a.eval s = v) (hown : Arr.OwnA k base e w v xs) {D : Nat → Prop} (y : Value) (ys : List (List Value)) (hx : a.eval x = y) (hy : Arr.Arr k D w y ys)
    (h1 : ∀ x ∈ ys, ∀ c ∈ x, c.oneCell' = true) (h63 : xs.length + ys.length ≤ maxLen) (hbytes : (xs.length + ys.length) * bytes ≤ 140737488355328) (hb : base ≤ w.heap.size) (m : Nat) (hn : m = xs.length + ys.length)
    (h : ∀ (a' : Option Addr) (cap' : Nat) (w' : World), Arr.OwnA k base e w' (.slice a' m cap') (xs ++ ys) → w.grownBy w' v.ownBlock → ((Value.slice a' m cap').ownBlock = v.ownBlock ∨ (Value.slice a' m cap').ownBlock = some w.heap.size) → wpListIn F n P ops Q rest (a.put o.dst (.slice a' m cap')) w') :
    wpListIn F n P ops Q (o :: rest) a w := by
  subst hn
  obtain ⟨a', cap', w', h0, q1, q2, q4⟩ := Arr.run_append_arr (P := P) w t o.type base e T v xs hown y ys hy h1 h63 hbytes hb
  refine wpListIn_plain hgd fun K hK => ?_
  unfold Oper.wpIn
  refine ⟨?_, ?_⟩
  · simp [Oper.about, ho, resolve, Target.leads, Sem.run_pure]
  · rw [Oper.semAt_plain F _ _ (by rw [ho]; intro c hc'; cases hc')]
    simp [execOp, ho, resolve, invoke, builtin, hs, hx, h0, Result.andThen]
    exact hK _ _ (h a' cap' w' q1 q2 q4)
end
end Go.Proofs.YtmenchnjajpkmaaGreatDoor.Ops
end

section
namespace Go.Proofs.YtmenchnjajpkmaaGreatDoor.WtIt
open Go Go.RowKit Mem Codec CodecR Iter Ops
set_option linter.unusedVariables false

/-- so many things, up to the first one that fails -/
def items {α : Type} (one : Rd → Rd × α) : Nat → Rd → List α × Rd
  | 0, r => ([], r)
  | n + 1, r => if (one r).1.e ≠ 0 then ([], (one r).1) else ((one r).2 :: (items one n (one r).1).1, (items one n (one r).1).2)
section
variable {α : Type} (one : Rd → Rd × α)
/-- where one is -/
def At (n : Nat) (r1 : Rd) (s : List α × Rd) : Prop := s.1.length ≤ n ∧ items one n r1 = (s.1 ++ (items one (n - s.1.length) s.2).1, (items one (n - s.1.length) s.2).2)
theorem At.start (n : Nat) (r1 : Rd) : At one n r1 ([], r1) := ⟨Nat.zero_le _, by simp⟩
theorem At.next {n : Nat} {r1 : Rd} {pre : List α} {r : Rd} (h : At one n r1 (pre, r)) (hl : pre.length < n) (he : (one r).1.e = 0) : At one n r1 (pre ++ [(one r).2], (one r).1) := by
  obtain ⟨_, h⟩ := h
  refine ⟨by simp; omega, ?_⟩
  rw [h]
  dsimp only
  obtain ⟨k, hk⟩ : ∃ k, n - pre.length = k + 1 := ⟨n - pre.length - 1, by omega⟩
  rw [hk, items, if_neg (by simp [he]), show n - (pre ++ [(one r).2]).length = k by simp; omega]
  simp
theorem At.fails {n : Nat} {r1 : Rd} {pre : List α} {r : Rd} (h : At one n r1 (pre, r)) (hl : pre.length < n) (he : (one r).1.e ≠ 0) : items one n r1 = (pre, (one r).1) := by
  obtain ⟨_, h⟩ := h
  rw [h]
  dsimp only
  obtain ⟨k, hk⟩ : ∃ k, n - pre.length = k + 1 := ⟨n - pre.length - 1, by omega⟩
  rw [hk, items, if_pos he]
  simp
theorem At.all {n : Nat} {r1 : Rd} {pre : List α} {r : Rd} (h : At one n r1 (pre, r)) (hl : ¬ pre.length < n) : items one n r1 = (pre, r) := by
  obtain ⟨_, h⟩ := h
  rw [h, show n - pre.length = 0 by omega]
  simp [items]
/-- what a round is told: the reader behind its thing, the thing -/
def Y (n : Nat) (r1 : Rd) (V : World → World → Value → α → Prop) (s s' : List α × Rd) (vs : Array Value) (A0 A : World) : Prop :=
  ∃ v, s.1.length < n ∧ At one n r1 s ∧ s' = (s.1 ++ [(one s.2).2], (one s.2).1) ∧ (one s.2).1.e = 0 ∧ vs = #[.int .i64 (s.1.length : Int), v] ∧ V A0 A v (one s.2).2
def It (D : Nat → Prop) (q b1 b2 b3 d1 d2 : Nat) (most : Int) (fv fk : Value) (s : List α × Rd) (A : World) : Prop :=
  ReaderIs D A q s.2 ∧ A.cell? ⟨b1, 0, none⟩ = some (.pointer (some ⟨q, 0, none⟩)) ∧ A.cell? ⟨b2, 0, none⟩ = some (.int .i64 most) ∧ A.cell? ⟨b3, 0, none⟩ = some fv ∧ A.cell? ⟨d1, 0, none⟩ = some fk ∧ A.cell? ⟨d2, 0, none⟩ = some (.pointer (some ⟨q, 0, none⟩))
def E (n : Nat) (r1 : Rd) (D : Nat → Prop) (q : Nat) (s : List α × Rd) (A : World) : Prop := ∃ r2, items one n r1 = (s.1, r2) ∧ ReaderIs D A q r2
end

def KV (A B : World) (v : Value) (x : List UInt8) : Prop := v = .agg (x.map byt).toArray ∧ x.length = 32
attribute [local go_sem] Oper.semAt_some
end Go.Proofs.YtmenchnjajpkmaaGreatDoor.WtIt
end

section
namespace Go.Proofs.YtmenchnjajpkmaaGreatDoor.Iter
open Go Go.RowKit Mem

theorem rangeSeq2 {σ : Type} {P : Program} {g : Operand} {ps : Array Tmp} {assign body : Code} {Q : Exit → Act → World → Prop} {a : Act} {w : World} {gf : Nat} {lb : Array Value}
    (hg : a.eval g = .func (.func gf) #[] lb) (eg : ∀ args w, (callFunc gf args).run P w = .ok (.enter gf args) w)
    {T : Nat → Prop} {It : σ → World → Prop} {Y : σ → σ → Array Value → World → World → Prop} {E : σ → World → Prop} {s0 : σ} (hseq : SeqC P gf lb T It Y E s0 w)
    (hT : ∀ k, T k → k < w.heap.size)
    (hIt : ∀ s A B, It s A → Fr (fun b => b = w.heap.size + 1) A B → It s B)
    (hY : ∀ s s' vs A0 A B, Y s s' vs A0 A → w.heap.size + 1 < A0.heap.size → Fr (fun b => b = w.heap.size + 1) A B → Y s s' vs A0 B)
    (hE : ∀ s A B, E s A → Fr (fun b => b = w.heap.size + 1) A B → E s B)
    (hps : ∀ s s' vs A0 A, Y s s' vs A0 A → vs.size = ps.size)
    (I : σ → World → Prop) (Ix : Code → σ → World → Prop)
    (hI : ∀ s A B, I s A → Fr (fun b => T b ∨ b = w.heap.size + 1) A B → I s B)
    (hIx : ∀ c s A B, Ix c s A → Fr (fun b => b = w.heap.size + 1) A B → Ix c s B)
    (h0 : I s0 w) (AS : Array Value → Act → World → Prop)
    (hAS : ∀ vs a A B, AS vs a A → Fr (fun b => b = w.heap.size + 1) A B → AS vs a B)
    (hassign : ∀ (l : Nat) (s s' : σ) (vs : Array Value) (A0 W : World) (K : Act → World → Prop), Y s s' vs A0 W → w.heap.size + 1 < W.heap.size → (∀ a W', AS vs a W' → Below W.heap.size W W' → K a W') →
      assign.wpIn (Fence.wide.inRound l) 0 P (Exit.then K (fun _ _ _ => False)) { tmps := (ps.zip vs).foldl (fun t (p, v) => t.setIfInBounds p v) a.tmps, defers := [] } W)
    (hbody : ∀ (s s' : σ) (vs : Array Value) (a' : Act) (A0 A : World), w.heap.size + 1 < A0.heap.size → I s A0 → Fr (fun b => T b ∨ b = w.heap.size + 1) A0 A → Y s s' vs A0 A → It s' A → AS vs a' A →
      body.wpIn (Fence.wide.inRound (w.heap.size + 1)) 0 P (roundEnd w.heap.size It I Ix s' A) a' A)
    (hdone : ∀ (s : σ) (W : World), E s W → I s W → W.heap[w.heap.size]? = some (.deferred (some [])) → Q .normal { a with defers := { target := .collected w.heap.size, args := #[] } :: a.defers } W)
    (hstop : ∀ (c : Code) (s : σ) (W : World), Ix c s W → W.heap[w.heap.size]? = some (.deferred (some [])) → c.wpIn Fence.wide 0 P Q { a with defers := { target := .collected w.heap.size, args := #[] } :: a.defers } W) :
    (Code.rangeFunc g ps assign body).wpIn Fence.wide 0 P Q a w := by
  refine wpIn_rangeFunc ?_
  intro fn hfn
  rw [show Fence.wide.round = none from rfl]
  obtain ⟨rec, hrec⟩ : ∃ rec : LoopState → Option Code → Loop, rec = fun st pe => { state := st, pending := pe, fn, tmps := a.tmps, params := ps, assign, body, defers := w.heap.size } := ⟨_, rfl⟩
  obtain ⟨W1, hW1⟩ : ∃ W1, (w.alloc (.deferred (some []))).alloc (.loop (rec .ready none)) = W1 := ⟨_, rfl⟩
  have hL1 : W1.heap[w.heap.size + 1]? = some (.loop (rec .ready none)) := by
    rw [← hW1]; have := World.alloc_heap_new (w.alloc (.deferred (some []))) (.loop (rec .ready none)); rwa [World.size_alloc] at this
  have hK1 : W1.heap[w.heap.size]? = some (.deferred (some [])) := by
    rw [← hW1]; exact (Below.heap_alloc _ _ _ (by simp)).trans (World.alloc_heap_new w _)
  have hb1 : Below w.heap.size w W1 := by
    rw [← hW1]; exact ((Below.refl _ w).alloc (Nat.le_refl _) _).alloc (by simp) _
  have hI1 : I s0 W1 := hI _ _ _ h0 (Fr.ofBelowAll hb1 (Nat.le_refl _))
  refine ⟨w.heap.size + 1, [{ target := .collected w.heap.size, args := #[] }], W1, { target := .fn (.func gf) lb, args := #[.func (.yield (w.heap.size + 1)) #[] #[]] }, W1, gf,
    #[.func (.yield (w.heap.size + 1)) #[] #[]] ++ lb, W1, ?_, ?_, ?_, ?_, fun h => by simp [Fence.wide] at h, ?_⟩
  · rw [← hW1, hrec]; exact run_enterLoop_outer _ _ _ _ _
  · simp only [resolve, hg]
    simp [go_sem]
  · intro f' _; trivial
  · simp [invoke, go_sem, eg]
  · refine (hseq (w.heap.size + 1)
      (fun s W => I s W ∧ W.heap[w.heap.size + 1]? = some (.loop (rec .ready none)) ∧ W.heap[w.heap.size]? = some (.deferred (some [])))
      (fun s W => ∃ c, Ix c s W ∧ W.heap[w.heap.size + 1]? = some (.loop (rec .done (some c))) ∧ W.heap[w.heap.size]? = some (.deferred (some [])))
      W1 hb1 (by rw [← hW1]; simp) ?_ ?_ ⟨hI1, hL1, hK1⟩).mono ?_
    · rintro s A B ⟨h1, h2, h3⟩ hf
      have hl := (Array.getElem?_eq_some_iff.1 h2).1
      exact ⟨hI _ _ _ h1 (hf.mono (fun k _ h => .inl h)), (hf.block _ hl (fun h => by have := hT _ h; omega)).trans h2, (hf.block _ (by omega) (fun h => by have := hT _ h; omega)).trans h3⟩
    · -- one round
      rintro s s' vs W0 W ⟨hi, hl0, hk0⟩ hf0 hYs hIt1
      have hlt0 : w.heap.size + 1 < W0.heap.size := (Array.getElem?_eq_some_iff.1 hl0).1
      have hl := (hf0.block _ hlt0 (fun h => by have := hT _ h; omega)).trans hl0
      have hk := (hf0.block _ (by omega : w.heap.size < W0.heap.size) (fun h => by have := hT _ h; omega)).trans hk0
      have hlt : w.heap.size + 1 < W.heap.size := (Array.getElem?_eq_some_iff.1 hl).1
      have hy := run_yield (P := P) (args := vs) hl (by rw [hrec]; exact hps _ _ _ _ _ hYs)
      rw [hrec] at hy
      refine ⟨fn, _, assign, body, hy, roundIn_of_wpIn hfn (hassign _ _ _ vs _ W _ hYs hlt (fun aA WA hA hbA => ⟨_, run_beginRound ((hbA.block _ hlt).trans hl) (by rw [hrec]), ?_⟩))⟩
      have hlA := (hbA.block _ hlt).trans hl
      have hkA := (hbA.block _ (by omega : w.heap.size < W.heap.size)).trans hk
      have hltA : w.heap.size + 1 < WA.heap.size := Nat.lt_of_lt_of_le hlt hbA.size
      have hl2 : (WA.putObj (w.heap.size + 1) (.loop { rec .ready none with state := .busy })).heap[w.heap.size + 1]? = some (.loop { rec .ready none with state := .busy }) := World.putObj_heap_same hltA
      have hk2 : (WA.putObj (w.heap.size + 1) (.loop { rec .ready none with state := .busy })).heap[w.heap.size]? = some (.deferred (some [])) := (World.putObj_heap_other (by omega)).trans hkA
      have hfb : ∀ (X : World) (o : Obj), Fr (fun b => b = w.heap.size + 1) X (X.putObj (w.heap.size + 1) o) := fun X o => Fr.putObj X _ o rfl
      refine wpIn_mono (hbody s s' vs aA W0 _ hlt0 hi ((hf0.mono (fun k _ h => .inl h)).trans ((Fr.ofBelowAll hbA (Nat.le_refl _)).trans ((hfb _ _).mono (fun k _ h => .inr h)))) (hY _ _ _ _ _ _ hYs hlt0 ((Fr.ofBelowAll hbA (Nat.le_refl _)).trans (hfb _ _))) (hIt _ _ _ hIt1 ((Fr.ofBelowAll hbA (Nat.le_refl _)).trans (hfb _ _))) (hAS _ _ _ _ hA (hfb _ _))) ?_
      have fin : ∀ (jump : Option Code) (W3 : World), Rec w.heap.size (WA.putObj (w.heap.size + 1) (.loop { rec .ready none with state := .busy })) W3 →
          (Instr.endRound (w.heap.size + 1) jump).run P W3 = .ok (.bool jump.isNone) (W3.putObj (w.heap.size + 1) (.loop (rec (if jump.isNone then .ready else .done) jump))) ∧
          (W3.putObj (w.heap.size + 1) (.loop (rec (if jump.isNone then .ready else .done) jump))).heap[w.heap.size + 1]? = some (.loop (rec (if jump.isNone then .ready else .done) jump)) ∧
          (W3.putObj (w.heap.size + 1) (.loop (rec (if jump.isNone then .ready else .done) jump))).heap[w.heap.size]? = some (.deferred (some [])) := fun jump W3 hk3 => by
        have hl3 := hk3.2.2.trans hl2
        have := run_endRound (P := P) jump hl3
        rw [hrec] at this ⊢
        exact ⟨this, World.putObj_heap_same (Array.getElem?_eq_some_iff.1 hl3).1, (World.putObj_heap_other (by omega)).trans (hk3.2.1.trans hk2)⟩
      rintro e a3 W3 hp
      cases e with
      | normal =>
        obtain ⟨hk3, hi3, hit3⟩ := hp
        obtain ⟨hr, hl4, hk4⟩ := fin none W3 hk3
        exact ⟨_, _, hr, .inl ⟨rfl, ⟨hI _ _ _ hi3 ((hfb _ _).mono (fun k _ h => .inr h)), hl4, hk4⟩, hIt _ _ _ hit3 (hfb _ _), by have := hk3.1; have h2 := hbA.size; simp at this ⊢; omega⟩⟩
      | ret =>
        obtain ⟨hk3, hi3⟩ := hp
        obtain ⟨hr, hl4, hk4⟩ := fin (some .ret) W3 hk3
        exact ⟨_, _, hr, .inr ⟨rfl, .ret, hIx _ _ _ _ hi3 (hfb _ _), hl4, hk4⟩⟩
      | exit id =>
        obtain ⟨hk3, hi3⟩ := hp
        obtain ⟨hr, hl4, hk4⟩ := fin (some (.exit id)) W3 hk3
        exact ⟨_, _, hr, .inr ⟨rfl, .exit id, hIx _ _ _ _ hi3 (hfb _ _), hl4, hk4⟩⟩
      | goto t =>
        obtain ⟨hk3, hi3⟩ := hp
        obtain ⟨hr, hl4, hk4⟩ := fin (some (.goto t)) W3 hk3
        exact ⟨_, _, hr, .inr ⟨rfl, .goto t, hIx _ _ _ _ hi3 (hfb _ _), hl4, hk4⟩⟩
      | panic ch => exact hp.elim
      | outgrown => exact hp.elim
    · -- behind the iterator
      have hfb : ∀ (X : World) (o : Obj), Fr (fun b => b = w.heap.size + 1) X (X.putObj (w.heap.size + 1) o) := fun X o => Fr.putObj X _ o rfl
      rintro e W2 ⟨⟨v, rfl⟩, (⟨s, hS, hi, hl, hk⟩ | ⟨s, c, hi, hl, hk⟩)⟩
      · exact ⟨none, _, by have := run_endLoop (P := P) hl (by rw [hrec]; simp); rw [hrec] at this; exact this, hdone s _ (hE _ _ _ hS (hfb _ _)) (hI _ _ _ hi ((hfb _ _).mono (fun k _ h => .inr h))) ((World.putObj_heap_other (by omega)).trans hk)⟩
      · exact ⟨some c, _, by have := run_endLoop (P := P) hl (by rw [hrec]; simp); rw [hrec] at this; exact this, hstop c s _ (hIx _ _ _ _ hi (hfb _ _)) ((World.putObj_heap_other (by omega)).trans hk)⟩
end Go.Proofs.YtmenchnjajpkmaaGreatDoor.Iter
end

section
namespace Go.Proofs.YtmenchnjajpkmaaGreatDoor.WtIt
open Go Go.RowKit Mem Codec CodecW CodecR Iter Arr Ops Wr
set_option linter.unusedVariables false

theorem dig_rest (r : Rd) : (Rd.dig r).1.rest.length ≤ r.rest.length := by
  unfold Rd.dig Rd.raw
  dsimp only
  rw [if_neg (by omega)]
  exact (Rd.take_len r _).1
theorem two_vals {vs : Array Value} (h : vs.size = 2) : ∃ a b, vs = #[a, b] := ⟨vs[0], vs[1], by
  apply Array.ext
  · simp [h]
  · intro i h1 h2
    simp only [List.size_toArray, List.length_cons, List.length_nil] at h2
    match i, h2 with
    | 0, _ => rfl
    | 1, _ => rfl⟩
/-- all, or none -/
def lst {α : Type} (p : List α × Rd) : List α := if p.2.e ≠ 0 then [] else p.1
theorem lst_len {α : Type} (one : Rd → Rd × α) : ∀ (n : Nat) (r : Rd), (items one n r).1.length ≤ n
  | 0, r => by simp [items]
  | n + 1, r => by
    unfold items
    split
    · simp
    · have := lst_len one n (one r).1
      simp only [List.length_cons]
      omega
def digs (l : List (List UInt8)) : List (List Value) := l.map (·.map byt)
theorem digs_snoc (l : List (List UInt8)) (x : List UInt8) : digs (l ++ [x]) = digs l ++ [x.map byt] := by simp [digs]
theorem digs_len (l : List (List UInt8)) : (digs l).length = l.length := by simp [digs]
theorem byts_inj : ∀ {d e : List UInt8}, d.map byt = e.map byt → d = e
  | [], [], _ => rfl
  | [], _ :: _, h => by cases h
  | _ :: _, [], h => by cases h
  | x :: d, y :: e, h => by
    simp only [List.map_cons, List.cons.injEq, Value.int.injEq, true_and] at h
    rw [byts_inj h.2, show x = y from UInt8.toNat_inj.1 (by omega)]
theorem arr1 {w : World} {g : Nat} {l : List Value} {e : TypeId} {k : Nat} (h : Blk w g l e) (hl : l.length = k) : Arr k Any w (.slice (some ⟨g, 0, none⟩) 1 1) [l] :=
  ⟨some ⟨g, 0, none⟩, 1, rfl, ⟨by simp, by unfold maxLen; omega, by simp⟩, by simpa using hl, .inr ⟨g, 0, rfl, trivial, fun i hi => by
    obtain rfl : i = 0 := by simpa using hi
    simpa using blk_range h⟩⟩
end Go.Proofs.YtmenchnjajpkmaaGreatDoor.WtIt
end

section
namespace Go.Proofs.YtmenchnjajpkmaaGreatDoor.WtIt
open Go Go.RowKit Mem Codec CodecW CodecR Iter Arr Ops Wr
set_option linter.unusedVariables false

theorem room_small (r : Rd) (most : Int) (h : most ≤ 65536) : (r.room most).2 ≤ 65536 := by
  unfold Rd.room Rd.var
  dsimp only
  repeat' split
  all_goals (first | exact Nat.zero_le _ | (dsimp only at *; omega))
/-- a list of keys, read -/
def Rd.keys (r : Rd) (most : Int) : Rd × List (List UInt8) := ((items Rd.dig (r.room most).2 (r.room most).1).2, lst (items Rd.dig (r.room most).2 (r.room most).1))
theorem kind_rest (r : Rd) (lo hi : Int) : (Wr.Rd.kind r lo hi).1.rest.length ≤ r.rest.length := by
  unfold Wr.Rd.kind Wr.Rd.must Rd.fail Rd.num
  dsimp only
  have h := (Rd.take_len r 1).1
  repeat' split
  all_goals exact h
/-- a federation, read: what is left, the number, the keys -/
def Rd.params (r : Rd) : Rd × Int × List (List UInt8) := ((Rd.keys (Wr.Rd.kind r 0 255).1 16).1, (Wr.Rd.kind r 0 255).2, (Rd.keys (Wr.Rd.kind r 0 255).1 16).2)
end Go.Proofs.YtmenchnjajpkmaaGreatDoor.WtIt
end

section
namespace Go.Proofs.YtmenchnjajpkmaaGreatDoor.WtIt
open Go Go.RowKit Mem Codec CodecW CodecR Iter Arr Ops Wr
set_option linter.unusedVariables false

/-- what is read of bytes: the number, the keys, the error -/
def gotP (l : List UInt8) : Int × List (List UInt8) × Int := if (Rd.params ⟨l, 0⟩).1.fin = 0 then ((Rd.params ⟨l, 0⟩).2.1, (Rd.params ⟨l, 0⟩).2.2, 0) else (0, [], 120)
theorem zeroR (w : World) : (zeroValue 106).run Tryz.prog w = .ok (.agg [.pointer none].toArray) w := by kernel_rfl
theorem one_two {x v : Value} (h1 : x.oneCell' = true) (h2 : v.oneCell' = true) : ∀ u ∈ [x, v], u.oneCell' = true := by
  intro u hu
  simp only [List.mem_cons, List.not_mem_nil, or_false] at hu
  rcases hu with rfl | rfl <;> assumption
theorem one_ptr (q : Nat) : ∀ u ∈ [Value.pointer (some ⟨q, 0, none⟩)], u.oneCell' = true := by
  intro u hu
  rw [List.mem_singleton.1 hu]; rfl
end Go.Proofs.YtmenchnjajpkmaaGreatDoor.WtIt
end

section
namespace Go.Proofs.YtmenchnjajpkmaaGreatDoor.Rr
open Go Go.RowKit Mem Codec Ops
set_option linter.unusedVariables false

/-- the reference's reader at block q, of the bytes B; r: what is left, and what is amiss -/
def RfR (w : World) (q : Nat) (a : Option Addr) (c : Nat) (B : List UInt8) (r : Rd) : Prop :=
  ∃ n, n ≤ B.length ∧ r.rest = B.drop n ∧ n = B.length - r.rest.length ∧ Blk w q [.slice a B.length c, .int .i64 (n : Int), .int .i64 r.e] 123 ∧ Byt (fun k => k ≠ q) w (.slice a B.length c) B
section
variable {w w' : World} {q : Nat} {a : Option Addr} {c : Nat} {B : List UInt8} {r : Rd}
theorem RfR.lt (h : RfR w q a c B r) : q < w.heap.size := h.choose_spec.2.2.2.1.lt
theorem RfR.below (h : RfR w q a c B r) (hb : Below w.heap.size w w') : RfR w' q a c B r := by
  obtain ⟨n, h1, h2, h3, h4, h5⟩ := h
  exact ⟨n, h1, h2, h3, h4.below hb, h5.below hb⟩
/-- the error is written over -/
theorem RfR.err (h : RfR w q a c B r) (e : Int) : RfR (w.setCell ⟨q, 2, none⟩ (.int .i64 e)) q a c B ⟨r.rest, e⟩ ∧ Fr (fun k => k = q) w (w.setCell ⟨q, 2, none⟩ (.int .i64 e)) ∧ w.cell? ⟨q, 2, none⟩ = some (.int .i64 r.e) ∧ w.frozen? ⟨q, 2, none⟩ = false := by
  obtain ⟨n, h1, h2, h3, h4, h5⟩ := h
  have hf : Fr (fun k => k = q) w (w.setCell ⟨q, 2, none⟩ (.int .i64 e)) := Fr.setCell (S := fun k => k = q) (p := ⟨q, 2, none⟩) (Fr.refl _ w) (.inr rfl) _
  exact ⟨⟨n, h1, h2, h3, by simpa using h4.set 2 (.int .i64 e), h5.fr hf (fun k _ h e => h e)⟩, hf, h4.cell rfl, h4.free 2⟩
end
set_option maxHeartbeats 4000000 in
theorem ok_calls (w : World) (q : Nat) (a : Option Addr) (c : Nat) (B : List UInt8) (r : Rd) (H : RfR w q a c B r) :
    Calls Tryz.prog 64 #[.pointer (some ⟨q, 0, none⟩)] w fun e w' => e = .returned (.bool (r.e == 0)) ∧ w = w' := by
  obtain ⟨n, h1, h2, h3, h4, h5⟩ := H
  have c2 := h4.cell (i := 2) rfl
  clear h1 h2 h3 h4 h5
  go_enter Tryz.func64, Tryz.ntmps64
  go_wp2
  go_ret
  exact ⟨rfl, rfl⟩
/-- its End, told as the wire's error -/
def finE (r : Rd) : Int := if r.fin = 0 then 0 else 120
set_option maxHeartbeats 4000000 in
theorem ended_calls (w : World) (q : Nat) (a : Option Addr) (c : Nat) (B : List UInt8) (r : Rd) (H : RfR w q a c B r) :
    Calls Tryz.prog 44 #[.pointer (some ⟨q, 0, none⟩)] w fun e w' => e = .returned (.int .i64 (finE r)) ∧ Below w.heap.size w w' := by
  obtain ⟨n, h1, h2, h3, h4, h5⟩ := H
  have HB := Lib.hid h4
  have HN := Lib.hid h1
  have HR := Lib.hid (show (⟨B.drop n, r.e⟩ : Rd) = r by rw [← h2])
  obtain ⟨fe, hfe⟩ : ∃ x, finE r = x := ⟨_, rfl⟩
  have HFE := Lib.hid hfe
  rw [hfe]
  clear h1 h2 h3 h4 h5 hfe
  go_enter Tryz.func44, Tryz.ntmps44
  go_wp2_with (first | (with_reducible refine wpList_load_blk rfl _ _ rfl q [.slice a B.length c, .int .i64 (n : Int), .int .i64 r.e] rfl HB.out _ Tryz.underlying121 rfl (by kernel_rfl) ?_))
  refine (CodecRef.end_calls w a c B n r.e HN.out).mono ?_
  rintro e w1 ⟨rfl, g1⟩
  rw [HR.out]
  have G1 := Lib.hid g1
  clear g1 HB
  by_cases hf : r.fin = 0
  · have hf2 : (r.fin != 0) = false := by simp [hf]
    have HX := Lib.hid (show fe = 0 by rw [← HFE.out]; exact if_pos hf)
    clear hf
    go_wp2
    go_ret
    exact ⟨by rw [HX.out]; rfl, G1.out⟩
  · have hf2 : (r.fin != 0) = true := by simpa using hf
    have HX := Lib.hid (show fe = 120 by rw [← HFE.out]; exact if_neg hf)
    clear hf
    go_wp2
    go_ret
    exact ⟨by rw [HX.out]; rfl, G1.out⟩
set_option maxHeartbeats 4000000 in
theorem begin_calls (D : Nat → Prop) (w : World) (a : Option Addr) (c : Nat) (B : List UInt8) (hB : Byt D w (.slice a B.length c) B) :
    Calls Tryz.prog 42 #[.slice a B.length c] w fun e w' => e = .returned (.pointer (some ⟨w.heap.size, 0, none⟩)) ∧ RfR w' w.heap.size a c B ⟨B, 0⟩ ∧ Below w.heap.size w w' := by
  have HB := Lib.hid hB
  clear hB
  go_enter Tryz.func42, Tryz.ntmps42
  go_wp2
  go_ret
  exact ⟨rfl, ⟨0, Nat.zero_le _, by simp, by simp, Blk.new w _ _ _ rfl, (HB.out.lt.mono (fun k _ h => by have := h.1; omega)).below (below_alloc _ _)⟩, below_alloc _ _⟩
end Go.Proofs.YtmenchnjajpkmaaGreatDoor.Rr
end

section
namespace Go.Proofs.YtmenchnjajpkmaaGreatDoor.Rr
open Go Go.RowKit Mem Codec Ops
set_option linter.unusedVariables false

/-- noughts where there are none -/
def pad (n : Nat) (l : List UInt8) : List UInt8 := if l.length < n then List.replicate n 0 else l
theorem mc (n : Nat) : ∀ j (h : j < (List.replicate n (0 : UInt8)).length), (madeCells #[.int .u8 0] n)[j]? = some (byt ((List.replicate n (0 : UInt8))[j]'h)) := by
  intro j hj
  have hj' : j < n := by simpa using hj
  simp [madeCells, hj']
  rw [show j % 1 = 0 by omega]
  rfl
theorem zeroR11 (w : World) : (zeroValue 121).run Tryz.prog w = .ok (.agg [.slice none 0 0, .int .i64 0, .int .i64 0].toArray) w := by kernel_rfl
theorem one3 {a b c : Value} (ha : a.oneCell' = true) (hb : b.oneCell' = true) (hc : c.oneCell' = true) : ∀ u ∈ [a, b, c], u.oneCell' = true := by
  intro u hu
  simp only [List.mem_cons, List.not_mem_nil, or_false] at hu
  rcases hu with rfl | rfl | rfl <;> assumption
set_option maxHeartbeats 8000000 in
set_option maxRecDepth 100000 in
theorem raw_calls (w : World) (q : Nat) (a : Option Addr) (c : Nat) (B : List UInt8) (r : Rd) (n : Nat) (hn : n ≤ 1048576) (H : RfR w q a c B r) (hl : B.length ≤ 140737488355328) :
    Calls Tryz.prog 87 #[.pointer (some ⟨q, 0, none⟩), .int .i64 (n : Int)] w fun e w' => ∃ v, e = .returned v ∧ Byt (fun k => w.heap.size ≤ k) w' v (pad n (r.raw n).2) ∧ RfR w' q a c B (r.raw n).1 ∧ Fr (fun k => k = q) w w' := by
  obtain ⟨at', h1, h2, h3, h4, h5⟩ := H
  have hql := h4.lt
  have HB := Lib.hid h4
  have HY := Lib.hid h5
  have hr : (⟨B.drop at', r.e⟩ : Rd) = r := by rw [← h2]
  have HRW := Lib.hid (CodecRef.raw_calls w a c B at' r.e n (h5.mono (fun _ _ _ => trivial)) h1 hl (by omega) (by omega))
  rw [hr] at HRW
  have HSF := Lib.hid (show (r.raw n).1.rest = B.drop (B.length - (r.raw n).1.rest.length) ∧ B.length - (r.raw n).1.rest.length ≤ B.length from by
    have hx : ∃ k, (r.raw n).1.rest = (B.drop at').drop k := by
      rw [← h2]
      unfold Rd.raw
      rw [if_neg (by omega)]
      exact CodecRef.Rd.take_suf r _
    have := CodecRef.suf_at hx h1
    exact ⟨this.1, this.2.1⟩)
  obtain ⟨s, hs⟩ : ∃ s, (r.raw n).1 = s := ⟨_, rfl⟩
  obtain ⟨x, hx⟩ : ∃ x, (r.raw n).2 = x := ⟨_, rfl⟩
  rw [hs] at HRW HSF
  rw [hx] at HRW
  rw [hs, hx]
  clear h1 h2 h3 h4 h5 hr hs hx
  go_enter Tryz.func87, Tryz.ntmps87
  go_wp2_with (first | (with_reducible refine wpList_load_blk rfl _ _ rfl q [.slice a B.length c, .int .i64 (at' : Int), .int .i64 r.e] rfl HB.out _ Tryz.underlying121 rfl (by kernel_rfl) ?_))
  refine HRW.out.mono ?_
  rintro e w1 ⟨v, rfl, g1, g2⟩
  have G1 := Lib.hid g1
  have G2 := Lib.hid g2
  have HB1 := Lib.hid (HB.out.below g2)
  have HY1 := Lib.hid (HY.out.below g2)
  have hs1 := g2.size
  obtain ⟨va, vc, hve, _⟩ := id g1
  subst hve
  clear g1 g2 HB HY HRW
  go_upto_region 3 with (first
    | ((with_reducible refine wpList_alloc rfl _ rfl _ (zeroR11 _) (fun wa ka ca za => ?_)); have KA := Lib.hid ka; have CA := Lib.hid ca; have HB2 := Lib.hid (HB1.out.below ca); clear ka ca)
    | ((with_reducible refine wpList_put rfl _ _ _ rfl w1.heap.size [.slice a B.length c, .int .i64 ((B.length - s.rest.length : Nat) : Int), .int .i64 s.e] _ rfl rfl KA.out (by kernel_rfl) rfl (one3 rfl rfl rfl) (fun wb kb fb zb => ?_)); have KB := Lib.hid kb; have CB := Lib.hid (CA.out.trans (fb.below CA.out.size (fun k (hk : k = _) => by omega))); have HB3 := Lib.hid (HB2.out.fr fb (by omega)); clear kb fb)
    | (with_reducible refine wpList_load_blk rfl _ _ rfl w1.heap.size [.slice a B.length c, .int .i64 ((B.length - s.rest.length : Nat) : Int), .int .i64 s.e] rfl KB.out _ Tryz.underlying121 rfl (by kernel_rfl) ?_)
    | ((with_reducible refine wpList_put rfl _ _ _ rfl q [.slice a B.length c, .int .i64 ((B.length - s.rest.length : Nat) : Int), .int .i64 s.e] _ rfl rfl HB3.out (by kernel_rfl) rfl (one3 rfl rfl rfl) (fun wc kc fc zc => ?_)); have KC := Lib.hid kc; have FC := Lib.hid fc; clear kc fc))
  have F1 := Lib.hid (((Fr.ofBelowAll (G2.out.trans (CB.out.mono hs1)) (Nat.le_refl _) : Fr (fun k => k = q) w _)).trans FC.out)
  have X1 := Lib.hid (show RfR _ q a c B s from ⟨B.length - s.rest.length, HSF.out.2, HSF.out.1, rfl, KC.out, (HY1.out.below CB.out).fr FC.out (fun k _ h e => h e)⟩)
  have V1 := Lib.hid ((G1.out.below CB.out).fr FC.out (fun k _ (h : w.heap.size ≤ k) (e : k = q) => by omega))
  have hsz := F1.out.size
  clear G1 G2 HB1 HY1 HB2 HB3 KA KB KC CA CB FC HSF
  by_cases hlt : x.length < n
  · have HP := Lib.hid (show pad n x = List.replicate n 0 from if_pos hlt)
    have hltI : (x.length : Int) < (n : Int) := by omega
    obtain ⟨i, hi, hz, hsz1, hby⟩ := (CodecW.elemB).info
    have hmk : Byt (fun k => w.heap.size ≤ k) (wc.alloc (.cells (madeCells #[.int .u8 0] n) 5)) (.slice (some ⟨wc.heap.size, 0, none⟩) n n) (List.replicate n 0) :=
      (Byt.newBlock (D := fun k => k = wc.heap.size) wc _ _ _ (List.replicate n 0) n n (by simp) ⟨by simp, by unfold maxLen; omega⟩ rfl (mc n)).mono (fun k _ h => by have h : k = wc.heap.size := h; omega)
    have HM := Lib.hid hmk
    have X2 := Lib.hid (X1.out.below (below_alloc wc (.cells (madeCells #[.int .u8 0] n) 5)))
    have F2 := Lib.hid (F1.out.alloc (.cells (madeCells #[.int .u8 0] n) 5))
    clear hmk X1 F1 V1 zc zb za
    go_wp2_with (first | refine wpList_make_row _ rfl _ _ 25 rfl 5 i (.int .u8 0) Tryz.underlying25 hi hz hsz1 rfl .i64 .i64 n rfl rfl (by rw [hby]; omega) (by omega) ?_)
    go_ret
    exact ⟨_, rfl, by rw [HP.out]; exact HM.out, X2.out, F2.out⟩
  · have HP := Lib.hid (show pad n x = x from if_neg hlt)
    have hltI : ¬ ((x.length : Int) < (n : Int)) := by omega
    go_wp2
    go_ret
    exact ⟨_, rfl, by rw [HP.out]; exact V1.out, X1.out, F1.out⟩
end Go.Proofs.YtmenchnjajpkmaaGreatDoor.Rr
end

section
namespace Go.Proofs.YtmenchnjajpkmaaGreatDoor.Rr
open Go Go.RowKit Mem Codec Ops
set_option linter.unusedVariables false

theorem said_noughts : ∀ n, said (List.replicate n (0 : UInt8)) = 0
  | 0 => rfl
  | n + 1 => by
    rw [List.replicate_succ', said_snoc, said_noughts n]
    rfl
theorem said_pad (r : Rd) (k : Nat) : said (pad k (r.raw k).2) = (r.num k).2 ∧ (r.raw k).1 = (r.num k).1 := by
  have e : r.raw k = r.take k := by unfold Rd.raw; rw [if_neg (by omega)]; simp
  rw [e]
  refine ⟨?_, rfl⟩
  unfold Rd.num pad
  dsimp only
  split
  · rename_i h
    rw [said_noughts]
    have : (r.take k).2 = [] := by
      unfold Rd.take at h ⊢
      split
      · rfl
      · split
        · rfl
        · rename_i h1 h2
          rw [if_neg h1, if_neg h2] at h
          simp at h
          omega
    rw [this]; rfl
  · rfl
set_option maxHeartbeats 4000000 in
theorem number_calls (w : World) (q : Nat) (a : Option Addr) (c : Nat) (B : List UInt8) (r : Rd) (k : Nat) (hk : k ≤ 8) (H : RfR w q a c B r) (hl : B.length ≤ 140737488355328) :
    Calls Tryz.prog 62 #[.pointer (some ⟨q, 0, none⟩), .int .i64 (k : Int)] w fun e w' => e = .returned (.int .u64 ((r.num k).2 : Int)) ∧ RfR w' q a c B (r.num k).1 ∧ Fr (fun k => k = q) w w' := by
  have H0 := Lib.hid H
  have HS := Lib.hid (said_pad r k)
  obtain ⟨z, hz⟩ : ∃ z, (r.num k).2 = z := ⟨_, rfl⟩
  obtain ⟨s, hs⟩ : ∃ s, (r.num k).1 = s := ⟨_, rfl⟩
  rw [hz, hs] at HS ⊢
  clear H hz hs
  go_enter Tryz.func62, Tryz.ntmps62
  go_wp2_with fail
  refine (raw_calls w q a c B r k (by omega) H0.out hl).mono ?_
  rintro e w1 ⟨v, rfl, o1, o2, o3⟩
  rw [HS.out.2] at o2
  have O1 := Lib.hid o1
  have O2 := Lib.hid o2
  have O3 := Lib.hid o3
  clear o1 o2 o3 H0
  go_wp2_with fail
  refine (CodecRef.said_calls _ w1 v _ O1.out).mono ?_
  rintro e w2 ⟨rfl, rfl⟩
  rw [HS.out.1]
  go_wp2
  go_ret
  exact ⟨rfl, O2.out, O3.out⟩
end Go.Proofs.YtmenchnjajpkmaaGreatDoor.Rr
end

section
namespace Go.Proofs.YtmenchnjajpkmaaGreatDoor.Rr
open Go Go.RowKit Mem Codec Ops
set_option linter.unusedVariables false

end Go.Proofs.YtmenchnjajpkmaaGreatDoor.Rr
end

section
namespace Go.Proofs.YtmenchnjajpkmaaGreatDoor.Rr
open Go Go.RowKit Mem Codec Ops
set_option linter.unusedVariables false

theorem pad32 (r : Rd) : pad 32 (r.raw 32).2 = (Wr.Rd.dig r).2 := by
  unfold pad Wr.Rd.dig
  dsimp only
  rcases Wr.raw32_len r with h | h
  · rw [if_neg (by omega), if_pos h]
  · rw [h]; rfl
/-- the first i bytes are laid -/
def half (d : List UInt8) (i : Nat) : List Value := (d.take i).map byt ++ List.replicate (32 - i) (.int .u8 0)
theorem half_next {d : List UInt8} (hd : d.length = 32) {i : Nat} (hi : i < 32) : (half d i)[i]? = some (.int .u8 0) := by
  unfold half
  have hl : ((d.take i).map byt).length = i := by simp; omega
  rw [List.getElem?_append_right (by omega), hl, Nat.sub_self, List.getElem?_replicate, if_pos (by omega)]
theorem half_set {d : List UInt8} (hd : d.length = 32) {i : Nat} (hi : i < 32) : (half d i).set i (byt (d[i]'(by omega))) = half d (i + 1) := by
  unfold half
  apply List.ext_getElem?
  intro j
  rw [List.getElem?_set]
  simp only [List.getElem?_append, List.length_map, List.length_take, List.length_append, List.length_replicate, hd, Nat.min_eq_left (Nat.le_of_lt hi), Nat.min_eq_left hi, List.getElem?_map, List.getElem?_take, List.getElem?_replicate]
  by_cases h1 : i = j
  · subst h1
    simp [hi, hd]
    omega
  · by_cases h2 : j < i
    · simp [h1, h2, show j < i + 1 by omega]
    · simp [h1, h2, show ¬ j < i + 1 by omega]
      by_cases h3 : j < 32
      · simp [show j - i < 32 - i by omega]
        omega
      · simp [show ¬ j - i < 32 - i by omega]
        omega
set_option maxHeartbeats 4000000 in
set_option maxRecDepth 100000 in
theorem digest_calls (w : World) (q : Nat) (a : Option Addr) (c : Nat) (B : List UInt8) (r : Rd) (H : RfR w q a c B r) (hl : B.length ≤ 140737488355328) :
    Calls Tryz.prog 65 #[.pointer (some ⟨q, 0, none⟩)] w fun e w' => e = .returned (.agg ((Wr.Rd.dig r).2.map byt).toArray) ∧ RfR w' q a c B (Wr.Rd.dig r).1 ∧ Fr (fun k => k = q) w w' := by
  have hql := H.lt
  have H0 := Lib.hid H
  have HP := Lib.hid (pad32 r)
  have HDL := Lib.hid (Wr.Rd.dig_len r)
  have HD1 := Lib.hid (show (Wr.Rd.dig r).1 = (r.raw 32).1 from rfl)
  obtain ⟨d, hd⟩ : ∃ d, (Wr.Rd.dig r).2 = d := ⟨_, rfl⟩
  rw [hd] at HP HDL ⊢
  rw [HD1.out]
  clear H hd
  go_enter Tryz.func65, Tryz.ntmps65
  go_upto_region 1 with (first
    | ((with_reducible refine wpList_alloc rfl _ rfl _ (Wr.zeroD _) (fun wa ka ca za => ?_)); have KA := Lib.hid ka; have CA := Lib.hid ca; clear ka ca))
  go_wp2_with fail
  refine (raw_calls wa q a c B r 32 (by omega) (H0.out.below CA.out) hl).mono ?_
  rintro e wb ⟨v, rfl, o1, o2, o3⟩
  rw [show ((32 : Nat) : Int) = 32 from rfl] at o1 o2
  rw [HP.out] at o1
  have O1 := Lib.hid o1
  have O2 := Lib.hid o2
  have KB := Lib.hid (KA.out.fr o3 (by omega))
  have F1 := Lib.hid ((Fr.ofBelowAll CA.out (Nat.le_refl _) : Fr (fun k => k = q) w wa).trans o3)
  have hsb := o3.size
  obtain ⟨va, vc, hve, hx⟩ := id o1
  subst hve
  have hne : d ≠ [] := fun e => by have := HDL.out; rw [e] at this; simp at this
  obtain ⟨b, off, rfl, hb1, hb2⟩ := hx.2.resolve_left hne
  have HLS := Lib.hid hb2
  have hbl : b < wb.heap.size := World.block_lt_of_cell? _ _ (hb2 0 (by have := HDL.out; omega))
  clear o1 o2 o3 KA CA hx hb2
  go_upto_region 3 with (first
    | ((with_reducible refine wpList_alloc rfl _ rfl _ (Wr.zeroD _) (fun wc kc cc zc => ?_)); have KC := Lib.hid kc; have CC := Lib.hid cc; clear kc cc))
  have hd32 : d.length = 32 := HDL.out
  have K0 := Lib.hid (show Blk wc wb.heap.size (half d 0) 24 from by have := KC.out; simpa [half] using this)
  obtain ⟨gd, hgd⟩ : ∃ g, wb.heap.size = g := ⟨_, rfl⟩
  rw [hgd] at K0 hbl
  have hgdl : gd < wc.heap.size := K0.out.lt
  have BB := Lib.hid (show Below gd wb wc from hgd ▸ CC.out)
  clear KC CC
  go_wp2
  go_loopw [5] (fun i' wx => ∃ i : Nat, i ≤ 32 ∧ i' = .int .i64 (i : Int) ∧ Blk wx gd (half d i) 24 ∧ Below gd wb wx) (fun i' _ => 32 - (intOf i').toNat)
  case atStart => exact ⟨0, Nat.zero_le _, rfl, K0.out, BB.out⟩
  case round =>
    obtain ⟨i, hi, rfl, hK, hB⟩ := hrel
    have HK := Lib.hid hK
    have HBx := Lib.hid hB
    by_cases hlt : i < 32
    · have c1 : wr.cell? ⟨b, off + i, none⟩ = some (byt (d[i]'(by omega))) := (hB.cell hbl).trans (HLS.out i (by omega))
      have c2 := hK.cell (i := i) (v := .int .u8 0) (half_next hd32 hlt)
      have f2 := hK.free i
      have HN := Lib.hid (half_set hd32 hlt)
      have hltI : (i : Int) < 32 := by omega
      have hltD : (i : Int) < (d.length : Int) := by omega
      have HS := Lib.hid (hK.set i (byt (d[i]'(by omega))))
      have HB2 := Lib.hid (show Below gd wb (wr.setCell ⟨gd, i, none⟩ (byt (d[i]'(by omega)))) from hB.trans ((Fr.setCell (S := fun k => k = gd) (p := ⟨gd, i, none⟩) (Fr.refl _ wr) (.inr rfl) _).below (by have := hK.lt; omega) (fun k (hk : k = gd) => by omega)))
      clear hK hB
      go_wp2
      go_roundw
      case rel => exact ⟨i + 1, by omega, by go_num, by rw [← HN.out]; exact HS.out, HB2.out⟩
      case measure => simp [intOf]; omega
    · obtain rfl : i = 32 := by omega
      have HD := Lib.hid (show Blk wr gd (d.map byt) 24 from by have := hK; unfold half at this; rw [List.take_of_length_le (by omega)] at this; simpa using this)
      have KR := Lib.hid (KB.out.fr (Fr.ofBelow hB) (by show ¬ gd ≤ w.heap.size; omega))
      have SZ := Lib.hid (Ww.szD HDL.out)
      have FR := Lib.hid (F1.out.trans (Fr.ofBelowAll hB (by omega)))
      have OR := Lib.hid (O2.out.below (hgd ▸ hB))
      clear hK hB HK HBx
      go_wp2_with (first
        | (with_reducible refine wpList_load_blk rfl _ _ rfl gd (d.map byt) rfl HD.out _ Tryz.underlying24 rfl SZ.out ?_)
        | ((with_reducible refine wpList_put rfl _ _ _ rfl w.heap.size (d.map byt) _ rfl rfl KR.out SZ.out (by simp [HDL.out]) (Wt.oneK _) (fun we ke fe ze => ?_)); have KE := Lib.hid ke; have FE := Lib.hid fe; clear ke fe))
      exact bodyPost_ret (v := .agg (d.map byt).toArray) (results_row1 Tryz.results65 _ _ w.heap.size _ _ rfl KE.out Tryz.underlying24 rfl SZ.out) rfl ⟨rfl, (by
        obtain ⟨n, p1, p2, p3, p4, p5⟩ := OR.out
        obtain ⟨_, _, _, _, _, y5⟩ := H0.out
        have hfe : Fr (fun k => k = q) w we := FR.out.trans' FE.out (fun i hi (e : i = w.heap.size) => by omega)
        exact ⟨n, p1, p2, p3, p4.fr FE.out (by omega), y5.fr hfe (fun k _ h e => h e)⟩), FR.out.trans' FE.out (fun i hi (e : i = w.heap.size) => by omega)⟩
end Go.Proofs.YtmenchnjajpkmaaGreatDoor.Rr
end

section
namespace Go.Proofs.YtmenchnjajpkmaaGreatDoor.Rr
open Go Go.RowKit Mem Codec Ops
set_option linter.unusedVariables false

theorem var_le (r : Rd) (most : Nat) : (r.var most).2 ≤ most := by
  unfold Rd.var
  dsimp only
  repeat' split
  all_goals (first | exact Nat.zero_le _ | omega)
set_option maxHeartbeats 8000000 in
set_option maxRecDepth 100000 in
theorem many_calls (w : World) (q : Nat) (a : Option Addr) (c : Nat) (B : List UInt8) (r : Rd) (most : Nat) (hm : most ≤ 1048576) (H : RfR w q a c B r) (hl : B.length ≤ 140737488355328) :
    Calls Tryz.prog 63 #[.pointer (some ⟨q, 0, none⟩), .int .i64 (most : Int)] w fun e w' => e = .returned (.int .i64 ((r.var most).2 : Int)) ∧ RfR w' q a c B (r.var most).1 ∧ Fr (fun k => k = q) w w' := by
  obtain ⟨at', h1, h2, h3, h4, h5⟩ := H
  have hql := h4.lt
  have HB := Lib.hid h4
  have HY := Lib.hid h5
  have hr : (⟨B.drop at', r.e⟩ : Rd) = r := by rw [← h2]
  have HRW := Lib.hid (CodecRef.getvar_calls w a c B at' r.e most false (h5.mono (fun _ _ _ => trivial)) h1 hl (by omega))
  rw [hr, Rd.rvar_false] at HRW
  have HSF := Lib.hid (show (r.var most).1.rest = B.drop (B.length - (r.var most).1.rest.length) ∧ B.length - (r.var most).1.rest.length ≤ B.length from by
    have hx : ∃ k, (r.var most).1.rest = (B.drop at').drop k := by
      rw [← h2]
      exact CodecRef.Rd.var_suf r most
    have := CodecRef.suf_at hx h1
    exact ⟨this.1, this.2.1⟩)
  obtain ⟨s, hs⟩ : ∃ s, (r.var most).1 = s := ⟨_, rfl⟩
  obtain ⟨x, hx⟩ : ∃ x : Nat, (r.var most).2 = x := ⟨_, rfl⟩
  have hxl : x ≤ 1048576 := by rw [← hx]; exact Nat.le_trans (var_le r most) hm
  have hcv : IntKind.i64.wrap (x : Int) = (x : Int) := by rw [IntKind.wrap_i64]; omega
  rw [hs] at HRW HSF
  rw [hx] at HRW
  rw [hs, hx]
  clear h1 h2 h3 h4 h5 hr hs hx
  go_enter Tryz.func63, Tryz.ntmps63
  go_wp2_with (first | (with_reducible refine wpList_load_blk rfl _ _ rfl q [.slice a B.length c, .int .i64 (at' : Int), .int .i64 r.e] rfl HB.out _ Tryz.underlying121 rfl (by kernel_rfl) ?_))
  refine HRW.out.mono ?_
  rintro e w1 ⟨rfl, g2⟩
  have G2 := Lib.hid g2
  have HB1 := Lib.hid (HB.out.below g2)
  have HY1 := Lib.hid (HY.out.below g2)
  have hs1 := g2.size
  clear g2 HB HY HRW
  go_upto_region 3 with (first
    | ((with_reducible refine wpList_alloc rfl _ rfl _ (zeroR11 _) (fun wa ka ca za => ?_)); have KA := Lib.hid ka; have CA := Lib.hid ca; have HB2 := Lib.hid (HB1.out.below ca); clear ka ca)
    | ((with_reducible refine wpList_put rfl _ _ _ rfl w1.heap.size [.slice a B.length c, .int .i64 ((B.length - s.rest.length : Nat) : Int), .int .i64 s.e] _ rfl rfl KA.out (by kernel_rfl) rfl (one3 rfl rfl rfl) (fun wb kb fb zb => ?_)); have KB := Lib.hid kb; have CB := Lib.hid (CA.out.trans (fb.below CA.out.size (fun k (hk : k = _) => by omega))); have HB3 := Lib.hid (HB2.out.fr fb (by omega)); clear kb fb)
    | (with_reducible refine wpList_load_blk rfl _ _ rfl w1.heap.size [.slice a B.length c, .int .i64 ((B.length - s.rest.length : Nat) : Int), .int .i64 s.e] rfl KB.out _ Tryz.underlying121 rfl (by kernel_rfl) ?_)
    | ((with_reducible refine wpList_put rfl _ _ _ rfl q [.slice a B.length c, .int .i64 ((B.length - s.rest.length : Nat) : Int), .int .i64 s.e] _ rfl rfl HB3.out (by kernel_rfl) rfl (one3 rfl rfl rfl) (fun wc kc fc zc => ?_)); have KC := Lib.hid kc; have FC := Lib.hid fc; clear kc fc))
  have F1 := Lib.hid (((Fr.ofBelowAll (G2.out.trans (CB.out.mono hs1)) (Nat.le_refl _) : Fr (fun k => k = q) w _)).trans FC.out)
  have X1 := Lib.hid (show RfR _ q a c B s from ⟨B.length - s.rest.length, HSF.out.2, HSF.out.1, rfl, KC.out, (HY1.out.below CB.out).fr FC.out (fun k _ h e => h e)⟩)
  have hsz := F1.out.size
  clear G2 HB1 HY1 HB2 HB3 KA KB KC CA CB FC HSF
  go_wp2
  go_ret
  exact ⟨rfl, X1.out, F1.out⟩
end Go.Proofs.YtmenchnjajpkmaaGreatDoor.Rr
end

section
namespace Go.Proofs.YtmenchnjajpkmaaGreatDoor.Reps
open Go Go.RowKit Mem Row Arr Ops
set_option linter.unusedVariables false

/-- both lists, one by one -/
inductive All2 {α β : Type} (R : α → β → Prop) : List α → List β → Prop
  | nil : All2 R [] []
  | cons {a b l m} : R a b → All2 R l m → All2 R (a :: l) (b :: m)
section
variable {α β : Type} {R R' : α → β → Prop}
theorem All2.length {l : List α} {m : List β} (h : All2 R l m) : l.length = m.length := by
  induction h with
  | nil => rfl
  | cons _ _ ih => simp [ih]
theorem All2.imp {l : List α} {m : List β} (h : All2 R l m) (hi : ∀ a b, R a b → R' a b) : All2 R' l m := by
  induction h with
  | nil => exact .nil
  | cons h1 _ ih => exact .cons (hi _ _ h1) ih
theorem All2.append {l l' : List α} {m m' : List β} (h : All2 R l m) (h' : All2 R l' m') : All2 R (l ++ l') (m ++ m') := by
  induction h with
  | nil => exact h'
  | cons h1 _ ih => exact .cons h1 ih
theorem All2.snoc {l : List α} {m : List β} {a : α} {b : β} (h : All2 R l m) (h1 : R a b) : All2 R (l ++ [a]) (m ++ [b]) := h.append (.cons h1 .nil)
theorem All2.get {l : List α} {m : List β} (h : All2 R l m) : ∀ (i : Nat) (hi : i < l.length) (hj : i < m.length), R (l[i]'hi) (m[i]'hj) := by
  induction h with
  | nil => intro i hi; simp at hi
  | cons h1 _ ih =>
    intro i hi hj
    cases i with
    | zero => exact h1
    | succ i => exact ih i (by simpa using hi) (by simpa using hj)
theorem All2.left {l : List α} {m : List β} (h : All2 R l m) {a : α} (ha : a ∈ l) : ∃ b, b ∈ m ∧ R a b := by
  induction h with
  | nil => cases ha
  | cons h1 _ ih =>
    rcases List.mem_cons.1 ha with rfl | ha
    · exact ⟨_, by simp, h1⟩
    · obtain ⟨b, h2, h3⟩ := ih ha; exact ⟨b, by simp [h2], h3⟩
theorem All2.ofMap {γ : Type} (f : γ → α) (g : γ → β) : ∀ (l : List γ), (∀ x ∈ l, R (f x) (g x)) → All2 R (l.map f) (l.map g)
  | [], _ => .nil
  | x :: r, h => .cons (h x (by simp)) (All2.ofMap f g r (fun y hy => h y (by simp [hy])))
end

/-- a way in which so many cells read as plain data, whose memory lies in blocks of D -/
structure Rep {α : Type} (k : Nat) (R : (Nat → Prop) → World → List Value → α → Prop) : Prop where
  pos : 0 < k
  len : ∀ {D w cs x}, R D w cs x → cs.length = k
  one : ∀ {D w cs x}, R D w cs x → ∀ v ∈ cs, v.oneCell' = true
  fr : ∀ {D S w w' cs x}, R D w cs x → Fr S w w' → (∀ b, b < w.heap.size → D b → ¬ S b) → R D w' cs x
  mono : ∀ {D E w cs x}, R D w cs x → (∀ b, b < w.heap.size → D b → E b) → R E w cs x
section
variable {α β : Type} {k : Nat} {R : (Nat → Prop) → World → List Value → α → Prop}
theorem Rep.below (T : Rep k R) {D : Nat → Prop} {w w' : World} {cs : List Value} {x : α} (h : R D w cs x) (hb : Below w.heap.size w w') : R D w' cs x := T.fr h (Fr.ofBelow hb) (fun b h1 _ h2 => by omega)
theorem Rep.lt (T : Rep k R) {D : Nat → Prop} {w : World} {cs : List Value} {x : α} (h : R D w cs x) : R (fun b => b < w.heap.size ∧ D b) w cs x := T.mono h (fun _ h1 h2 => ⟨h1, h2⟩)
theorem Rep.any (T : Rep k R) {D : Nat → Prop} {w : World} {cs : List Value} {x : α} (h : R D w cs x) : R Any w cs x := T.mono h (fun _ _ _ => trivial)
theorem Rep.fr_lt (T : Rep k R) {D S : Nat → Prop} {w w' : World} {cs : List Value} {x : α} (h : R D w cs x) (hf : Fr S w w') (hn : ∀ b, b < w.heap.size → D b → ¬ S b) : R (fun b => b < w.heap.size ∧ D b) w' cs x := T.fr (T.lt h) hf (fun b h1 h2 => hn b h1 h2.2)

/-- a slice of such things -/
def Sl (k : Nat) (R : (Nat → Prop) → World → List Value → α → Prop) (D : Nat → Prop) (w : World) (v : Value) (xs : List α) : Prop := ∃ css, Arr k D w v css ∧ All2 (R D w) css xs
theorem Sl.form {D : Nat → Prop} {w : World} {v : Value} {xs : List α} (h : Sl k R D w v xs) : ∃ a cap, v = .slice a xs.length cap ∧ xs.length ≤ cap ∧ cap ≤ maxLen ∧ (a = none → cap = 0) := by
  obtain ⟨css, h1, h2⟩ := h
  rw [← h2.length]
  exact h1.form
theorem Sl.at {D : Nat → Prop} {w : World} {v : Value} {xs : List α} (h : Sl k R D w v xs) (i : Nat) (hi : i < xs.length) : ∃ b off cap cs, v = .slice (some ⟨b, off, none⟩) xs.length cap ∧ D b ∧ w.rangeAt b (off + i * k) cs ∧ R D w cs (xs[i]'hi) := by
  obtain ⟨css, h1, h2⟩ := h
  have hl := h2.length
  obtain ⟨b, off, cap, e1, e2, e3⟩ := h1.at i (by omega)
  rw [hl] at e1
  exact ⟨b, off, cap, _, e1, e2, e3, h2.get i (by omega) hi⟩
theorem Sl.nil (k : Nat) (R : (Nat → Prop) → World → List Value → α → Prop) (D : Nat → Prop) (w : World) : Sl k R D w (.slice none 0 0) [] := ⟨[], Arr.nil _ _ _, .nil⟩
theorem rep_sl (T : Rep k R) : Rep 1 (fun D w cs (xs : List α) => ∃ v, cs = [v] ∧ Sl k R D w v xs) where
  pos := by omega
  len := by rintro D w cs x ⟨v, rfl, _⟩; rfl
  one := by
    rintro D w cs x ⟨v, rfl, h⟩ u hu
    obtain ⟨a, c, rfl, _⟩ := h.form
    rw [List.mem_singleton.1 hu]; rfl
  fr := by
    rintro D S w w' cs x ⟨v, rfl, css, h1, h2⟩ hf hn
    exact ⟨v, rfl, css, h1.fr T.pos hf hn, h2.imp fun _ _ h => T.fr h hf hn⟩
  mono := by
    rintro D E w cs x ⟨v, rfl, css, h1, h2⟩ hn
    exact ⟨v, rfl, css, h1.mono T.pos hn, h2.imp fun _ _ h => T.mono h hn⟩
theorem Sl.fr (T : Rep k R) {D S : Nat → Prop} {w w' : World} {v : Value} {xs : List α} (h : Sl k R D w v xs) (hf : Fr S w w') (hn : ∀ b, b < w.heap.size → D b → ¬ S b) : Sl k R D w' v xs := by
  obtain ⟨css, h1, h2⟩ := h
  exact ⟨css, h1.fr T.pos hf hn, h2.imp fun _ _ h => T.fr h hf hn⟩
theorem Sl.mono (T : Rep k R) {D E : Nat → Prop} {w : World} {v : Value} {xs : List α} (h : Sl k R D w v xs) (hn : ∀ b, b < w.heap.size → D b → E b) : Sl k R E w v xs := by
  obtain ⟨css, h1, h2⟩ := h
  exact ⟨css, h1.mono T.pos hn, h2.imp fun _ _ h => T.mono h hn⟩
theorem Sl.below (T : Rep k R) {D : Nat → Prop} {w w' : World} {v : Value} {xs : List α} (h : Sl k R D w v xs) (hb : Below w.heap.size w w') : Sl k R D w' v xs := h.fr T (Fr.ofBelow hb) (fun b h1 _ h2 => by omega)
/-- a slice of bytes as one cell -/
theorem rep_byt : Rep 1 (fun D w cs (l : List UInt8) => ∃ v, cs = [v] ∧ Byt D w v l) where
  pos := by omega
  len := by rintro D w cs x ⟨v, rfl, _⟩; rfl
  one := by
    rintro D w cs x ⟨v, rfl, a, c, rfl, _⟩ u hu
    rw [List.mem_singleton.1 hu]; rfl
  fr := by
    rintro D S w w' cs x ⟨v, rfl, h⟩ hf hn
    exact ⟨v, rfl, h.fr hf hn⟩
  mono := by
    rintro D E w cs x ⟨v, rfl, h⟩ hn
    exact ⟨v, rfl, h.mono hn⟩
/-- plain cells -/
theorem rep_plain (k : Nat) (hk : 0 < k) (f : α → List Value) (Ok : α → Prop) (hl : ∀ x, Ok x → (f x).length = k) (h1 : ∀ x, Ok x → ∀ v ∈ f x, v.oneCell' = true) : Rep k (fun (_ : Nat → Prop) (_ : World) cs (x : α) => Ok x ∧ cs = f x) where
  pos := hk
  len := by rintro D w cs x ⟨h, rfl⟩; exact hl x h
  one := by rintro D w cs x ⟨h, rfl⟩; exact h1 x h
  fr := by rintro D S w w' cs x h _ _; exact h
  mono := by rintro D E w cs x h _; exact h
/-- two side by side -/
def PairR (R : (Nat → Prop) → World → List Value → α → Prop) (R' : (Nat → Prop) → World → List Value → β → Prop) : (Nat → Prop) → World → List Value → α × β → Prop := fun D w cs x => ∃ c1 c2, cs = c1 ++ c2 ∧ R D w c1 x.1 ∧ R' D w c2 x.2
theorem rep_pair {m : Nat} {R' : (Nat → Prop) → World → List Value → β → Prop} (T : Rep k R) (U : Rep m R') : Rep (k + m) (PairR R R') where
  pos := by have := T.pos; omega
  len := by rintro D w cs x ⟨c1, c2, rfl, h1, h2⟩; rw [List.length_append, T.len h1, U.len h2]
  one := by
    rintro D w cs x ⟨c1, c2, rfl, h1, h2⟩ v hv
    rcases List.mem_append.1 hv with hv | hv
    · exact T.one h1 v hv
    · exact U.one h2 v hv
  fr := by rintro D S w w' cs x ⟨c1, c2, rfl, h1, h2⟩ hf hn; exact ⟨c1, c2, rfl, T.fr h1 hf hn, U.fr h2 hf hn⟩
  mono := by rintro D E w cs x ⟨c1, c2, rfl, h1, h2⟩ hn; exact ⟨c1, c2, rfl, T.mono h1 hn, U.mono h2 hn⟩
/-- read through a function -/
theorem rep_conv (T : Rep k R) (q : β → α) : Rep k (fun D w cs (x : β) => R D w cs (q x)) where
  pos := T.pos
  len := T.len
  one := T.one
  fr := T.fr
  mono := T.mono
/-- one more thing, appended: v is the slice that was, v' the one that is -/
theorem push (T : Rep k R) {N : Nat} {v v' : Value} {A0 A F : World} {css : List (List Value)} {xs : List α} {cs : List Value} {x : α} {S S2 : Nat → Prop}
    (h6 : All2 (R (fun b => N ≤ b ∧ v.ownBlock ≠ some b) A0) css xs) (hx : R (fun b => A0.heap.size ≤ b) A cs x) (hf : Fr S A0 A) (hs : ∀ k, N ≤ k → ¬ S k) (hN : N ≤ A0.heap.size) (hv : ∀ k, v.ownBlock = some k → k < A0.heap.size)
    (hF : Fr S2 A F) (hs2 : ∀ k, k < A.heap.size → N ≤ k → S2 k → v.ownBlock = some k) (hv' : v'.ownBlock = v.ownBlock ∨ ∃ g, v'.ownBlock = some g ∧ A.heap.size ≤ g) :
    All2 (R (fun b => N ≤ b ∧ v'.ownBlock ≠ some b) F) (css ++ [cs]) (xs ++ [x]) := by
  have hsz := hf.size
  have hne : ∀ b, b < A.heap.size → v.ownBlock ≠ some b → v'.ownBlock ≠ some b := fun b hb h e => by
    rcases hv' with h1 | ⟨g, h1, h2⟩
    · exact h (h1.symm.trans e)
    · rw [h1] at e; cases e; omega
  refine All2.snoc (h6.imp fun _ _ h => ?_) ?_
  · have k1 := T.lt (T.fr h hf (fun b _ h1 e => hs b h1.1 e))
    exact T.mono (T.fr k1 hF (fun b hb h1 e => h1.2.2 (hs2 b hb h1.2.1 e))) (fun b _ h1 => ⟨h1.2.1, hne b h1.1 h1.2.2⟩)
  · have hb0 : ∀ b, A0.heap.size ≤ b → v.ownBlock ≠ some b := fun b h e => by have := hv b e; omega
    have k1 := T.lt hx
    exact T.mono (T.fr k1 hF (fun b hb h1 e => hb0 b h1.2 (hs2 b hb (by omega) e))) (fun b _ h1 => ⟨by omega, hne b h1.1 (hb0 b h1.2)⟩)
/-- the call's own list, read -/
theorem sl_own (T : Rep k R) {N : Nat} {e : TypeId} {w : World} {v : Value} {css : List (List Value)} {xs : List α} (h : OwnA k N e w v css) (h2 : All2 (R (fun b => N ≤ b ∧ v.ownBlock ≠ some b) w) css xs) : Sl k R (fun b => N ≤ b) w v xs :=
  ⟨css, h.arr.mono T.pos (fun b _ h => h.2), h2.imp fun _ _ h => T.mono h (fun b _ h => h.1)⟩
/-- one cell: a number, a truth, a slice -/
def RU64 : (Nat → Prop) → World → List Value → Nat → Prop := fun _ _ cs x => x < 18446744073709551616 ∧ cs = [.int .u64 (x : Int)]
def RU32 : (Nat → Prop) → World → List Value → Nat → Prop := fun _ _ cs x => x < 4294967296 ∧ cs = [.int .u32 (x : Int)]
def RI64 : (Nat → Prop) → World → List Value → Int → Prop := fun _ _ cs x => (-9223372036854775808 ≤ x ∧ x ≤ 9223372036854775807) ∧ cs = [.int .i64 x]
def RBool : (Nat → Prop) → World → List Value → Bool → Prop := fun _ _ cs x => True ∧ cs = [.bool x]
def RDgs (n : Nat) : (Nat → Prop) → World → List Value → List UInt8 → Prop := fun _ _ cs x => x.length = n ∧ cs = x.map byt
abbrev RDg : (Nat → Prop) → World → List Value → List UInt8 → Prop := RDgs 32
def RBy : (Nat → Prop) → World → List Value → List UInt8 → Prop := fun D w cs l => ∃ v, cs = [v] ∧ Byt D w v l
def RSl (k : Nat) (R : (Nat → Prop) → World → List Value → α → Prop) : (Nat → Prop) → World → List Value → List α → Prop := fun D w cs xs => ∃ v, cs = [v] ∧ Sl k R D w v xs
theorem one_mem {v : Value} (h : v.oneCell' = true) : ∀ u ∈ [v], u.oneCell' = true := fun u hu => by rw [List.mem_singleton.1 hu]; exact h
theorem rep_u64 : Rep 1 RU64 := rep_plain 1 (by omega) (fun x : Nat => [.int .u64 (x : Int)]) (fun x => x < 18446744073709551616) (fun _ _ => rfl) (fun _ _ => one_mem rfl)
theorem rep_u32 : Rep 1 RU32 := rep_plain 1 (by omega) (fun x : Nat => [.int .u32 (x : Int)]) (fun x => x < 4294967296) (fun _ _ => rfl) (fun _ _ => one_mem rfl)
theorem rep_i64 : Rep 1 RI64 := rep_plain 1 (by omega) (fun x : Int => [.int .i64 x]) (fun x => -9223372036854775808 ≤ x ∧ x ≤ 9223372036854775807) (fun _ _ => rfl) (fun _ _ => one_mem rfl)
theorem rep_bool : Rep 1 RBool := rep_plain 1 (by omega) (fun x : Bool => [.bool x]) (fun _ => True) (fun _ _ => rfl) (fun _ _ => one_mem rfl)
theorem rep_dgs (n : Nat) (hn : 0 < n) : Rep n (RDgs n) :=
  rep_plain n hn (fun x : List UInt8 => x.map byt) (fun x => x.length = n) (fun x h => by simpa using h) (fun x _ v hv => by obtain ⟨_, _, rfl⟩ := List.mem_map.1 hv; rfl)
theorem rep32 : Rep 32 RDg := rep_dgs 32 (by omega)
theorem rep_by : Rep 1 RBy := rep_byt
theorem rep_rsl (T : Rep k R) : Rep 1 (RSl k R) := rep_sl T
/-- one cell of a block -/
theorem blk_one {w : World} {b : Nat} {l : List Value} {e : TypeId} (h : Blk w b l e) (pre post : List Value) (v : Value) (hl : l = pre ++ (v :: post)) (n : Nat) (hn : pre.length = n) : w.cell? ⟨b, n, none⟩ = some v := by
  refine h.cell ?_
  subst hl; subst hn
  rw [List.getElem?_append_right (Nat.le_refl _), Nat.sub_self]; rfl
end
end Go.Proofs.YtmenchnjajpkmaaGreatDoor.Reps
end

section
namespace Go.Proofs.YtmenchnjajpkmaaGreatDoor.Ops
open Go Go.RowKit Mem Arr
section
variable {P : Program} {w : World} {ops : Array Oper} {rest : List Oper} {o : Oper} {a : Act} {K : Act → World → Prop} {Q : Exit → Act → World → Prop}
theorem wp_build1 {t e : TypeId} {z : Value} {k bytes : Nat} (T : ElemT P t e z k bytes) (x : Operand) (ho : o.op = .buildSlice t 1 #[(0, x)]) (l : List Value) (hx : a.eval x = .agg l.toArray) (hs : l.length = k) (hk : k ≤ 16777216)
    (h : ∀ w', Blk w' w.heap.size l e → Below w.heap.size w w' → w.heap.size + 1 = w'.heap.size → K (a.put o.dst (.slice (some ⟨w.heap.size, 0, none⟩) 1 1)) w') : Oper.wp P o a w K Q := by
  have hr := Arr.run_buildSlice T [.agg l.toArray] (by simp [Value.cells, hs]) (by simpa using hk) (by simp) w
  simp at hr
  unfold Oper.wp
  simp [execOp, ho, hx, hr, Value.cells, Result.andThen]
  exact h _ (Blk.new w _ _ _ rfl) (below_alloc _ _) (by simp)
theorem wpList_build1 (hgd : o.guard = none) {t e : TypeId} {z : Value} {k bytes : Nat} (T : ElemT P t e z k bytes) (x : Operand) (ho : o.op = .buildSlice t 1 #[(0, x)]) (l : List Value) (hx : a.eval x = .agg l.toArray) (hs : l.length = k) (hk : k ≤ 16777216)
    (h : ∀ w', Blk w' w.heap.size l e → Below w.heap.size w w' → w.heap.size + 1 = w'.heap.size → wpList P ops Q rest (a.put o.dst (.slice (some ⟨w.heap.size, 0, none⟩) 1 1)) w') : wpList P ops Q (o :: rest) a w :=
  wpList_plain hgd fun _ hK => wp_build1 T x ho l hx hs hk (fun w' h1 h2 h3 => hK _ _ (h w' h1 h2 h3))
/-- of one cell -/
theorem wp_build1c {t e : TypeId} {z : Value} {bytes : Nat} (T : ElemT P t e z 1 bytes) (x : Operand) (ho : o.op = .buildSlice t 1 #[(0, x)]) (v : Value) (hx : a.eval x = v) (hs : v.oneCell' = true)
    (h : ∀ w', Blk w' w.heap.size [v] e → Below w.heap.size w w' → w.heap.size + 1 = w'.heap.size → K (a.put o.dst (.slice (some ⟨w.heap.size, 0, none⟩) 1 1)) w') : Oper.wp P o a w K Q := by
  have hc : v.cells = #[v] := by cases v <;> first | rfl | cases hs
  have hr := Arr.run_buildSlice T [v] (by simp [hc]) (by simp) (by simp) w
  simp [hc] at hr
  unfold Oper.wp
  simp [execOp, ho, hx, hr, Result.andThen]
  exact h _ (Blk.new w _ _ _ rfl) (below_alloc _ _) (by simp)
theorem wp_append_arr (s x : Operand) (t : TypeId)
    (ho : o.op = .call { callee := .builtin .append, args := #[s, x], argTypes := #[t, t] }) (base : Nat) (e : TypeId) {z : Value} {k bytes : Nat} (T : ElemT P t e z k bytes)
    (v : Value) (xs : List (List Value)) (hs : a.eval s = v) (hown : Arr.OwnA k base e w v xs) {D : Nat → Prop} (y : Value) (ys : List (List Value)) (hx : a.eval x = y) (hy : Arr.Arr k D w y ys)
    (h1 : ∀ x ∈ ys, ∀ c ∈ x, c.oneCell' = true) (h63 : xs.length + ys.length ≤ maxLen) (hbytes : (xs.length + ys.length) * bytes ≤ 140737488355328) (hb : base ≤ w.heap.size) (m : Nat) (hn : m = xs.length + ys.length)
    (h : ∀ (a' : Option Addr) (cap' : Nat) (w' : World), Arr.OwnA k base e w' (.slice a' m cap') (xs ++ ys) → w.grownBy w' v.ownBlock → ((Value.slice a' m cap').ownBlock = v.ownBlock ∨ (Value.slice a' m cap').ownBlock = some w.heap.size) → K (a.put o.dst (.slice a' m cap')) w') :
    Oper.wp P o a w K Q := by
  subst hn
  obtain ⟨a', cap', w', h0, q1, q2, q4⟩ := Arr.run_append_arr (P := P) w t o.type base e T v xs hown y ys hy h1 h63 hbytes hb
  unfold Oper.wp
  simp [execOp, ho, resolve, invoke, builtin, hs, hx, h0, Result.andThen]
  exact h a' cap' w' q1 q2 q4
/-- one cell of a block is stored -/
theorem run_storeVar_cell {g i : Nat} {l : List Value} {t : TypeId} (hB : Blk w g l t) (hi : i < l.length) (ty : TypeId) (hsz : (P.info? ty).map (·.size) = some 1) (v : Value) (h1 : v.oneCell' = true) :
    (storeVar ty ⟨g, i, none⟩ v).run P w = .ok () (w.setCell ⟨g, i, none⟩ v) := by
  have hc : v.cells = #[v] := by cases v <;> first | rfl | cases h1
  have hcell := hB.cell (List.getElem?_eq_getElem hi)
  have hfree := hB.free i
  cases hq : P.info? ty with
  | none => simp [hq] at hsz
  | some j =>
    have hs : j.size = 1 := by simpa [hq] using hsz
    have hst : (store ⟨g, i, none⟩ v .plain).run P w = .ok () (w.setCell ⟨g, i, none⟩ v) := by
      rw [run_store P w _ v _ h1]
      simp [hcell, hfree]
    simp [storeVar, sizeOf, typeInfo, hq, hc, hs, storeCells, Addr.add, hst, Sem.run_bind, Result.andThen]
theorem wp_setc (ty : TypeId) (x y : Operand) (ho : o.op = .store ty x y) (g i : Nat) (hx : a.eval x = .pointer (some ⟨g, i, none⟩)) (v : Value) (hy : a.eval y = v) (h1 : v.oneCell' = true) {l : List Value} {t : TypeId} (hB : Blk w g l t) (hi : i < l.length)
    (hsz : (P.info? ty).map (·.size) = some 1)
    (h : ∀ w', Blk w' g (l.set i v) t → Fr (fun k => k = g) w w' → w'.heap.size = w.heap.size → K (a.put o.dst undef) w') : Oper.wp P o a w K Q := by
  unfold Oper.wp execOp
  simp only [ho, hx, hy, Instr.storeAt, Instr.sureAddr, Sem.run_bind, Sem.run_pure, Result.andThen_ok, run_storeVar_cell hB hi ty hsz v h1]
  exact h _ (hB.set i v) (Fr.setCell (S := fun k => k = g) (p := ⟨g, i, none⟩) (Fr.refl _ w) (.inr rfl) _) (by simp [World.setCell])
theorem wpList_setc (hgd : o.guard = none) (ty : TypeId) (x y : Operand) (ho : o.op = .store ty x y) (g i : Nat) (hx : a.eval x = .pointer (some ⟨g, i, none⟩)) (v : Value) (hy : a.eval y = v) (h1 : v.oneCell' = true) {l : List Value} {t : TypeId} (hB : Blk w g l t) (hi : i < l.length)
    (hsz : (P.info? ty).map (·.size) = some 1)
    (h : ∀ w', Blk w' g (l.set i v) t → Fr (fun k => k = g) w w' → w'.heap.size = w.heap.size → wpList P ops Q rest (a.put o.dst undef) w') : wpList P ops Q (o :: rest) a w :=
  wpList_plain hgd fun _ hK => wp_setc ty x y ho g i hx v hy h1 hB hi hsz (fun w' h1 h2 h3 => hK _ _ (h w' h1 h2 h3))
/-- operation j waits for i -/
def waits (md : Region.Mode) (ops : Array Oper) (j i : Nat) : Bool := match ops[j]? with | none => false | some o => o.after.any fun e => Region.binds md e && e.on == i
/-- whatever order is picked from here on, and behind each operation that does not wait for i S holds -/
def wpAnyJ (P : Program) (md : Region.Mode) (ops : Array Oper) (Q : Exit → Act → World → Prop) (i : Nat) (S : World → Prop) : Nat → Array Bool → Act → World → Prop
  | 0, listed, a, w => Region.ready md ops listed = [] ∧ Q .normal a w
  | fuel + 1, listed, a, w =>
    (Region.ready md ops listed = [] → Q .normal a w) ∧
    ∀ j ∈ Region.ready md ops listed, wpOp P ops Q j (fun a' w' => (waits md ops j i = false → S w') ∧ wpAnyJ P md ops Q i S fuel (listed.setIfInBounds j true) a' w') a w
theorem wpAnyJ_H {md : Region.Mode} {i : Nat} {S : World → Prop} : ∀ (fuel : Nat) (listed : Array Bool) (a : Act) (w : World), wpAnyJ P md ops Q i S fuel listed a w → wpAnyH P md ops Q (fun _ => True) fuel listed a w
  | 0, _, _, _, h => h
  | fuel + 1, _, _, _, h => ⟨h.1, fun j hj => wpOp_mono (fun a' w' h' => ⟨trivial, wpAnyJ_H fuel _ a' w' h'.2⟩) (h.2 j hj)⟩
theorem wpAnyJ_first {md : Region.Mode} {S : World → Prop} {i : Nat} {oi : Oper} {v : Value} (hi : ops[i]? = some oi) (hsel : ∀ (j : Nat) (o : Oper) cs b, ops[j]? = some o → o.op ≠ .select cs b)
    (hQ : ∀ c a w, Q (.panic c) (a.put oi.dst v) w → Q (.panic c) a w) :
    ∀ (fuel : Nat) (listed : Array Bool) (a : Act) (w : World),
      (∀ j oj, ops[j]? = some oj → j ≠ i → listed.getD j true = false → (∀ e ∈ oj.after, Region.binds md e = true → e.on ≠ i) → oi.apart ops oj = true) →
      i ∈ Region.ready md ops listed → YieldsIf P ops S oi v a → S w →
      wpAnyJ P md ops Q i S fuel (listed.setIfInBounds i true) (a.put oi.dst v) w → wpAnyH P md ops Q (fun _ => True) (fuel + 1) listed a w := by
  intro fuel
  induction fuel with
  | zero =>
    intro listed a w _ hr hy hS H
    refine ⟨fun h => (by rw [h] at hr; cases hr), fun j hj => ?_⟩
    by_cases hji : j = i
    · subst hji; exact hy.wpOp hi hS ⟨trivial, H⟩
    · have := ready_mono hj hji
      rw [H.1] at this
      cases this
  | succ fuel ih =>
    intro listed a w hfree hr hy hS H
    refine ⟨fun h => (by rw [h] at hr; cases hr), fun j hj => ?_⟩
    by_cases hji : j = i
    · subst hji; exact hy.wpOp hi hS ⟨trivial, wpAnyJ_H _ _ _ _ H⟩
    · have h1 := H.2 j (ready_mono hj hji)
      obtain ⟨hjun, oj, hoj, hall⟩ := mem_ready.1 hj
      have hnot : ∀ e ∈ oj.after, Region.binds md e = true → e.on ≠ i := fun e he hb heq => by
        have h1 := hall e he hb
        have h0 := (mem_ready.1 hr).1
        rw [heq] at h1
        rcases Nat.lt_or_ge i listed.size with h' | h'
        · simp [h'] at h0 h1; rw [h0] at h1; cases h1
        · simp [Array.getElem?_eq_none h'] at h1
      have hwt : waits md ops j i = false := by
        unfold waits
        rw [hoj]
        simp only [Array.any_eq_false', Bool.and_eq_true, beq_iff_eq, not_and]
        intro e he hb
        exact hnot e he hb
      have h2 := wpOp_putIf hoj (hfree j oj hoj hji hjun hnot) (fun cs b => hsel i oi cs b hi) (fun cs b => hsel j oj cs b hoj) hQ hy h1
      have hfree' : ∀ k ok, ops[k]? = some ok → k ≠ i → (listed.setIfInBounds j true).getD k true = false →
          (∀ e ∈ ok.after, Region.binds md e = true → e.on ≠ i) → oi.apart ops ok = true := fun k ok hk hki hun hno => by
        refine hfree k ok hk hki ?_ hno
        by_cases hjk : j = k
        · subst hjk; exact hjun
        · rw [getD_set_ne true hjk] at hun; exact hun
      refine wpOp_mono (fun a' w' h3 => ⟨trivial, ih (listed.setIfInBounds j true) a' w' hfree' (ready_mono hr (Ne.symm hji)) h3.1 (h3.2.1 hwt) ?_⟩) h2
      rw [Array.setIfInBounds_comm _ _ hji]
      exact h3.2.2
/-- take number i first: it yields v in every world that meets S; each operation that does not wait for it keeps S -/
theorem wpAnyH_before {md : Region.Mode} {S : World → Prop} {i : Nat} {oi : Oper} {v : Value} {fuel : Nat} {listed : Array Bool} (hi : ops[i]? = some oi)
    (hs : Region.noSelect ops = true) (hf : Region.free md ops listed i = true) (hr : (Region.ready md ops listed).contains i = true)
    (hQ : ∀ c a w, Q (.panic c) (a.put oi.dst v) w → Q (.panic c) a w) (hy : YieldsIf P ops S oi v a) (hS : S w)
    (h : wpAnyJ P md ops Q i S fuel (listed.setIfInBounds i true) (a.put oi.dst v) w) : wpAnyH P md ops Q (fun _ => True) (fuel + 1) listed a w :=
  wpAnyJ_first hi (Region.noSelect_spec hs) hQ fuel listed a w (Region.free_spec hi hf) (by simpa using hr) hy hS h
/-- one operation alone is ready, and does not wait for i -/
theorem wpAnyJ_keep {md : Region.Mode} {S : World → Prop} {i j : Nat} {oj : Oper} {fuel : Nat} {listed : Array Bool} (hr : Region.ready md ops listed = [j]) (hj : ops[j]? = some oj)
    (h : ∀ K' : Act → World → Prop, Shut (∀ a w, S w → wpAnyJ P md ops Q i S fuel (listed.setIfInBounds j true) a w → K' a w) → if Region.wanted oj (yielded ops a.tmps) = true then Oper.wp P oj a w K' Q else K' (a.put oj.dst undef) w) :
    wpAnyJ P md ops Q i S (fuel + 1) listed a w := by
  refine ⟨fun h => (by rw [hr] at h; cases h), fun x hx => ?_⟩
  rw [hr] at hx
  obtain rfl := List.mem_singleton.1 hx
  exact wpOp_step hj (fun K' hK => h K' (fun a w hS hW => hK a w ⟨fun _ => hS, hW⟩))
/-- and it waits for i: S may fall -/
theorem wpAnyJ_free {md : Region.Mode} {S : World → Prop} {i j : Nat} {oj : Oper} {fuel : Nat} {listed : Array Bool} (hr : Region.ready md ops listed = [j]) (hw : waits md ops j i = true) (hj : ops[j]? = some oj)
    (h : ∀ K' : Act → World → Prop, Shut (∀ a w, wpAnyJ P md ops Q i S fuel (listed.setIfInBounds j true) a w → K' a w) → if Region.wanted oj (yielded ops a.tmps) = true then Oper.wp P oj a w K' Q else K' (a.put oj.dst undef) w) :
    wpAnyJ P md ops Q i S (fuel + 1) listed a w := by
  refine ⟨fun h => (by rw [hr] at h; cases h), fun x hx => ?_⟩
  rw [hr] at hx
  obtain rfl := List.mem_singleton.1 hx
  exact wpOp_step hj (fun K' hK => h K' (fun a w hW => hK a w ⟨fun h => (by rw [hw] at h; cases h), hW⟩))
theorem wpAnyJ_done {md : Region.Mode} {S : World → Prop} {i : Nat} {listed : Array Bool} (hr : Region.ready md ops listed = []) (h : Q .normal a w) : ∀ fuel, wpAnyJ P md ops Q i S fuel listed a w
  | 0 => ⟨hr, h⟩
  | _ + 1 => ⟨fun _ => h, by rw [hr]; simp⟩
/-- one cell of a block is stored, the block said in parts -/
theorem wp_putc (ty : TypeId) (x y : Operand) (ho : o.op = .store ty x y) (g : Nat) (pre post : List Value) (u : Value) (n : Nat) (hn : pre.length = n) (hx : a.eval x = .pointer (some ⟨g, n, none⟩)) (v : Value) (hy : a.eval y = v) (h1 : v.oneCell' = true) {t : TypeId} (hB : Blk w g (pre ++ ([u] ++ post)) t)
    (hsz : (P.info? ty).map (·.size) = some 1)
    (h : ∀ w', Blk w' g (pre ++ ([v] ++ post)) t → Fr (fun k => k = g) w w' → w'.heap.size = w.heap.size → K (a.put o.dst undef) w') : Oper.wp P o a w K Q := by
  subst hn
  refine wp_setc ty x y ho g pre.length hx v hy h1 hB (by simp) hsz (fun w' k1 k2 k3 => h w' ?_ k2 k3)
  have e : (pre ++ ([u] ++ post)).set pre.length v = pre ++ ([v] ++ post) := by
    rw [List.set_append_right _ _ (Nat.le_refl _)]
    simp
  rw [e] at k1
  exact k1
theorem wpList_putc (hgd : o.guard = none) (ty : TypeId) (x y : Operand) (ho : o.op = .store ty x y) (g : Nat) (pre post : List Value) (u : Value) (n : Nat) (hn : pre.length = n) (hx : a.eval x = .pointer (some ⟨g, n, none⟩)) (v : Value) (hy : a.eval y = v) (h1 : v.oneCell' = true) {t : TypeId} (hB : Blk w g (pre ++ ([u] ++ post)) t)
    (hsz : (P.info? ty).map (·.size) = some 1)
    (h : ∀ w', Blk w' g (pre ++ ([v] ++ post)) t → Fr (fun k => k = g) w w' → w'.heap.size = w.heap.size → wpList P ops Q rest (a.put o.dst undef) w') : wpList P ops Q (o :: rest) a w :=
  wpList_plain hgd fun _ hK => wp_putc ty x y ho g pre post u n hn hx v hy h1 hB hsz (fun w' h1 h2 h3 => hK _ _ (h w' h1 h2 h3))
/-- two values of many cells are compared -/
theorem exec_eql {t rt : TypeId} {x y : Operand} (hgt : P.eqGuardType P.depth t = false) (ho : o.op = .binOp .eql t x y rt) {c d : Array Value} (hx : a.eval x = .agg c) (hy : a.eval y = .agg d) {r : Bool} (hr : (Op.equalIn 10000 t (.agg c) (.agg d)).run P w = .ok r w) : (execOp a.eval o).run P w = .ok (.value (.bool r)) w := by
  unfold execOp
  simp only [ho, hx, hy, Sem.run_bind, run_eql_struct, run_eqGuard_agg (hm := hgt), hr, Result.andThen_ok, Sem.run_pure]
end
end Go.Proofs.YtmenchnjajpkmaaGreatDoor.Ops
end

section
namespace Go.Proofs.YtmenchnjajpkmaaGreatDoor.Rr
open Go Go.RowKit Mem Codec Ops Reps WtIt Arr
set_option linter.unusedVariables false

/-- what the reference's reader of a thing of many cells does: where nothing is amiss it is the thing -/
def GotR {α : Type} (R : (Nat → Prop) → World → List Value → α → Prop) (w : World) (q : Nat) (a : Option Addr) (c : Nat) (B : List UInt8) (s : Rd × α) (e : Ending) (w' : World) : Prop :=
  ∃ (cs : List Value) (x : α), e = .returned (.agg cs.toArray) ∧ R (fun b => w.heap.size ≤ b) w' cs x ∧ (s.1.e = 0 → x = s.2) ∧ RfR w' q a c B s.1 ∧ Fr (fun k => k = q) w w'
/-- what the program's does -/
def GotD {α : Type} (R : (Nat → Prop) → World → List Value → α → Prop) (D : Nat → Prop) (w : World) (q : Nat) (s : Rd × α) (e : Ending) (w' : World) : Prop :=
  ∃ cs : List Value, e = .returned (.agg cs.toArray) ∧ R (fun b => w.heap.size ≤ b) w' cs s.2 ∧ CodecR.ReaderIs D w' q s.1 ∧ Fr (fun k => k = q) w w'
/-- after so many rounds -/
def LSt {α : Type} (one : Rd → Rd × α) (n : Nat) (r1 : Rd) (xs : List α) (r : Rd) : Prop := (WtIt.At one n r1 (xs, r) ∧ (r.e = 0 ∨ n = 0)) ∨ (r.e ≠ 0 ∧ (items one n r1).2 = r)
section
variable {α : Type} {one : Rd → Rd × α} {n : Nat} {r1 r : Rd} {xs : List α}
theorem LSt.start (h : r1.e = 0 ∨ n = 0) : LSt one n r1 [] r1 := .inl ⟨At.start one n r1, h⟩
theorem LSt.next (h : LSt one n r1 xs r) (he : r.e = 0) (hl : xs.length < n) (x : α) (hx : (one r).1.e = 0 → x = (one r).2) : LSt one n r1 (xs ++ [x]) (one r).1 := by
  rcases h with ⟨h, _⟩ | ⟨h, _⟩
  · by_cases h1 : (one r).1.e = 0
    · rw [hx h1]; exact .inl ⟨h.next one hl h1, .inl h1⟩
    · exact .inr ⟨h1, by rw [h.fails one hl h1]⟩
  · exact absurd he h
/-- at the end: the state is the list's, and so are the things where nothing is amiss -/
theorem LSt.done (h : LSt one n r1 xs r) (hl : ¬ xs.length < n ∨ r.e ≠ 0) : r = (items one n r1).2 ∧ (r.e = 0 → xs = lst (items one n r1)) := by
  rcases h with ⟨h, h0⟩ | ⟨h, h2⟩
  · have hl2 : ¬ xs.length < n := by
      rcases hl with hl | hl
      · exact hl
      · rcases h0 with h0 | h0
        · exact absurd h0 hl
        · omega
    have := h.all one hl2
    rw [this]
    exact ⟨rfl, fun h => by unfold lst; rw [if_neg (by simpa using h)]⟩
  · exact ⟨h2.symm, fun e => absurd e h⟩
end
theorem var_none (r : Rd) (most : Nat) : (r.var most).1.e = 0 ∨ (r.var most).2 = 0 := by
  unfold Rd.var
  dsimp only
  repeat' split
  all_goals (first | exact .inr rfl | exact .inl (by assumption) | (left; simp_all))
theorem var_room (r : Rd) (most : Nat) : r.room (most : Int) = r.var most := by
  unfold Rd.room
  have h : ¬ ((most : Int) < 0) := by omega
  simp [h]
section
variable {w w' : World} {q : Nat} {a : Option Addr} {c : Nat} {B : List UInt8} {r : Rd}
/-- other blocks are written; the bytes lie in D -/
theorem RfR.frD {D S : Nat → Prop} (h : RfR w q a c B r) (hB : Byt D w (.slice a B.length c) B) (hf : Fr S w w') (hq : ¬ S q) (hD : ∀ k, D k → k ≠ q ∧ ¬ S k) : RfR w' q a c B r := by
  obtain ⟨n, h1, h2, h3, h4, h5⟩ := h
  exact ⟨n, h1, h2, h3, h4.fr hf hq, (hB.fr hf (fun k _ h => (hD k h).2)).mono (fun k _ h => (hD k h).1)⟩
theorem RfR.byt (h : RfR w q a c B r) : Byt (fun k => k < w.heap.size ∧ k ≠ q) w (.slice a B.length c) B := by
  obtain ⟨n, h1, h2, h3, h4, h5⟩ := h
  exact h5.lt
end
end Go.Proofs.YtmenchnjajpkmaaGreatDoor.Rr
end
