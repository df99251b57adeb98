/- Walks of Check, the program's. Conditions: at most 2^42 digests on the way; the table is laid. The walk of the reference's Fold. Conditions: at most 2^42 digests; the table is laid. The walk of Check, the reference's. Conditions: at most 2^42 digests on the way; the table is laid. What evidence of a peg-in brings, in plain Lean; its memory. No condition. What evidence brings that was made as the law makes it: plain. No condition. The walk of the law's twins: have two of some headers one id? Conditions: headers in memory; the table is laid. Each path leads from its leaf to the root. In plain Lean. -/
import Derived.Test.YtmenchnjajpkmaaGreatDoorPrvl
import Derived.Test.YtmenchnjajpkmaaGreatDoorPrvi
import Derived.Test.YtmenchnjajpkmaaGreatDoorPrvh
import Derived.Test.YtmenchnjajpkmaaGreatDoorPrvk
section
namespace Go.Proofs.YtmenchnjajpkmaaGreatDoor.MkW
open Go Go.RowKit Mem Sha ShaW Mk Arr Row
set_option linter.unusedVariables false

abbrev zero32 : Dg := List.replicate 32 0
theorem zero32_cells : zero32.map byt = List.replicate 32 (.int .u8 0) := by simp [zero32]
set_option maxHeartbeats 8000000 in
set_option maxRecDepth 100000 in
theorem rise_none (w : World) (leaf : Dg) (p n : Nat) (vp : Value) (ds : List Dg) (hA : Arr 32 Any w vp (dcs ds)) (hl : leaf.length = 32) (hn : n < 4294967296) (hp2 : p < 4294967296) (hd : ds.length ≤ 4398046511104) (hbad : n ≤ p ∨ (sides p n).length ≠ ds.length) :
    Calls Tryz.prog 49 #[dv leaf, .int .u32 (p : Int), .int .u32 (n : Int), vp] w fun e w' => e = .returned (.tuple #[.slice none 0 0, dv zero32, .bool false]) ∧ Below w.heap.size w w' := by
  obtain ⟨va, n1, rfl, hk1, hk2, hk3⟩ := hA.form
  simp only [List.length_map] at hA hk1 ⊢
  obtain ⟨W, hW, k9, kb, ks⟩ : ∃ W, (w.alloc (.cells (leaf.map byt).toArray 24)).alloc (.cells #[.int .u8 0, .int .u8 0, .int .u8 0, .int .u8 0, .int .u8 0, .int .u8 0, .int .u8 0, .int .u8 0, .int .u8 0, .int .u8 0, .int .u8 0, .int .u8 0, .int .u8 0, .int .u8 0, .int .u8 0, .int .u8 0, .int .u8 0, .int .u8 0, .int .u8 0, .int .u8 0, .int .u8 0, .int .u8 0, .int .u8 0, .int .u8 0, .int .u8 0, .int .u8 0, .int .u8 0, .int .u8 0, .int .u8 0, .int .u8 0, .int .u8 0, .int .u8 0] 24) = W ∧ Hid (Blk W (w.heap.size + 1) (List.replicate 32 (.int .u8 0)) 24) ∧ Hid (Below w.heap.size w W) ∧ w.heap.size + 2 ≤ W.heap.size := by
    refine ⟨_, rfl, Lib.hid ?_, Lib.hid (((Below.refl _ _).alloc (Nat.le_refl _) _).alloc (by simp) _), by simp⟩
    have := new32 (w.alloc (.cells (leaf.map byt).toArray 24))
    rwa [World.size_alloc] at this
  have HZS := Lib.hid (show (Tryz.prog.info? 24).map (·.size) = some ([.int .u8 0, .int .u8 0, .int .u8 0, .int .u8 0, .int .u8 0, .int .u8 0, .int .u8 0, .int .u8 0, .int .u8 0, .int .u8 0, .int .u8 0, .int .u8 0, .int .u8 0, .int .u8 0, .int .u8 0, .int .u8 0, .int .u8 0, .int .u8 0, .int .u8 0, .int .u8 0, .int .u8 0, .int .u8 0, .int .u8 0, .int .u8 0, .int .u8 0, .int .u8 0, .int .u8 0, .int .u8 0, .int .u8 0, .int .u8 0, .int .u8 0, .int .u8 0] : List Value).length from szD)
  have HZN := Lib.hid (show (List.replicate 32 (Value.int .u8 0)).length = ([.int .u8 0, .int .u8 0, .int .u8 0, .int .u8 0, .int .u8 0, .int .u8 0, .int .u8 0, .int .u8 0, .int .u8 0, .int .u8 0, .int .u8 0, .int .u8 0, .int .u8 0, .int .u8 0, .int .u8 0, .int .u8 0, .int .u8 0, .int .u8 0, .int .u8 0, .int .u8 0, .int .u8 0, .int .u8 0, .int .u8 0, .int .u8 0, .int .u8 0, .int .u8 0, .int .u8 0, .int .u8 0, .int .u8 0, .int .u8 0, .int .u8 0, .int .u8 0] : List Value).length from rfl)
  have HZO := Lib.hid (show ∀ v ∈ ([.int .u8 0, .int .u8 0, .int .u8 0, .int .u8 0, .int .u8 0, .int .u8 0, .int .u8 0, .int .u8 0, .int .u8 0, .int .u8 0, .int .u8 0, .int .u8 0, .int .u8 0, .int .u8 0, .int .u8 0, .int .u8 0, .int .u8 0, .int .u8 0, .int .u8 0, .int .u8 0, .int .u8 0, .int .u8 0, .int .u8 0, .int .u8 0, .int .u8 0, .int .u8 0, .int .u8 0, .int .u8 0, .int .u8 0, .int .u8 0, .int .u8 0, .int .u8 0] : List Value), v.oneCell' = true from one_cells zero32)
  clear hA
  by_cases hp : n ≤ p
  · have hpI : ¬ (p : Int) < (n : Int) := by omega
    have hpB : decide (n ≤ p) = true := by simp; omega
    have hb32 : ((p : Int) < (n : Int)) = False := by simp; omega
    clear hbad
    go_enter Tryz.func49, Tryz.ntmps49
    go_wp2_with (with_reducible refine wpList_store_blk rfl _ _ _ rfl (w.heap.size + 1) [.int .u8 0, .int .u8 0, .int .u8 0, .int .u8 0, .int .u8 0, .int .u8 0, .int .u8 0, .int .u8 0, .int .u8 0, .int .u8 0, .int .u8 0, .int .u8 0, .int .u8 0, .int .u8 0, .int .u8 0, .int .u8 0, .int .u8 0, .int .u8 0, .int .u8 0, .int .u8 0, .int .u8 0, .int .u8 0, .int .u8 0, .int .u8 0, .int .u8 0, .int .u8 0, .int .u8 0, .int .u8 0, .int .u8 0, .int .u8 0, .int .u8 0, .int .u8 0] _ rfl _ rfl rfl k9.out HZS.out HZN.out HZO.out ?_)
    refine bodyPost_ret (results_tct Tryz.results49 _ _ (w.heap.size + 1) 24 [.int .u8 0, .int .u8 0, .int .u8 0, .int .u8 0, .int .u8 0, .int .u8 0, .int .u8 0, .int .u8 0, .int .u8 0, .int .u8 0, .int .u8 0, .int .u8 0, .int .u8 0, .int .u8 0, .int .u8 0, .int .u8 0, .int .u8 0, .int .u8 0, .int .u8 0, .int .u8 0, .int .u8 0, .int .u8 0, .int .u8 0, .int .u8 0, .int .u8 0, .int .u8 0, .int .u8 0, .int .u8 0, .int .u8 0, .int .u8 0, .int .u8 0, .int .u8 0] _ rfl (k9.out.row _) Tryz.underlying24 rfl HZS.out) rfl ⟨rfl, below_setRow kb.out (by omega) _⟩
  · have hss : (sides p n).length ≠ ds.length := by rcases hbad with h | h; exact absurd h hp; exact h
    have hpI : (p : Int) < (n : Int) := by omega
    have hpB : decide (n ≤ p) = false := by simp; omega
    have hw1 : IntKind.i64.wrap (p : Int) = (p : Int) := IntWalk.i64_in _ (by omega)
    have hw2 : IntKind.i64.wrap (n : Int) = (n : Int) := IntWalk.i64_in _ (by omega)
    clear hbad
    go_enter Tryz.func49, Tryz.ntmps49
    go_wp2_with fail
    clear hW
    refine (sides_calls W p n hn (by omega)).mono ?_
    rintro e w3 ⟨vs0, rfl, g1, g2⟩
    obtain ⟨vs, n2, rfl, _⟩ := g1.form
    obtain ⟨ssr, hs⟩ : ∃ l, sides p n = l := ⟨_, rfl⟩
    rw [hs] at g1 hss ⊢
    simp only [List.length_map] at g1 ⊢
    have K9 := Lib.hid (k9.out.below g2)
    have KB := Lib.hid (kb.out.trans (g2.mono (by omega)))
    have hlB : ((ssr.length : Int) != (ds.length : Int)) = true := by simp; omega
    clear hs g1 g2 hw1 hw2 hss
    go_wp2_with (with_reducible refine wpList_store_blk rfl _ _ _ rfl (w.heap.size + 1) [.int .u8 0, .int .u8 0, .int .u8 0, .int .u8 0, .int .u8 0, .int .u8 0, .int .u8 0, .int .u8 0, .int .u8 0, .int .u8 0, .int .u8 0, .int .u8 0, .int .u8 0, .int .u8 0, .int .u8 0, .int .u8 0, .int .u8 0, .int .u8 0, .int .u8 0, .int .u8 0, .int .u8 0, .int .u8 0, .int .u8 0, .int .u8 0, .int .u8 0, .int .u8 0, .int .u8 0, .int .u8 0, .int .u8 0, .int .u8 0, .int .u8 0, .int .u8 0] _ rfl _ rfl rfl K9.out HZS.out HZN.out HZO.out ?_)
    refine bodyPost_ret (results_tct Tryz.results49 _ _ (w.heap.size + 1) 24 [.int .u8 0, .int .u8 0, .int .u8 0, .int .u8 0, .int .u8 0, .int .u8 0, .int .u8 0, .int .u8 0, .int .u8 0, .int .u8 0, .int .u8 0, .int .u8 0, .int .u8 0, .int .u8 0, .int .u8 0, .int .u8 0, .int .u8 0, .int .u8 0, .int .u8 0, .int .u8 0, .int .u8 0, .int .u8 0, .int .u8 0, .int .u8 0, .int .u8 0, .int .u8 0, .int .u8 0, .int .u8 0, .int .u8 0, .int .u8 0, .int .u8 0, .int .u8 0] _ rfl (K9.out.row _) Tryz.underlying24 rfl HZS.out) rfl ⟨rfl, below_setRow KB.out (by omega) _⟩
def chk (rt leaf : Dg) (p n : Nat) (ds : List Dg) : Bool := match rise leaf p n ds with | some d => d == rt | none => false
theorem topOf_length : ∀ (leaf : Dg) (ss : List Bool) (ds : List Dg), leaf.length = 32 → (topOf leaf ss ds).length = 32
  | _, [], _, h => by simpa [topOf] using h
  | _, _ :: _, [], h => by simpa [topOf] using h
  | leaf, s :: ss, d :: ds, h => by simp only [topOf]; exact topOf_length _ ss ds (nodeD_length _ _)
set_option maxHeartbeats 8000000 in
set_option maxRecDepth 100000 in
theorem check_calls (w : World) (rt leaf : Dg) (p n : Nat) (vp : Value) (ds : List Dg) (hA : Arr 32 Any w vp (dcs ds)) (hD : ∀ d ∈ ds, d.length = 32) (hr : rt.length = 32) (hl : leaf.length = 32) (hT : TabB w 1) (hn : n < 4294967296) (hp : p < 4294967296) (hd : ds.length ≤ 4398046511104) :
    Calls Tryz.prog 28 #[dv rt, dv leaf, .int .u32 (p : Int), .int .u32 (n : Int), vp] w fun e w' => e = .returned (.bool (chk rt leaf p n ds)) ∧ Below w.heap.size w w' := by
  obtain ⟨va, n1, rfl, hk1, hk2, hk3⟩ := hA.form
  simp only [List.length_map] at hA hk1 ⊢
  obtain ⟨W, hW, k0, k1, kb, ks⟩ : ∃ W, (w.alloc (.cells (rt.map byt).toArray 24)).alloc (.cells (leaf.map byt).toArray 24) = W ∧ Hid (Blk W w.heap.size (rt.map byt) 24) ∧ Hid (Blk W (w.heap.size + 1) (leaf.map byt) 24) ∧ Hid (Below w.heap.size w W) ∧ w.heap.size + 2 ≤ W.heap.size := by
    refine ⟨_, rfl, Lib.hid ((Blk.new w _ _ _ rfl).alloc _), Lib.hid ?_, Lib.hid (((Below.refl _ _).alloc (Nat.le_refl _) _).alloc (by simp) _), by simp⟩
    have := Blk.new (w.alloc (.cells (rt.map byt).toArray 24)) (leaf.map byt).toArray 24 _ rfl
    rwa [World.size_alloc] at this
  have HA := Lib.hid (hA.below (by omega) kb.out)
  have HT := Lib.hid (hT.below kb.out)
  have HRT := Lib.hid hr
  have HLF := Lib.hid hl
  have HD := Lib.hid hD
  clear hA hT hr hl hD
  go_enter Tryz.func28, Tryz.ntmps28
  go_wp2_with (first
    | (with_reducible refine wpList_load_cs (by with_unfolding_all rfl) _ _ rfl (w.heap.size + 1) _ rfl k1.out _ Tryz.underlying24 rfl (szD' HLF.out) _ rfl ?_)
    | fail)
  clear hW
  by_cases hok : p < n ∧ (sides p n).length = ds.length
  · refine (rise_calls W leaf p n _ ds HA.out HD.out HLF.out HT.out hn hok.1 hok.2).mono ?_
    rintro e w3 ⟨v3, rfl, g1, g2⟩
    have HCH := Lib.hid (show chk rt leaf p n ds = (topOf leaf (sides p n).reverse ds == rt) by unfold chk rise; rw [if_pos hok])
    have HML := Lib.hid (topOf_length leaf (sides p n).reverse ds HLF.out)
    obtain ⟨m, hm⟩ : ∃ m, topOf leaf (sides p n).reverse ds = m := ⟨_, rfl⟩
    rw [hm] at HCH HML ⊢
    have HMO := Lib.hid (one_cells m)
    obtain ⟨w4, hw4, N4, NB4, ns4⟩ := start32 w3
    have K0 := Lib.hid ((k0.out.below g2).below NB4.out)
    have N5 := Lib.hid (N4.out.row (m.map byt))
    have hf5 : Fr (fun b => b = w3.heap.size) w4 (w4.setRow w3.heap.size (m.map byt).toArray) := (Fr.refl (fun b => b = w3.heap.size) w4).setRow (.inr rfl) _
    have K5 := Lib.hid (K0.out.fr hf5 (by have := g2.size; omega))
    have KB5 := Lib.hid (((kb.out.trans (g2.mono (by omega))).trans (NB4.out.mono (by have := g2.size; omega))).trans (hf5.below (B := w.heap.size) (by have := g2.size; omega) (fun b h => by have := g2.size; omega)))
    have hqs : ∀ w, (Op.equalIn 10000 24 (.agg (m.map byt).toArray) (.agg (rt.map byt).toArray)).run Tryz.prog w = .ok (m == rt) w := fun w => run_equal_u8 Tryz.underlying24 (i := _) rfl (by kernel_rfl) Tryz.underlying5 w m rt HML.out HRT.out
    clear hm g1 g2 hf5 hok
    go_upto_region 2 with (first
      | (with_reducible refine wpList_store_blk rfl _ _ _ rfl w3.heap.size (m.map byt) _ rfl _ rfl rfl N4.out (szD' HML.out) (by simp [HML.out]) HMO.out ?_))
    clear hw4
    go_wp2_with (first
      | (with_reducible refine wpList_load_cs (by with_unfolding_all rfl) _ _ rfl w3.heap.size _ rfl N5.out _ Tryz.underlying24 rfl (szD' HML.out) _ rfl ?_)
      | (with_reducible refine wpList_load_cs (by with_unfolding_all rfl) _ _ rfl w.heap.size _ rfl K5.out _ Tryz.underlying24 rfl (szD' HRT.out) _ rfl ?_))
    go_ret
    exact ⟨by rw [HCH.out]; rfl, KB5.out⟩
  · refine (rise_none W leaf p n _ ds HA.out HLF.out hn hp hd (by by_cases h : p < n; exact .inr (fun e => hok ⟨h, e⟩); exact .inl (by omega))).mono ?_
    rintro e w3 ⟨rfl, g2⟩
    have HCH := Lib.hid (show chk rt leaf p n ds = false by unfold chk rise; rw [if_neg hok])
    have HMO := Lib.hid (one_cells zero32)
    obtain ⟨w4, hw4, N4, NB4, ns4⟩ := start32 w3
    have K0 := Lib.hid ((k0.out.below g2).below NB4.out)
    have N5 := Lib.hid (N4.out.row (zero32.map byt))
    have hf5 : Fr (fun b => b = w3.heap.size) w4 (w4.setRow w3.heap.size (zero32.map byt).toArray) := (Fr.refl (fun b => b = w3.heap.size) w4).setRow (.inr rfl) _
    have K5 := Lib.hid (K0.out.fr hf5 (by have := g2.size; omega))
    have KB5 := Lib.hid (((kb.out.trans (g2.mono (by omega))).trans (NB4.out.mono (by have := g2.size; omega))).trans (hf5.below (B := w.heap.size) (by have := g2.size; omega) (fun b h => by have := g2.size; omega)))
    have hqs : ∀ w, (Op.equalIn 10000 24 (.agg (zero32.map byt).toArray) (.agg (rt.map byt).toArray)).run Tryz.prog w = .ok (zero32 == rt) w := fun w => run_equal_u8 Tryz.underlying24 (i := _) rfl (by kernel_rfl) Tryz.underlying5 w zero32 rt rfl HRT.out
    clear g2 hf5 hok hqs
    go_upto_region 2 with (first
      | (with_reducible refine wpList_store_blk rfl _ _ _ rfl w3.heap.size (zero32.map byt) _ rfl _ rfl rfl N4.out (szD' rfl) (by simp) HMO.out ?_))
    clear hw4
    go_wp2
    go_ret
    exact ⟨by rw [HCH.out]; rfl, KB5.out⟩
end Go.Proofs.YtmenchnjajpkmaaGreatDoor.MkW
end

section
namespace Go.Proofs.YtmenchnjajpkmaaGreatDoor.MkW
open Go Go.RowKit Mem Sha ShaW Mk Arr Row
set_option linter.unusedVariables false

theorem results_ct {P : Program} {fn : Func} {p u : Tmp} {ty : TypeId} (h : fn.results = #[.cell p ty, .tmp u]) (tmps : Array Value) (w : World) (g : Nat) (t : TypeId) (l : List Value) (d : TypeDesc)
    (hp : tmps.getD p undef = .pointer (some ⟨g, 0, none⟩)) (hB : Blk w g l t) (hu : P.underlying ty = some d) (hd : (match d with | .struct _ | .array _ _ => true | _ => false) = true) (hi : (P.info? ty).map (·.size) = some l.length) :
    (results fn tmps).run P w = .ok (.tuple #[.agg l.toArray, tmps.getD u undef]) w := by
  have hl := run_loadVar_row (P := P) w g t ty l.toArray (0, 0) d hB hu hd (by simpa using hi)
  have hp' : tmps[p]?.getD undef = .pointer (some ⟨g, 0, none⟩) := by simpa using hp
  simp only [results, h]
  simp [asAddr, hp', hl, Result.andThen]
theorem rise_bad {leaf : Dg} {p n : Nat} {ds : List Dg} (h : ¬ p < n) : rise leaf p n ds = none := by unfold rise; rw [if_neg (fun h2 => h h2.1)]
theorem rise_one {leaf : Dg} {p : Nat} {ds : List Dg} (h : p < 1) : rise leaf p 1 ds = if ds = [] then some leaf else none := by
  unfold rise
  rw [show sides p 1 = [] by rw [sides, if_pos (Nat.le_refl _)]]
  by_cases hd : ds = []
  · subst hd; rw [if_pos ⟨h, rfl⟩, if_pos rfl]; rfl
  · rw [if_neg hd, if_neg (fun h2 => hd (List.length_eq_zero_iff.1 h2.2.symm))]
theorem rise_nil {leaf : Dg} {p n : Nat} (h : 2 ≤ n) : rise leaf p n [] = none := by
  unfold rise
  rw [if_neg]
  rintro ⟨_, h2⟩
  rw [sides, if_neg (by omega)] at h2
  split at h2 <;> simp at h2
theorem rise_left {leaf last : Dg} {p n : Nat} {ds : List Dg} (h : 2 ≤ n) (hp : p < cutAt n) : rise leaf p n (ds ++ [last]) = (rise leaf p (cutAt n) ds).map (fun d => nodeD d last) := by
  have hc := cutAt_lt h
  have hs : sides p n = false :: sides p (cutAt n) := by rw [sides, if_neg (by omega), if_pos hp]
  unfold rise
  rw [hs]
  by_cases hl : (sides p (cutAt n)).length = ds.length
  · rw [if_pos ⟨by omega, by simp [hl]⟩, if_pos ⟨hp, hl⟩, Option.map_some, List.reverse_cons, topOf_snoc _ _ _ _ _ (by simp [hl])]
    rfl
  · rw [if_neg (fun h2 => hl (by simpa using h2.2)), if_neg (fun h2 => hl h2.2)]; rfl
theorem rise_right {leaf last : Dg} {p n : Nat} {ds : List Dg} (h : 2 ≤ n) (hp : ¬ p < cutAt n) (hn : p < n) : rise leaf p n (ds ++ [last]) = (rise leaf (p - cutAt n) (n - cutAt n) ds).map (fun d => nodeD last d) := by
  have hc := cutAt_lt h
  have hs : sides p n = true :: sides (p - cutAt n) (n - cutAt n) := by rw [sides, if_neg (by omega), if_neg hp]
  unfold rise
  rw [hs]
  by_cases hl : (sides (p - cutAt n) (n - cutAt n)).length = ds.length
  · rw [if_pos ⟨hn, by simp [hl]⟩, if_pos ⟨by omega, hl⟩, Option.map_some, List.reverse_cons, topOf_snoc _ _ _ _ _ (by simp [hl])]
    rfl
  · rw [if_neg (fun h2 => hl (by simpa using h2.2)), if_neg (fun h2 => hl h2.2)]; rfl
/-- what Fold keeps -/
structure FS (w : World) (leaf last : Dg) (g11 : Nat) (sub : Value) (ds' : List Dg) (tab : Nat) (wx : World) : Prop where
  k4 : Blk wx w.heap.size (leaf.map byt) 24
  k8 : Blk wx (w.heap.size + 1) (List.replicate 32 (.int .u8 0)) 24
  k11 : Blk wx g11 (last.map byt) 24
  ap : Arr 32 (fun b => b < w.heap.size) wx sub (dcs ds')
  b : Below w.heap.size w wx
  t : TabB wx tab
  h : tab < w.heap.size ∧ w.heap.size + 2 ≤ g11
section
variable {w : World} {leaf last : Dg} {g11 : Nat} {sub : Value} {ds' : List Dg} {tab : Nat} {a c : World}
theorem FS.below (h : FS w leaf last g11 sub ds' tab a) (hb : Below a.heap.size a c) : FS w leaf last g11 sub ds' tab c :=
  ⟨h.k4.below hb, h.k8.below hb, h.k11.below hb, h.ap.below (by omega) hb, h.b.trans (hb.mono h.b.size), h.t.below hb, h.h⟩
theorem FS.drew (h : FS w leaf last g11 sub ds' tab a) : FS w leaf last g11 sub ds' tab a.drew := ⟨h.k4, h.k8, h.k11, h.ap, below_drew h.b, h.t, h.h⟩
theorem FS.lt (h : FS w leaf last g11 sub ds' tab a) : g11 < a.heap.size := h.k11.lt
theorem FS.set (h : FS w leaf last g11 sub ds' tab a) (g : Nat) (hg : w.heap.size + 2 ≤ g ∧ g ≠ g11) (cs : Array Value) : FS w leaf last g11 sub ds' tab (a.setRow g cs) := by
  have hf : Fr (fun b => b = g) a (a.setRow g cs) := (Fr.refl (fun b => b = g) a).setRow (.inr rfl) cs
  exact ⟨h.k4.fr hf (by omega), h.k8.fr hf (by omega), h.k11.fr hf (fun e => hg.2 e.symm), h.ap.fr (by omega) hf (fun b _ hb e => by omega), below_setRow h.b (by omega) _, h.t.fr hf (by have := h.h; omega), h.h⟩
end

set_option maxHeartbeats 16000000 in
set_option maxRecDepth 100000 in
theorem fold_calls (leaf : Dg) (hl : leaf.length = 32) (k : Nat) : ∀ (w : World) (ds : List Dg), ds.length = k → ∀ (p n : Nat) (vp : Value), Arr 32 Any w vp (dcs ds) → (∀ d ∈ ds, d.length = 32) → TabB w 0 → n < 4294967296 → p < 4294967296 → ds.length ≤ 4398046511104 →
    Calls Tryz.prog 50 #[dv leaf, .int .i64 (p : Int), .int .i64 (n : Int), vp] w fun e w' => ∃ d, e = .returned (.tuple #[dv d, .bool (rise leaf p n ds).isSome]) ∧ d.length = 32 ∧ (∀ x, rise leaf p n ds = some x → d = x) ∧ Below w.heap.size w w' := by
  induction k using Nat.strongRecOn with
  | ind k ih0 =>
  intro w ds hk p n vp hA hD hT hn hp hd
  subst hk
  obtain ⟨va, n1, rfl, hk1, hk2, hk3⟩ := hA.form
  simp only [List.length_map] at hA hk1 ⊢
  obtain ⟨W, hW, K4, K8, KB, ks⟩ : ∃ W, (w.alloc (.cells (leaf.map byt).toArray 24)).alloc (.cells #[.int .u8 0, .int .u8 0, .int .u8 0, .int .u8 0, .int .u8 0, .int .u8 0, .int .u8 0, .int .u8 0, .int .u8 0, .int .u8 0, .int .u8 0, .int .u8 0, .int .u8 0, .int .u8 0, .int .u8 0, .int .u8 0, .int .u8 0, .int .u8 0, .int .u8 0, .int .u8 0, .int .u8 0, .int .u8 0, .int .u8 0, .int .u8 0, .int .u8 0, .int .u8 0, .int .u8 0, .int .u8 0, .int .u8 0, .int .u8 0, .int .u8 0, .int .u8 0] 24) = W ∧ Hid (Blk W w.heap.size (leaf.map byt) 24) ∧ Hid (Blk W (w.heap.size + 1) (List.replicate 32 (.int .u8 0)) 24) ∧ Hid (Below w.heap.size w W) ∧ w.heap.size + 2 ≤ W.heap.size := by
    refine ⟨_, rfl, Lib.hid ((Blk.new w _ _ _ rfl).alloc _), Lib.hid ?_, Lib.hid (((Below.refl _ _).alloc (Nat.le_refl _) _).alloc (by simp) _), by simp⟩
    have := new32 (w.alloc (.cells (leaf.map byt).toArray 24))
    rwa [World.size_alloc] at this
  have HZS := Lib.hid (show (Tryz.prog.info? 24).map (·.size) = some ([.int .u8 0, .int .u8 0, .int .u8 0, .int .u8 0, .int .u8 0, .int .u8 0, .int .u8 0, .int .u8 0, .int .u8 0, .int .u8 0, .int .u8 0, .int .u8 0, .int .u8 0, .int .u8 0, .int .u8 0, .int .u8 0, .int .u8 0, .int .u8 0, .int .u8 0, .int .u8 0, .int .u8 0, .int .u8 0, .int .u8 0, .int .u8 0, .int .u8 0, .int .u8 0, .int .u8 0, .int .u8 0, .int .u8 0, .int .u8 0, .int .u8 0, .int .u8 0] : List Value).length from szD)
  have HZN := Lib.hid (show (List.replicate 32 (Value.int .u8 0)).length = ([.int .u8 0, .int .u8 0, .int .u8 0, .int .u8 0, .int .u8 0, .int .u8 0, .int .u8 0, .int .u8 0, .int .u8 0, .int .u8 0, .int .u8 0, .int .u8 0, .int .u8 0, .int .u8 0, .int .u8 0, .int .u8 0, .int .u8 0, .int .u8 0, .int .u8 0, .int .u8 0, .int .u8 0, .int .u8 0, .int .u8 0, .int .u8 0, .int .u8 0, .int .u8 0, .int .u8 0, .int .u8 0, .int .u8 0, .int .u8 0, .int .u8 0, .int .u8 0] : List Value).length from rfl)
  have HZO := Lib.hid (show ∀ v ∈ ([.int .u8 0, .int .u8 0, .int .u8 0, .int .u8 0, .int .u8 0, .int .u8 0, .int .u8 0, .int .u8 0, .int .u8 0, .int .u8 0, .int .u8 0, .int .u8 0, .int .u8 0, .int .u8 0, .int .u8 0, .int .u8 0, .int .u8 0, .int .u8 0, .int .u8 0, .int .u8 0, .int .u8 0, .int .u8 0, .int .u8 0, .int .u8 0, .int .u8 0, .int .u8 0, .int .u8 0, .int .u8 0, .int .u8 0, .int .u8 0, .int .u8 0, .int .u8 0] : List Value), v.oneCell' = true from one_cells zero32)
  have HLF := Lib.hid hl
  have HTL := Lib.hid (show 0 < w.heap.size from (Array.getElem?_eq_some_iff.1 hT.choose_spec.choose_spec).1)
  have HT := Lib.hid (hT.below KB.out)
  have HA := Lib.hid ((hA.mono (E := fun b => b < w.heap.size) (by omega) (fun b h _ => h)).below (by omega) KB.out)
  have HD := Lib.hid hD
  clear hA hT hD
  by_cases hpn : n ≤ p
  · have HR := Lib.hid (rise_bad (leaf := leaf) (ds := ds) (show ¬ p < n by omega))
    have hI : ¬ (p : Int) < (n : Int) := by omega
    clear ih0
    go_enter Tryz.func50, Tryz.ntmps50
    go_wp2_with (with_reducible refine wpList_store_blk rfl _ _ _ rfl (w.heap.size + 1) [.int .u8 0, .int .u8 0, .int .u8 0, .int .u8 0, .int .u8 0, .int .u8 0, .int .u8 0, .int .u8 0, .int .u8 0, .int .u8 0, .int .u8 0, .int .u8 0, .int .u8 0, .int .u8 0, .int .u8 0, .int .u8 0, .int .u8 0, .int .u8 0, .int .u8 0, .int .u8 0, .int .u8 0, .int .u8 0, .int .u8 0, .int .u8 0, .int .u8 0, .int .u8 0, .int .u8 0, .int .u8 0, .int .u8 0, .int .u8 0, .int .u8 0, .int .u8 0] _ rfl _ rfl rfl K8.out HZS.out HZN.out HZO.out ?_)
    refine bodyPost_ret (results_ct Tryz.results50 _ _ (w.heap.size + 1) 24 [.int .u8 0, .int .u8 0, .int .u8 0, .int .u8 0, .int .u8 0, .int .u8 0, .int .u8 0, .int .u8 0, .int .u8 0, .int .u8 0, .int .u8 0, .int .u8 0, .int .u8 0, .int .u8 0, .int .u8 0, .int .u8 0, .int .u8 0, .int .u8 0, .int .u8 0, .int .u8 0, .int .u8 0, .int .u8 0, .int .u8 0, .int .u8 0, .int .u8 0, .int .u8 0, .int .u8 0, .int .u8 0, .int .u8 0, .int .u8 0, .int .u8 0, .int .u8 0] _ rfl (K8.out.row _) Tryz.underlying24 rfl HZS.out) rfl ⟨zero32, by rw [HR.out]; rfl, rfl, (fun x hx => by rw [HR.out] at hx; cases hx), below_setRow KB.out (by omega) _⟩
  · have hI : (p : Int) < (n : Int) := by omega
    by_cases hn1 : n = 1
    · subst hn1
      have hp0 : p < 1 := by omega
      have HR := Lib.hid (rise_one (leaf := leaf) (ds := ds) hp0)
      have HSM := Lib.hid (show (rise leaf p 1 ds).isSome = ((ds.length : Int) == 0) by rw [HR.out]; cases ds <;> simp <;> omega)
      have HLO := Lib.hid (one_cells leaf)
      clear ih0
      go_enter Tryz.func50, Tryz.ntmps50
      go_wp2_with (first
        | (with_reducible refine wpList_load_cs (by with_unfolding_all rfl) _ _ rfl w.heap.size _ rfl K4.out _ Tryz.underlying24 rfl (szD' HLF.out) _ rfl ?_)
        | (with_reducible refine wpList_store_blk rfl _ _ _ rfl (w.heap.size + 1) (leaf.map byt) _ rfl _ rfl rfl K8.out (szD' HLF.out) (by simp [HLF.out]) HLO.out ?_))
      refine bodyPost_ret (results_ct Tryz.results50 _ _ (w.heap.size + 1) 24 _ _ rfl (K8.out.row (leaf.map byt)) Tryz.underlying24 rfl (szD' HLF.out)) rfl ⟨leaf, by rw [HSM.out]; rfl, HLF.out, (fun x hx => by rw [HR.out] at hx; split at hx <;> simp_all), below_setRow KB.out (by omega) _⟩
    · have h2 : 2 ≤ n := by omega
      have hn1B : ((n : Int) == 1) = false := by simp; omega
      by_cases hds : ds = []
      · subst hds
        have HR := Lib.hid (rise_nil (leaf := leaf) (p := p) h2)
        have hl0 : ((([] : List Dg).length : Int) == 0) = true := rfl
        clear ih0
        simp only [List.length_nil]
        go_enter Tryz.func50, Tryz.ntmps50
        go_wp2_with (with_reducible refine wpList_store_blk rfl _ _ _ rfl (w.heap.size + 1) [.int .u8 0, .int .u8 0, .int .u8 0, .int .u8 0, .int .u8 0, .int .u8 0, .int .u8 0, .int .u8 0, .int .u8 0, .int .u8 0, .int .u8 0, .int .u8 0, .int .u8 0, .int .u8 0, .int .u8 0, .int .u8 0, .int .u8 0, .int .u8 0, .int .u8 0, .int .u8 0, .int .u8 0, .int .u8 0, .int .u8 0, .int .u8 0, .int .u8 0, .int .u8 0, .int .u8 0, .int .u8 0, .int .u8 0, .int .u8 0, .int .u8 0, .int .u8 0] _ rfl _ rfl rfl K8.out HZS.out HZN.out HZO.out ?_)
        refine bodyPost_ret (results_ct Tryz.results50 _ _ (w.heap.size + 1) 24 [.int .u8 0, .int .u8 0, .int .u8 0, .int .u8 0, .int .u8 0, .int .u8 0, .int .u8 0, .int .u8 0, .int .u8 0, .int .u8 0, .int .u8 0, .int .u8 0, .int .u8 0, .int .u8 0, .int .u8 0, .int .u8 0, .int .u8 0, .int .u8 0, .int .u8 0, .int .u8 0, .int .u8 0, .int .u8 0, .int .u8 0, .int .u8 0, .int .u8 0, .int .u8 0, .int .u8 0, .int .u8 0, .int .u8 0, .int .u8 0, .int .u8 0, .int .u8 0] _ rfl (K8.out.row _) Tryz.underlying24 rfl HZS.out) rfl ⟨zero32, by rw [HR.out]; rfl, rfl, (fun x hx => by rw [HR.out] at hx; cases hx), below_setRow KB.out (by omega) _⟩
      · obtain ⟨ds', last, rfl⟩ : ∃ a b, ds = a ++ [b] := ⟨ds.dropLast, ds.getLast hds, (List.dropLast_concat_getLast hds).symm⟩
        have hll : ds'.length + 1 = (ds' ++ [last]).length := by simp
        have HLL := Lib.hid (HD.out last (by simp))
        have HD2 := Lib.hid (fun d hd => HD.out d (by simp [hd]) : ∀ d ∈ ds', d.length = 32)
        have hcb := cutN_bounds h2 (by omega)
        have HCE := Lib.hid (cutAt_eq h2 (by omega))
        obtain ⟨b1, o1, q1, e1, hb1, r1⟩ := HA.out.at ds'.length (by simp)
        simp only [List.length_map, Value.slice.injEq] at e1
        obtain ⟨rfl, _, rfl⟩ := e1
        simp only [List.getElem_map, List.getElem_append_right (Nat.le_refl _), Nat.sub_self, List.getElem_cons_zero] at r1
        have HR1 := Lib.hid r1
        obtain ⟨sa, sc, _, hs1, _, ha1⟩ := run_slice_arr elemD HA.out 0 ds'.length (Nat.zero_le _) (by simp)
        have hs1 := hs1 rfl
        rw [List.drop_zero, ← dcs_take, show (ds' ++ [last]).take ds'.length = ds' by simp] at ha1
        simp only [Nat.sub_zero] at hs1 ha1
        have hl0 : ((ds'.length : Int) + 1 == 0) = false := by simp; omega
        obtain ⟨sub, hsub⟩ : ∃ s, Value.slice sa ds'.length sc = s := ⟨_, rfl⟩
        rw [hsub] at hs1 ha1
        have HAS := Lib.hid ha1
        have hdd : ds'.length + 1 ≤ 4398046511104 := by rw [hll]; exact hd
        rw [← hll] at hs1 hk1 ⊢
        have HI := Lib.hid ih0
        clear r1 ih0 ha1 hsub hll hd hds
        go_enter Tryz.func50, Tryz.ntmps50
        go_wp2_with fail
        clear hW
        refine (ref_cut_calls n _ h2 (by omega)).mono ?_
        rintro e wz ⟨rfl, rfl⟩
        obtain ⟨W3, hW3, N3, NB3, ns3⟩ := start32 W
        have HLO := Lib.hid (one_cells last)
        have N4 := Lib.hid (N3.out.row (last.map byt))
        have hf4 : Fr (fun b => b = W.heap.size) W3 (W3.setRow W.heap.size (last.map byt).toArray) := (Fr.refl (fun b => b = W.heap.size) W3).setRow (.inr rfl) _
        obtain ⟨W5, hW5⟩ : ∃ x, W3.setRow W.heap.size (last.map byt).toArray = x := ⟨_, rfl⟩
        have HF := Lib.hid (show FS w leaf last W.heap.size sub ds' 0 W5 by
          rw [← hW5]
          exact ⟨(K4.out.below NB3.out).fr hf4 (by omega), (K8.out.below NB3.out).fr hf4 (by omega), N4.out, (HAS.out.below (by omega) NB3.out).fr (by omega) hf4 (fun b _ h1 h2 => by omega), (KB.out.trans (NB3.out.mono (by omega))).trans (hf4.below (by omega) (fun b h => by omega)), (HT.out.below NB3.out).fr hf4 (by have := HTL.out; omega), HTL.out, ks⟩)
        clear hf4
        go_upto_region 9 with (first
          | (with_reducible refine wpList_load_mid rfl _ _ rfl b1 (o1 + ds'.length * 32) rfl (last.map byt) _ HR1.out Tryz.underlying24 rfl (szD' HLL.out) ?_)
          | (with_reducible refine wpList_store_blk rfl _ _ _ rfl W.heap.size (last.map byt) _ rfl _ rfl rfl N3.out (szD' HLL.out) (by simp [HLL.out]) HLO.out ?_))
        rw [hW5]
        clear hW3 hW5
        obtain ⟨g11, hg11⟩ : ∃ g, W.heap.size = g := ⟨_, rfl⟩
        rw [hg11] at HF ⊢
        have HNE := Lib.hid hg11
        clear hg11 N3 N4 NB3 HA HR1 KB K4 K8
        have hwl : IntKind.i64.wrap (ds'.length : Int) = (ds'.length : Int) := IntWalk.i64_in _ (by omega)
        have hwp : ¬ p < cutN n → IntKind.i64.wrap ((p : Int) - (cutN n : Int)) = (p : Int) - (cutN n : Int) := fun h => IntWalk.i64_in _ (by omega)
        have hwn : IntKind.i64.wrap ((n : Int) - (cutN n : Int)) = (n : Int) - (cutN n : Int) := IntWalk.i64_in _ (by omega)
        have ih := HI.out
        clear HI
        by_cases hq : p < cutN n
        · have hqI : (p : Int) < (cutN n : Int) := by omega
          clear hwp
          have hcI : (cutN n : Int) < (n : Int) := by omega
          go_wp2
          refine wp_region_held_drew (S := (fun w' => FS w leaf last g11 sub ds' 0 w')) (by kernel_rfl) HF.out.drew (fun hHeld => ?_)
          refine wpAnyH_take (i := 0) (oi := ⟨_, _, _, _, _, _⟩) rfl (by kernel_rfl) (by kernel_rfl) (by kernel_rfl) (fun _ _ _ h => h) (yieldsIf_load_mid (by rfl) _ _ rfl w.heap.size 0 rfl (leaf.map byt) _ (fun _ h => blk_range h.k4) Tryz.underlying24 rfl (szD' HLF.out)) (by assumption) ?_
          try simp only [Act.put, List.setIfInBounds_toArray, List.set_cons_zero, List.set_cons_succ]
          refine wpAnyH_take (i := 1) (oi := ⟨_, _, _, _, _, _⟩) (v := ?_) rfl (by kernel_rfl) (by kernel_rfl) (by kernel_rfl) (fun _ _ _ h => h) (Or.inl ⟨by rfl, ?_⟩) (by assumption) ?_
          rotate_left
          · intro w hSw; go_simp; try (with_reducible rfl)
          try simp only [Act.put, List.setIfInBounds_toArray, List.set_cons_zero, List.set_cons_succ]
          refine wpAnyH_take (i := 2) (oi := ⟨_, _, _, _, _, _⟩) (v := ?_) rfl (by kernel_rfl) (by kernel_rfl) (by kernel_rfl) (fun _ _ _ h => h) (Or.inl ⟨by rfl, ?_⟩) (by assumption) ?_
          rotate_left
          · intro w hSw; go_simp; try (with_reducible rfl)
          try simp only [Act.put, List.setIfInBounds_toArray, List.set_cons_zero, List.set_cons_succ]
          refine wpAnyH_take (i := 3) (oi := ⟨_, _, _, _, _, _⟩) (v := ?_) rfl (by kernel_rfl) (by kernel_rfl) (by kernel_rfl) (fun _ _ _ h => h) (Or.inl ⟨by rfl, ?_⟩) (by assumption) ?_
          rotate_left
          · intro w hSw; go_simp; try (with_reducible rfl)
          try simp only [Act.put, List.setIfInBounds_toArray, List.set_cons_zero, List.set_cons_succ]
          refine wpAnyH_take (i := 4) (oi := ⟨_, _, _, _, _, _⟩) (v := ?_) rfl (by kernel_rfl) (by kernel_rfl) (by kernel_rfl) (fun _ _ _ h => h) (Or.inl ⟨by rfl, ?_⟩) (by assumption) ?_
          rotate_left
          · intro w hSw; go_simp; try (with_reducible rfl)
          try simp only [Act.put, List.setIfInBounds_toArray, List.set_cons_zero, List.set_cons_succ]
          refine wpAnyH_take (i := 5) (oi := ⟨_, _, _, _, _, _⟩) (v := ?_) rfl (by kernel_rfl) (by kernel_rfl) (by kernel_rfl) (fun _ _ _ h => h) (Or.inl ⟨by rfl, ?_⟩) (by assumption) ?_
          rotate_left
          · intro w hSw; go_simp; try (with_reducible rfl)
          try simp only [Act.put, List.setIfInBounds_toArray, List.set_cons_zero, List.set_cons_succ]
          refine wpAnyH_take (i := 6) (oi := ⟨_, _, _, _, _, _⟩) (v := ?_) rfl (by kernel_rfl) (by kernel_rfl) (by kernel_rfl) (fun _ _ _ h => h) (Or.inl ⟨by rfl, ?_⟩) (by assumption) ?_
          rotate_left
          · intro w hSw; go_simp; try (with_reducible rfl)
          try simp only [Act.put, List.setIfInBounds_toArray, List.set_cons_zero, List.set_cons_succ]
          refine wpAnyH_take (i := 7) (oi := ⟨_, _, _, _, _, _⟩) (v := ?_) rfl (by kernel_rfl) (by kernel_rfl) (by kernel_rfl) (fun _ _ _ h => h) (Or.inl ⟨by rfl, ?_⟩) (by assumption) ?_
          rotate_left
          · intro w hSw; go_simp; try (with_reducible rfl)
          try simp only [Act.put, List.setIfInBounds_toArray, List.set_cons_zero, List.set_cons_succ]
          refine wpAnyH_ready (rs := [8, 12]) (by kernel_rfl) (by simp) ?_
          refine AllReadyH.cons (o := ⟨_, _, _, _, _, _⟩) rfl (fun K hK => ?_) (AllReadyH.cons (o := ⟨_, _, _, _, _, _⟩) rfl (fun K hK => ?_) AllReadyH.nil)
          · go_simp
            refine (ih ds'.length (by simp) _ ds' rfl p (cutN n) sub hHeld.ap.any HD2.out hHeld.t (by omega) (by omega) (by omega)).mono ?_
            rintro e w2 ⟨d, rfl, hdl, hdr, g⟩
            refine hK.out _ _ (hHeld.below g) (fun hHeld => ?_)
            clear hK
            try simp only [Act.put, List.setIfInBounds_toArray, List.set_cons_zero, List.set_cons_succ]
            have hl2 := hHeld.lt
            have hb2 := hHeld.h.2
            refine wpAnyH_take (i := 9) (oi := ⟨_, _, _, _, _, _⟩) (v := ?_) rfl (by kernel_rfl) (by kernel_rfl) (by kernel_rfl) (fun _ _ _ h => h) (Or.inl ⟨by rfl, ?_⟩) (by assumption) ?_
            rotate_left
            · intro w hSw; go_simp; try (with_reducible rfl)
            try simp only [Act.put, List.setIfInBounds_toArray, List.set_cons_zero, List.set_cons_succ]
            refine wpAnyH_take (i := 10) (oi := ⟨_, _, _, _, _, _⟩) (v := ?_) rfl (by kernel_rfl) (by kernel_rfl) (by kernel_rfl) (fun _ _ _ h => h) (Or.inl ⟨by rfl, ?_⟩) (by assumption) ?_
            rotate_left
            · intro w hSw; go_simp; try (with_reducible rfl)
            try simp only [Act.put, List.setIfInBounds_toArray, List.set_cons_zero, List.set_cons_succ]
            refine wpAnyH_take (i := 11) (oi := ⟨_, _, _, _, _, _⟩) (v := ?_) rfl (by kernel_rfl) (by kernel_rfl) (by kernel_rfl) (fun _ _ _ h => h) (Or.inl ⟨by rfl, ?_⟩) (by assumption) ?_
            rotate_left
            · intro w hSw; go_simp; try (with_reducible rfl)
            try simp only [Act.put, List.setIfInBounds_toArray, List.set_cons_zero, List.set_cons_succ]
            obtain ⟨wa, hwa, NA, NBA, nsa⟩ := start32 w2
            refine wpAnyH_ready (rs := [12]) (by kernel_rfl) (by simp) ?_
            refine AllReadyH.cons (o := ⟨_, _, _, _, _, _⟩) rfl (fun K hK => ?_) AllReadyH.nil
            go_simp
            refine hK.out _ _ (hHeld.below NBA.out) (fun hHeld => ?_)
            clear hK
            try simp only [Act.put, List.setIfInBounds_toArray, List.set_cons_zero, List.set_cons_succ]
            clear hwa
            refine wpAnyH_ready (rs := [13]) (by kernel_rfl) (by simp) ?_
            refine AllReadyH.cons (o := ⟨_, _, _, _, _, _⟩) rfl (fun K hK => ?_) AllReadyH.nil
            rw [if_pos (by rfl)]
            have hN := NA.out
            have hlt := hHeld.lt
            refine wp_store_blk _ _ _ rfl _ (d.map byt) _ rfl rfl hN (szD' hdl) (by simp [hdl]) (one_cells d) ?_
            have hfin := hN.row (d.map byt)
            refine hK.out _ _ (hHeld.set _ (by omega) _) (fun hHeld => ?_)
            clear hK
            refine wpAnyH_ready (rs := [14]) (by kernel_rfl) (by simp) ?_
            refine AllReadyH.cons (o := ⟨_, _, _, _, _, _⟩) rfl (fun K hK => ?_) AllReadyH.nil
            go_simp
            refine hK.out _ _ hHeld (fun hHeld => ?_)
            clear hK
            refine wpAnyH_done (by kernel_rfl) ?_ _
            have HFI := Lib.hid hfin
            have HHE := Lib.hid hHeld
            have HDL := Lib.hid hdl
            have HDR := Lib.hid hdr
            clear hfin hHeld hdl hdr
            go_wp2_with (first | (with_reducible refine wpList_load_cs (by with_unfolding_all rfl) _ _ rfl _ _ rfl HFI.out _ Tryz.underlying24 rfl (szD' HDL.out) _ rfl ?_) | (with_reducible refine wpList_load_cs (by with_unfolding_all rfl) _ _ rfl g11 _ rfl HHE.out.k11 _ Tryz.underlying24 rfl (szD' HLL.out) _ rfl ?_))
            refine (ref_node_calls _ d last HDL.out HLL.out HHE.out.t).mono ?_
            rintro e w6 ⟨rfl, g⟩
            obtain ⟨m, hm⟩ : ∃ m, nodeD d last = m := ⟨_, rfl⟩
            have HML := Lib.hid (show m.length = 32 by rw [← hm]; exact nodeD_length _ _)
            have HMO := Lib.hid (one_cells m)
            rw [hm]
            have HH6 := Lib.hid (HHE.out.below g)
            have HFX := Lib.hid (show ∀ x, rise leaf p n (ds' ++ [last]) = some x → m = x from fun x hx => by
              rw [rise_left h2 (by rw [HCE.out]; exact hq), HCE.out] at hx
              obtain ⟨y, hy, rfl⟩ := Option.map_eq_some_iff.1 hx
              rw [HDR.out y hy] at hm; exact hm.symm)
            have HFO := Lib.hid (show (rise leaf p n (ds' ++ [last])).isSome = (rise leaf p (cutN n) ds').isSome by rw [rise_left h2 (by rw [HCE.out]; exact hq), HCE.out]; simp)
            have HZ := Lib.hid HH6.out.k8
            clear g hm HHE HFI
            go_wp2_with (with_reducible refine wpList_store_blk rfl _ _ _ rfl (w.heap.size + 1) (m.map byt) _ rfl _ rfl rfl HZ.out (szD' HML.out) (by simp [HML.out]) HMO.out ?_)
            refine bodyPost_ret (results_ct Tryz.results50 _ _ (w.heap.size + 1) 24 _ _ rfl (HZ.out.row (m.map byt)) Tryz.underlying24 rfl (szD' HML.out)) rfl ⟨m, by rw [HFO.out]; rfl, HML.out, HFX.out, below_setRow HH6.out.b (by omega) _⟩
          · have hl2 : g11 < W5.heap.size := hHeld.lt
            have hb2 := hHeld.h.2
            obtain ⟨wa, hwa, NA, NBA, nsa⟩ := start32 W5.drew
            rw [show W5.drew.heap.size = W5.heap.size from rfl] at NA
            go_simp
            refine hK.out _ _ (hHeld.below NBA.out) (fun hHeld => ?_)
            clear hK
            try simp only [Act.put, List.setIfInBounds_toArray, List.set_cons_zero, List.set_cons_succ]
            clear hwa
            refine wpAnyH_ready (rs := [8]) (by kernel_rfl) (by simp) ?_
            refine AllReadyH.cons (o := ⟨_, _, _, _, _, _⟩) rfl (fun K hK => ?_) AllReadyH.nil
            go_simp
            refine (ih ds'.length (by simp) _ ds' rfl p (cutN n) sub hHeld.ap.any HD2.out hHeld.t (by omega) (by omega) (by omega)).mono ?_
            rintro e w2 ⟨d, rfl, hdl, hdr, g⟩
            refine hK.out _ _ (hHeld.below g) (fun hHeld => ?_)
            clear hK
            try simp only [Act.put, List.setIfInBounds_toArray, List.set_cons_zero, List.set_cons_succ]
            refine wpAnyH_take (i := 9) (oi := ⟨_, _, _, _, _, _⟩) (v := ?_) rfl (by kernel_rfl) (by kernel_rfl) (by kernel_rfl) (fun _ _ _ h => h) (Or.inl ⟨by rfl, ?_⟩) (by assumption) ?_
            rotate_left
            · intro w hSw; go_simp; try (with_reducible rfl)
            try simp only [Act.put, List.setIfInBounds_toArray, List.set_cons_zero, List.set_cons_succ]
            refine wpAnyH_take (i := 10) (oi := ⟨_, _, _, _, _, _⟩) (v := ?_) rfl (by kernel_rfl) (by kernel_rfl) (by kernel_rfl) (fun _ _ _ h => h) (Or.inl ⟨by rfl, ?_⟩) (by assumption) ?_
            rotate_left
            · intro w hSw; go_simp; try (with_reducible rfl)
            try simp only [Act.put, List.setIfInBounds_toArray, List.set_cons_zero, List.set_cons_succ]
            refine wpAnyH_take (i := 11) (oi := ⟨_, _, _, _, _, _⟩) (v := ?_) rfl (by kernel_rfl) (by kernel_rfl) (by kernel_rfl) (fun _ _ _ h => h) (Or.inl ⟨by rfl, ?_⟩) (by assumption) ?_
            rotate_left
            · intro w hSw; go_simp; try (with_reducible rfl)
            try simp only [Act.put, List.setIfInBounds_toArray, List.set_cons_zero, List.set_cons_succ]
            refine wpAnyH_ready (rs := [13]) (by kernel_rfl) (by simp) ?_
            refine AllReadyH.cons (o := ⟨_, _, _, _, _, _⟩) rfl (fun K hK => ?_) AllReadyH.nil
            rw [if_pos (by rfl)]
            have hN := NA.out.below g
            have hlt := hHeld.lt
            refine wp_store_blk _ _ _ rfl _ (d.map byt) _ rfl rfl hN (szD' hdl) (by simp [hdl]) (one_cells d) ?_
            have hfin := hN.row (d.map byt)
            refine hK.out _ _ (hHeld.set _ (by omega) _) (fun hHeld => ?_)
            clear hK
            refine wpAnyH_ready (rs := [14]) (by kernel_rfl) (by simp) ?_
            refine AllReadyH.cons (o := ⟨_, _, _, _, _, _⟩) rfl (fun K hK => ?_) AllReadyH.nil
            go_simp
            refine hK.out _ _ hHeld (fun hHeld => ?_)
            clear hK
            refine wpAnyH_done (by kernel_rfl) ?_ _
            have HFI := Lib.hid hfin
            have HHE := Lib.hid hHeld
            have HDL := Lib.hid hdl
            have HDR := Lib.hid hdr
            clear hfin hHeld hdl hdr
            go_wp2_with (first | (with_reducible refine wpList_load_cs (by with_unfolding_all rfl) _ _ rfl _ _ rfl HFI.out _ Tryz.underlying24 rfl (szD' HDL.out) _ rfl ?_) | (with_reducible refine wpList_load_cs (by with_unfolding_all rfl) _ _ rfl g11 _ rfl HHE.out.k11 _ Tryz.underlying24 rfl (szD' HLL.out) _ rfl ?_))
            refine (ref_node_calls _ d last HDL.out HLL.out HHE.out.t).mono ?_
            rintro e w6 ⟨rfl, g⟩
            obtain ⟨m, hm⟩ : ∃ m, nodeD d last = m := ⟨_, rfl⟩
            have HML := Lib.hid (show m.length = 32 by rw [← hm]; exact nodeD_length _ _)
            have HMO := Lib.hid (one_cells m)
            rw [hm]
            have HH6 := Lib.hid (HHE.out.below g)
            have HFX := Lib.hid (show ∀ x, rise leaf p n (ds' ++ [last]) = some x → m = x from fun x hx => by
              rw [rise_left h2 (by rw [HCE.out]; exact hq), HCE.out] at hx
              obtain ⟨y, hy, rfl⟩ := Option.map_eq_some_iff.1 hx
              rw [HDR.out y hy] at hm; exact hm.symm)
            have HFO := Lib.hid (show (rise leaf p n (ds' ++ [last])).isSome = (rise leaf p (cutN n) ds').isSome by rw [rise_left h2 (by rw [HCE.out]; exact hq), HCE.out]; simp)
            have HZ := Lib.hid HH6.out.k8
            clear g hm HHE HFI
            go_wp2_with (with_reducible refine wpList_store_blk rfl _ _ _ rfl (w.heap.size + 1) (m.map byt) _ rfl _ rfl rfl HZ.out (szD' HML.out) (by simp [HML.out]) HMO.out ?_)
            refine bodyPost_ret (results_ct Tryz.results50 _ _ (w.heap.size + 1) 24 _ _ rfl (HZ.out.row (m.map byt)) Tryz.underlying24 rfl (szD' HML.out)) rfl ⟨m, by rw [HFO.out]; rfl, HML.out, HFX.out, below_setRow HH6.out.b (by omega) _⟩
        · have hqI : ¬ (p : Int) < (cutN n : Int) := by omega
          replace hwp := hwp hq
          have hcI : (cutN n : Int) < (n : Int) := by omega
          go_wp2
          refine wp_region_held_drew (S := (fun w' => FS w leaf last g11 sub ds' 0 w')) (by kernel_rfl) HF.out.drew (fun hHeld => ?_)
          refine wpAnyH_take (i := 0) (oi := ⟨_, _, _, _, _, _⟩) rfl (by kernel_rfl) (by kernel_rfl) (by kernel_rfl) (fun _ _ _ h => h) (yieldsIf_load_mid (by rfl) _ _ rfl w.heap.size 0 rfl (leaf.map byt) _ (fun _ h => blk_range h.k4) Tryz.underlying24 rfl (szD' HLF.out)) (by assumption) ?_
          try simp only [Act.put, List.setIfInBounds_toArray, List.set_cons_zero, List.set_cons_succ]
          refine wpAnyH_take (i := 1) (oi := ⟨_, _, _, _, _, _⟩) (v := ?_) rfl (by kernel_rfl) (by kernel_rfl) (by kernel_rfl) (fun _ _ _ h => h) (Or.inl ⟨by rfl, ?_⟩) (by assumption) ?_
          rotate_left
          · intro w hSw; go_simp; try (with_reducible rfl)
          try simp only [Act.put, List.setIfInBounds_toArray, List.set_cons_zero, List.set_cons_succ]
          refine wpAnyH_take (i := 2) (oi := ⟨_, _, _, _, _, _⟩) (v := ?_) rfl (by kernel_rfl) (by kernel_rfl) (by kernel_rfl) (fun _ _ _ h => h) (Or.inl ⟨by rfl, ?_⟩) (by assumption) ?_
          rotate_left
          · intro w hSw; go_simp; try (with_reducible rfl)
          try simp only [Act.put, List.setIfInBounds_toArray, List.set_cons_zero, List.set_cons_succ]
          refine wpAnyH_take (i := 3) (oi := ⟨_, _, _, _, _, _⟩) (v := ?_) rfl (by kernel_rfl) (by kernel_rfl) (by kernel_rfl) (fun _ _ _ h => h) (Or.inl ⟨by rfl, ?_⟩) (by assumption) ?_
          rotate_left
          · intro w hSw; go_simp; try (with_reducible rfl)
          try simp only [Act.put, List.setIfInBounds_toArray, List.set_cons_zero, List.set_cons_succ]
          refine wpAnyH_take (i := 4) (oi := ⟨_, _, _, _, _, _⟩) (v := ?_) rfl (by kernel_rfl) (by kernel_rfl) (by kernel_rfl) (fun _ _ _ h => h) (Or.inl ⟨by rfl, ?_⟩) (by assumption) ?_
          rotate_left
          · intro w hSw; go_simp; try (with_reducible rfl)
          try simp only [Act.put, List.setIfInBounds_toArray, List.set_cons_zero, List.set_cons_succ]
          refine wpAnyH_take (i := 5) (oi := ⟨_, _, _, _, _, _⟩) (v := ?_) rfl (by kernel_rfl) (by kernel_rfl) (by kernel_rfl) (fun _ _ _ h => h) (Or.inl ⟨by rfl, ?_⟩) (by assumption) ?_
          rotate_left
          · intro w hSw; go_simp; try (with_reducible rfl)
          try simp only [Act.put, List.setIfInBounds_toArray, List.set_cons_zero, List.set_cons_succ]
          refine wpAnyH_take (i := 6) (oi := ⟨_, _, _, _, _, _⟩) (v := ?_) rfl (by kernel_rfl) (by kernel_rfl) (by kernel_rfl) (fun _ _ _ h => h) (Or.inl ⟨by rfl, ?_⟩) (by assumption) ?_
          rotate_left
          · intro w hSw; go_simp; try (with_reducible rfl)
          try simp only [Act.put, List.setIfInBounds_toArray, List.set_cons_zero, List.set_cons_succ]
          refine wpAnyH_take (i := 7) (oi := ⟨_, _, _, _, _, _⟩) (v := ?_) rfl (by kernel_rfl) (by kernel_rfl) (by kernel_rfl) (fun _ _ _ h => h) (Or.inl ⟨by rfl, ?_⟩) (by assumption) ?_
          rotate_left
          · intro w hSw; go_simp; try (with_reducible rfl)
          try simp only [Act.put, List.setIfInBounds_toArray, List.set_cons_zero, List.set_cons_succ]
          refine wpAnyH_take (i := 8) (oi := ⟨_, _, _, _, _, _⟩) (v := ?_) rfl (by kernel_rfl) (by kernel_rfl) (by kernel_rfl) (fun _ _ _ h => h) (Or.inl ⟨by rfl, ?_⟩) (by assumption) ?_
          rotate_left
          · intro w hSw; go_simp; try (with_reducible rfl)
          try simp only [Act.put, List.setIfInBounds_toArray, List.set_cons_zero, List.set_cons_succ]
          refine wpAnyH_take (i := 9) (oi := ⟨_, _, _, _, _, _⟩) (v := ?_) rfl (by kernel_rfl) (by kernel_rfl) (by kernel_rfl) (fun _ _ _ h => h) (Or.inl ⟨by rfl, ?_⟩) (by assumption) ?_
          rotate_left
          · intro w hSw; go_simp; try (with_reducible rfl)
          try simp only [Act.put, List.setIfInBounds_toArray, List.set_cons_zero, List.set_cons_succ]
          refine wpAnyH_take (i := 10) (oi := ⟨_, _, _, _, _, _⟩) (v := ?_) rfl (by kernel_rfl) (by kernel_rfl) (by kernel_rfl) (fun _ _ _ h => h) (Or.inl ⟨by rfl, ?_⟩) (by assumption) ?_
          rotate_left
          · intro w hSw; go_simp; try (with_reducible rfl)
          try simp only [Act.put, List.setIfInBounds_toArray, List.set_cons_zero, List.set_cons_succ]
          refine wpAnyH_take (i := 11) (oi := ⟨_, _, _, _, _, _⟩) (v := ?_) rfl (by kernel_rfl) (by kernel_rfl) (by kernel_rfl) (fun _ _ _ h => h) (Or.inl ⟨by rfl, ?_⟩) (by assumption) ?_
          rotate_left
          · intro w hSw; go_simp; try (with_reducible rfl)
          try simp only [Act.put, List.setIfInBounds_toArray, List.set_cons_zero, List.set_cons_succ]
          refine wpAnyH_ready (rs := [12, 16]) (by kernel_rfl) (by simp) ?_
          refine AllReadyH.cons (o := ⟨_, _, _, _, _, _⟩) rfl (fun K hK => ?_) (AllReadyH.cons (o := ⟨_, _, _, _, _, _⟩) rfl (fun K hK => ?_) AllReadyH.nil)
          · go_simp
            rw [show ((p : Int) - (cutN n : Int)) = ((p - cutN n : Nat) : Int) from by omega, show ((n : Int) - (cutN n : Int)) = ((n - cutN n : Nat) : Int) from by omega]
            refine (ih ds'.length (by simp) _ ds' rfl (p - cutN n) (n - cutN n) sub hHeld.ap.any HD2.out hHeld.t (by omega) (by omega) (by omega)).mono ?_
            rintro e w2 ⟨d, rfl, hdl, hdr, g⟩
            refine hK.out _ _ (hHeld.below g) (fun hHeld => ?_)
            clear hK
            try simp only [Act.put, List.setIfInBounds_toArray, List.set_cons_zero, List.set_cons_succ]
            have hl2 := hHeld.lt
            have hb2 := hHeld.h.2
            refine wpAnyH_take (i := 13) (oi := ⟨_, _, _, _, _, _⟩) (v := ?_) rfl (by kernel_rfl) (by kernel_rfl) (by kernel_rfl) (fun _ _ _ h => h) (Or.inl ⟨by rfl, ?_⟩) (by assumption) ?_
            rotate_left
            · intro w hSw; go_simp; try (with_reducible rfl)
            try simp only [Act.put, List.setIfInBounds_toArray, List.set_cons_zero, List.set_cons_succ]
            refine wpAnyH_take (i := 14) (oi := ⟨_, _, _, _, _, _⟩) (v := ?_) rfl (by kernel_rfl) (by kernel_rfl) (by kernel_rfl) (fun _ _ _ h => h) (Or.inl ⟨by rfl, ?_⟩) (by assumption) ?_
            rotate_left
            · intro w hSw; go_simp; try (with_reducible rfl)
            try simp only [Act.put, List.setIfInBounds_toArray, List.set_cons_zero, List.set_cons_succ]
            refine wpAnyH_take (i := 15) (oi := ⟨_, _, _, _, _, _⟩) (v := ?_) rfl (by kernel_rfl) (by kernel_rfl) (by kernel_rfl) (fun _ _ _ h => h) (Or.inl ⟨by rfl, ?_⟩) (by assumption) ?_
            rotate_left
            · intro w hSw; go_simp; try (with_reducible rfl)
            try simp only [Act.put, List.setIfInBounds_toArray, List.set_cons_zero, List.set_cons_succ]
            obtain ⟨wa, hwa, NA, NBA, nsa⟩ := start32 w2
            refine wpAnyH_ready (rs := [16]) (by kernel_rfl) (by simp) ?_
            refine AllReadyH.cons (o := ⟨_, _, _, _, _, _⟩) rfl (fun K hK => ?_) AllReadyH.nil
            go_simp
            refine hK.out _ _ (hHeld.below NBA.out) (fun hHeld => ?_)
            clear hK
            try simp only [Act.put, List.setIfInBounds_toArray, List.set_cons_zero, List.set_cons_succ]
            clear hwa
            refine wpAnyH_ready (rs := [17]) (by kernel_rfl) (by simp) ?_
            refine AllReadyH.cons (o := ⟨_, _, _, _, _, _⟩) rfl (fun K hK => ?_) AllReadyH.nil
            rw [if_pos (by rfl)]
            have hN := NA.out
            have hlt := hHeld.lt
            refine wp_store_blk _ _ _ rfl _ (d.map byt) _ rfl rfl hN (szD' hdl) (by simp [hdl]) (one_cells d) ?_
            have hfin := hN.row (d.map byt)
            refine hK.out _ _ (hHeld.set _ (by omega) _) (fun hHeld => ?_)
            clear hK
            refine wpAnyH_ready (rs := [18]) (by kernel_rfl) (by simp) ?_
            refine AllReadyH.cons (o := ⟨_, _, _, _, _, _⟩) rfl (fun K hK => ?_) AllReadyH.nil
            go_simp
            refine hK.out _ _ hHeld (fun hHeld => ?_)
            clear hK
            refine wpAnyH_done (by kernel_rfl) ?_ _
            have HFI := Lib.hid hfin
            have HHE := Lib.hid hHeld
            have HDL := Lib.hid hdl
            have HDR := Lib.hid hdr
            clear hfin hHeld hdl hdr
            go_wp2_with (first | (with_reducible refine wpList_load_cs (by with_unfolding_all rfl) _ _ rfl _ _ rfl HFI.out _ Tryz.underlying24 rfl (szD' HDL.out) _ rfl ?_) | (with_reducible refine wpList_load_cs (by with_unfolding_all rfl) _ _ rfl g11 _ rfl HHE.out.k11 _ Tryz.underlying24 rfl (szD' HLL.out) _ rfl ?_))
            refine (ref_node_calls _ last d HLL.out HDL.out HHE.out.t).mono ?_
            rintro e w6 ⟨rfl, g⟩
            obtain ⟨m, hm⟩ : ∃ m, nodeD last d = m := ⟨_, rfl⟩
            have HML := Lib.hid (show m.length = 32 by rw [← hm]; exact nodeD_length _ _)
            have HMO := Lib.hid (one_cells m)
            rw [hm]
            have HH6 := Lib.hid (HHE.out.below g)
            have HFX := Lib.hid (show ∀ x, rise leaf p n (ds' ++ [last]) = some x → m = x from fun x hx => by
              rw [rise_right h2 (by rw [HCE.out]; exact hq) (by omega), HCE.out] at hx
              obtain ⟨y, hy, rfl⟩ := Option.map_eq_some_iff.1 hx
              rw [HDR.out y hy] at hm; exact hm.symm)
            have HFO := Lib.hid (show (rise leaf p n (ds' ++ [last])).isSome = (rise leaf (p - cutN n) (n - cutN n) ds').isSome by rw [rise_right h2 (by rw [HCE.out]; exact hq) (by omega), HCE.out]; simp)
            have HZ := Lib.hid HH6.out.k8
            clear g hm HHE HFI
            go_wp2_with (with_reducible refine wpList_store_blk rfl _ _ _ rfl (w.heap.size + 1) (m.map byt) _ rfl _ rfl rfl HZ.out (szD' HML.out) (by simp [HML.out]) HMO.out ?_)
            refine bodyPost_ret (results_ct Tryz.results50 _ _ (w.heap.size + 1) 24 _ _ rfl (HZ.out.row (m.map byt)) Tryz.underlying24 rfl (szD' HML.out)) rfl ⟨m, by rw [HFO.out]; rfl, HML.out, HFX.out, below_setRow HH6.out.b (by omega) _⟩
          · have hl2 : g11 < W5.heap.size := hHeld.lt
            have hb2 := hHeld.h.2
            obtain ⟨wa, hwa, NA, NBA, nsa⟩ := start32 W5.drew
            rw [show W5.drew.heap.size = W5.heap.size from rfl] at NA
            go_simp
            refine hK.out _ _ (hHeld.below NBA.out) (fun hHeld => ?_)
            clear hK
            try simp only [Act.put, List.setIfInBounds_toArray, List.set_cons_zero, List.set_cons_succ]
            clear hwa
            refine wpAnyH_ready (rs := [12]) (by kernel_rfl) (by simp) ?_
            refine AllReadyH.cons (o := ⟨_, _, _, _, _, _⟩) rfl (fun K hK => ?_) AllReadyH.nil
            go_simp
            rw [show ((p : Int) - (cutN n : Int)) = ((p - cutN n : Nat) : Int) from by omega, show ((n : Int) - (cutN n : Int)) = ((n - cutN n : Nat) : Int) from by omega]
            refine (ih ds'.length (by simp) _ ds' rfl (p - cutN n) (n - cutN n) sub hHeld.ap.any HD2.out hHeld.t (by omega) (by omega) (by omega)).mono ?_
            rintro e w2 ⟨d, rfl, hdl, hdr, g⟩
            refine hK.out _ _ (hHeld.below g) (fun hHeld => ?_)
            clear hK
            try simp only [Act.put, List.setIfInBounds_toArray, List.set_cons_zero, List.set_cons_succ]
            refine wpAnyH_take (i := 13) (oi := ⟨_, _, _, _, _, _⟩) (v := ?_) rfl (by kernel_rfl) (by kernel_rfl) (by kernel_rfl) (fun _ _ _ h => h) (Or.inl ⟨by rfl, ?_⟩) (by assumption) ?_
            rotate_left
            · intro w hSw; go_simp; try (with_reducible rfl)
            try simp only [Act.put, List.setIfInBounds_toArray, List.set_cons_zero, List.set_cons_succ]
            refine wpAnyH_take (i := 14) (oi := ⟨_, _, _, _, _, _⟩) (v := ?_) rfl (by kernel_rfl) (by kernel_rfl) (by kernel_rfl) (fun _ _ _ h => h) (Or.inl ⟨by rfl, ?_⟩) (by assumption) ?_
            rotate_left
            · intro w hSw; go_simp; try (with_reducible rfl)
            try simp only [Act.put, List.setIfInBounds_toArray, List.set_cons_zero, List.set_cons_succ]
            refine wpAnyH_take (i := 15) (oi := ⟨_, _, _, _, _, _⟩) (v := ?_) rfl (by kernel_rfl) (by kernel_rfl) (by kernel_rfl) (fun _ _ _ h => h) (Or.inl ⟨by rfl, ?_⟩) (by assumption) ?_
            rotate_left
            · intro w hSw; go_simp; try (with_reducible rfl)
            try simp only [Act.put, List.setIfInBounds_toArray, List.set_cons_zero, List.set_cons_succ]
            refine wpAnyH_ready (rs := [17]) (by kernel_rfl) (by simp) ?_
            refine AllReadyH.cons (o := ⟨_, _, _, _, _, _⟩) rfl (fun K hK => ?_) AllReadyH.nil
            rw [if_pos (by rfl)]
            have hN := NA.out.below g
            have hlt := hHeld.lt
            refine wp_store_blk _ _ _ rfl _ (d.map byt) _ rfl rfl hN (szD' hdl) (by simp [hdl]) (one_cells d) ?_
            have hfin := hN.row (d.map byt)
            refine hK.out _ _ (hHeld.set _ (by omega) _) (fun hHeld => ?_)
            clear hK
            refine wpAnyH_ready (rs := [18]) (by kernel_rfl) (by simp) ?_
            refine AllReadyH.cons (o := ⟨_, _, _, _, _, _⟩) rfl (fun K hK => ?_) AllReadyH.nil
            go_simp
            refine hK.out _ _ hHeld (fun hHeld => ?_)
            clear hK
            refine wpAnyH_done (by kernel_rfl) ?_ _
            have HFI := Lib.hid hfin
            have HHE := Lib.hid hHeld
            have HDL := Lib.hid hdl
            have HDR := Lib.hid hdr
            clear hfin hHeld hdl hdr
            go_wp2_with (first | (with_reducible refine wpList_load_cs (by with_unfolding_all rfl) _ _ rfl _ _ rfl HFI.out _ Tryz.underlying24 rfl (szD' HDL.out) _ rfl ?_) | (with_reducible refine wpList_load_cs (by with_unfolding_all rfl) _ _ rfl g11 _ rfl HHE.out.k11 _ Tryz.underlying24 rfl (szD' HLL.out) _ rfl ?_))
            refine (ref_node_calls _ last d HLL.out HDL.out HHE.out.t).mono ?_
            rintro e w6 ⟨rfl, g⟩
            obtain ⟨m, hm⟩ : ∃ m, nodeD last d = m := ⟨_, rfl⟩
            have HML := Lib.hid (show m.length = 32 by rw [← hm]; exact nodeD_length _ _)
            have HMO := Lib.hid (one_cells m)
            rw [hm]
            have HH6 := Lib.hid (HHE.out.below g)
            have HFX := Lib.hid (show ∀ x, rise leaf p n (ds' ++ [last]) = some x → m = x from fun x hx => by
              rw [rise_right h2 (by rw [HCE.out]; exact hq) (by omega), HCE.out] at hx
              obtain ⟨y, hy, rfl⟩ := Option.map_eq_some_iff.1 hx
              rw [HDR.out y hy] at hm; exact hm.symm)
            have HFO := Lib.hid (show (rise leaf p n (ds' ++ [last])).isSome = (rise leaf (p - cutN n) (n - cutN n) ds').isSome by rw [rise_right h2 (by rw [HCE.out]; exact hq) (by omega), HCE.out]; simp)
            have HZ := Lib.hid HH6.out.k8
            clear g hm HHE HFI
            go_wp2_with (with_reducible refine wpList_store_blk rfl _ _ _ rfl (w.heap.size + 1) (m.map byt) _ rfl _ rfl rfl HZ.out (szD' HML.out) (by simp [HML.out]) HMO.out ?_)
            refine bodyPost_ret (results_ct Tryz.results50 _ _ (w.heap.size + 1) 24 _ _ rfl (HZ.out.row (m.map byt)) Tryz.underlying24 rfl (szD' HML.out)) rfl ⟨m, by rw [HFO.out]; rfl, HML.out, HFX.out, below_setRow HH6.out.b (by omega) _⟩
end Go.Proofs.YtmenchnjajpkmaaGreatDoor.MkW
end

section
namespace Go.Proofs.YtmenchnjajpkmaaGreatDoor.MkW
open Go Go.RowKit Mem Sha ShaW Mk Arr Row
set_option linter.unusedVariables false

theorem sides_pow : ∀ (k n p : Nat), n ≤ 2 ^ k → n ≤ 9223372036854775808 → (sides p n).length ≤ k
  | 0, n, p, h, _ => by rw [sides, if_pos (by simpa using h)]; simp
  | k + 1, n, p, h, hb => by
    by_cases h1 : n ≤ 1
    · rw [sides, if_pos h1]; simp
    · have hc := cutN_bounds (n := n) (by omega) hb
      have hce := cutAt_eq (n := n) (by omega) hb
      have hcut : cutN n ≤ 2 ^ k := by
        have e : cutN n = 2 ^ (Lib.bitLen (n - 1) - 1) := rfl
        rcases Nat.lt_or_ge k (Lib.bitLen (n - 1) - 1) with hk | hk
        · have := Nat.pow_le_pow_right (n := 2) (by omega) hk
          rw [← e] at this; omega
        · rw [e]; exact Nat.pow_le_pow_right (by omega) hk
      rw [sides, if_neg h1, hce]
      split
      · have := sides_pow k (cutN n) p hcut (by omega); simp; omega
      · have := sides_pow k (n - cutN n) (p - cutN n) (by omega) (by omega); simp; omega
theorem rise_long {leaf : Dg} {p n : Nat} {ds : List Dg} (hn : n < 4294967296) (h : 64 < ds.length) : rise leaf p n ds = none := by
  unfold rise
  rw [if_neg]
  rintro ⟨_, h2⟩
  have := sides_pow 32 n p (by omega) (by omega)
  omega
set_option maxHeartbeats 8000000 in
set_option maxRecDepth 100000 in
theorem ref_check_calls (w : World) (rt leaf : Dg) (p n : Nat) (vp : Value) (ds : List Dg) (hA : Arr 32 Any w vp (dcs ds)) (hD : ∀ d ∈ ds, d.length = 32) (hr : rt.length = 32) (hl : leaf.length = 32) (hT : TabB w 0) (hn : n < 4294967296) (hp : p < 4294967296) (hd : ds.length ≤ 4398046511104) :
    Calls Tryz.prog 32 #[dv rt, dv leaf, .int .u32 (p : Int), .int .u32 (n : Int), vp] w fun e w' => e = .returned (.bool (chk rt leaf p n ds)) ∧ Below w.heap.size w w' := by
  obtain ⟨va, n1, rfl, hk1, hk2, hk3⟩ := hA.form
  simp only [List.length_map] at hA hk1 ⊢
  obtain ⟨W, hW, k0, k1, kb, ks⟩ : ∃ W, (w.alloc (.cells (rt.map byt).toArray 24)).alloc (.cells (leaf.map byt).toArray 24) = W ∧ Hid (Blk W w.heap.size (rt.map byt) 24) ∧ Hid (Blk W (w.heap.size + 1) (leaf.map byt) 24) ∧ Hid (Below w.heap.size w W) ∧ w.heap.size + 2 ≤ W.heap.size := by
    refine ⟨_, rfl, Lib.hid ((Blk.new w _ _ _ rfl).alloc _), Lib.hid ?_, Lib.hid (((Below.refl _ _).alloc (Nat.le_refl _) _).alloc (by simp) _), by simp⟩
    have := Blk.new (w.alloc (.cells (rt.map byt).toArray 24)) (leaf.map byt).toArray 24 _ rfl
    rwa [World.size_alloc] at this
  have HA := Lib.hid (hA.below (by omega) kb.out)
  have HT := Lib.hid (hT.below kb.out)
  have HRT := Lib.hid hr
  have HLF := Lib.hid hl
  have HD := Lib.hid hD
  clear hA hT hr hl hD
  by_cases h64 : 64 < ds.length
  · have hI : (64 : Int) < (ds.length : Int) := by omega
    have HC := Lib.hid (show chk rt leaf p n ds = false by unfold chk; rw [rise_long hn h64])
    go_enter Tryz.func32, Tryz.ntmps32
    go_wp2
    go_ret
    exact ⟨by rw [HC.out]; rfl, kb.out⟩
  · have hI : ¬ (64 : Int) < (ds.length : Int) := by omega
    have hw1 : IntKind.i64.wrap (p : Int) = (p : Int) := IntWalk.i64_in _ (by omega)
    have hw2 : IntKind.i64.wrap (n : Int) = (n : Int) := IntWalk.i64_in _ (by omega)
    go_enter Tryz.func32, Tryz.ntmps32
    go_wp2_with (first
      | (with_reducible refine wpList_load_cs (by with_unfolding_all rfl) _ _ rfl (w.heap.size + 1) _ rfl k1.out _ Tryz.underlying24 rfl (szD' HLF.out) _ rfl ?_)
      | fail)
    clear hW hw1 hw2
    refine (fold_calls leaf HLF.out ds.length W ds rfl p n _ HA.out HD.out HT.out hn hp hd).mono ?_
    rintro e w3 ⟨m, rfl, hml, hmr, g2⟩
    have HML := Lib.hid hml
    have HMO := Lib.hid (one_cells m)
    have HCT := Lib.hid (show ∀ x, rise leaf p n ds = some x → chk rt leaf p n ds = (m == rt) from fun x hx => by unfold chk; rw [hx, hmr x hx])
    obtain ⟨w4, hw4, N4, NB4, ns4⟩ := start32 w3
    have K0 := Lib.hid ((k0.out.below g2).below NB4.out)
    have N5 := Lib.hid (N4.out.row (m.map byt))
    have hf5 : Fr (fun b => b = w3.heap.size) w4 (w4.setRow w3.heap.size (m.map byt).toArray) := (Fr.refl (fun b => b = w3.heap.size) w4).setRow (.inr rfl) _
    have K5 := Lib.hid (K0.out.fr hf5 (by have := g2.size; omega))
    have KB5 := Lib.hid (((kb.out.trans (g2.mono (by omega))).trans (NB4.out.mono (by have := g2.size; omega))).trans (hf5.below (B := w.heap.size) (by have := g2.size; omega) (fun b h => by have := g2.size; omega)))
    have hqs : ∀ w, (Op.equalIn 10000 24 (.agg (m.map byt).toArray) (.agg (rt.map byt).toArray)).run Tryz.prog w = .ok (m == rt) w := fun w => run_equal_u8 Tryz.underlying24 (i := _) rfl (by kernel_rfl) Tryz.underlying5 w m rt hml HRT.out
    clear hml hmr g2 hf5
    rcases hrs : rise leaf p n ds with _ | x
    · have HC := Lib.hid (show chk rt leaf p n ds = false by unfold chk; rw [hrs])
      clear hrs
      simp only [Option.isSome_none]
      go_upto_region 4 with (first
        | (with_reducible refine wpList_store_blk rfl _ _ _ rfl w3.heap.size (m.map byt) _ rfl _ rfl rfl N4.out (szD' HML.out) (by simp [HML.out]) HMO.out ?_))
      clear hw4
      go_wp2
      go_ret
      exact ⟨by rw [HC.out]; rfl, KB5.out⟩
    · have HC := Lib.hid (HCT.out x hrs)
      clear hrs
      simp only [Option.isSome_some]
      go_upto_region 4 with (first
        | (with_reducible refine wpList_store_blk rfl _ _ _ rfl w3.heap.size (m.map byt) _ rfl _ rfl rfl N4.out (szD' HML.out) (by simp [HML.out]) HMO.out ?_))
      clear hw4
      go_wp2_with (first
        | (with_reducible refine wpList_load_cs (by with_unfolding_all rfl) _ _ rfl w3.heap.size _ rfl N5.out _ Tryz.underlying24 rfl (szD' HML.out) _ rfl ?_)
        | (with_reducible refine wpList_load_cs (by with_unfolding_all rfl) _ _ rfl w.heap.size _ rfl K5.out _ Tryz.underlying24 rfl (szD' HRT.out) _ rfl ?_))
      go_ret
      exact ⟨by rw [HC.out]; rfl, KB5.out⟩
end Go.Proofs.YtmenchnjajpkmaaGreatDoor.MkW
end

section
namespace Go.Proofs.YtmenchnjajpkmaaGreatDoor.Ev
open Go Go.RowKit Mem Sha ShaW Mk Arr Reps Rr Wm Rm Rf Codec Wt WtIt Wr Mh Ops
open MkW (dcs)
set_option linter.unusedVariables false

/-- what a peg-in's evidence is asked of -/
structure In where
  hd : List UInt8
  tx : List UInt8
  pl : Nat
  mn : Nat
  ds : List (List UInt8)
  sc : List UInt8
  ot : List UInt8
  ix : Nat
  ov : List UInt8
  dp : Nat
  vx : Value
  vp : Value
  vs : Value
structure In.Ok (i : In) : Prop where
  hd : i.hd.length = 32
  ot : i.ot.length = 32
  ov : i.ov.length = 32
  pl : i.pl < 4294967296
  mn : i.mn < 4294967296
  ix : i.ix < 4294967296
  dp : i.dp < 18446744073709551616
  ds : ∀ d ∈ i.ds, d.length = 32
  dl : i.ds.length ≤ 4398046511104
  tx : i.tx.length ≤ 140737488351232
  sc : i.sc.length ≤ 140737488351232
def X0 : XMt := ((0 : Nat), ([] : List (Nat × List UInt8)))
def gotMt (l : List UInt8) : XMt × Int := got RDmt ((0 : Nat), ([] : List (Nat × List UInt8))) l
theorem gotMt_or (l : List UInt8) : (gotMt l).2 = 0 ∨ (gotMt l).2 = 120 := by
  unfold gotMt got
  split
  · exact .inl rfl
  · exact .inr rfl
/-- how much it brings, or what is wrong -/
def evid3 (hs : List Hd) (i : In) : Nat × Int :=
  if MkW.chk ((Tk.look hs i.hd).getD Tk.zeroH).root (leafD i.tx) i.pl i.mn i.ds = false then (0, 175)
  else if ((gotMt i.tx).1.2.getD i.ix (0, [])).2 ≠ claimD i.sc then (0, 176)
  else (((gotMt i.tx).1.2.getD i.ix (0, [])).1, 0)
def evid2 (hs : List Hd) (i : In) : Nat × Int :=
  if (gotMt i.tx).2 = 120 then (0, 174)
  else if mtId (gotMt i.tx).1 ≠ i.ot then (0, 174)
  else if (gotMt i.tx).1.2.length ≤ i.ix then (0, 174)
  else evid3 hs i
def evid (hs : List Hd) (i : In) : Nat × Int :=
  if (depth hs i.hd i.ov).isSome = false then (0, 171)
  else if (depth hs i.hd i.ov).getD 0 < i.dp then (0, 173)
  else evid2 hs i
def pgC (i : In) : List Value := i.hd.map byt ++ [i.vx, .int .u32 (i.pl : Int), .int .u32 (i.mn : Int), i.vp, i.vs]
def opC (i : In) : List Value := i.ot.map byt ++ [.int .u32 (i.ix : Int)]
theorem pg_len {i : In} (ok : i.Ok) : (pgC i).length = 37 := by simp [pgC, ok.hd]
theorem op_len {i : In} (ok : i.Ok) : (opC i).length = 33 := by simp [opC, ok.ot]
/-- what evidence keeps in memory: X: the track -/
structure EV (X : World → Prop) (tab : Nat) (w0 : World) (gp go gv : Nat) (i : In) (w : World) : Prop where
  x : X w
  p : Blk w gp (pgC i) 29
  o : Blk w go (opC i) 31
  v : Blk w gv (i.ov.map byt) 24
  bx : Byt Any w i.vx i.tx
  bp : Arr 32 Any w i.vp (dcs i.ds)
  bs : Byt Any w i.vs i.sc
  t : TabB w tab
  b : Below w0.heap.size w0 w
section
variable {X : World → Prop} {tab : Nat} {w0 a c : World} {gp go gv : Nat} {i : In}
theorem EV.below (hX : ∀ a c, X a → Below a.heap.size a c → X c) (h : EV X tab w0 gp go gv i a) (hb : Below a.heap.size a c) : EV X tab w0 gp go gv i c :=
  ⟨hX _ _ h.x hb, h.p.below hb, h.o.below hb, h.v.below hb, h.bx.below hb, h.bp.below (by omega) hb, h.bs.below hb, h.t.below hb, h.b.trans (hb.mono h.b.size)⟩
theorem EV.drew (hX : ∀ a, X a → X a.drew) (h : EV X tab w0 gp go gv i a) : EV X tab w0 gp go gv i a.drew :=
  ⟨hX _ h.x, h.p.drew, h.o.drew, h.v.drew, h.bx, h.bp, h.bs, h.t, below_drew h.b⟩
theorem EV.rp (h : EV X tab w0 gp go gv i a) : a.rangeAt gp 0 (i.hd.map byt) := Ops.blk_part h.p [] _ _ rfl 0 rfl
theorem EV.ro (h : EV X tab w0 gp go gv i a) : a.rangeAt go 0 (i.ot.map byt) := Ops.blk_part h.o [] _ _ rfl 0 rfl
theorem EV.rv (h : EV X tab w0 gp go gv i a) : a.rangeAt gv 0 (i.ov.map byt) := Ops.blk_range h.v
theorem EV.c32 (ok : i.Ok) (h : EV X tab w0 gp go gv i a) : a.cell? ⟨gp, 32, none⟩ = some i.vx := blk_one h.p (i.hd.map byt) _ _ rfl 32 (by simp [ok.hd])
theorem EV.c33 (ok : i.Ok) (h : EV X tab w0 gp go gv i a) : a.cell? ⟨gp, 33, none⟩ = some (.int .u32 (i.pl : Int)) := blk_one h.p (i.hd.map byt ++ [i.vx]) [.int .u32 (i.mn : Int), i.vp, i.vs] _ (by simp [pgC]) 33 (by simp [ok.hd])
theorem EV.c34 (ok : i.Ok) (h : EV X tab w0 gp go gv i a) : a.cell? ⟨gp, 34, none⟩ = some (.int .u32 (i.mn : Int)) := blk_one h.p (i.hd.map byt ++ [i.vx, .int .u32 (i.pl : Int)]) [i.vp, i.vs] _ (by simp [pgC]) 34 (by simp [ok.hd])
theorem EV.c35 (ok : i.Ok) (h : EV X tab w0 gp go gv i a) : a.cell? ⟨gp, 35, none⟩ = some i.vp := blk_one h.p (i.hd.map byt ++ [i.vx, .int .u32 (i.pl : Int), .int .u32 (i.mn : Int)]) [i.vs] _ (by simp [pgC]) 35 (by simp [ok.hd])
theorem EV.c36 (ok : i.Ok) (h : EV X tab w0 gp go gv i a) : a.cell? ⟨gp, 36, none⟩ = some i.vs := blk_one h.p (i.hd.map byt ++ [i.vx, .int .u32 (i.pl : Int), .int .u32 (i.mn : Int), i.vp]) [] _ (by simp [pgC]) 36 (by simp [ok.hd])
theorem EV.ci (ok : i.Ok) (h : EV X tab w0 gp go gv i a) : a.cell? ⟨go, 32, none⟩ = some (.int .u32 (i.ix : Int)) := blk_one h.o (i.ot.map byt) _ _ rfl 32 (by simp [ok.ot])
end
/-- a transaction that was read, in its block -/
structure MtB (w : World) (g : Nat) (v : Nat) (vo : Value) (os : List XMo) : Prop where
  b : Blk w g [.int .u64 (v : Int), vo] 56
  s : Sl 33 RMo Any w vo os
theorem MtB.below {w w' : World} {g v : Nat} {vo : Value} {os : List XMo} (h : MtB w g v vo os) (hb : Below w.heap.size w w') : MtB w' g v vo os := ⟨h.b.below hb, h.s.below rep_Mo hb⟩
theorem MtB.drew {w : World} {g v : Nat} {vo : Value} {os : List XMo} (h : MtB w g v vo os) : MtB w.drew g v vo os := ⟨h.b.drew, h.s⟩
theorem MtB.rep {w : World} {g v : Nat} {vo : Value} {os : List XMo} (h : MtB w g v vo os) (hv : v < 18446744073709551616) : RMt Any w [.int .u64 (v : Int), vo] (v, os) := ⟨[_], [_], rfl, ⟨hv, rfl⟩, _, rfl, h.s⟩
theorem MtB.at {w : World} {g v : Nat} {os : List XMo} {b off cap n : Nat} (h : MtB w g v (.slice (some ⟨b, off, none⟩) n cap) os) (k : Nat) (hk : k < os.length) : w.rangeAt b (off + k * 33 + 1) ((os[k]'hk).2.map byt) ∧ w.cell? ⟨b, off + k * 33, none⟩ = some (.int .u64 ((os[k]'hk).1 : Int)) ∧ (os[k]'hk).2.length = 32 ∧ w.rangeAt b (off + k * 33) (.int .u64 ((os[k]'hk).1 : Int) :: (os[k]'hk).2.map byt) := by
  obtain ⟨b', off', cap', cs, e, _, hr, hm⟩ := h.s.at k hk
  cases e
  obtain ⟨c1, c2, rfl, ⟨_, rfl⟩, hl, rfl⟩ := hm
  refine ⟨fun j v hv => ?_, ?_, hl, hr⟩
  · have := hr (j + 1) v (by simpa using hv)
    rw [show off + k * 33 + 1 + j = off + k * 33 + (j + 1) by omega]
    exact this
  · have := hr 0 (.int .u64 ((os[k]'hk).1 : Int)) (by simp)
    simpa using this
theorem flat_le {α : Type} (enc : α → List UInt8) (k : Nat) : ∀ l : List α, (∀ x ∈ l, (enc x).length ≤ k) → (l.flatMap enc).length ≤ l.length * k
  | [], _ => by simp
  | x :: r, h => by
    have h1 := h x (by simp)
    have h2 := flat_le enc k r (fun y hy => h y (by simp [hy]))
    rw [List.flatMap_cons, List.length_append, List.length_cons, Nat.succ_mul]
    omega
theorem items_mem {α : Type} {one : Rd → Rd × α} {Q : α → Prop} (h : ∀ r, Q (one r).2) : ∀ (n : Nat) (r : Rd), ∀ x ∈ (items one n r).1, Q x
  | 0, r, x, hx => by simp [items] at hx
  | n + 1, r, x, hx => by
    unfold items at hx
    split at hx
    · simp at hx
    · rcases List.mem_cons.1 hx with rfl | hx
      · exact h r
      · exact items_mem h n _ x hx
theorem lst_mem {α : Type} {p : List α × Rd} {x : α} (h : x ∈ lst p) : x ∈ p.1 := by
  unfold lst at h
  split at h
  · simp at h
  · exact h
theorem lsts_len (r : Rd) (most : Nat) : (RmT.lsts r (most : Int)).2.length ≤ most := by
  have h : (r.room (most : Int)).2 ≤ most := by rw [var_room]; exact var_le r most
  unfold RmT.lsts lst
  dsimp only
  split
  · simp
  · exact Nat.le_trans (lst_len _ _ _) h
theorem got_fits (l : List UInt8) : Fits (gotMt l).1 := by
  have hv : ∀ n, (var n).length ≤ 9 := Wt.var_len9
  unfold gotMt got Fits
  split
  · have h1 := lsts_len ((⟨l, 0⟩ : Rd).num 8).1 16
    have h2 := flat_le encMo 40 (RmT.lsts ((⟨l, 0⟩ : Rd).num 8).1 16).2 (fun x hx => by
      have h3 : x.2.length = 32 := items_mem (Q := fun x : Nat × List UInt8 => x.2.length = 32) (fun r => Wr.Rd.dig_len _) _ _ x (lst_mem hx)
      simp [encMo, num_length, h3])
    have h4 := hv (RmT.lsts ((⟨l, 0⟩ : Rd).num 8).1 16).2.length
    show (num _ 8 ++ (var (RmT.lsts ((⟨l, 0⟩ : Rd).num 8).1 16).2.length ++ (RmT.lsts ((⟨l, 0⟩ : Rd).num 8).1 16).2.flatMap encMo)).length + 4200 ≤ _
    simp only [List.length_append, num_length]
    have h5 : (RmT.lsts ((⟨l, 0⟩ : Rd).num 8).1 16).2.length ≤ 16 := h1
    omega
  · have h4 := hv 0
    simp [encMt, num_length]
    omega
end Go.Proofs.YtmenchnjajpkmaaGreatDoor.Ev
end

section
namespace Go.Proofs.YtmenchnjajpkmaaGreatDoor.Pv
open Go Codec Mh Reps Wm Rm Rr Ev Mk
set_option linter.unusedVariables false

theorem gotMt_enc (x : XMt) (hv : x.1 < 18446744073709551616) (ho : ∀ o ∈ x.2, o.1 < 18446744073709551616 ∧ o.2.length = 32) (hl : x.2.length ≤ 16) : gotMt (encMt x) = (x, 0) := got_full x _ hv ho hl
theorem look_known {hs : List Hd} (T : Trk hs) {k : Nat} {g : Hd} (hg : hs[k]? = some g) : Tk.look hs (mainId g) = some g := by
  unfold Tk.look
  rw [T.find hg]
  exact hg
theorem evid_deep {hs : List Hd} (T : Trk hs) (c : Chain hs) {k n : Nat} {g h : Hd} (hg : hs[k]? = some g) (hh : hs[k + n]? = some h) (i : In) (h1 : i.hd = mainId g) (h2 : i.ov = mainId h) (hd : n < i.dp) : evid hs i = (0, 173) := by
  have hd1 := depth_chain T c k g hg n h hh
  unfold evid
  rw [h1, h2, hd1]
  simp [hd]
theorem evid_full {hs : List Hd} (T : Trk hs) (c : Chain hs) {k n : Nat} {g h : Hd} (hg : hs[k]? = some g) (hh : hs[k + n]? = some h) (i : In) (x : XMt) (h1 : i.hd = mainId g) (h2 : i.ov = mainId h) (hd : ¬ n < i.dp)
    (hv : x.1 < 18446744073709551616) (ho : ∀ o ∈ x.2, o.1 < 18446744073709551616 ∧ o.2.length = 32) (hl : x.2.length ≤ 16) (ht : i.tx = encMt x) (hot : i.ot = mtId x) (hix : i.ix < x.2.length)
    (hck : MkW.chk g.root (leafD i.tx) i.pl i.mn i.ds = true) (hcl : (x.2[i.ix]'hix).2 = claimD i.sc) : evid hs i = ((x.2[i.ix]'hix).1, 0) := by
  have hd1 := depth_chain T c k g hg n h hh
  have hgm := gotMt_enc x hv ho hl
  have hlk := look_known T hg
  have hgd : x.2.getD i.ix (0, []) = x.2[i.ix]'hix := by rw [List.getD_eq_getElem?_getD, List.getElem?_eq_getElem hix]; rfl
  unfold evid
  rw [h1, h2, hd1, if_neg (by simp), if_neg (by simpa using hd)]
  unfold evid2
  rw [ht, hgm, if_neg (by simp), if_neg (by simp [hot]), if_neg (by simpa using hix)]
  unfold evid3
  rw [ht, hgm, h1, hlk, ← ht, if_neg (by simp [hck]), hgd, if_neg (by simp [hcl])]
end Go.Proofs.YtmenchnjajpkmaaGreatDoor.Pv
end

section
namespace Go.Proofs.YtmenchnjajpkmaaGreatDoor.Tr
open Go Go.RowKit Mem Codec Mh Maps Ops Wh Ww ShaW Arr Tk
set_option linter.unusedVariables false

/-- no two of the first k have one id -/
def Dis (hs : List Hd) (k : Nat) : Prop := ∀ (i j : Nat) (g h : Hd), j < i → i < k → hs[i]? = some h → hs[j]? = some g → mainId h ≠ mainId g
theorem Dis.next {hs : List Hd} {k : Nat} {x : Hd} (d : Dis hs k) (hx : hs[k]? = some x) (h : ∀ (j : Nat) (g : Hd), j < k → hs[j]? = some g → mainId x ≠ mainId g) : Dis hs (k + 1) := by
  intro i j g y hj hi hy hg
  by_cases e : i = k
  · subst e
    rw [hx] at hy
    cases hy
    exact h j g hj hg
  · exact d i j g y hj (by omega) hy hg
set_option maxHeartbeats 16000000 in
set_option maxRecDepth 100000 in
theorem twins_calls (w : World) (v : Value) (hs : List Hd) (hok : ∀ h ∈ hs, h.Ok) (H : RT Any w v hs) :
    Calls Tryz.prog 15 #[v] w fun e w' => ∃ r, e = .returned (.bool r) ∧ (r = false → Dis hs hs.length) ∧ Below w.heap.size w w' := by
  obtain ⟨a, cap, rfl, hcap, hmax, _⟩ := H.form
  have HOK := Lib.hid hok
  have HR := Lib.hid H
  unfold maxLen at hmax
  clear hok H
  go_enter Tryz.func15, Tryz.ntmps15
  go_wp2
  go_loopw [3, 4, 7, 11] (fun _ _ i _ wx => ∃ k : Nat, k ≤ hs.length ∧ i = .int .i64 (k : Int) ∧ Dis hs k ∧ RT Any wx (.slice a hs.length cap) hs ∧ Below w.heap.size w wx) (fun _ _ i _ _ => hs.length - (intOf i).toNat)
  case atStart => exact ⟨0, Nat.zero_le _, rfl, fun i j g h _ hi => absurd hi (Nat.not_lt_zero _), HR.out, Below.refl _ _⟩
  case round =>
    obtain ⟨k, hk, rfl, hdis, j1, j2⟩ := hrel
    have HDI := Lib.hid hdis
    have SO := Lib.hid (show RT Any _ (.slice a hs.length cap) hs ∧ Below w.heap.size w _ from ⟨j1, j2⟩)
    clear hdis j1 j2 HR
    by_cases hlt : k < hs.length
    · have hltI : (k : Int) < (hs.length : Int) := by omega
      have h0I : (0 : Int) ≤ (k : Int) := by omega
      have HLK := Lib.hid hlt
      obtain ⟨x, hx⟩ : ∃ x, hs[k]'hlt = x := ⟨_, rfl⟩
      have HXE := Lib.hid hx
      have OKX := Lib.hid (show x.Ok from by rw [← hx]; exact HOK.out _ (List.getElem_mem hlt))
      have HXK := Lib.hid (show hs[k]? = some x by rw [List.getElem?_eq_getElem hlt, hx])
      obtain ⟨mx, hmx⟩ : ∃ m, mainId x = m := ⟨_, rfl⟩
      have HMX := Lib.hid hmx
      have HLX := Lib.hid (show mx.length = 32 by rw [← hmx]; exact mainId_length x)
      obtain ⟨b, off, cap', e0, _⟩ := SO.out.1.at k hlt
      cases e0
      clear hx hmx
      go_wp2
      go_loopw [4, 11] (fun _ i wx => ∃ m : Nat, m ≤ k ∧ i = .int .i64 (m : Int) ∧ (∀ (j : Nat) (g : Hd), j < m → hs[j]? = some g → mainId x ≠ mainId g) ∧ RT Any wx (.slice (some ⟨b, off, none⟩) hs.length cap) hs ∧ Below w.heap.size w wx) (fun _ i _ => k - (intOf i).toNat)
      case atStart => exact ⟨0, Nat.zero_le _, rfl, fun j g h => absurd h (Nat.not_lt_zero _), SO.out.1, SO.out.2⟩
      case round =>
        obtain ⟨m, hm, rfl, hin, j1, j2⟩ := hrel
        have HIN := Lib.hid hin
        have SR := Lib.hid (show RT Any _ (.slice (some ⟨b, off, none⟩) hs.length cap) hs ∧ Below w.heap.size w _ from ⟨j1, j2⟩)
        clear hin j1 j2 SO
        by_cases hmk : m < k
        · have hmkI : (m : Int) < (k : Int) := by omega
          have hm0I : (0 : Int) ≤ (m : Int) := by omega
          have hmlI : (m : Int) < (hs.length : Int) := by omega
          have hml : m < hs.length := by omega
          have HLM := Lib.hid hml
          obtain ⟨y, hy⟩ : ∃ y, hs[m]'hml = y := ⟨_, rfl⟩
          have HYE := Lib.hid hy
          have OKY := Lib.hid (show y.Ok from by rw [← hy]; exact HOK.out _ (List.getElem_mem hml))
          have HYK := Lib.hid (show hs[m]? = some y by rw [List.getElem?_eq_getElem hml, hy])
          obtain ⟨my, hmy⟩ : ∃ m, mainId y = m := ⟨_, rfl⟩
          have HMY := Lib.hid hmy
          have HLY := Lib.hid (show my.length = 32 by rw [← hmy]; exact mainId_length y)
          have hq : ∀ w, (Op.equalIn 10000 24 (.agg (mx.map byt).toArray) (.agg (my.map byt).toArray)).run Tryz.prog w = .ok (mx == my) w := fun w => run_equal_u8 Tryz.underlying24 (i := _) rfl (by kernel_rfl) Tryz.underlying5 w mx my HLX.out HLY.out
          clear hy hmy
          go_wp2
          refine wp_region_held_drew (S := (fun w' => RT Any w' (.slice (some ⟨b, off, none⟩) hs.length cap) hs ∧ Below w.heap.size w w')) (by kernel_rfl) ⟨SR.out.1.drew, below_drew SR.out.2⟩ (fun hHeld => ?_)
          refine wpAnyH_take (i := 0) (oi := ⟨_, _, _, _, _, _⟩) (v := ?_) rfl (by kernel_rfl) (by kernel_rfl) (by kernel_rfl) (fun _ _ _ h => h) (Or.inl ⟨by rfl, ?_⟩) (by assumption) ?_
          rotate_left
          · intro w hSw; go_simp; try (with_reducible rfl)
          try simp only [Act.put, List.setIfInBounds_toArray, List.set_cons_zero, List.set_cons_succ]
          refine wpAnyH_take (i := 1) (oi := ⟨_, _, _, _, _, _⟩) (v := ?_) rfl (by kernel_rfl) (by kernel_rfl) (by kernel_rfl) (fun _ _ _ h => h) (Or.inl ⟨by rfl, ?_⟩) (by assumption) ?_
          rotate_left
          · intro w hSw; go_simp; try (with_reducible rfl)
          try simp only [Act.put, List.setIfInBounds_toArray, List.set_cons_zero, List.set_cons_succ]
          refine wpAnyH_take (i := 2) (oi := ⟨_, _, _, _, _, _⟩) (v := ?_) rfl (by kernel_rfl) (by kernel_rfl) (by kernel_rfl) (fun _ _ _ h => h) (Or.inl ⟨by rfl, ?_⟩) (by assumption) ?_
          rotate_left
          · intro w hSw; go_simp; try (with_reducible rfl)
          try simp only [Act.put, List.setIfInBounds_toArray, List.set_cons_zero, List.set_cons_succ]
          refine wpAnyH_take (i := 3) (oi := ⟨_, _, _, _, _, _⟩) rfl (by kernel_rfl) (by kernel_rfl) (by kernel_rfl) (fun _ _ _ h => h) (yieldsIf_load_mid (by rfl) _ _ rfl b (off + k * 66) rfl x.cells _ (fun _ h => HXE.out ▸ h.1.range k HLK.out) Tryz.underlying41 rfl (szH OKX.out)) (by assumption) ?_
          try simp only [Act.put, List.setIfInBounds_toArray, List.set_cons_zero, List.set_cons_succ]
          refine wpAnyH_take (i := 5) (oi := ⟨_, _, _, _, _, _⟩) (v := ?_) rfl (by kernel_rfl) (by kernel_rfl) (by kernel_rfl) (fun _ _ _ h => h) (Or.inl ⟨by rfl, ?_⟩) (by assumption) ?_
          rotate_left
          · intro w hSw; go_simp; try (with_reducible rfl)
          try simp only [Act.put, List.setIfInBounds_toArray, List.set_cons_zero, List.set_cons_succ]
          refine wpAnyH_take (i := 6) (oi := ⟨_, _, _, _, _, _⟩) (v := ?_) rfl (by kernel_rfl) (by kernel_rfl) (by kernel_rfl) (fun _ _ _ h => h) (Or.inl ⟨by rfl, ?_⟩) (by assumption) ?_
          rotate_left
          · intro w hSw; go_simp; try (with_reducible rfl)
          try simp only [Act.put, List.setIfInBounds_toArray, List.set_cons_zero, List.set_cons_succ]
          refine wpAnyH_take (i := 7) (oi := ⟨_, _, _, _, _, _⟩) (v := ?_) rfl (by kernel_rfl) (by kernel_rfl) (by kernel_rfl) (fun _ _ _ h => h) (Or.inl ⟨by rfl, ?_⟩) (by assumption) ?_
          rotate_left
          · intro w hSw; go_simp; try (with_reducible rfl)
          try simp only [Act.put, List.setIfInBounds_toArray, List.set_cons_zero, List.set_cons_succ]
          refine wpAnyH_take (i := 8) (oi := ⟨_, _, _, _, _, _⟩) rfl (by kernel_rfl) (by kernel_rfl) (by kernel_rfl) (fun _ _ _ h => h) (yieldsIf_load_mid (by rfl) _ _ rfl b (off + m * 66) rfl y.cells _ (fun _ h => HYE.out ▸ h.1.range m HLM.out) Tryz.underlying41 rfl (szH OKY.out)) (by assumption) ?_
          try simp only [Act.put, List.setIfInBounds_toArray, List.set_cons_zero, List.set_cons_succ]
          refine wpAnyH_ready (rs := [4]) (by kernel_rfl) (by simp) ?_
          refine AllReadyH.cons (o := ⟨_, _, _, _, _, _⟩) rfl (fun K hK => ?_) AllReadyH.nil
          go_simp
          refine (ref_mainId_calls _ x OKX.out hHeld.1.t).mono ?_
          rintro e wz ⟨rfl, gz⟩
          rw [HMX.out]
          refine hK.out _ _ (by exact ⟨hHeld.1.below gz, hHeld.2.trans (gz.mono hHeld.2.size)⟩) (fun hHeld => ?_)
          clear hK
          try simp only [Act.put, List.setIfInBounds_toArray, List.set_cons_zero, List.set_cons_succ]
          refine wpAnyH_ready (rs := [9]) (by kernel_rfl) (by simp) ?_
          refine AllReadyH.cons (o := ⟨_, _, _, _, _, _⟩) rfl (fun K hK => ?_) AllReadyH.nil
          go_simp
          refine (ref_mainId_calls _ y OKY.out hHeld.1.t).mono ?_
          rintro e wz ⟨rfl, gz⟩
          rw [HMY.out]
          refine hK.out _ _ (by exact ⟨hHeld.1.below gz, hHeld.2.trans (gz.mono hHeld.2.size)⟩) (fun hHeld => ?_)
          clear hK
          try simp only [Act.put, List.setIfInBounds_toArray, List.set_cons_zero, List.set_cons_succ]
          refine wpAnyH_take (i := 10) (oi := ⟨_, _, _, _, _, _⟩) (v := ?_) rfl (by kernel_rfl) (by kernel_rfl) (by kernel_rfl) (fun _ _ _ h => h) (Or.inl ⟨by rfl, ?_⟩) (by assumption) ?_
          rotate_left
          · intro w hSw; go_simp; try (with_reducible rfl)
          try simp only [Act.put, List.setIfInBounds_toArray, List.set_cons_zero, List.set_cons_succ]
          refine wpAnyH_done (by kernel_rfl) ?_ _
          by_cases heq : mx = my
          · have hb : (mx == my) = true := by simp [heq]
            rw [hb]
            go_wp2
            go_ret
            exact ⟨true, rfl, (fun h => by cases h), hHeld.2⟩
          · have hb : (mx == my) = false := by simp [heq]
            have HNE := Lib.hid heq
            rw [hb]
            clear hb heq
            go_wp2
            go_roundw
            case rel => exact ⟨m + 1, by omega, by go_num, fun j g hj hg => (by
              by_cases hjm : j = m
              · subst hjm; rw [HYK.out] at hg; cases hg; rw [HMX.out, HMY.out]; exact HNE.out
              · exact HIN.out j g (by omega) hg), hHeld.1, hHeld.2⟩
            case measure => simp [intOf]; omega
        · obtain rfl : m = k := by omega
          go_wp2
          go_roundw
          case rel => exact ⟨m + 1, by omega, by go_num, HDI.out.next HXK.out HIN.out, SR.out.1, SR.out.2⟩
          case measure => simp [intOf]; omega
    · obtain rfl : k = hs.length := by omega
      go_wp2
      go_ret
      exact ⟨false, rfl, fun _ => HDI.out, SO.out.2⟩
end Go.Proofs.YtmenchnjajpkmaaGreatDoor.Tr
end

section
namespace Go.Proofs.YtmenchnjajpkmaaGreatDoor.MkW
open Go Go.RowKit Mem Sha ShaW Mk Arr Row
set_option linter.unusedVariables false

theorem sides_left {p n : Nat} (h : 2 ≤ n) (hp : p < cutAt n) : sides p n = false :: sides p (cutAt n) := by rw [sides, if_neg (by omega), if_pos hp]
theorem sides_right {p n : Nat} (h : 2 ≤ n) (hp : ¬ p < cutAt n) : sides p n = true :: sides (p - cutAt n) (n - cutAt n) := by rw [sides, if_neg (by omega), if_neg hp]
theorem top_path : ∀ (n : Nat) (ds : List Dg) (p : Nat) (hn : ds.length = n) (hp : p < ds.length), topOf (ds[p]'hp) (sides p n).reverse (path ds p) = root ds := by
  intro n
  induction n using Nat.strongRecOn with
  | ind n ih =>
    intro ds p hn hp
    subst hn
    by_cases h1 : ds.length ≤ 1
    · match ds, hp, h1 with
      | [d], hp, _ =>
        obtain rfl : p = 0 := by simpa using hp
        rw [path_one (by simp), sides, if_pos (by simp), Mk.root_one]
        rfl
    · have h2 : 2 ≤ ds.length := by omega
      have hc := cutAt_lt (n := ds.length) (by omega)
      by_cases hq : p < cutAt ds.length
      · have hl : (ds.take (cutAt ds.length)).length = cutAt ds.length := by simp; omega
        have := ih (cutAt ds.length) hc.2 (ds.take (cutAt ds.length)) p hl (by omega)
        rw [path_left h2 hq, sides_left h2 hq, List.reverse_cons, topOf_snoc _ _ _ _ _ (by rw [List.length_reverse, path_length (cutAt ds.length) _ _ hl])]
        rw [List.getElem_take] at this
        rw [this, root_many h2]
        rfl
      · have hl : (ds.drop (cutAt ds.length)).length = ds.length - cutAt ds.length := by simp
        have := ih (ds.length - cutAt ds.length) (by omega) (ds.drop (cutAt ds.length)) (p - cutAt ds.length) hl (by omega)
        rw [path_right h2 hq, sides_right h2 hq, List.reverse_cons, topOf_snoc _ _ _ _ _ (by rw [List.length_reverse, path_length (ds.length - cutAt ds.length) _ _ hl])]
        rw [List.getElem_drop] at this
        simp only [show cutAt ds.length + (p - cutAt ds.length) = p by omega] at this
        rw [this, root_many h2]
        rfl
theorem rise_path (ds : List Dg) (p : Nat) (hp : p < ds.length) : rise (ds[p]'hp) p ds.length (path ds p) = some (root ds) := by
  unfold rise
  rw [if_pos ⟨hp, (path_length ds.length ds p rfl).symm⟩, top_path ds.length ds p rfl hp]
theorem chk_path (ds : List Dg) (p : Nat) (hp : p < ds.length) : chk (root ds) (ds[p]'hp) p ds.length (path ds p) = true := by
  unfold chk
  rw [rise_path ds p hp]
  simp
theorem chk_beyond (rt leaf : Dg) (n : Nat) (ds : List Dg) : chk rt leaf n n ds = false := by
  unfold chk rise
  rw [if_neg (by omega)]
theorem path_mem : ∀ (n : Nat) (ds : List Dg) (p : Nat), ds.length = n → (∀ d ∈ ds, d.length = 32) → ∀ x ∈ path ds p, x.length = 32 := by
  intro n
  induction n using Nat.strongRecOn with
  | ind n ih =>
    intro ds p hn h x hx
    subst hn
    by_cases h1 : ds.length ≤ 1
    · rw [path_one h1] at hx; cases hx
    · have hc := cutAt_lt (n := ds.length) (by omega)
      have hT : ∀ d ∈ ds.take (cutAt ds.length), d.length = 32 := fun d hd => h d (List.mem_of_mem_take hd)
      have hR : ∀ d ∈ ds.drop (cutAt ds.length), d.length = 32 := fun d hd => h d (List.mem_of_mem_drop hd)
      by_cases hp : p < cutAt ds.length
      · rw [path_left (by omega) hp] at hx
        rcases List.mem_append.1 hx with hx | hx
        · exact ih _ (by simp; omega) _ _ rfl hT x hx
        · rw [List.mem_singleton.1 hx]; exact root_length _ _ rfl hR
      · rw [path_right (by omega) hp] at hx
        rcases List.mem_append.1 hx with hx | hx
        · exact ih _ (by simp; omega) _ _ rfl hR x hx
        · rw [List.mem_singleton.1 hx]; exact root_length _ _ rfl hT
end Go.Proofs.YtmenchnjajpkmaaGreatDoor.MkW
end
