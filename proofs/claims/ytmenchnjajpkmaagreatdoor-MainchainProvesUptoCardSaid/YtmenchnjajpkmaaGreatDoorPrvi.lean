/- Trees of digests, in plain Lean: the cut, the root, the path, what a path comes to. No program here. Walks of Leaf and Node, the program's and the reference's. Conditions: the thing is of at most 2^47 - 4096 bytes; the tables are laid. The walks of the program's MainTx. Condition: the bytes are at most 2^47. Walks of the wire's writer at a text and at a truth, and of the reference's. Condition: the bytes are at most 2^47. Walks of the reference's writer at a transaction of the main chain, and of its MainTx. Condition: the bytes are at most 2^47. Walks of Claim and MainTxId, the program's and the reference's. Conditions: texts of at most 2^47 - 4096 bytes; the tables are laid. The walks of the reference's R.mainTx and ReadMainTx. Condition: the bytes are at most 2^47. Words for maps whose keys are of one kind: what they hold, in the order in which it was laid in; a lookup, a store, the length. Program-independent; no condition. -/
import Derived.Lib.BitFns
import Derived.Test.YtmenchnjajpkmaaGreatDoorPrve
import Derived.Test.YtmenchnjajpkmaaGreatDoorPrvf
import Derived.Test.YtmenchnjajpkmaaGreatDoorPrvh
import Derived.Test.YtmenchnjajpkmaaGreatDoorPrva
import Derived.Maps.OwnSet
import Derived.Maps.OwnOps
import Derived.DeepKeys4
import Derived.OrdersHeld
section
namespace Go.Proofs.YtmenchnjajpkmaaGreatDoor.Mk
open Go ShaW

abbrev Dg := List UInt8
def leafD (b : List UInt8) : Dg := tagged ⟨#[116, 111, 108, 108, 104, 111, 117, 115, 101, 47, 108, 101, 97, 102]⟩ [b]
def nodeD (l r : Dg) : Dg := tagged ⟨#[116, 111, 108, 108, 104, 111, 117, 115, 101, 47, 110, 111, 100, 101]⟩ [l, r]
def noneD : Dg := tagged ⟨#[116, 111, 108, 108, 104, 111, 117, 115, 101, 47, 110, 111, 110, 101]⟩ []
theorem leafD_length (b : List UInt8) : (leafD b).length = 32 := tagged_length _ _
theorem nodeD_length (l r : Dg) : (nodeD l r).length = 32 := tagged_length _ _
theorem noneD_length : noneD.length = 32 := tagged_length _ _

theorem bitLenAux_bounds : ∀ (f x : Nat), 0 < x → x < 2 ^ f → 0 < Lib.bitLenAux f x ∧ 2 ^ (Lib.bitLenAux f x - 1) ≤ x ∧ x < 2 ^ Lib.bitLenAux f x
  | 0, x, h0, h1 => by simp at h1; omega
  | f + 1, x, h0, h1 => by
    unfold Lib.bitLenAux
    rw [if_neg (by omega)]
    by_cases h2 : x / 2 = 0
    · have : x = 1 := by omega
      subst this
      have e0 : Lib.bitLenAux f (1 / 2) = 0 := by rw [show (1 / 2 : Nat) = 0 from rfl]; cases f <;> simp [Lib.bitLenAux]
      rw [e0]; simp
    · have ih := bitLenAux_bounds f (x / 2) (by omega) (by rw [Nat.pow_succ] at h1; omega)
      obtain ⟨i0, i1, i2⟩ := ih
      generalize Lib.bitLenAux f (x / 2) = b at *
      obtain ⟨c, rfl⟩ : ∃ c, b = c + 1 := ⟨b - 1, by omega⟩
      have e1 : 1 + (c + 1) - 1 = c + 1 := by omega
      have e2 : c + 1 - 1 = c := by omega
      rw [e1]
      rw [e2] at i1
      have p1 : 2 ^ (c + 1) = 2 * 2 ^ c := by rw [Nat.pow_succ]; omega
      have p2 : 2 ^ (1 + (c + 1)) = 2 * 2 ^ (c + 1) := by rw [Nat.pow_add]
      refine ⟨by omega, ?_, ?_⟩ <;> omega
/-- the greatest power of two below a number -/
def cutN (n : Nat) : Nat := 2 ^ (Lib.bitLen (n - 1) - 1)
theorem cutN_bounds {n : Nat} (h : 2 ≤ n) (h2 : n ≤ 9223372036854775808) : 1 ≤ cutN n ∧ cutN n < n ∧ n ≤ 2 * cutN n := by
  obtain ⟨h0, h1, h2⟩ := bitLenAux_bounds 64 (n - 1) (by omega) (by omega)
  unfold cutN Lib.bitLen
  generalize Lib.bitLenAux 64 (n - 1) = b at *
  obtain ⟨c, rfl⟩ : ∃ c, b = c + 1 := ⟨b - 1, by omega⟩
  rw [show c + 1 - 1 = c from rfl] at *
  have p1 : 2 ^ (c + 1) = 2 * 2 ^ c := by rw [Nat.pow_succ]; omega
  have p0 : 1 ≤ 2 ^ c := Nat.one_le_two_pow
  omega
/-- where the cut is below n, as the recursion wants it (whatever n) -/
def cutAt (n : Nat) : Nat := min (max (cutN n) 1) (n - 1)
theorem cutAt_eq {n : Nat} (h : 2 ≤ n) (h2 : n ≤ 9223372036854775808) : cutAt n = cutN n := by
  have := cutN_bounds h h2
  unfold cutAt; omega
theorem cutAt_lt {n : Nat} (h : 2 ≤ n) : 1 ≤ cutAt n ∧ cutAt n < n := by unfold cutAt; omega

def root (ds : List Dg) : Dg := if ds.length ≤ 1 then ds.headD noneD else nodeD (root (ds.take (cutAt ds.length))) (root (ds.drop (cutAt ds.length)))
termination_by ds.length
decreasing_by
  · have := cutAt_lt (n := ds.length) (by omega); simp; omega
  · have := cutAt_lt (n := ds.length) (by omega); simp; omega
theorem root_nil : root [] = noneD := by rw [root]; rfl
theorem root_one (d : Dg) : root [d] = d := by rw [root]; rfl
theorem root_many {ds : List Dg} (h : 2 ≤ ds.length) : root ds = nodeD (root (ds.take (cutAt ds.length))) (root (ds.drop (cutAt ds.length))) := by rw [root, if_neg (by omega)]
theorem root_length : ∀ (n : Nat) (ds : List Dg), ds.length = n → (∀ d ∈ ds, d.length = 32) → (root ds).length = 32
  | n, ds, hn, h => by
    by_cases h1 : ds.length ≤ 1
    · rw [root, if_pos h1]
      cases ds with
      | nil => exact noneD_length
      | cons d r => exact h d (by simp)
    · rw [root, if_neg h1]; exact nodeD_length _ _
/-- the trees beside the way, the lowest first -/
def path (ds : List Dg) (p : Nat) : List Dg :=
  if ds.length ≤ 1 then [] else
  if p < cutAt ds.length then path (ds.take (cutAt ds.length)) p ++ [root (ds.drop (cutAt ds.length))]
  else path (ds.drop (cutAt ds.length)) (p - cutAt ds.length) ++ [root (ds.take (cutAt ds.length))]
termination_by ds.length
decreasing_by
  · have := cutAt_lt (n := ds.length) (by omega); simp; omega
  · have := cutAt_lt (n := ds.length) (by omega); simp; omega
theorem path_one {ds : List Dg} {p : Nat} (h : ds.length ≤ 1) : path ds p = [] := by rw [path, if_pos h]
theorem path_left {ds : List Dg} {p : Nat} (h : 2 ≤ ds.length) (hp : p < cutAt ds.length) : path ds p = path (ds.take (cutAt ds.length)) p ++ [root (ds.drop (cutAt ds.length))] := by
  rw [path, if_neg (by omega), if_pos hp]
theorem path_right {ds : List Dg} {p : Nat} (h : 2 ≤ ds.length) (hp : ¬ p < cutAt ds.length) : path ds p = path (ds.drop (cutAt ds.length)) (p - cutAt ds.length) ++ [root (ds.take (cutAt ds.length))] := by
  rw [path, if_neg (by omega), if_neg hp]
/-- on which side the way goes, from the root down: true: on the right -/
def sides (p n : Nat) : List Bool :=
  if n ≤ 1 then [] else if p < cutAt n then false :: sides p (cutAt n) else true :: sides (p - cutAt n) (n - cutAt n)
termination_by n
decreasing_by
  · have := cutAt_lt (n := n) (by omega); omega
  · have := cutAt_lt (n := n) (by omega); omega
/-- the path's length hangs on the place and on how many there are alone -/
theorem path_length : ∀ (n : Nat) (ds : List Dg) (p : Nat), ds.length = n → (path ds p).length = (sides p n).length := by
  intro n
  induction n using Nat.strongRecOn with
  | ind n ih =>
    intro ds p hn
    by_cases h : n ≤ 1
    · rw [path_one (by omega), sides, if_pos h]; rfl
    · have hc := cutAt_lt (n := n) (by omega)
      rw [sides, if_neg h]
      by_cases hp : p < cutAt n
      · rw [path_left (by omega) (by rw [hn]; exact hp), if_pos hp, List.length_append, hn, ih (cutAt n) hc.2 _ _ (by simp; omega)]; simp
      · rw [path_right (by omega) (by rw [hn]; exact hp), if_neg hp, List.length_append, hn, ih (n - cutAt n) (by omega) _ _ (by simp; omega)]; simp
/-- one step up: the pair, and what it comes to -/
def pairOf (leaf d : Dg) (right : Bool) : Dg × Dg := if right then (d, leaf) else (leaf, d)
def nodeP (x : Dg × Dg) : Dg := nodeD x.1 x.2
/-- the pairs from a leaf up: the sides from the lowest on -/
def ups (leaf : Dg) : List Bool → List Dg → List (Dg × Dg)
  | s :: ss, d :: ds => pairOf leaf d s :: ups (nodeP (pairOf leaf d s)) ss ds
  | _, _ => []
def topOf (leaf : Dg) : List Bool → List Dg → Dg
  | s :: ss, d :: ds => topOf (nodeP (pairOf leaf d s)) ss ds
  | _, _ => leaf
/-- where a leaf and a path come to; none: the path has not the right length, or the place is none -/
def rise (leaf : Dg) (p n : Nat) (ds : List Dg) : Option Dg := if p < n ∧ (sides p n).length = ds.length then some (topOf leaf (sides p n).reverse ds) else none

theorem topOf_snoc : ∀ (leaf : Dg) (ss : List Bool) (ds : List Dg) (s : Bool) (d : Dg), ss.length = ds.length → topOf leaf (ss ++ [s]) (ds ++ [d]) = nodeP (pairOf (topOf leaf ss ds) d s)
  | leaf, [], [], s, d, _ => rfl
  | leaf, a :: ss, b :: ds, s, d, h => by
    simp only [List.cons_append, topOf]
    exact topOf_snoc _ ss ds s d (by simpa using h)
  | _, [], _ :: _, _, _, h => by simp at h
  | _, _ :: _, [], _, _, h => by simp at h
end Go.Proofs.YtmenchnjajpkmaaGreatDoor.Mk
end

section
namespace Go.Proofs.YtmenchnjajpkmaaGreatDoor.MkW
open Go Go.RowKit Mem Sha ShaW Mk Arr
set_option linter.unusedVariables false

/-- a digest as a value -/
abbrev dv (d : Dg) : Value := .agg (d.map byt).toArray
theorem szD : (Tryz.prog.info? 24).map (·.size) = some 32 := by kernel_rfl
theorem szD' {m : Dg} (h : m.length = 32) : (Tryz.prog.info? 24).map (·.size) = some (m.map byt).length := szD.trans (by rw [List.length_map, h])
theorem szD'' {m : Dg} (h : m.length = 32) : (Tryz.prog.info? 24).map (·.size) = some (m.map byt).toArray.size := szD.trans (by rw [List.size_toArray, List.length_map, h])
/-- a digest's block, as it is made -/
theorem start32 (w : World) : ∃ W, w.alloc (.cells #[.int .u8 0, .int .u8 0, .int .u8 0, .int .u8 0, .int .u8 0, .int .u8 0, .int .u8 0, .int .u8 0, .int .u8 0, .int .u8 0, .int .u8 0, .int .u8 0, .int .u8 0, .int .u8 0, .int .u8 0, .int .u8 0, .int .u8 0, .int .u8 0, .int .u8 0, .int .u8 0, .int .u8 0, .int .u8 0, .int .u8 0, .int .u8 0, .int .u8 0, .int .u8 0, .int .u8 0, .int .u8 0, .int .u8 0, .int .u8 0, .int .u8 0, .int .u8 0] 24) = W ∧ Hid (Blk W w.heap.size (List.replicate 32 (.int .u8 0)) 24) ∧ Hid (Below w.heap.size w W) ∧ w.heap.size + 1 = W.heap.size :=
  ⟨_, rfl, Lib.hid (new32 w), Lib.hid ((Below.refl _ _).alloc (Nat.le_refl _) _), by simp⟩
theorem byts_one (w : World) (v : Value) (l : List UInt8) (e : TypeId) (hv : Byt Any w v l) : Byts (w.alloc (.cells #[v] e)) (.slice (some ⟨w.heap.size, 0, none⟩) 1 1) [l] := by
  refine ⟨_, 1, rfl, ⟨by simp, by unfold maxLen; omega, fun h => by cases h⟩, .inr ⟨w.heap.size, 0, rfl, fun i hi => ?_⟩⟩
  obtain rfl : i = 0 := by simpa using hi
  exact ⟨v, (Blk.new w #[v] e [v] rfl).cell (i := 0) rfl, hv.below ((Below.refl _ _).alloc (Nat.le_refl _) _)⟩
theorem byts_two (w : World) (v u : Value) (l m : List UInt8) (e : TypeId) (hv : Byt Any w v l) (hu : Byt Any w u m) : Byts (w.alloc (.cells #[v, u] e)) (.slice (some ⟨w.heap.size, 0, none⟩) 2 2) [l, m] := by
  refine ⟨_, 2, rfl, ⟨by simp, by unfold maxLen; omega, fun h => by cases h⟩, .inr ⟨w.heap.size, 0, rfl, fun i hi => ?_⟩⟩
  have hb : Below w.heap.size w (w.alloc (.cells #[v, u] e)) := (Below.refl _ _).alloc (Nat.le_refl _) _
  match i, hi with
  | 0, _ => exact ⟨v, (Blk.new w #[v, u] e [v, u] rfl).cell (i := 0) rfl, hv.below hb⟩
  | 1, _ => exact ⟨u, (Blk.new w #[v, u] e [v, u] rfl).cell (i := 1) rfl, hu.below hb⟩
  | i + 2, h => simp at h; omega

set_option maxHeartbeats 4000000 in
set_option maxRecDepth 100000 in
theorem leaf_calls (w : World) (v : Value) (b : List UInt8) (hB : Byt Any w v b) (hl : b.length ≤ 140737488351232) (hT : TabB w 1) :
    Calls Tryz.prog 29 #[v] w fun e w' => e = .returned (dv (leafD b)) ∧ Below w.heap.size w w' := by
  obtain ⟨a, c, rfl, hk, _⟩ := id hB
  obtain ⟨W, hW, H0, HB, hs⟩ := start32 w
  have HBW := Lib.hid (hB.below HB.out)
  have HT := Lib.hid (hT.below HB.out)
  clear hB hT
  go_enter Tryz.func29, Tryz.ntmps29
  go_upto_region 1 with fail
  clear hW
  have hal : Below W.heap.size W (W.alloc (.cells #[.slice a b.length c] 25)) := (Below.refl _ _).alloc (Nat.le_refl _) _
  have HY := Lib.hid (byts_one W (.slice a b.length c) b 25 HBW.out)
  have HAL := Lib.hid hal
  have H1 := Lib.hid (H0.out.below hal)
  clear hal
  go_wp2_with fail
  refine (tagged_calls _ _ _ [b] HY.out (by decide) (by simp; omega) (by simp) (HT.out.below HAL.out)).mono ?_
  rintro e w2 ⟨rfl, g⟩
  have H2 := Lib.hid (H1.out.below g)
  have HB2 := Lib.hid (HB.out.trans ((HAL.out.trans (g.mono HAL.out.size)).mono (by omega)))
  have HE := Lib.hid (show leafD b = tagged _ [b] from rfl)
  have HML := Lib.hid (leafD_length b)
  have HONE := Lib.hid (one_cells (leafD b))
  rw [← HE.out]
  obtain ⟨m, hm⟩ : ∃ m, leafD b = m := ⟨_, rfl⟩
  rw [hm] at HML HONE ⊢
  have HM := Lib.hid hm
  clear g H1 HB hm HE
  go_wp2_with (with_reducible refine wpList_store_blk rfl _ _ _ rfl w.heap.size (m.map byt) _ rfl _ rfl rfl H2.out (szD' HML.out) (by simp [HML.out]) HONE.out ?_)
  exact bodyPost_ret (v := dv m) (results_cell_row Tryz.results29 _ _ w.heap.size 24 _ (0, 0) _ rfl (H2.out.row _) Tryz.underlying24 rfl (szD'' HML.out)) rfl ⟨by rw [HM.out], below_setRow HB2.out (Nat.le_refl _) _⟩

set_option maxHeartbeats 4000000 in
set_option maxRecDepth 100000 in
theorem ref_leaf_calls (w : World) (v : Value) (b : List UInt8) (hB : Byt Any w v b) (hl : b.length ≤ 140737488351232) (hT : TabB w 0) :
    Calls Tryz.prog 12 #[v] w fun e w' => e = .returned (dv (leafD b)) ∧ Below w.heap.size w w' := by
  obtain ⟨a, c, rfl, hk, _⟩ := id hB
  obtain ⟨W, hW, H0, HB, hs⟩ := start32 w
  have HBW := Lib.hid (hB.below HB.out)
  have HT := Lib.hid (hT.below HB.out)
  clear hB hT
  go_enter Tryz.func12, Tryz.ntmps12
  go_upto_region 1 with fail
  clear hW
  have hal : Below W.heap.size W (W.alloc (.cells #[.slice a b.length c] 25)) := (Below.refl _ _).alloc (Nat.le_refl _) _
  have HY := Lib.hid (byts_one W (.slice a b.length c) b 25 HBW.out)
  have HAL := Lib.hid hal
  have H1 := Lib.hid (H0.out.below hal)
  clear hal
  go_wp2_with fail
  refine (ref_tagged_calls _ _ _ [b] HY.out (by decide) (by simp; omega) (by simp) (HT.out.below HAL.out)).mono ?_
  rintro e w2 ⟨rfl, g⟩
  have H2 := Lib.hid (H1.out.below g)
  have HB2 := Lib.hid (HB.out.trans ((HAL.out.trans (g.mono HAL.out.size)).mono (by omega)))
  have HE := Lib.hid (show leafD b = tagged _ [b] from rfl)
  have HML := Lib.hid (leafD_length b)
  have HONE := Lib.hid (one_cells (leafD b))
  rw [← HE.out]
  obtain ⟨m, hm⟩ : ∃ m, leafD b = m := ⟨_, rfl⟩
  rw [hm] at HML HONE ⊢
  have HM := Lib.hid hm
  clear g H1 HB hm HE
  go_wp2_with (with_reducible refine wpList_store_blk rfl _ _ _ rfl w.heap.size (m.map byt) _ rfl _ rfl rfl H2.out (szD' HML.out) (by simp [HML.out]) HONE.out ?_)
  exact bodyPost_ret (v := dv m) (results_cell_row Tryz.results12 _ _ w.heap.size 24 _ (0, 0) _ rfl (H2.out.row _) Tryz.underlying24 rfl (szD'' HML.out)) rfl ⟨by rw [HM.out], below_setRow HB2.out (Nat.le_refl _) _⟩
end Go.Proofs.YtmenchnjajpkmaaGreatDoor.MkW
end

section
namespace Go.Proofs.YtmenchnjajpkmaaGreatDoor.Wm
open Go Go.RowKit Mem Codec CodecW Ww Rw Arr Ops Wt Reps Wg
set_option linter.unusedVariables false

set_option maxHeartbeats 8000000 in
set_option maxRecDepth 100000 in
theorem writtenMainTx_calls (w : World) (cs : List Value) (x : _) (hR : RMt Any w cs x) (hn : (encMt x).length + 9 ≤ 140737488355328) :
    Calls Tryz.prog 72 #[.agg cs.toArray, .func (.func 73) #[] #[]] w fun e w' => Wt.Told w.heap.size (encMt x) (badMt x) e w' ∧ Below w.heap.size w w' := by
  obtain ⟨ca, hca⟩ : ∃ ca, cs.toArray = ca := ⟨_, rfl⟩
  have HB := Lib.hid (show Blk (w.alloc (.cells ca 56)) w.heap.size cs 56 from Blk.new w _ _ _ hca.symm)
  have B1 := Lib.hid (below_alloc w (.cells ca 56))
  have hz : w.heap.size + 1 ≤ (w.alloc (.cells ca 56)).heap.size := by simp
  have HA := Lib.hid (rep_Mt.mono hR (E := fun k => k < w.heap.size) (fun k h1 _ => h1))
  have HSZ := Lib.hid (show (Tryz.prog.info? 56).map (·.size) = some cs.length by rw [rep_Mt.len hR]; kernel_rfl)
  obtain ⟨en, hen⟩ : ∃ en, encMt x = en := ⟨_, rfl⟩
  obtain ⟨bb, hbb⟩ : ∃ bb, badMt x = bb := ⟨_, rfl⟩
  have HLN := Lib.hid (show en.length ≤ 140737488355328 by rw [← hen]; omega)
  have HN := Lib.hid hn
  rw [hen, hbb]
  have HEN := Lib.hid hen
  have HBB := Lib.hid hbb
  have HCA := Lib.hid hca
  rw [hca]
  clear hR hn hen hbb hca
  go_enter Tryz.func72, Tryz.ntmps72
  go_upto_region 1 with fail
  generalize (w.alloc (.cells ca 56)) = w1 at *
  go_wp2_with fail
  refine (CodecW.new_calls w1).mono ?_
  rintro e w2 ⟨p, rfl, hp1, hp2, hp3⟩
  have hs2 := hp3.size
  have H2 := Lib.hid (Wh.made_at hp2)
  have HB2 := Lib.hid ((HB.out.below hp3).alloc (.cells #[.pointer (some ⟨p, 0, none⟩), .bool false] 166))
  have B2 := Lib.hid ((B1.out.trans (hp3.mono (by omega))).alloc (by have := B1.out.size; omega) (.cells #[.pointer (some ⟨p, 0, none⟩), .bool false] 166))
  have hs3 : w2.heap.size + 1 = (w2.alloc (.cells #[.pointer (some ⟨p, 0, none⟩), .bool false] 166)).heap.size := by simp
  have hpw : w.heap.size < p := by omega
  clear hp2 hp3 HB B1
  go_upto_region 2 with fail
  generalize (w2.alloc (.cells #[.pointer (some ⟨p, 0, none⟩), .bool false] 166)) = w3 at *
  have HA3 := Lib.hid (rep_Mt.below HA.out B2.out)
  go_wp2_with (first | (with_reducible refine wpList_load_blk rfl _ _ rfl w.heap.size cs rfl HB2.out _ Tryz.underlying56 rfl HSZ.out ?_))
  refine (mainTx_to _ (fun k => k < w.heap.size) _ w3 _ [] false cs x HA3.out (fun k _ h e => by rcases e with (e | e) | e <;> omega) H2.out (by have := HN.out; simp; omega)).mono ?_
  rintro e w4 ⟨rfl, g1⟩
  obtain ⟨⟨g2, p2, g3, g4⟩, g5, g6⟩ := id g1
  have hg5 := g5.size
  have c1 := g3.cell (i := 1) rfl
  have c0 := g3.cell (i := 0) rfl
  have HW := Lib.hid g4
  have B4 := Lib.hid (B2.out.trans (show Below w.heap.size w3 w4 from g5.below (by omega) (fun k h => by omega)))
  have hb4 := B4.out.size
  rw [List.nil_append, Bool.false_or] at *
  clear g1 g2 g3 g4 g5 g6 H2 HB2 B2 HA HA3
  rw [HEN.out] at HW
  rw [HBB.out] at c1
  clear HEN HBB HN
  cases bb
  · go_wp2_with fail
    refine (CodecR.bytes_calls _ w4 p2 _ HW.out HLN.out).mono ?_
    rintro e w5 ⟨a, c, rfl, g1, g2⟩
    have G1 := Lib.hid g1
    have BF := Lib.hid (B4.out.trans (g2.mono hb4))
    clear g1 g2 c0 c1 HW B4
    go_wp2
    go_ret2
    exact ⟨⟨a, c, rfl, G1.out.mono hb4⟩, BF.out⟩
  · go_wp2
    go_ret2
    exact ⟨⟨none, 0, rfl, OwnB.nil _ _ _⟩, B4.out⟩
set_option maxHeartbeats 4000000 in
set_option maxRecDepth 100000 in
theorem MainTx_told (w : World) (cs : List Value) (x : _) (hR : RMt Any w cs x) (hn : (encMt x).length + 9 ≤ 140737488355328) :
    Calls Tryz.prog 48 #[.agg cs.toArray] w fun e w' => Wt.Told w.heap.size (encMt x) (badMt x) e w' ∧ Below w.heap.size w w' := by
  obtain ⟨ca, hca⟩ : ∃ ca, cs.toArray = ca := ⟨_, rfl⟩
  have HB := Lib.hid (show Blk (w.alloc (.cells ca 56)) w.heap.size cs 56 from Blk.new w _ _ _ hca.symm)
  have B1 := Lib.hid (below_alloc w (.cells ca 56))
  have hz : w.heap.size + 1 = (w.alloc (.cells ca 56)).heap.size := by simp
  have HA := Lib.hid (rep_Mt.below hR B1.out)
  have HSZ := Lib.hid (show (Tryz.prog.info? 56).map (·.size) = some cs.length by rw [rep_Mt.len hR]; kernel_rfl)
  have HCA := Lib.hid hca
  rw [hca]
  clear hR hca
  go_enter Tryz.func48, Tryz.ntmps48
  go_upto_region 1 with fail
  generalize (w.alloc (.cells ca 56)) = w1 at *
  go_wp2_with (first | (with_reducible refine wpList_load_blk rfl _ _ rfl w.heap.size cs rfl HB.out _ Tryz.underlying56 rfl HSZ.out ?_))
  refine (writtenMainTx_calls w1 cs x HA.out hn).mono ?_
  rintro e w2 ⟨⟨a, c, rfl, g1⟩, g2⟩
  have G1 := Lib.hid g1
  have G2 := Lib.hid (B1.out.trans (g2.mono (by omega)))
  clear g1 g2 B1 HB HA
  go_wp2
  go_ret2
  exact ⟨⟨a, c, rfl, G1.out.mono (by omega)⟩, G2.out⟩
end Go.Proofs.YtmenchnjajpkmaaGreatDoor.Wm
end

section
namespace Go.Proofs.YtmenchnjajpkmaaGreatDoor.Ws
open Go Go.RowKit Mem Codec CodecW Ww Rw Arr Ops Wt Reps Wg
set_option linter.unusedVariables false

/-- a truth's byte -/
def tb (is : Bool) : UInt8 := if is then 1 else 0
end Go.Proofs.YtmenchnjajpkmaaGreatDoor.Ws
end

section
namespace Go.Proofs.YtmenchnjajpkmaaGreatDoor.Wm
open Go Go.RowKit Mem Codec CodecW Ww Rw Arr Ops Wt Reps Wg Ws
set_option linter.unusedVariables false
set_option linter.unusedSimpArgs false

set_option maxHeartbeats 8000000 in
set_option maxRecDepth 100000 in
theorem rmainTx_to (S D : Nat → Prop) (w0 w : World) (q : Nat) (m : List UInt8) (bad : Bool) (cs : List Value) (x : XMt) (hR : RMt D w cs x) (hD : ∀ b, b < w.heap.size → D b → ¬ Plus S w0 w b) (H : RAt S w0 w q m bad) (hlen : m.length + (encMt x).length + 9 ≤ 140737488355328) :
    Calls Tryz.prog 36 #[.pointer (some ⟨q, 0, none⟩), .agg cs.toArray] w fun e w' => e = .returned (.tuple #[]) ∧ RAt S w0 w' q (m ++ encMt x) (bad || badMt x) := by
  have hR1 := rep_Mt.lt hR
  obtain ⟨a0, b0, rfl, h0, h1⟩ := id hR1
  obtain ⟨k0, rfl⟩ := h0
  obtain ⟨v1, rfl, g1⟩ := h1
  have G1 := Lib.hid (g1.below rep_Mo (below_alloc w (.cells ([Value.int .u64 (x.1 : Int)] ++ ([v1])).toArray 56)))
  have HF0 := Lib.hid (fun (w' : World) (h : Blk w' w.heap.size ([Value.int .u64 (x.1 : Int)] ++ ([v1])) 56) => blk_one h ([]) ([v1]) (Value.int .u64 (x.1 : Int)) (by simp) 0 (by rfl))
  have HF1 := Lib.hid (fun (w' : World) (h : Blk w' w.heap.size ([Value.int .u64 (x.1 : Int)] ++ ([v1])) 56) => blk_one h ([Value.int .u64 (x.1 : Int)]) ([]) (v1) (by simp) 1 (by rfl))
  obtain ⟨ca, hca⟩ : ∃ ca, ([Value.int .u64 (x.1 : Int)] ++ ([v1])).toArray = ca := ⟨_, rfl⟩
  have HB := Lib.hid (show Blk (w.alloc (.cells ca 56)) w.heap.size ([Value.int .u64 (x.1 : Int)] ++ ([v1])) 56 from Blk.new w _ _ _ hca.symm)
  have HX := Lib.hid (fun w' m' b' => @Rw.RAt.box S w0 w w' q m bad (.cells ca 56) m' b' ([Value.int .u64 (x.1 : Int)] ++ ([v1])) 56 H)
  have H1 := Lib.hid (H.enter (.cells ca 56))
  have HL := Lib.hid (fun w' m' b' => @Rw.RAt.leave S w0 w w' q m bad (.cells ca 56) m' b' H)
  have HD := Lib.hid hD
  have hz : (w.alloc (.cells ca 56)).heap.size = w.heap.size + 1 := by simp
  simp only [encMt, List.length_append, num_length, List.length_cons, List.length_nil] at hlen
  rw [hca] at G1 ⊢
  clear H hR hR1 hca hD g1
  obtain ⟨T, hT⟩ : ∃ T, Plus S w0 w = T := ⟨_, rfl⟩
  rw [hT] at HL H1 HX HD
  clear hT
  go_enter Tryz.func36, Tryz.ntmps36
  go_upto_region 1 with fail
  have HB0 := Lib.hid (fun w' m' b' g => HX.out w' m' b' g HB.out)
  have B1 := Lib.hid HB.out
  clear HX HB
  generalize (w.alloc (.cells ca 56)) = w1 at *
  have HD2 := Lib.hid (show ∀ wi : World, ∀ b, b < wi.heap.size → (b < w.heap.size ∧ D b) → ¬ Plus T w1 wi b from fun wi b _ hb e => by
    rcases e with e | e
    · exact HD.out b hb.1 hb.2 e
    · have := e.1; omega)
  have d0 := HF0.out _ B1.out
  go_wp2_with fail
  refine (Rw.num_to _ _ w1 q _ _ (x.1) 8 k0 (by omega) H1.out (by (try simp only [List.length_append, num_length, List.length_cons, List.length_nil]); omega)).mono ?_
  rintro e w2 ⟨rfl, g1⟩
  have H2 := Lib.hid g1
  have B2 := Lib.hid (HB0.out _ _ _ H2.out)
  clear g1 d0 H1 B1
  have d0 := HF1.out _ B2.out
  obtain ⟨la, lc, hlv, hlc, hlm, _⟩ := ((G1.out.fr rep_Mo H2.out.2.1 (fun b _ h => HD.out b h.1 h.2))).form
  unfold maxLen at hlm
  rw [hlv] at d0
  have HLV := Lib.hid hlv
  have hvl := var_len9 (x.2).length
  clear hlv
  go_wp2_with fail
  refine (many_calls _ _ w2 q _ _ (x.2).length 16 H2.out (by omega) (by (try simp only [List.length_append, num_length, List.length_cons, List.length_nil]); omega)).mono ?_
  rintro e w3 ⟨rfl, g1⟩
  have H3 := Lib.hid g1
  have B3 := Lib.hid (HB0.out _ _ _ H3.out)
  clear g1 d0 H2 B2
  go_wp2
  go_loopw [4] (fun i' wx => ∃ i : Nat, i ≤ (x.2).length ∧ i' = .int .i64 (i : Int) ∧ RAt T w1 wx q ((m ++ num (x.1) 8 ++ var (x.2).length) ++ ((x.2).take i).flatMap encMo) ((bad || !decide (((x.2).length : Int) ≤ 16)) || ((x.2).take i).any badMo)) (fun i' _ => (x.2).length - (intOf i').toNat)
  case atStart => exact ⟨0, Nat.zero_le _, rfl, by simpa [List.append_assoc] using H3.out⟩
  case round =>
    obtain ⟨i, hi, rfl, hS⟩ := hrel
    have SX := Lib.hid hS
    have BX := Lib.hid (HB0.out _ _ _ hS)
    clear hS
    have cx := HF1.out _ BX.out
    rw [HLV.out] at cx
    by_cases hlt : i < (x.2).length
    · have hAt := (G1.out.fr rep_Mo SX.out.2.1 (fun b _ h => HD.out b h.1 h.2)).at i hlt
      rw [HLV.out] at hAt
      obtain ⟨bi, oi, ci', cs, e0, _, r0, r1⟩ := hAt
      cases e0
      obtain ⟨g, hg⟩ : ∃ g, (x.2)[i]'hlt = g := ⟨_, rfl⟩
      rw [hg] at r1
      have HGE := Lib.hid hg
      have hNX : ((x.2).take (i + 1)).flatMap encMo = ((x.2).take i).flatMap encMo ++ encMo g := by rw [List.take_add_one, List.getElem?_eq_getElem hlt, hg]; simp
      have HNB := Lib.hid (show ((x.2).take (i + 1)).any badMo = (((x.2).take i).any badMo || badMo g) by rw [List.take_add_one, List.getElem?_eq_getElem hlt, hg]; simp)
      have hflen : (((x.2).take i).flatMap encMo).length + (encMo g).length ≤ ((x.2).flatMap encMo).length := by
        have := congrArg List.length hNX
        rw [List.length_append] at this
        rw [← this]
        conv => rhs; rw [← List.take_append_drop (i + 1) (x.2), List.flatMap_append, List.length_append]
        omega
      have HNX := Lib.hid hNX
      have hltI : (i : Int) < ((x.2).length : Int) := by omega
      have h0I : (0 : Int) ≤ (i : Int) := by omega
      clear hg hNX
      obtain ⟨e1, e2, rfl, ⟨k0, rfl⟩, k1, rfl⟩ := id r1
      have hel : (encMo g).length = 8 + g.2.length := by simp [encMo, num_length]
      have d0 : wr.cell? ⟨bi, oi + i * 33, none⟩ = some (.int .u64 (g.1 : Int)) := r0 0 _ rfl
      have SZ := Lib.hid (Ww.szD (d := g.2) k1)
      have K1 := Lib.hid k1
      have K0 := Lib.hid k0
      clear r0 r1 k1 k0
      go_wp2_with fail
      refine (Rw.num_to _ _ wr q _ _ g.1 8 K0.out (by omega) SX.out (by (try simp only [List.length_append, num_length]); omega)).mono ?_
      rintro e wb ⟨rfl, g1⟩
      have hAt := (G1.out.fr rep_Mo g1.2.1 (fun b _ h => HD.out b h.1 h.2)).at i hlt
      rw [HLV.out] at hAt
      obtain ⟨bi2, oi2, ci2, cs2, e0, _, r0, r1⟩ := hAt
      cases e0
      rw [HGE.out] at r1
      obtain ⟨e1, e2, rfl, ⟨_, rfl⟩, _, rfl⟩ := id r1
      have HRG := Lib.hid (show wb.rangeAt bi (oi + i * 33 + 1) (g.2.map byt) from fun j v hv => by have := r0 (j + 1) v (by simpa using hv); rwa [show oi + i * 33 + (j + 1) = oi + i * 33 + 1 + j by omega] at this)
      have S2 := Lib.hid g1
      have BX2 := Lib.hid (HB0.out _ _ _ g1)
      have cy := HF1.out _ BX2.out
      rw [HLV.out] at cy
      clear g1 r0 r1 d0 SX BX cx
      go_wp2_with (first | (with_reducible refine wpList_load_mid rfl _ _ rfl bi (oi + i * 33 + 1) rfl (g.2.map byt) _ HRG.out Tryz.underlying24 rfl SZ.out ?_))
      refine (Rw.digest_to _ _ wb q _ _ g.2 K1.out S2.out (by (try simp only [List.length_append, num_length]); have := K1.out; omega)).mono ?_
      rintro e wc ⟨rfl, g3⟩
      have G3 := Lib.hid (show RAt T w1 wc q (((m ++ num x.1 8 ++ var x.2.length) ++ (x.2.take i).flatMap encMo) ++ encMo g) (((bad || !decide ((x.2.length : Int) ≤ 16)) || (x.2.take i).any badMo) || badMo g) by have h := g3; simpa [encMo, badMo, List.append_assoc] using h)
      clear g3 S2 BX2 cy HRG SZ
      go_wp2
      go_roundw
      case rel => exact ⟨i + 1, by omega, by go_num, by rw [HNX.out, HNB.out]; have := G3.out; simpa [List.append_assoc, Bool.or_assoc] using this⟩
      case measure => simp [intOf]; omega
    · obtain rfl : i = (x.2).length := by omega
      have H4 := Lib.hid (show RAt T w1 wr q ((m ++ num (x.1) 8 ++ var (x.2).length) ++ (x.2).flatMap encMo) ((bad || !decide (((x.2).length : Int) ≤ 16)) || (x.2).any badMo) by have := SX.out; rwa [List.take_length] at this)
      have B4 := Lib.hid (HB0.out _ _ _ H4.out)
      clear SX HLV BX
      have HFF := Lib.hid (HL.out _ _ _ H4.out)
      clear H4 B4 HL HB0
      go_wp2
      go_end0
      refine ⟨rfl, ?_⟩
      have := HFF.out
      simp only [List.append_assoc, Bool.or_assoc] at this
      exact this
set_option maxHeartbeats 4000000 in
set_option maxRecDepth 100000 in
theorem rMainTx_told (w : World) (cs : List Value) (x : _) (hR : RMt Any w cs x) (hn : (encMt x).length + 9 ≤ 140737488355328) :
    Calls Tryz.prog 11 #[.agg cs.toArray] w fun e w' => Wt.Told 0 (encMt x) (badMt x) e w' ∧ Below w.heap.size w w' := by
  obtain ⟨ca, hca⟩ : ∃ ca, cs.toArray = ca := ⟨_, rfl⟩
  have HB := Lib.hid (show Blk (w.alloc (.cells ca 56)) w.heap.size cs 56 from Blk.new w _ _ _ hca.symm)
  have B1 := Lib.hid (below_alloc w (.cells ca 56))
  have hz : w.heap.size + 1 ≤ (w.alloc (.cells ca 56)).heap.size := by simp
  have HA := Lib.hid (rep_Mt.mono hR (E := fun k => k < w.heap.size) (fun k h1 _ => h1))
  have HSZ := Lib.hid (show (Tryz.prog.info? 56).map (·.size) = some cs.length by rw [rep_Mt.len hR]; kernel_rfl)
  rw [hca]
  clear hR hca
  go_enter Tryz.func11, Tryz.ntmps11
  go_upto_region 1 with fail
  generalize (w.alloc (.cells ca 56)) = w1 at *
  have H2 := Lib.hid (Rw.RAt.start (RfW.RefIs.new w1) (fun k h => by simp; omega))
  have HB2 := Lib.hid (HB.out.alloc (.cells #[.slice none 0 0, .bool false] 91))
  have B2 := Lib.hid (B1.out.alloc (by omega) (.cells #[.slice none 0 0, .bool false] 91))
  have hs3 : w1.heap.size + 1 ≤ (w1.alloc (.cells #[.slice none 0 0, .bool false] 91)).heap.size := by simp
  clear HB B1
  go_upto_region 2 with fail
  generalize (w1.alloc (.cells #[.slice none 0 0, .bool false] 91)) = w3 at *
  have HA3 := Lib.hid (rep_Mt.below HA.out B2.out)
  go_wp2_with (first | (with_reducible refine wpList_load_blk rfl _ _ rfl w.heap.size cs rfl HB2.out _ Tryz.underlying56 rfl HSZ.out ?_))
  refine (rmainTx_to _ (fun k => k < w.heap.size) _ w3 _ [] false cs x HA3.out (fun k _ h e => by rcases e with e | e <;> omega) H2.out (by simp; omega)).mono ?_
  rintro e w4 ⟨rfl, g1⟩
  rw [List.nil_append, Bool.false_or] at g1
  have G1 := Lib.hid g1.1
  have BF := Lib.hid (B2.out.trans (show Below w.heap.size w3 w4 from g1.2.1.below (by omega) (fun k h => by omega)))
  clear g1 H2 B2 HB2
  go_wp2_with fail
  refine (done_calls _ w4 _ _ _ G1.out).mono ?_
  rintro e w5 ⟨⟨a', c', rfl, o5⟩, rfl⟩
  have O5 := Lib.hid o5
  clear o5 G1
  go_wp2
  go_ret2
  exact ⟨⟨a', c', rfl, O5.out⟩, BF.out⟩
end Go.Proofs.YtmenchnjajpkmaaGreatDoor.Wm
end

section
namespace Go.Proofs.YtmenchnjajpkmaaGreatDoor.Ev
open Go Go.RowKit Mem Sha ShaW Mk MkW Arr Reps Rr Wm Codec Wt
set_option linter.unusedVariables false

def claimD (b : List UInt8) : List UInt8 := tagged ⟨#[116, 111, 108, 108, 104, 111, 117, 115, 101, 47, 99, 108, 97, 105, 109]⟩ [b]
def mtName : ByteArray := ⟨#[116, 111, 108, 108, 104, 111, 117, 115, 101, 47, 109, 97, 105, 110, 116, 120]⟩
def mtId (x : XMt) : List UInt8 := tagged mtName [told (encMt x) (badMt x)]
theorem claimD_length (b : List UInt8) : (claimD b).length = 32 := tagged_length _ _
theorem mtId_length (x : XMt) : (mtId x).length = 32 := tagged_length _ _
/-- what an id asks of a transaction -/
def Fits (x : XMt) : Prop := (encMt x).length + 4200 ≤ 140737488355328
theorem fits9 {x : XMt} (h : Fits x) : (encMt x).length + 9 ≤ 140737488355328 := by unfold Fits at h; omega
theorem told_len {x : XMt} (h : Fits x) : (told (encMt x) (badMt x)).length + 4200 ≤ 140737488355328 := by
  unfold Fits at h
  unfold told
  split <;> simp <;> omega
set_option maxHeartbeats 4000000 in
set_option maxRecDepth 100000 in
theorem claim_calls (w : World) (v : Value) (b : List UInt8) (hB : Byt Any w v b) (hl : b.length ≤ 140737488351232) (hT : TabB w 1) :
    Calls Tryz.prog 8 #[v] w fun e w' => e = .returned (dv (claimD b)) ∧ Below w.heap.size w w' := by
  obtain ⟨a, c, rfl, hk, _⟩ := id hB
  obtain ⟨W, hW, H0, HB, hs⟩ := start32 w
  have HBW := Lib.hid (hB.below HB.out)
  have HT := Lib.hid (hT.below HB.out)
  clear hB hT
  go_enter Tryz.func8, Tryz.ntmps8
  go_upto_region 1 with fail
  clear hW
  have hal : Below W.heap.size W (W.alloc (.cells #[.slice a b.length c] 25)) := (Below.refl _ _).alloc (Nat.le_refl _) _
  have HY := Lib.hid (byts_one W (.slice a b.length c) b 25 HBW.out)
  have HAL := Lib.hid hal
  have H1 := Lib.hid (H0.out.below hal)
  clear hal
  go_wp2_with fail
  refine (tagged_calls _ _ _ [b] HY.out (by decide) (by simp; omega) (by simp) (HT.out.below HAL.out)).mono ?_
  rintro e w2 ⟨rfl, g⟩
  have H2 := Lib.hid (H1.out.below g)
  have HB2 := Lib.hid (HB.out.trans ((HAL.out.trans (g.mono HAL.out.size)).mono (by omega)))
  have HE := Lib.hid (show claimD b = tagged _ [b] from rfl)
  have HML := Lib.hid (claimD_length b)
  have HONE := Lib.hid (one_cells (claimD b))
  rw [← HE.out]
  obtain ⟨m, hm⟩ : ∃ m, claimD b = m := ⟨_, rfl⟩
  rw [hm] at HML HONE ⊢
  have HM := Lib.hid hm
  clear g H1 HB hm HE
  go_wp2_with (with_reducible refine wpList_store_blk rfl _ _ _ rfl w.heap.size (m.map byt) _ rfl _ rfl rfl H2.out (szD' HML.out) (by simp [HML.out]) HONE.out ?_)
  exact bodyPost_ret (v := dv m) (results_cell_row Tryz.results8 _ _ w.heap.size 24 _ (0, 0) _ rfl (H2.out.row _) Tryz.underlying24 rfl (szD'' HML.out)) rfl ⟨by rw [HM.out], below_setRow HB2.out (Nat.le_refl _) _⟩

set_option maxHeartbeats 4000000 in
set_option maxRecDepth 100000 in
theorem ref_claim_calls (w : World) (v : Value) (b : List UInt8) (hB : Byt Any w v b) (hl : b.length ≤ 140737488351232) (hT : TabB w 0) :
    Calls Tryz.prog 9 #[v] w fun e w' => e = .returned (dv (claimD b)) ∧ Below w.heap.size w w' := by
  obtain ⟨a, c, rfl, hk, _⟩ := id hB
  obtain ⟨W, hW, H0, HB, hs⟩ := start32 w
  have HBW := Lib.hid (hB.below HB.out)
  have HT := Lib.hid (hT.below HB.out)
  clear hB hT
  go_enter Tryz.func9, Tryz.ntmps9
  go_upto_region 1 with fail
  clear hW
  have hal : Below W.heap.size W (W.alloc (.cells #[.slice a b.length c] 25)) := (Below.refl _ _).alloc (Nat.le_refl _) _
  have HY := Lib.hid (byts_one W (.slice a b.length c) b 25 HBW.out)
  have HAL := Lib.hid hal
  have H1 := Lib.hid (H0.out.below hal)
  clear hal
  go_wp2_with fail
  refine (ref_tagged_calls _ _ _ [b] HY.out (by decide) (by simp; omega) (by simp) (HT.out.below HAL.out)).mono ?_
  rintro e w2 ⟨rfl, g⟩
  have H2 := Lib.hid (H1.out.below g)
  have HB2 := Lib.hid (HB.out.trans ((HAL.out.trans (g.mono HAL.out.size)).mono (by omega)))
  have HE := Lib.hid (show claimD b = tagged _ [b] from rfl)
  have HML := Lib.hid (claimD_length b)
  have HONE := Lib.hid (one_cells (claimD b))
  rw [← HE.out]
  obtain ⟨m, hm⟩ : ∃ m, claimD b = m := ⟨_, rfl⟩
  rw [hm] at HML HONE ⊢
  have HM := Lib.hid hm
  clear g H1 HB hm HE
  go_wp2_with (with_reducible refine wpList_store_blk rfl _ _ _ rfl w.heap.size (m.map byt) _ rfl _ rfl rfl H2.out (szD' HML.out) (by simp [HML.out]) HONE.out ?_)
  exact bodyPost_ret (v := dv m) (results_cell_row Tryz.results9 _ _ w.heap.size 24 _ (0, 0) _ rfl (H2.out.row _) Tryz.underlying24 rfl (szD'' HML.out)) rfl ⟨by rw [HM.out], below_setRow HB2.out (Nat.le_refl _) _⟩
set_option maxHeartbeats 4000000 in
set_option maxRecDepth 100000 in
theorem mtid_calls (w : World) (cs : List Value) (x : XMt) (hR : RMt Any w cs x) (hn : Fits x) (hT : TabB w 1) :
    Calls Tryz.prog 27 #[.agg cs.toArray] w fun e w' => e = .returned (dv (mtId x)) ∧ Below w.heap.size w w' := by
  have HSZ := Lib.hid (show (Tryz.prog.info? 56).map (·.size) = some cs.length by rw [rep_Mt.len hR]; kernel_rfl)
  obtain ⟨ca, hca⟩ : ∃ ca, cs.toArray = ca := ⟨_, rfl⟩
  obtain ⟨w1, hw1⟩ : ∃ w1, w.alloc (.cells ca 56) = w1 := ⟨_, rfl⟩
  have HB := Lib.hid (show Blk w1 w.heap.size cs 56 from by rw [← hw1]; exact Blk.new w _ _ _ hca.symm)
  have B1 := Lib.hid (show Below w.heap.size w w1 from by rw [← hw1]; exact (Below.refl _ _).alloc (Nat.le_refl _) _)
  have hz : w.heap.size + 1 = w1.heap.size := by rw [← hw1]; simp
  obtain ⟨W, hW, H0, BW, hs⟩ := start32 w1
  have HB2 := Lib.hid (HB.out.below BW.out)
  have B2 := Lib.hid (B1.out.trans (BW.out.mono (by omega)))
  have HT := Lib.hid (hT.below B2.out)
  have HR := Lib.hid (rep_Mt.below hR B2.out)
  have hsz := BW.out.size
  have HTL := Lib.hid (told_len hn)
  obtain ⟨B, hB⟩ : ∃ B, told (encMt x) (badMt x) = B := ⟨_, rfl⟩
  have TP := Lib.hid (fun w' h => MainTx_told w' cs x h (fits9 hn))
  unfold Wt.Told at TP
  have HE := Lib.hid (show mtId x = tagged mtName [B] by rw [← hB]; rfl)
  rw [hB] at TP HTL
  rw [hca]
  clear hca hT hR HB B1 hn hB
  go_enter Tryz.func27, Tryz.ntmps27
  go_upto_region 1 with fail
  clear hw1 hW
  go_wp2_with (first | (with_reducible refine wpList_load_blk rfl _ _ rfl w.heap.size cs rfl HB2.out _ Tryz.underlying56 rfl HSZ.out ?_))
  refine (TP.out W HR.out).mono ?_
  rintro e w2 ⟨⟨a, c, rfl, g1⟩, g2⟩
  have HBW := Lib.hid (show Byt Any w2 (.slice a B.length c) B from g1.byt.mono (fun _ _ _ => trivial))
  have H2 := Lib.hid (H0.out.below g2)
  have HT2 := Lib.hid (HT.out.below g2)
  have B3 := Lib.hid (B2.out.trans (g2.mono (by omega)))
  have hs2 := g2.size
  clear g1 g2 HB2 H0
  have HAL := Lib.hid (show Below w2.heap.size w2 (w2.alloc (.cells #[.slice a B.length c] 25)) from (Below.refl _ _).alloc (Nat.le_refl _) _)
  have HY := Lib.hid (byts_one w2 (.slice a B.length c) B 25 HBW.out)
  have HT3 := Lib.hid (HT2.out.below HAL.out)
  go_wp2_with fail
  refine (tagged_calls _ mtName _ [B] HY.out (by decide) (by have hbl : B.length + 4200 ≤ 140737488355328 := HTL.out; simp only [List.map_cons, List.map_nil, List.sum_cons, List.sum_nil]; omega) (by simp) HT3.out).mono ?_
  rintro e w3 ⟨rfl, g⟩
  have H3 := Lib.hid ((H2.out.below HAL.out).below g)
  have B4 := Lib.hid (B3.out.trans ((HAL.out.trans (g.mono HAL.out.size)).mono (by omega)))
  have HML := Lib.hid (mtId_length x)
  have HONE := Lib.hid (one_cells (mtId x))
  rw [← HE.out]
  obtain ⟨m, hm⟩ : ∃ m, mtId x = m := ⟨_, rfl⟩
  rw [hm] at HML HONE ⊢
  have HM := Lib.hid hm
  clear g H2 B2 B3 HAL HY HBW hm HE
  go_wp2_with (with_reducible refine wpList_store_blk rfl _ _ _ rfl w1.heap.size (m.map byt) _ rfl _ rfl rfl H3.out (szD' HML.out) (by simp [HML.out]) HONE.out ?_)
  exact bodyPost_ret (v := dv m) (results_cell_row Tryz.results27 _ _ w1.heap.size 24 _ (0, 0) _ rfl (H3.out.row _) Tryz.underlying24 rfl (szD'' HML.out)) rfl ⟨by rw [HM.out], below_setRow B4.out (by omega) _⟩
set_option maxHeartbeats 4000000 in
set_option maxRecDepth 100000 in
theorem rmtid_calls (w : World) (cs : List Value) (x : XMt) (hR : RMt Any w cs x) (hn : Fits x) (hT : TabB w 0) :
    Calls Tryz.prog 19 #[.agg cs.toArray] w fun e w' => e = .returned (dv (mtId x)) ∧ Below w.heap.size w w' := by
  have HSZ := Lib.hid (show (Tryz.prog.info? 56).map (·.size) = some cs.length by rw [rep_Mt.len hR]; kernel_rfl)
  obtain ⟨ca, hca⟩ : ∃ ca, cs.toArray = ca := ⟨_, rfl⟩
  obtain ⟨w1, hw1⟩ : ∃ w1, w.alloc (.cells ca 56) = w1 := ⟨_, rfl⟩
  have HB := Lib.hid (show Blk w1 w.heap.size cs 56 from by rw [← hw1]; exact Blk.new w _ _ _ hca.symm)
  have B1 := Lib.hid (show Below w.heap.size w w1 from by rw [← hw1]; exact (Below.refl _ _).alloc (Nat.le_refl _) _)
  have hz : w.heap.size + 1 = w1.heap.size := by rw [← hw1]; simp
  obtain ⟨W, hW, H0, BW, hs⟩ := start32 w1
  have HB2 := Lib.hid (HB.out.below BW.out)
  have B2 := Lib.hid (B1.out.trans (BW.out.mono (by omega)))
  have HT := Lib.hid (hT.below B2.out)
  have HR := Lib.hid (rep_Mt.below hR B2.out)
  have hsz := BW.out.size
  have HTL := Lib.hid (told_len hn)
  obtain ⟨B, hB⟩ : ∃ B, told (encMt x) (badMt x) = B := ⟨_, rfl⟩
  have TP := Lib.hid (fun w' h => rMainTx_told w' cs x h (fits9 hn))
  unfold Wt.Told at TP
  have HE := Lib.hid (show mtId x = tagged mtName [B] by rw [← hB]; rfl)
  rw [hB] at TP HTL
  rw [hca]
  clear hca hT hR HB B1 hn hB
  go_enter Tryz.func19, Tryz.ntmps19
  go_upto_region 1 with fail
  clear hw1 hW
  go_wp2_with (first | (with_reducible refine wpList_load_blk rfl _ _ rfl w.heap.size cs rfl HB2.out _ Tryz.underlying56 rfl HSZ.out ?_))
  refine (TP.out W HR.out).mono ?_
  rintro e w2 ⟨⟨a, c, rfl, g1⟩, g2⟩
  have HBW := Lib.hid (show Byt Any w2 (.slice a B.length c) B from g1.byt.mono (fun _ _ _ => trivial))
  have H2 := Lib.hid (H0.out.below g2)
  have HT2 := Lib.hid (HT.out.below g2)
  have B3 := Lib.hid (B2.out.trans (g2.mono (by omega)))
  have hs2 := g2.size
  clear g1 g2 HB2 H0
  have HAL := Lib.hid (show Below w2.heap.size w2 (w2.alloc (.cells #[.slice a B.length c] 25)) from (Below.refl _ _).alloc (Nat.le_refl _) _)
  have HY := Lib.hid (byts_one w2 (.slice a B.length c) B 25 HBW.out)
  have HT3 := Lib.hid (HT2.out.below HAL.out)
  go_wp2_with fail
  refine (ref_tagged_calls _ mtName _ [B] HY.out (by decide) (by have hbl : B.length + 4200 ≤ 140737488355328 := HTL.out; simp only [List.map_cons, List.map_nil, List.sum_cons, List.sum_nil]; omega) (by simp) HT3.out).mono ?_
  rintro e w3 ⟨rfl, g⟩
  have H3 := Lib.hid ((H2.out.below HAL.out).below g)
  have B4 := Lib.hid (B3.out.trans ((HAL.out.trans (g.mono HAL.out.size)).mono (by omega)))
  have HML := Lib.hid (mtId_length x)
  have HONE := Lib.hid (one_cells (mtId x))
  rw [← HE.out]
  obtain ⟨m, hm⟩ : ∃ m, mtId x = m := ⟨_, rfl⟩
  rw [hm] at HML HONE ⊢
  have HM := Lib.hid hm
  clear g H2 B2 B3 HAL HY HBW hm HE
  go_wp2_with (with_reducible refine wpList_store_blk rfl _ _ _ rfl w1.heap.size (m.map byt) _ rfl _ rfl rfl H3.out (szD' HML.out) (by simp [HML.out]) HONE.out ?_)
  exact bodyPost_ret (v := dv m) (results_cell_row Tryz.results19 _ _ w1.heap.size 24 _ (0, 0) _ rfl (H3.out.row _) Tryz.underlying24 rfl (szD'' HML.out)) rfl ⟨by rw [HM.out], below_setRow B4.out (by omega) _⟩
end Go.Proofs.YtmenchnjajpkmaaGreatDoor.Ev
end

section
namespace Go.Proofs.YtmenchnjajpkmaaGreatDoor.Rf
open Go Go.RowKit Wm Rm Mem Codec CodecR Ops Reps WtIt Arr Rr Wr
set_option linter.unusedVariables false
set_option linter.unusedSimpArgs false

set_option maxHeartbeats 16000000 in
set_option maxRecDepth 100000 in
theorem rfmt_calls (w : World) (q : Nat) (a : Option Addr) (c : Nat) (B : List UInt8) (r : Rd) (H : RfR w q a c B r) (hl : B.length ≤ 140737488355328) :
    Calls Tryz.prog 43 #[.pointer (some ⟨q, 0, none⟩)] w (GotR RMt w q a c B (RDmt r)) := by
  have hqw := H.lt
  have H0 := Lib.hid H
  have HY0 := Lib.hid H.byt
  obtain ⟨y1, hy1⟩ : ∃ z, ((fun r : Rd => r.num 8) r).2 = z := ⟨_, rfl⟩
  obtain ⟨r1, hr1⟩ : ∃ z, ((fun r : Rd => r.num 8) r).1 = z := ⟨_, rfl⟩
  have HC1 := Lib.hid (fun w h => number_calls w q a c B r 8 (by omega) h hl)
  have hr1' : (Rd.num r 8).1 = r1 := hr1
  have hy1' : (Rd.num r 8).2 = y1 := hy1
  rw [hr1', hy1'] at HC1
  have HW1 := Lib.hid (show y1 < 18446744073709551616 by rw [← hy1]; exact CodecR.num_lt _ _)
  clear hr1' hy1'
  obtain ⟨rm2, hrm2⟩ : ∃ z, (Rd.var r1 16).1 = z := ⟨_, rfl⟩
  obtain ⟨n2, hn2⟩ : ∃ z, (Rd.var r1 16).2 = z := ⟨_, rfl⟩
  have HZ2 := Lib.hid (show rm2.e = 0 ∨ n2 = 0 from by rw [← hrm2, ← hn2]; exact var_none r1 16)
  have hnm2 : n2 ≤ 16 := by rw [← hn2]; exact var_le r1 16
  have HC2 := Lib.hid (fun w h => many_calls w q a c B r1 16 (by omega) h hl)
  rw [hrm2, hn2] at HC2
  have hlsts2 : RmT.lsts r1 16 = ((items RDmo n2 rm2).2, lst (items RDmo n2 rm2)) := by unfold RmT.lsts; (try dsimp only); rw [show Rd.room r1 16 = Rd.var r1 16 from var_room r1 16, hrm2, hn2]
  obtain ⟨y2, hy2⟩ : ∃ z, ((fun r : Rd => RmT.lsts r 16) r1).2 = z := ⟨_, rfl⟩
  obtain ⟨r2, hr2⟩ : ∃ z, ((fun r : Rd => RmT.lsts r 16) r1).1 = z := ⟨_, rfl⟩
  have HLS2 := Lib.hid (show r2 = (items RDmo n2 rm2).2 ∧ y2 = lst (items RDmo n2 rm2) from ⟨by rw [← hr2]; exact congrArg Prod.fst hlsts2, by rw [← hy2]; exact congrArg Prod.snd hlsts2⟩)
  clear hlsts2 hrm2 hn2
  have HRD := Lib.hid (show RDmt r = (r2, y1, y2) by simp only [RDmt, seq, hr1, hy1, hr2, hy2])
  rw [HRD.out]
  clear H hr1 hy1 hr2 hy2
  go_enter Tryz.func43, Tryz.ntmps43
  go_upto_region 1 with (first
    | ((with_reducible refine wpList_alloc rfl _ rfl _ (zeroMt _) (fun wa ka ca za => ?_)); have KA := Lib.hid ka; have CA := Lib.hid ca; clear ka ca))
  go_upto_region 2 with (first
    | ((with_reducible refine wpList_alloc rfl _ rfl _ (zeroMt _) (fun wb ka ca zb => ?_)); have KB := Lib.hid ka; have CB := Lib.hid ca; clear ka ca))
  have CAB := Lib.hid (CA.out.trans (CB.out.mono (by omega)))
  have KA0 := Lib.hid (KA.out.below CB.out)
  have HR0 := Lib.hid (H0.out.below CAB.out)
  have HYv0 := Lib.hid (HY0.out.below CAB.out)
  have F0 := Lib.hid (Fr.ofBelowAll (S := fun k => k = q) CAB.out (Nat.le_refl _))
  have hgb : wa.heap.size < wb.heap.size := KB.out.lt
  have hgw0 : w.heap.size < wa.heap.size := by omega
  have hs0 : wa.heap.size < wb.heap.size := by omega
  clear CA CB KA CAB H0 HY0
  generalize wa.heap.size = gp at *
  obtain ⟨x0, hx0⟩ : ∃ x : World, x = wb := ⟨_, rfl⟩
  subst hx0
  have KB0 := KB
  clear KB
  go_wp2_with fail
  refine (HC1.out x0 HR0.out).mono ?_
  rintro e x1 ⟨rfl, o1, o2⟩
  have hsx1 := o2.size
  have KBm := Lib.hid (KB0.out.fr o2 (by omega))
  have KAm := Lib.hid (KA0.out.fr o2 (by omega))
  have HYm := Lib.hid (HYv0.out.fr o2 (fun k _ h e => h.2 e))
  have HRm := Lib.hid o1
  have Fm := Lib.hid (F0.out.trans o2)
  clear o1 o2 HC1 KB0 KA0 HYv0 HR0 F0
  have KBn := Lib.hid (show Blk x1 gp (([] : List Value) ++ ([Value.int .u64 0] ++ ([Value.slice none 0 0]))) 56 from by have h := KBm.out; (try simp only [List.append_assoc, List.nil_append, List.append_nil] at h); (try simp only [List.append_assoc, List.nil_append, List.append_nil]); exact h)
  have hnx1 : (([] : List Value) : List Value).length = 0 := rfl
  go_upto_region 3 with (first
    | ((with_reducible refine wpList_putc rfl _ _ _ rfl gp ([] : List Value) ([Value.slice none 0 0]) (Value.int .u64 0) 0 hnx1 rfl (Value.int .u64 (y1 : Int)) rfl rfl KBn.out (by kernel_rfl) (fun x2 kd fd zd => ?_)); have KD := Lib.hid kd; have FD := Lib.hid fd; clear kd fd))
  have KB1 := Lib.hid (show Blk x2 gp ([Value.int .u64 (y1 : Int)] ++ ([Value.slice none 0 0])) 56 from by have h := KD.out; (try simp only [List.append_assoc, List.nil_append, List.append_nil] at h); (try simp only [List.append_assoc, List.nil_append, List.append_nil]); exact h)
  have KA1 := Lib.hid (KAm.out.fr FD.out (by omega))
  have HYv1 := Lib.hid (HYm.out.fr FD.out (fun k _ h e => by have := h.1; omega))
  have HR1 := Lib.hid (HRm.out.frD HYm.out FD.out (by omega) (fun k h => ⟨h.2, by have := h.1; omega⟩))
  have F1 := Lib.hid (Fm.out.trans' FD.out (fun k hk e => by omega))
  have hsx2 := FD.out.size
  clear KBm KAm HYm HRm Fm KBn KD FD hnx1
  go_wp2_with fail
  refine (HC2.out x2 HR1.out).mono ?_
  rintro e we ⟨rfl, o1, o2⟩
  have RQ := Lib.hid o1
  have KP := Lib.hid (show Blk we gp (([Value.int .u64 (y1 : Int)]) ++ ([.slice none 0 0] ++ ([] : List Value))) 56 from by have h := KB1.out.fr o2 (by omega); (try simp only [List.append_assoc, List.nil_append, List.append_nil] at h); (try simp only [List.append_assoc, List.nil_append, List.append_nil]); exact h)
  have KA5 := Lib.hid (KA1.out.fr o2 (by omega))
  have HY := Lib.hid (HYv1.out.fr o2 (fun k _ h e => h.2 e))
  have F3 := Lib.hid (F1.out.trans o2)
  have hse := o2.size
  have hgw : gp < we.heap.size := by omega
  have hn6 : n2 ≤ 65536 := by omega
  have HZ := HZ2
  have hqw0 : q < gp := by omega
  clear o1 o2 HC2 HR1 KB1 KA1 HYv1 F1 HZ2
  go_wp2
  go_loopw [5] (fun i' wx => ∃ (i : Nat) (v : Value) (css : List (List Value)) (xs : List _) (r : Rd), i' = .int .i64 (i : Int) ∧ xs.length = i ∧ i ≤ n2 ∧ Blk wx gp (([Value.int .u64 (y1 : Int)]) ++ ([v] ++ ([] : List Value))) 56 ∧ OwnA 33 we.heap.size 58 wx v css ∧ All2 (RMo (fun b => we.heap.size ≤ b ∧ v.ownBlock ≠ some b) wx) css xs ∧ RfR wx q a c B r ∧ LSt RDmo n2 rm2 xs r ∧ Fr (fun k => k = q ∨ k = gp) we wx) (fun i' _ => n2 - (intOf i').toNat)
  case atStart => exact ⟨0, _, [], [], rm2, rfl, rfl, Nat.zero_le _, KP.out, OwnA.nil _ _ _ _, .nil, RQ.out, LSt.start HZ.out, Fr.refl _ _⟩
  case round =>
    obtain ⟨i, v, css, xs, rr, rfl, hxl, hin, hK, hO, hA, hR, hS, hF⟩ := hrel
    obtain ⟨va, vc, hve, hc1, hc2, _⟩ := hO.form
    have hcl : css.length = i := by rw [hA.length]; exact hxl
    rw [hcl] at hve hc1
    subst hve
    have HK := Lib.hid hK
    have HO := Lib.hid hO
    have HA := Lib.hid hA
    have HR := Lib.hid hR
    have HS := Lib.hid hS
    have HF := Lib.hid hF
    have HXL := Lib.hid hxl
    have HCS := Lib.hid hcl
    have hsr := hF.size
    have HYr := Lib.hid (HY.out.fr hF (fun k hk h e => by rcases e with e | e; exact h.2 e; omega))
    clear hK hO hA hR hS hF hxl hcl
    by_cases hgo : i < n2 ∧ rr.e = 0
    · obtain ⟨hlt, he⟩ := hgo
      have hltI : (i : Int) < (n2 : Int) := by omega
      have he2 : (rr.e == 0) = true := by simpa using he
      have HE := Lib.hid he
      have hnq : q ≠ gp := by omega
      clear he
      go_wp2_with (first
        | (refine (ok_calls wr q a c B rr HR.out).mono ?_; rintro e wo ⟨rfl, rfl⟩)
        | ((with_reducible refine wpList_alloc rfl _ rfl _ (zeroMo _) (fun v1 ka ca zv1 => ?_)); have KO0 := Lib.hid ka; have CO0 := Lib.hid ca; clear ka ca))
      have hnr : w.heap.size ≤ wr.heap.size := by omega
      have HN1 := Lib.hid (show (Rd.num rr 8).2 < 18446744073709551616 from CodecR.num_lt _ _)
      have HD1 := Lib.hid (Wr.Rd.dig_len (rr.num 8).1)
      obtain ⟨y, hy⟩ : ∃ y, (rr.num 8).2 = y := ⟨_, rfl⟩
      obtain ⟨ra, hra⟩ : ∃ y, (rr.num 8).1 = y := ⟨_, rfl⟩
      obtain ⟨d, hd⟩ : ∃ y, (Wr.Rd.dig ra).2 = y := ⟨_, rfl⟩
      obtain ⟨rb, hrb⟩ : ∃ y, (Wr.Rd.dig ra).1 = y := ⟨_, rfl⟩
      rw [hy] at HN1
      rw [hra, hd] at HD1
      have HC1 := Lib.hid (fun w h => number_calls w q a c B rr 8 (by omega) h hl)
      have HC2 := Lib.hid (fun w h => digest_calls w q a c B ra h hl)
      rw [hra, hy] at HC1
      rw [hrb, hd] at HC2
      have HRDe := Lib.hid (show Rm.RDmo rr = (rb, y, d) by simp only [Rm.RDmo, seq, hra, hy, hrb, hd])
      clear hy hra hd hrb
      go_wp2_with fail
      refine (HC1.out v1 (HR.out.below CO0.out)).mono ?_
      rintro e v2 ⟨rfl, o1, o2⟩
      have KO1 := Lib.hid (show Blk v2 wr.heap.size (([] : List Value) ++ ([Value.int .u64 0] ++ List.replicate 32 (Value.int .u8 0))) 58 from KO0.out.fr o2 (by omega))
      have O1 := Lib.hid o1
      have HYa := Lib.hid ((HYr.out.below CO0.out).fr o2 (fun k _ h e => h.2 e))
      have Fa := Lib.hid ((Fr.ofBelowAll CO0.out (Nat.le_refl _) : Fr (fun k => k = q) wr v1).trans o2)
      have hsv2 := o2.size
      clear o1 o2 HC1 KO0 CO0
      go_upto_region 9 with (first
        | ((with_reducible refine wpList_putc rfl _ _ _ rfl wr.heap.size ([] : List Value) (List.replicate 32 (Value.int .u8 0)) (Value.int .u64 0) 0 rfl rfl (Value.int .u64 (y : Int)) rfl rfl KO1.out (by kernel_rfl) (fun v3 kd fd zd => ?_)); have KO2 := Lib.hid kd; have FD := Lib.hid fd; clear kd fd))
      have HYb := Lib.hid (HYa.out.fr FD.out (fun k _ h e => by have := h.1; omega))
      have HRb := Lib.hid (O1.out.frD HYa.out FD.out (by omega) (fun k h => ⟨h.2, by have := h.1; omega⟩))
      have Fb := Lib.hid (Fa.out.trans' FD.out (fun k hk e => by omega))
      clear O1 HYa Fa FD KO1
      go_wp2_with fail
      refine (HC2.out v3 HRb.out).mono ?_
      rintro e v4 ⟨rfl, o1, o2⟩
      have KO3 := Lib.hid (show Blk v4 wr.heap.size ([Value.int .u64 (y : Int)] ++ (List.replicate 32 (Value.int .u8 0) ++ ([] : List Value))) 58 from by have h := KO2.out.fr o2 (by omega); simpa using h)
      have O2 := Lib.hid o1
      have HYc := Lib.hid (HYb.out.fr o2 (fun k _ h e => h.2 e))
      have Fc := Lib.hid (Fb.out.trans o2)
      have hsv4 := o2.size
      have HSD := Lib.hid (show (Tryz.prog.info? 24).map (·.size) = some (d.map byt).length by rw [List.length_map, HD1.out]; kernel_rfl)
      have HLD := Lib.hid (show (List.replicate 32 (Value.int .u8 0) : List Value).length = (d.map byt).length by simp [HD1.out])
      clear o1 o2 HC2 HYb HRb Fb KO2
      go_upto_region 10 with (first
        | ((with_reducible refine wpList_putMid rfl _ _ _ rfl wr.heap.size [Value.int .u64 (y : Int)] (List.replicate 32 (Value.int .u8 0)) ([] : List Value) (d.map byt) 1 rfl rfl rfl KO3.out HSD.out HLD.out (Wt.oneK d) (fun wc kd fd zd => ?_)); have KO4 := Lib.hid kd; have FD := Lib.hid fd; clear kd fd))
      obtain ⟨cs, hcs⟩ : ∃ cs, [Value.int .u64 (y : Int)] ++ d.map byt = cs := ⟨_, rfl⟩
      obtain ⟨x, hxx⟩ : ∃ x, (y, d) = x := ⟨_, rfl⟩
      have KO := Lib.hid (show Blk wc wr.heap.size cs 58 from by have h := KO4.out; rw [← hcs]; simpa using h)
      have ox : RMo (fun b => wr.heap.size ≤ b) wc cs x := by rw [← hcs, ← hxx]; exact ⟨_, _, rfl, ⟨HN1.out, rfl⟩, HD1.out, rfl⟩
      have oe : (Rm.RDmo rr).1.e = 0 → x = (Rm.RDmo rr).2 := fun _ => by rw [HRDe.out, ← hxx]
      have o1 : RfR wc q a c B (Rm.RDmo rr).1 := by rw [HRDe.out]; exact O2.out.frD HYc.out FD.out (by omega) (fun k h => ⟨h.2, by have := h.1; omega⟩)
      have o2 : Fr (fun k => k = q) wr wc := Fc.out.trans' FD.out (fun k hk e => by omega)
      clear hcs hxx O2 HYc Fc FD KO3 KO4 HN1 HD1 HSD HLD HRDe
      have HX := Lib.hid ox
      have HCL := Lib.hid (rep_Mo.len ox)
      have HC1 := Lib.hid (rep_Mo.one ox)
      have HXE := Lib.hid oe
      have HR2 := Lib.hid o1
      have HF2 := Lib.hid (show Fr (fun k => k = q) wr wc from o2)
      have hs2 : wr.heap.size ≤ wc.heap.size := o2.size
      have hgl : gp < wr.heap.size := HK.out.lt
      clear ox oe o1 o2
      have HK2 := Lib.hid (HK.out.fr HF2.out (fun e => hnq e.symm))
      have HO2 := Lib.hid (HO.out.fr HF2.out (fun k hk e => by have := (HO.out.lt k hk).1; omega))
      have HY2 := Lib.hid (HYr.out.fr HF2.out (fun k hk h e => h.2 e))
      have cl := blk_one HK2.out (([Value.int .u64 (y1 : Int)])) (([] : List Value)) _ rfl 1 ((by simp))
      have HSZO := Lib.hid (show (Tryz.prog.info? 58).map (·.size) = some cs.length by rw [HCL.out]; kernel_rfl)
      have HLOW := Lib.hid (show ∀ k, (Value.slice va i vc).ownBlock = some k → we.heap.size ≤ k from fun k hk => (HO.out.lt k hk).1)
      go_wp2_with (first
        | (with_reducible refine wpList_load_blk rfl _ _ rfl wr.heap.size cs rfl KO.out _ Tryz.underlying58 rfl HSZO.out ?_)
        | ((with_reducible refine wpList_build1 rfl RmT.elemT _ rfl cs rfl HCL.out (by omega) (fun wj kj bj zj => ?_)); have KJ := Lib.hid kj; have BJ := Lib.hid bj; have HK3 := Lib.hid (HK2.out.below bj); have HO3 := Lib.hid (HO2.out.below bj); clear kj bj)
        | (at_builtin; refine wpList_append_arr _ rfl (.tmp 28) (.tmp 30) 54 rfl we.heap.size 58 RmT.elemT _ css rfl HO3.out _ [cs] rfl (arr1 KJ.out HCL.out) (fun y hy u hu => by rw [List.mem_singleton.1 hy] at hu; exact HC1.out u hu) (by rw [HCS.out, List.length_singleton]; unfold maxLen; omega) (by rw [HCS.out, List.length_singleton]; omega) (by omega) (i + 1) (by rw [HCS.out, List.length_singleton]) ?_; intro a' cap' wk q1 q2 q3; have Q1 := Lib.hid q1; have Q2 := Lib.hid (show Fr (fun k => (Value.slice va i vc).ownBlock = some k) wc wk from (Fr.ofBelowAll BJ.out (Nat.le_refl _)).trans (Fr.ofGrown q2)); have Q3 := Lib.hid q3; have HK4 := Lib.hid (HK3.out.fr (Fr.ofGrown q2) (fun e => by have := HLOW.out _ e; omega)); have hsk : wj.heap.size ≤ wk.heap.size := (Fr.ofGrown q2).size; clear q1 q2 q3)
        | ((with_reducible refine wpList_putc rfl _ _ _ rfl gp (([Value.int .u64 (y1 : Int)])) (([] : List Value)) _ 1 ((by simp)) rfl _ rfl rfl HK4.out (by kernel_rfl) (fun wl kl fl zl => ?_)); have KL := Lib.hid kl; have FL := Lib.hid fl; clear kl fl))
      have HFF := Lib.hid (show Fr (fun k => (Value.slice va i vc).ownBlock = some k ∨ k = gp) wc wl from (Q2.out.mono (fun k _ h => .inl h)).trans (FL.out.mono (fun k _ h => .inr h)))
      go_roundw
      case rel =>
        have hll := HLOW.out
        exact ⟨i + 1, _, css ++ [cs], xs ++ [x], _, by go_num, by rw [List.length_append, HXL.out]; rfl, by omega, KL.out, Q1.out.fr FL.out (fun k hk e => by have := (Q1.out.lt k hk).1; omega),
          Reps.push rep_Mo HA.out HX.out HF2.out (fun k h e => by omega) (by omega) (fun k hk => (HO.out.lt k hk).2) HFF.out (fun k _ hN h => h.resolve_right (by omega)) (Q3.out.imp_right fun h => ⟨_, h, BJ.out.size⟩),
          HR2.out.frD HY2.out HFF.out (fun e => by rcases e with e | e; have := hll _ e; omega; omega) (fun k h => ⟨h.2, fun e => by rcases e with e | e; have := hll _ e; omega; omega⟩),
          HS.out.next HE.out (by rw [HXL.out]; exact hlt) x HXE.out,
          HF.out.trans' ((HF2.out.mono (T := fun k => k = q ∨ k = gp ∨ we.heap.size ≤ k) (fun k _ h => Or.inl h)).trans' HFF.out (fun k _ h => by rcases h with h | h; exact .inr (.inr (hll _ h)); exact .inr (.inl h))) (fun k hk h => by omega)⟩
      case measure => simp [intOf]; omega
    · have HD := Lib.hid (HS.out.done (by rw [HXL.out]; by_cases h : i < n2; exact .inr (fun e => hgo ⟨h, e⟩); exact .inl h))
      have HSL := Lib.hid (sl_own rep_Mo HO.out HA.out)
      rcases (show (¬ (i : Int) < (n2 : Int)) ∨ ((i : Int) < (n2 : Int) ∧ (rr.e == 0) = false) by by_cases h : i < n2; exact .inr ⟨by omega, by have : rr.e ≠ 0 := fun e => hgo ⟨h, e⟩; simpa using this⟩; exact .inl (by omega)) with hx | ⟨hx1, hx2⟩
      all_goals
        clear hgo HO HA HS HXL HCS
        have F4 := Lib.hid (F3.out.trans' HF.out (fun k hk e => by omega))
        have KAF := Lib.hid (KA5.out.fr HF.out (fun e => by omega))
        have hl1 : (Value.slice va i vc).oneCell' = true := rfl
        generalize Value.slice va i vc = lv at *
        have HKx := Lib.hid (show Blk wr gp ([Value.int .u64 (y1 : Int)] ++ ([lv])) 56 from by have h := HK.out; (try simp only [List.append_assoc, List.nil_append, List.append_nil] at h); (try simp only [List.append_assoc, List.nil_append, List.append_nil]); exact h)
        have HCE := Lib.hid (show ([Value.int .u64 (y1 : Int)] ++ ([lv]) : List Value).length = 2 by simp)
        have HSZ := Lib.hid (show (Tryz.prog.info? 56).map (·.size) = some ([Value.int .u64 (y1 : Int)] ++ ([lv]) : List Value).length by rw [HCE.out]; kernel_rfl)
        have HRR := Lib.hid (show RMt (fun b => gp < b) wr ([Value.int .u64 (y1 : Int)] ++ ([lv])) (y1, xs) from ⟨_, _, rfl, ⟨HW1.out, rfl⟩, ⟨lv, rfl, HSL.out.mono rep_Mo (fun b _ h => by omega)⟩⟩)
        have HOL := Lib.hid (rep_Mt.one HRR.out)
        go_wp2_with (first
          | (refine (ok_calls wr q a c B rr HR.out).mono ?_; rintro e wo ⟨rfl, rfl⟩)
          | (with_reducible refine wpList_load_blk rfl _ _ rfl gp ([Value.int .u64 (y1 : Int)] ++ ([lv])) rfl HKx.out _ Tryz.underlying56 rfl HSZ.out ?_)
          | ((with_reducible refine wpList_put rfl _ _ _ rfl w.heap.size ([Value.int .u64 (y1 : Int)] ++ ([lv])) _ rfl rfl KAF.out HSZ.out (zeroMt_len.trans HCE.out.symm) HOL.out (fun wz kz fz zz => ?_)); have KZ := Lib.hid kz; have FZ := Lib.hid fz; clear kz fz))
        have hxs := HD.out
        have hls := HLS2.out
        have hsz := HF.out.size
        refine bodyPost_ret (v := .agg ([Value.int .u64 (y1 : Int)] ++ ([lv])).toArray) (results_row1 Tryz.results43 _ _ w.heap.size _ _ rfl KZ.out Tryz.underlying56 rfl HSZ.out) rfl ⟨_, (y1, xs), rfl, rep_Mt.mono (rep_Mt.fr HRR.out FZ.out (fun b _ h (e : b = w.heap.size) => by omega)) (fun b _ h => by omega), ?_, ?_, F4.out.trans' FZ.out (fun k hk (e : k = w.heap.size) => by omega)⟩
        · exact fun h => by rw [hls.2, ← hxs.2 (by rw [hxs.1, ← hls.1]; exact h)]
        · have h6 := HR.out.frD HYr.out FZ.out (by omega) (fun k h => ⟨h.2, by have := h.1; omega⟩)
          rw [hxs.1, ← hls.1] at h6
          exact h6
set_option maxHeartbeats 8000000 in
set_option maxRecDepth 100000 in
theorem readMainTx_ref (D : Nat → Prop) (w : World) (a : Option Addr) (c : Nat) (B : List UInt8) (hB : Byt D w (.slice a B.length c) B) (hl : B.length ≤ 140737488355328) :
    Calls Tryz.prog 18 #[.slice a B.length c] w (GotT RMt w (got RDmt ((0 : Nat), ([] : List (Nat × List UInt8))) B)) := by
  have HB := Lib.hid hB
  obtain ⟨s, hs⟩ : ∃ s, RDmt ⟨B, 0⟩ = s := ⟨_, rfl⟩
  have HG := Lib.hid (show (s.1.fin = 0 → got RDmt ((0 : Nat), ([] : List (Nat × List UInt8))) B = (s.2, 0)) ∧ (¬ s.1.fin = 0 → got RDmt ((0 : Nat), ([] : List (Nat × List UInt8))) B = (((0 : Nat), ([] : List (Nat × List UInt8))), 120)) from ⟨fun h => by rw [got_yes (by rw [hs]; exact h), hs], fun h => by rw [got_no (by rw [hs]; exact h)]⟩)
  have HC := Lib.hid (fun w' q' h' => rfmt_calls w' q' a c B ⟨B, 0⟩ h' hl)
  rw [hs] at HC
  have hszT : ∀ cs : List Value, cs.length = 2 → (Tryz.prog.info? 56).map (·.size) = some cs.length := fun cs h => by rw [h]; kernel_rfl
  clear hB hs
  go_enter Tryz.func18, Tryz.ntmps18
  go_upto_region 1 with (first
    | ((with_reducible refine wpList_alloc rfl _ rfl _ (zeroMt _) (fun wa ka ca za => ?_)); have KA := Lib.hid ka; have CA := Lib.hid ca; clear ka ca))
  go_wp2_with fail
  refine (begin_calls _ wa a c B (HB.out.below CA.out)).mono ?_
  rintro e wb ⟨rfl, o1, o2⟩
  have O1 := Lib.hid o1
  have KA1 := Lib.hid (KA.out.below o2)
  have B1 := Lib.hid (CA.out.trans (o2.mono (by omega)))
  have hqw : w.heap.size < wa.heap.size := by omega
  have hsb := o2.size
  clear o1 o2 KA CA HB
  generalize wa.heap.size = q at *
  go_wp2_with fail
  refine (HC.out wb q O1.out).mono ?_
  rintro e wc ⟨cs, x, rfl, ox, oe, o1, o2⟩
  have HX := Lib.hid ox
  have HCL := Lib.hid (rep_Mt.len ox)
  have HC1 := Lib.hid (rep_Mt.one ox)
  have HSZ := Lib.hid (hszT cs (rep_Mt.len ox))
  have HXE := Lib.hid oe
  have O2 := Lib.hid o1
  have KA2 := Lib.hid (KA1.out.fr o2 (by omega))
  have B2 := Lib.hid (B1.out.trans (o2.below (B := w.heap.size) B1.out.size (fun k hk => by omega)))
  have hsc := o2.size
  clear ox oe o1 o2 HC KA1 B1 O1
  go_upto_region 3 with (first
    | ((with_reducible refine wpList_alloc rfl _ rfl _ (zeroMt _) (fun wd kd cd zd => ?_)); have KD := Lib.hid kd; have CD := Lib.hid cd; clear kd cd)
    | ((with_reducible refine wpList_put rfl _ _ _ rfl wc.heap.size cs _ rfl rfl KD.out HSZ.out (zeroMt_len.trans HCL.out.symm) HC1.out (fun we ke fe ze => ?_)); have KE := Lib.hid ke; have CE := Lib.hid (CD.out.trans (fe.below CD.out.size (fun k (hk : k = _) => by omega))); clear ke fe))
  have O3 := Lib.hid (O2.out.below CE.out)
  have KA3 := Lib.hid (KA2.out.below CE.out)
  have B3 := Lib.hid (B2.out.trans (CE.out.mono B2.out.size))
  have HX3 := Lib.hid (rep_Mt.below HX.out CE.out)
  clear O2 KA2 B2 HX KD CD CE
  go_wp2_with fail
  refine (ended_calls we q a c B _ O3.out).mono ?_
  rintro e wf ⟨rfl, o1⟩
  have KE4 := Lib.hid (KE.out.below o1)
  have KA4 := Lib.hid (KA3.out.below o1)
  have B4 := Lib.hid (B3.out.trans (o1.mono B3.out.size))
  have HX4 := Lib.hid (rep_Mt.below HX3.out o1)
  have hB4 := B4.out.size
  clear o1 O3 KE KA3 B3 HX3
  by_cases hf : s.1.fin = 0
  · have hf2 : finE s.1 = 0 := if_pos hf
    have HG2 := Lib.hid (HG.out.1 hf)
    have HXX := Lib.hid (HXE.out (fin_ok hf))
    rw [hf2]
    clear hf hf2 HG
    go_wp2_with (first
      | (with_reducible refine wpList_load_blk rfl _ _ rfl wc.heap.size cs rfl KE4.out _ Tryz.underlying56 rfl HSZ.out ?_)
      | ((with_reducible refine wpList_put rfl _ _ _ rfl w.heap.size cs _ rfl rfl KA4.out HSZ.out (zeroMt_len.trans HCL.out.symm) HC1.out (fun wi ki fi zi => ?_)); have KI := Lib.hid ki; have FI := Lib.hid fi; clear ki fi))
    refine bodyPost_ret (v := .tuple #[.agg cs.toArray, .int .i64 0]) (results_row2 Tryz.results18 _ _ w.heap.size _ _ rfl KI.out Tryz.underlying56 rfl HSZ.out _ rfl) rfl ?_
    rw [HG2.out, ← HXX.out]
    exact ⟨cs, rfl, rep_Mt.mono (rep_Mt.fr HX4.out FI.out (fun b _ h (e : b = w.heap.size) => by omega)) (fun b _ h => by omega), B4.out.trans (FI.out.below B4.out.size (fun k (hk : k = w.heap.size) => by omega))⟩
  · have hf2 : finE s.1 = 120 := if_neg hf
    have HG2 := Lib.hid (HG.out.2 hf)
    have HZL := Lib.hid (hszT ([Value.int .u64 0, .slice none 0 0]) zeroMt_len)
    rw [hf2]
    clear hf hf2 HG
    go_wp2_with (first
      | (with_reducible refine wpList_built rfl _ [] rfl ([Value.int .u64 0, .slice none 0 0]) (by kernel_rfl) ?_)
      | ((with_reducible refine wpList_put rfl _ _ _ rfl w.heap.size ([Value.int .u64 0, .slice none 0 0]) _ rfl rfl KA4.out HZL.out rfl zeroMt_one (fun wi ki fi zi => ?_)); have KI := Lib.hid ki; have FI := Lib.hid fi; clear ki fi))
    refine bodyPost_ret (v := .tuple #[.agg ([Value.int .u64 0, .slice none 0 0]).toArray, .int .i64 120]) (results_row2 Tryz.results18 _ _ w.heap.size _ _ rfl KI.out Tryz.underlying56 rfl HZL.out _ rfl) rfl ?_
    rw [HG2.out]
    exact ⟨_, rfl, zero_Mt _ _, B4.out.trans (FI.out.below B4.out.size (fun k (hk : k = w.heap.size) => by omega))⟩
end Go.Proofs.YtmenchnjajpkmaaGreatDoor.Rf
end

section
namespace Go.Proofs.YtmenchnjajpkmaaGreatDoor.Maps
open Go Go.RowKit Mem
open Go.ChangeMaps Go.MapKept
open Go.Maps (Keyed)

/-- block b of w is a map that holds the pairs l, in the order in which they were laid in -/
def MapIs (P : Program) (k : TypeId) (w : World) (b : Nat) (l : List (Value × Value)) : Prop :=
  ∃ es clock, w.heap[b]? = some (.map es clock) ∧ es.toList.map (fun e => (e.key, e.val)) = l ∧ Stamped es clock ∧ ∀ p ∈ l, ∃ kl, keyOf P k p.1 = some kl
section
variable {P : Program} {k : TypeId} {w w' : World} {b : Nat} {l : List (Value × Value)}
theorem MapIs.lt (h : MapIs P k w b l) : b < w.heap.size := by
  obtain ⟨_, _, h, _⟩ := h
  exact (Array.getElem?_eq_some_iff.1 h).1
theorem MapIs.fr {S : Nat → Prop} (h : MapIs P k w b l) (hf : Fr S w w') (hn : ¬ S b) : MapIs P k w' b l := by
  have hlt := h.lt
  obtain ⟨es, clock, h1, h2⟩ := h
  exact ⟨es, clock, (hf.block b hlt hn).trans h1, h2⟩
theorem MapIs.below (h : MapIs P k w b l) (hf : Below w.heap.size w w') : MapIs P k w' b l := h.fr (Fr.ofBelow hf) (by have := h.lt; omega)
theorem MapIs.drew (h : MapIs P k w b l) : MapIs P k w.drew b l := h
theorem MapIs.new (P : Program) (k : TypeId) (w : World) : MapIs P k (w.alloc (.map #[] 0)) w.heap.size [] :=
  ⟨#[], 0, by rw [World.alloc]; simp, rfl, stamped_empty 0, by simp⟩
theorem MapIs.apart (h : MapIs P k w b l) : l.Pairwise (fun p q => p.1 ≠ q.1) := by
  obtain ⟨es, clock, _, rfl, hs, _⟩ := h
  rw [List.pairwise_map]
  exact ((stamped_iff es clock).1 hs).2.2
/-- what stands at a key -/
def AtKey (l : List (Value × Value)) (key : Value) (r : Option Value) : Prop := (r = none ∧ ∀ p ∈ l, p.1 ≠ key) ∨ ∃ v, r = some v ∧ (key, v) ∈ l
theorem pair_one {key u v : Value} : ∀ {l : List (Value × Value)}, l.Pairwise (fun p q => p.1 ≠ q.1) → (key, u) ∈ l → (key, v) ∈ l → u = v
  | p :: r, hp, hu, hv => by
    rw [List.pairwise_cons] at hp
    rcases List.mem_cons.1 hu with rfl | hu
    · rcases List.mem_cons.1 hv with hv | hv
      · exact (congrArg Prod.snd hv).symm
      · exact absurd rfl (hp.1 (key, v) hv)
    · rcases List.mem_cons.1 hv with hv | hv
      · rw [← hv] at hp; exact absurd rfl (hp.1 (key, u) hu)
      · exact pair_one hp.2 hu hv
theorem find_at (K : Keyed P k) {es : Array MapEntry} (he : es.toList.map (fun e => (e.key, e.val)) = l) (hl : ∀ p ∈ l, ∃ kl, keyOf P k p.1 = some kl) (hp : l.Pairwise (fun p q => p.1 ≠ q.1)) {key : Value} {kl : Lit} (hk : keyOf P k key = some kl) {r : Option Value} (hr : AtKey l key r) (w : World) :
    (r = none ∧ (Instr.findKey k key es.toList).run P w = .ok none w ∧ ∀ e ∈ es.toList, e.key ≠ key) ∨ ∃ j e, r = some e.val ∧ (Instr.findKey k key es.toList).run P w = .ok (some (j, e.val)) w ∧ es.toList[j]? = some e ∧ e.key = key := by
  have hes : ∀ e ∈ es.toList, ∃ l, keyOf P k e.key = some l := fun e hm => hl (e.key, e.val) (by rw [← he]; exact List.mem_map.2 ⟨e, hm, rfl⟩)
  rcases K.find w hk es.toList hes with ⟨h1, h2⟩ | ⟨j, e, h1, h2, h3⟩
  · left
    refine ⟨?_, h1, h2⟩
    rcases hr with ⟨hr, _⟩ | ⟨v, hr, hm⟩
    · exact hr
    · rw [← he] at hm
      obtain ⟨e, hm, e1⟩ := List.mem_map.1 hm
      exact absurd (congrArg Prod.fst e1) (h2 e hm)
  · right
    have hmem : (key, e.val) ∈ l := by rw [← he]; exact List.mem_map.2 ⟨e, List.mem_of_getElem? h2, by rw [h3]⟩
    refine ⟨j, e, ?_, h1, h2, h3⟩
    rcases hr with ⟨_, hr⟩ | ⟨v, hr, hm⟩
    · exact absurd rfl (hr _ hmem)
    · rw [hr, pair_one hp hm hmem]
/-- 'm[k]', 'v, is := m[k]' -/
theorem run_look {t e : TypeId} (h : MapIs P k w b l) (K : Keyed P k) (ht : P.underlying t = some (.map k e)) {z : Value} (hz : (zeroValue e).run P w = .ok z w) {key : Value} {kl : Lit} (hk : keyOf P k key = some kl) {r : Option Value} (hr : AtKey l key r) (ok : Bool) :
    (Instr.lookup t (.map (some b)) key ok).run P w = .ok (if ok = true then .tuple #[r.getD z, .bool r.isSome] else r.getD z) w := by
  have hp := h.apart
  obtain ⟨es, clock, hb, he, hs, hl⟩ := h
  rcases find_at K he hl hp hk hr w with ⟨rfl, h1, _⟩ | ⟨j, e, rfl, h1, _, _⟩
  · simp [Instr.lookup, run_underlying ht, MapKept.run_getObj_map hb, K.check w _ hk, h1, hz, Result.andThen]
  · simp [Instr.lookup, run_underlying ht, MapKept.run_getObj_map hb, K.check w _ hk, h1, Result.andThen]
/-- 'len(m)' -/
theorem run_len {t e : TypeId} (h : MapIs P k w b l) (ht : P.underlying t = some (.map k e)) (ty : TypeId) : (Builtin.len_ #[t] ty #[.map (some b)]).run P w = .ok (.int .i64 (l.length : Int)) w := by
  obtain ⟨es, clock, hb, rfl, _⟩ := h
  simp [Builtin.len_, run_underlying ht, MapKept.run_getObj_map hb, goInt, Result.andThen]
/-- 'm[k] = v' at a new key -/
theorem run_lay {t e : TypeId} (h : MapIs P k w b l) (K : Keyed P k) (ht : P.underlying t = some (.map k e)) {key : Value} {kl : Lit} (hk : keyOf P k key = some kl) (hr : ∀ p ∈ l, p.1 ≠ key) (val : Value) :
    ∃ w', (Instr.mapUpdate t (.map (some b)) key val).run P w = .ok () w' ∧ MapIs P k w' b (l ++ [(key, val)]) ∧ Fr (fun i => i = b) w w' := by
  have hp := h.apart
  obtain ⟨es, clock, hb, he, hs, hl⟩ := h
  rcases find_at K he hl hp hk (.inl ⟨rfl, hr⟩) w with ⟨_, h1, h2⟩ | ⟨j, e, h3, _⟩
  · refine ⟨setBlock w b (.map (es.push ⟨key, val, clock⟩) (clock + 1)), ?_, ⟨_, _, heap_setBlock_same hb _, by simp [he], stamped_push hs h2, ?_⟩, ⟨rfl, rfl, rfl, by simp [setBlock], fun i hi hne => heap_setBlock_other hb _ hne⟩⟩
    · simp [Instr.mapUpdate, run_underlying ht, MapKept.run_getObj_map hb, K.check w false hk, h1, MapKept.run_setObj_map _ hb, Result.andThen, setBlock]
    · intro p hp
      rcases List.mem_append.1 hp with hp | hp
      · exact hl p hp
      · rw [List.mem_singleton.1 hp]; exact ⟨kl, hk⟩
  · cases h3
end
section
variable {P : Program} {k : TypeId} {b : Nat} {l : List (Value × Value)} {w : World} {ops : Array Oper} {rest : List Oper} {o : Oper} {a : Act} {Q : Exit → Act → World → Prop}
theorem wpList_look (hg : o.guard = none) (m x : Operand) (t : TypeId) (ok : Bool) (hop : o.op = Op.lookup t m x ok) (e : TypeId) (K : Keyed P k) (ht : P.underlying t = some (.map k e)) {z : Value} (hz : (zeroValue e).run P w = .ok z w)
    (hm : a.eval m = .map (some b)) (h : MapIs P k w b l) (key : Value) (kl : Lit) (hx : a.eval x = key) (hk : keyOf P k key = some kl) (r : Option Value) (hr : AtKey l key r)
    (hK : wpList P ops Q rest (a.put o.dst (if ok = true then .tuple #[r.getD z, .bool r.isSome] else r.getD z)) w) : wpList P ops Q (o :: rest) a w := by
  refine wpList_plain hg fun K' hK' => ?_
  unfold Oper.wp
  simp [execOp, hop, hm, hx, run_look h K ht hz hk hr ok, Result.andThen]
  exact hK' _ _ hK
theorem wpList_lay (hg : o.guard = none) (m x v : Operand) (t : TypeId) (hop : o.op = Op.mapUpdate t m x v) (e : TypeId) (K : Keyed P k) (ht : P.underlying t = some (.map k e))
    (hm : a.eval m = .map (some b)) (h : MapIs P k w b l) (key val : Value) (kl : Lit) (hx : a.eval x = key) (hv : a.eval v = val) (hk : keyOf P k key = some kl) (hr : ∀ p ∈ l, p.1 ≠ key)
    (hK : ∀ w', MapIs P k w' b (l ++ [(key, val)]) → Fr (fun i => i = b) w w' → wpList P ops Q rest (a.put o.dst undef) w') : wpList P ops Q (o :: rest) a w := by
  refine wpList_plain hg fun K' hK' => ?_
  obtain ⟨w', hrun, r1, r2⟩ := run_lay h K ht hk hr val
  unfold Oper.wp
  simp [execOp, hop, hm, hx, hv, hrun, Result.andThen]
  exact hK' _ _ (hK w' r1 r2)
theorem wpList_maplen (hg : o.guard = none) (m : Operand) (t : TypeId) (hop : o.op = .call { callee := .builtin .len, args := #[m], argTypes := #[t] }) (e : TypeId) (ht : P.underlying t = some (.map k e))
    (hm : a.eval m = .map (some b)) (h : MapIs P k w b l) (hK : wpList P ops Q rest (a.put o.dst (.int .i64 (l.length : Int))) w) : wpList P ops Q (o :: rest) a w := by
  refine wpList_plain hg fun K' hK' => ?_
  unfold Oper.wp
  simp [execOp, hop, resolve, invoke, builtin, hm, run_len h ht, Result.andThen]
  exact hK' _ _ hK
end
section
variable {P : Program} {k : TypeId} {b : Nat} {l : List (Value × Value)} {w : World} {ops : Array Oper} {o : Oper} {a : Act} {Q : Exit → Act → World → Prop} {S : World → Prop} {K : Act → World → Prop}
/-- in a region that draws -/
theorem yieldsIf_look (hw : Region.wanted o (yielded ops a.tmps) = true) (m x : Operand) (t : TypeId) (ok : Bool) (hop : o.op = Op.lookup t m x ok) (e : TypeId) (K : Keyed P k) (ht : P.underlying t = some (.map k e)) {z : Value} (hz : ∀ w, (zeroValue e).run P w = .ok z w)
    (hm : a.eval m = .map (some b)) (h : ∀ w, S w → MapIs P k w b l) (key : Value) (kl : Lit) (hx : a.eval x = key) (hk : keyOf P k key = some kl) (r : Option Value) (hr : AtKey l key r) (u : Value) (hu : (if ok = true then .tuple #[r.getD z, .bool r.isSome] else r.getD z) = u) : YieldsIf P ops S o u a :=
  .inl ⟨hw, fun w hw' => by
    subst hu
    unfold execOp
    simp [hop, hm, hx, run_look (h w hw') K ht (hz w) hk hr ok, Result.andThen]⟩
theorem wp_lay (m x v : Operand) (t : TypeId) (hop : o.op = Op.mapUpdate t m x v ∨ o.op = Op.insert t m x v) (e : TypeId) (K' : Keyed P k) (ht : P.underlying t = some (.map k e))
    (hm : a.eval m = .map (some b)) (h : MapIs P k w b l) (key val : Value) (kl : Lit) (hx : a.eval x = key) (hv : a.eval v = val) (hk : keyOf P k key = some kl) (hr : ∀ p ∈ l, p.1 ≠ key)
    (hK : ∀ w', MapIs P k w' b (l ++ [(key, val)]) → Fr (fun i => i = b) w w' → K (a.put o.dst undef) w') : Oper.wp P o a w K Q := by
  obtain ⟨w', hrun, r1, r2⟩ := run_lay h K' ht hk hr val
  unfold Oper.wp
  rcases hop with hop | hop <;> simp [execOp, hop, hm, hx, hv, hrun, Result.andThen] <;> exact hK w' r1 r2
theorem wp_makeMap (t : TypeId) (ho : o.op = .makeMap t none) (h : ∀ w', MapIs P k w' w.heap.size [] → Below w.heap.size w w' → w.heap.size + 1 = w'.heap.size → K (a.put o.dst (.map (some w.heap.size))) w') : Oper.wp P o a w K Q := by
  unfold Oper.wp
  simp [execOp, ho, Instr.makeMap, Result.andThen]
  exact h _ (MapIs.new P k w) ((Below.refl _ _).alloc (Nat.le_refl _) _) (by simp)
end
/-- an array of bytes as a key -/
theorem mapM_some {α β : Type} (f : α → Option β) (g : α → β) : ∀ xs : List α, (∀ x ∈ xs, f x = some (g x)) → xs.mapM f = some (xs.map g)
  | [], _ => rfl
  | x :: xs, h => by rw [List.mapM_cons, h x (by simp), mapM_some f g xs (fun y hy => h y (by simp [hy]))]; rfl
theorem keyOf_bytes {P : Program} {k e : TypeId} {n : Nat} (hk : P.underlying k = some (.array n e)) (he : P.underlying e = some (.int .u8)) (hc : P.cellsOf k = n) (hce : P.cellsOf e = 1) (hkt : P.keyType k = true) (hts : 0 < P.types.size) (d : List UInt8) (hd : d.length = n) : ∃ kl, keyOf P k (.agg (d.map byt).toArray) = some kl := by
  have hf : (Value.agg (d.map byt).toArray).formed P k = true := by simp [Value.formed, hk, hc, hd]
  unfold keyOf
  simp only [hk, hkt, hf, Bool.and_self, if_true, Value.cells]
  unfold Program.keyLits
  simp only [hk]
  rw [if_pos (by simp [hd, hc])]
  obtain ⟨m, hm⟩ : ∃ m, P.types.size = m + 1 := ⟨P.types.size - 1, by omega⟩
  rw [hm]
  rw [mapM_some _ (fun i => [Lit.int .u8 ((d[i]?.getD 0).toNat : Int)]) _ (fun i hi => ?_)]
  · exact ⟨_, rfl⟩
  · have hi : i < d.length := by rw [hd]; exact List.mem_range.1 hi
    have hdt : ((d.map byt).toArray.toList.drop (i * P.cellsOf e)).take (P.cellsOf e) = [byt (d[i]'hi)] := by
      rw [hce, Nat.mul_one]
      rw [List.drop_eq_getElem_cons (by simpa using hi)]
      simp
    rw [hdt]
    have hw : (Lit.int .u8 ((d[i]'hi).toNat : Int)).wf = true := by
      have := (d[i]'hi).toNat_lt
      have e1 : IntKind.u8.min = 0 := by kernel_rfl
      have e2 : IntKind.u8.max = 255 := by kernel_rfl
      simp only [Lit.wf, e1, e2, decide_eq_true_eq, Bool.and_eq_true]
      omega
    unfold Program.keyLits
    simp only [he, List.getElem?_eq_getElem hi, Option.getD_some]
    simp only [hw, and_self, if_true]
end Go.Proofs.YtmenchnjajpkmaaGreatDoor.Maps
end
