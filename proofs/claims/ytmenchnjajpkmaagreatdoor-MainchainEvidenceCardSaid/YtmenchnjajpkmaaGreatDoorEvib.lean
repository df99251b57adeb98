/- Walks of SHA-256's small functions. No condition. Walks of SHA-256's Hash: New, Write, Sum, Len, Clone, Of. Conditions: the texts together are shorter than 2^50 bytes. Walks of SHA-256's Hash: Sum, Len, Clone, Of. Conditions: the texts together are shorter than 2^50 bytes. What walks about digests use: a digest's cells, a text of the call's own beside them. No condition. The walk of the reference's Text: a digest's bytes. No condition. Walks of the reference's W (layer 12): raw, number, digest. Condition: the bytes together are at most 2^47. -/
import Derived.Test.YtmenchnjajpkmaaGreatDoorProg
import Derived.Test.YtmenchnjajpkmaaGreatDoorEvia
import Derived.WalkKit
import Derived.BigRegion
import Derived.StillTailTactics
import Derived.RegionTactic
import Derived.Deep.Light
import Derived.Deep.DeepCutAuto
import Derived.Deep.CutBlock
import Derived.Lib.SlBytesConst
section
namespace Go.Proofs.YtmenchnjajpkmaaGreatDoor.ShaW
open Go Go.RowKit Mem Sha

theorem shl_int (x : W) (m : Nat) : (x.toNat : Int) * 2 ^ m % 4294967296 = ((x <<< m).toNat : Int) := by
  rw [BitVec.toNat_shiftLeft, Nat.shiftLeft_eq]
  rw [Int.natCast_emod, Int.natCast_mul, Int.natCast_pow]; rfl
theorem shr_int (x : W) (m : Nat) : (x.toNat : Int) / 2 ^ m = ((x >>> m).toNat : Int) := by
  rw [BitVec.toNat_ushiftRight, Nat.shiftRight_eq_div_pow, Int.natCast_ediv, Int.natCast_pow]; rfl
theorem or_int (x y : W) : bits .or .u32 (x.toNat : Int) (y.toNat : Int) = ((x ||| y).toNat : Int) := by
  rw [u32_or_nat _ _ x.isLt y.isLt, BitVec.toNat_or]
theorem and_int (x y : W) : bits .and .u32 (x.toNat : Int) (y.toNat : Int) = ((x &&& y).toNat : Int) := by
  rw [u32_and_nat _ _ x.isLt y.isLt, BitVec.toNat_and]
theorem xor_int (x y : W) : bits .xor .u32 (x.toNat : Int) (y.toNat : Int) = ((x ^^^ y).toNat : Int) := by
  rw [u32_xor_nat _ _ x.isLt y.isLt, BitVec.toNat_xor]
theorem add_int (x y : W) : ((x.toNat : Int) + (y.toNat : Int)) % 4294967296 = ((x + y).toNat : Int) := by
  rw [BitVec.toNat_add, Int.natCast_emod, Int.natCast_add]; rfl

theorem neg_and31 (n : Nat) (h1 : 1 ≤ n) (h2 : n ≤ 31) : bits .and .u64 (IntKind.u64.wrap (-(n : Int))) 31 = ((32 - n : Nat) : Int) := by
  have e : IntKind.u64.wrap (-(n : Int)) = ((18446744073709551616 - n : Nat) : Int) := by
    rw [show IntKind.u64.wrap (-(n : Int)) = (-(n : Int)) % 18446744073709551616 from by simp [IntKind.wrap, IntKind.bits, IntKind.signed]]
    omega
  rw [e]
  show bits .and .u64 _ ((31 : Nat) : Int) = _
  rw [u64_and_nat _ _ (by omega) (by omega), show (31 : Nat) = 2 ^ 5 - 1 from rfl, Nat.and_two_pow_sub_one_eq_mod]
  omega

theorem rotl (x : W) (k : Int) (w : World) (h1 : 1 ≤ k) (h2 : k ≤ 31) :
    Calls Tryz.prog 111 #[.int .u32 (x.toNat : Int), .int .i64 (-k)] w fun e w' => e = .returned (.int .u32 ((rotr x k.toNat).toNat : Int)) ∧ w = w' := by
  have hx := x.isLt
  obtain ⟨n, rfl⟩ := Int.eq_ofNat_of_zero_le (by omega : 0 ≤ k)
  have hm := neg_and31 n (by omega) (by omega)
  have hn1 : 32 - n ≤ 31 := by omega
  go_enter Tryz.func111, Tryz.ntmps111
  go_wp2
  go_ret
  exact ⟨ret_int (by rw [shl_int, shr_int, or_int, show 32 - (32 - n) = n from by omega]; rfl), rfl⟩

theorem turn (x : W) (k : Int) (w : World) (h1 : 1 ≤ k) (h2 : k ≤ 31) :
    Calls Tryz.prog 100 #[.int .u32 (x.toNat : Int), .int .i64 k] w fun e w' => e = .returned (.int .u32 ((rotr x k.toNat).toNat : Int)) ∧ w = w' := by
  go_enter Tryz.func100, Tryz.ntmps100
  go_wp2_with fail
  refine (rotl x k w h1 h2).mono ?_
  rintro e w' ⟨rfl, rfl⟩
  go_wp2
  go_ret
  exact ⟨rfl, rfl⟩


theorem shr3_int (x : W) : (x.toNat : Int) / (8 : Int) = ((x >>> 3).toNat : Int) := shr_int x 3
theorem shr10_int (x : W) : (x.toNat : Int) / (1024 : Int) = ((x >>> 10).toNat : Int) := shr_int x 10
theorem sum4_int (a b c d : W) : ((a.toNat : Int) + (b.toNat : Int) + (c.toNat : Int) + (d.toNat : Int)) % 4294967296 = (((a + b) + c + d).toNat : Int) := by
  simp only [BitVec.toNat_add]; omega
theorem sched_int (a x b y : W) : ((a.toNat : Int) + bits .xor .u32 (bits .xor .u32 ((rotr x 7).toNat : Int) ((rotr x 18).toNat : Int)) ((x.toNat : Int) / 8) + (b.toNat : Int) +
    bits .xor .u32 (bits .xor .u32 ((rotr y 17).toNat : Int) ((rotr y 19).toNat : Int)) ((y.toNat : Int) / 1024)) % 4294967296 = ((a + sig0 x + b + sig1 y).toNat : Int) := by
  rw [shr3_int, shr10_int, xor_int, xor_int, xor_int, xor_int, sum4_int]; rfl

theorem not_int (v : W) : bits .xor .u32 IntKind.u32.max (v.toNat : Int) = ((~~~v).toNat : Int) := by
  have h := v.isLt
  show bits .xor .u32 ((4294967295 : Nat) : Int) (v.toNat : Int) = _
  rw [u32_xor_nat _ _ (by omega) h]
  rw [show (4294967295 : Nat) = (BitVec.allOnes 32).toNat from rfl, ← BitVec.toNat_xor, BitVec.allOnes_xor]

/-- the table, as a value -/
def tabL : List Value := table.map fun (n : Nat) => .int .u32 (n : Int)
def tabV : Array Value := tabL.toArray
/-- a world whose block g holds the table -/
def TabB (w : World) (g : Nat) : Prop := ∃ t fr, w.heap[g]? = some (.cells tabV t fr)
theorem TabB.fr {S : Nat → Prop} {w w' : World} {g : Nat} (h : TabB w g) (hf : Fr S w w') (hn : ¬ S g) : TabB w' g := by
  obtain ⟨t, fr, h⟩ := h
  exact ⟨t, fr, (hf.block g (Array.getElem?_eq_some_iff.1 h).1 hn).trans h⟩
theorem TabB.below {w w' : World} {g : Nat} (h : TabB w g) (hf : Below w.heap.size w w') : TabB w' g := by
  obtain ⟨t, fr, h⟩ := h
  exact ⟨t, fr, (hf.block g (Array.getElem?_eq_some_iff.1 h).1).trans h⟩
theorem tab_at (t : Nat) (h : t < 64) : tabV[t]? = some (.int .u32 ((K t).toNat : Int)) := by
  have : ∀ t, t < 64 → table[t]? = some (K t).toNat := by decide +kernel
  have h2 := this t h
  simp [tabV, tabL, h2]

theorem index_tab (t : Nat) (h : t < 64) (w : World) : (Instr.index 147 (.agg tabV) (.int .i64 (t : Int))).run Tryz.prog w = .ok (.int .u32 ((K t).toNat : Int)) w := by
  have hs := tab_at t h
  have e : (((t : Nat) : Int)).toNat = t := by omega
  have h0 : (0 : Int) ≤ (t : Int) := by omega
  simp [Instr.index, go_sem, hs, h0, e]
  intro h2; omega

theorem turn_still (x : W) (k : Int) (w : World) (h1 : 1 ≤ k) (h2 : k ≤ 31) :
    Calls Tryz.prog 100 #[.int .u32 (x.toNat : Int), .int .i64 k] w fun e w' => e = .returned (.int .u32 ((rotr x k.toNat).toNat : Int)) ∧ w' = w :=
  (turn x k w h1 h2).mono fun _ _ h => ⟨h.1, h.2.symm⟩

theorem be_int (x y z u : UInt8) : bits .or .u32 (bits .or .u32 (bits .or .u32 ((x.toNat : Int) * 16777216) ((y.toNat : Int) * 65536)) ((z.toNat : Int) * 256)) (u.toNat : Int) = ((be x y z u).toNat : Int) := by
  have hx := x.toNat_lt
  have hy := y.toNat_lt
  have hz := z.toNat_lt
  have hu := u.toNat_lt
  have sh : ∀ (c : UInt8) (m : Nat), m ≤ 24 → (c.toNat : Int) * 2 ^ m = ((BitVec.ofNat 32 c.toNat <<< m).toNat : Int) := by
    intro c m hm
    have hc := c.toNat_lt
    rw [← shl_int]
    have e : (BitVec.ofNat 32 c.toNat).toNat = c.toNat := by rw [BitVec.toNat_ofNat]; omega
    have e2 : (c.toNat : Int) * 2 ^ m = ((c.toNat * 2 ^ m : Nat) : Int) := by rw [Int.natCast_mul, Int.natCast_pow]; rfl
    rw [e, e2]
    have h2 : 2 ^ m ≤ 2 ^ 24 := Nat.pow_le_pow_right (by omega) hm
    have h3 : c.toNat * 2 ^ m ≤ 255 * 2 ^ 24 := Nat.mul_le_mul (by omega) h2
    omega
  have a1 := sh x 24 (by omega)
  have a2 := sh y 16 (by omega)
  have a3 := sh z 8 (by omega)
  have a4 : (u.toNat : Int) = ((BitVec.ofNat 32 u.toNat).toNat : Int) := by rw [BitVec.toNat_ofNat]; omega
  rw [show ((2 : Int) ^ 24) = 16777216 from rfl] at a1
  rw [show ((2 : Int) ^ 16) = 65536 from rfl] at a2
  rw [show ((2 : Int) ^ 8) = 256 from rfl] at a3
  rw [a1, a2, a3, a4, or_int, or_int, or_int]; rfl

/-- the first loop's relation -/
def MixRel (s : St) (l : List UInt8) (B : Nat) (w wr : World) (t : Nat) : Prop :=
  Below B w wr ∧ wr.heap.size = B + 3 ∧ Blk wr B (s.l.map word) 141 ∧ Blk wr (B + 1) (List.replicate 8 (.int .u32 0)) 141 ∧
    Blk wr (B + 1 + 1) ((sched l t).map word ++ List.replicate (64 - t) (.int .u32 0)) 147
theorem mix_start (s : St) (l : List UInt8) (w : World) :
    MixRel s l w.heap.size w (((w.alloc (.cells (s.l.map word).toArray 141)).alloc (.cells (List.replicate 8 (.int .u32 0)).toArray 141)).alloc (.cells (List.replicate 64 (.int .u32 0)).toArray 147)) 0 := by
  refine ⟨?_, by simp, ?_, ?_, ?_⟩
  · exact (((Below.refl _ _).alloc (Nat.le_refl _) _).alloc (by simp) _).alloc (by simp; omega) _
  · exact ((Blk.new w _ _ (s.l.map word) rfl).alloc _).alloc _
  · have := (Blk.new (w.alloc (.cells (s.l.map word).toArray 141)) (List.replicate 8 (.int .u32 0)).toArray 141 _ rfl)
    simp only [World.size_alloc] at this
    exact this.alloc _
  · have := (Blk.new ((w.alloc (.cells (s.l.map word).toArray 141)).alloc (.cells (List.replicate 8 (.int .u32 0)).toArray 141)) (List.replicate 64 (.int .u32 0)).toArray 147 _ rfl)
    simp only [World.size_alloc] at this
    exact this
theorem sched_succ (l : List UInt8) (t : Nat) : sched l (t + 1) = sched l t ++ [wd l t] := by
  have hl := sched_length l t
  conv => rhs; rw [wd, sched, List.getD_eq_getElem?_getD, List.getElem?_append_right (by omega)]
  simp [sched, hl]
theorem MixRel.drew {s : St} {l : List UInt8} {B : Nat} {w wr : World} {t : Nat} (h : MixRel s l B w wr t) : MixRel s l B w wr.drew t := ⟨h.1.drew, h.2⟩
theorem MixRel.drewN {s : St} {l : List UInt8} {B : Nat} {w wr : World} {t : Nat} (h : MixRel s l B w wr t) (n : Nat) : MixRel s l B w (wr.drewN n) t := ⟨below_drewN h.1 n, h.2⟩
theorem mix_step {s : St} {l : List UInt8} {B : Nat} {w wr : World} {t : Nat} (ht : t < 64) (h : MixRel s l B w wr t) :
    MixRel s l B w (wr.setCell ⟨B + 1 + 1, t, none⟩ (.int .u32 ((wd l t).toNat : Int))) (t + 1) := by
  obtain ⟨h1, h2, h3, h4, h5⟩ := h
  refine ⟨h1.setCell (by show B ≤ B + 1 + 1; omega) _, by simpa using h2, h3.other (by show B + 1 + 1 ≠ B; omega) _, h4.other (by show B + 1 + 1 ≠ B + 1; omega) _, ?_⟩
  have := h5.set t (.int .u32 ((wd l t).toNat : Int))
  have hl := sched_length l t
  rw [List.set_append_right _ _ (by simp [hl])] at this
  rw [sched_succ, List.map_append, List.append_assoc]
  have e : (List.replicate (64 - t) (Value.int .u32 0)).set (t - ((sched l t).map word).length) (.int .u32 ((wd l t).toNat : Int)) = List.map word [wd l t] ++ List.replicate (64 - (t + 1)) (.int .u32 0) := by
    rw [List.length_map, hl, Nat.sub_self]
    obtain ⟨m, hm⟩ : ∃ m, 64 - t = m + 1 := ⟨63 - t, by omega⟩
    rw [hm, show 64 - (t + 1) = m from by omega]
    rfl
  rw [e] at this
  exact this
theorem mix_cell {s : St} {l : List UInt8} {B : Nat} {w wr : World} {t : Nat} (h : MixRel s l B w wr t) (j : Nat) (hj : j < t) : wr.cell? ⟨B + 1 + 1, j, none⟩ = some (.int .u32 ((wd l j).toNat : Int)) := by
  refine h.2.2.2.2.cell ?_
  have hl := sched_length l t
  rw [List.getElem?_append_left (by simp [hl]; omega)]
  have := sched_getD l t j hj
  rw [List.getD_eq_getElem?_getD, List.getElem?_eq_getElem (by omega)] at this
  simp [hl, hj]
  rw [← this]; rfl
theorem mix_old {s : St} {l : List UInt8} {B : Nat} {w wr : World} {t : Nat} (h : MixRel s l B w wr t) (ht : t < 64) : wr.cell? ⟨B + 1 + 1, t, none⟩ = some (.int .u32 0) := by
  refine h.2.2.2.2.cell ?_
  rw [List.getElem?_append_right (by simp [sched_length])]
  simp [sched_length, List.getElem?_replicate]; omega

/-- the second loop's relation -/
def RndRel (s : St) (l : List UInt8) (B R : Nat) (w wr : World) (t : Nat) : Prop :=
  Below B w wr ∧ wr.heap.size = R + 1 ∧ B + 3 = R ∧ Blk wr B (s.l.map word) 141 ∧ Blk wr (B + 1) (List.replicate 8 (.int .u32 0)) 141 ∧
    Blk wr (B + 1 + 1) ((sched l 64).map word) 147 ∧ Blk wr R ((rounds l s t).l.map word) 141
theorem rnd_start {s : St} {l : List UInt8} {B : Nat} {w wr : World} (h : MixRel s l B w wr 64) : RndRel s l B wr.heap.size w (wr.alloc (.cells (s.l.map word).toArray 141)) 0 := by
  obtain ⟨h1, h2, h3, h4, h5⟩ := h
  refine ⟨h1.alloc (by omega) _, by simp, h2.symm, h3.alloc _, h4.alloc _, ?_, Blk.new _ _ _ _ rfl⟩
  have h5 : Blk wr (B + 1 + 1) ((sched l 64).map word ++ []) 147 := h5
  rw [List.append_nil] at h5
  exact h5.alloc _
theorem RndRel.drewN {s : St} {l : List UInt8} {B R : Nat} {w wr : World} {t : Nat} (h : RndRel s l B R w wr t) (n : Nat) : RndRel s l B R w (wr.drewN n) t := ⟨below_drewN h.1 n, h.2⟩
theorem rnd_step {s : St} {l : List UInt8} {B R : Nat} {w wr : World} {t : Nat} (h : RndRel s l B R w wr t) {a b c d e f g i : W} (hr : rnd (rounds l s t) (K t) (wd l t) = ⟨a, b, c, d, e, f, g, i⟩) :
    RndRel s l B R w ((((((((wr.setCell ⟨R, 0, none⟩ (word a)).setCell ⟨R, 1, none⟩ (word b)).setCell ⟨R, 2, none⟩ (word c)).setCell ⟨R, 3, none⟩ (word d)).setCell ⟨R, 4, none⟩ (word e)).setCell ⟨R, 5, none⟩ (word f)).setCell ⟨R, 6, none⟩ (word g)).setCell ⟨R, 7, none⟩ (word i)) (t + 1) := by
  obtain ⟨h1, h2, h3, h4, h5, h6, h7⟩ := h
  have ne0 : R ≠ B := by omega
  have ne1 : R ≠ B + 1 := by omega
  have ne2 : R ≠ B + 1 + 1 := by omega
  have le : B ≤ R := by omega
  refine ⟨(((((((h1.setCell le _).setCell le _).setCell le _).setCell le _).setCell le _).setCell le _).setCell le _).setCell le _, by simpa using h2, h3,
    (((((((h4.other ne0 _).other ne0 _).other ne0 _).other ne0 _).other ne0 _).other ne0 _).other ne0 _).other ne0 _,
    (((((((h5.other ne1 _).other ne1 _).other ne1 _).other ne1 _).other ne1 _).other ne1 _).other ne1 _).other ne1 _,
    (((((((h6.other ne2 _).other ne2 _).other ne2 _).other ne2 _).other ne2 _).other ne2 _).other ne2 _).other ne2 _, ?_⟩
  have := (((((((h7.set 0 (word a)).set 1 (word b)).set 2 (word c)).set 3 (word d)).set 4 (word e)).set 5 (word f)).set 6 (word g)).set 7 (word i)
  have e1 : rounds l s (t + 1) = ⟨a, b, c, d, e, f, g, i⟩ := hr
  rw [e1]
  exact this
theorem sum5_int (a b c d e : W) : ((a.toNat : Int) + (b.toNat : Int) + (c.toNat : Int) + (d.toNat : Int) + (e.toNat : Int)) % 4294967296 = ((((a + b) + c) + d + e).toNat : Int) := by
  simp only [BitVec.toNat_add]; omega
theorem wx_int (s : St) (k w : W) : ((s.h.toNat : Int) + bits .xor .u32 (bits .xor .u32 ((rotr s.e 6).toNat : Int) ((rotr s.e 11).toNat : Int)) ((rotr s.e 25).toNat : Int) +
    bits .xor .u32 (bits .and .u32 (s.e.toNat : Int) (s.f.toNat : Int)) (bits .and .u32 (bits .xor .u32 IntKind.u32.max (s.e.toNat : Int)) (s.g.toNat : Int)) + (k.toNat : Int) + (w.toNat : Int)) % 4294967296 = ((wx s k w).toNat : Int) := by
  rw [not_int, and_int, and_int, xor_int, xor_int, xor_int, sum5_int]; rfl
theorem wy_int (x : W) (s : St) : ((x.toNat : Int) + (bits .xor .u32 (bits .xor .u32 ((rotr s.a 2).toNat : Int) ((rotr s.a 13).toNat : Int)) ((rotr s.a 22).toNat : Int) +
    bits .xor .u32 (bits .xor .u32 (bits .and .u32 (s.a.toNat : Int) (s.b.toNat : Int)) (bits .and .u32 (s.a.toNat : Int) (s.c.toNat : Int))) (bits .and .u32 (s.b.toNat : Int) (s.c.toNat : Int)))) % 4294967296 = ((x + wy s).toNat : Int) := by
  rw [and_int, and_int, and_int, xor_int, xor_int, xor_int, xor_int]
  show ((x.toNat : Int) + (((Sig0 s.a).toNat : Int) + ((maj s.a s.b s.c).toNat : Int))) % 4294967296 = _
  unfold wy
  simp only [BitVec.toNat_add]; omega
theorem mixed_eq (s : St) (l : List UInt8) (r : St) (h : rounds l s 64 = r) : mixed s l = s.add r := by subst h; rfl
/-- the third loop's list: the first t words are summed -/
def part (s r : St) (t : Nat) : List W := (s.add r).l.take t ++ s.l.drop t
def SumRel (s r : St) (B R : Nat) (w wr : World) (t : Nat) : Prop :=
  Below B w wr ∧ wr.heap.size = R + 1 ∧ B + 3 = R ∧ Blk wr B ((part s r t).map word) 141 ∧ Blk wr (B + 1) (List.replicate 8 (.int .u32 0)) 141 ∧ Blk wr R (r.l.map word) 141
theorem sum_start {s : St} {l : List UInt8} {B R : Nat} {w wr : World} {t : Nat} (h : RndRel s l B R w wr t) : SumRel s (rounds l s t) B R w wr 0 := by
  obtain ⟨h1, h2, h3, h4, h5, h6, h7⟩ := h
  exact ⟨h1, h2, h3, h4, h5, h7⟩
theorem part_cell (s r : St) (t : Nat) (h : t < 8) : ((part s r t).map word)[t]? = some (word (s.l.getD t 0)) := by
  match t, h with
  | 0, _ | 1, _ | 2, _ | 3, _ | 4, _ | 5, _ | 6, _ | 7, _ => rfl
  | j + 8, h => omega
theorem r_cell (r : St) (t : Nat) (h : t < 8) : (r.l.map word)[t]? = some (word (r.l.getD t 0)) := by
  match t, h with
  | 0, _ | 1, _ | 2, _ | 3, _ | 4, _ | 5, _ | 6, _ | 7, _ => rfl
  | j + 8, h => omega
theorem part_set (s r : St) (t : Nat) (h : t < 8) : ((part s r t).map word).set t (word (s.l.getD t 0 + r.l.getD t 0)) = (part s r (t + 1)).map word := by
  match t, h with
  | 0, _ | 1, _ | 2, _ | 3, _ | 4, _ | 5, _ | 6, _ | 7, _ => rfl
  | j + 8, h => omega
theorem sum_step {s r : St} {B R : Nat} {w wr : World} {t : Nat} (ht : t < 8) (h : SumRel s r B R w wr t) :
    SumRel s r B R w (wr.setCell ⟨B, t, none⟩ (.int .u32 (((s.l.getD t 0 + r.l.getD t 0)).toNat : Int))) (t + 1) := by
  obtain ⟨h1, h2, h3, h4, h5, h7⟩ := h
  refine ⟨h1.setCell (Nat.le_refl _) _, by simpa using h2, h3, ?_, h5.other (by show B ≠ B + 1; omega) _, h7.other (by show B ≠ R; omega) _⟩
  rw [← part_set s r t ht]
  exact h4.set _ _
theorem SumRel.drew {s r : St} {B R : Nat} {w wr : World} {t : Nat} (h : SumRel s r B R w wr t) : SumRel s r B R w wr.drew t := ⟨h.1.drew, h.2⟩
theorem sched_cell {l : List UInt8} {b : Nat} {wr : World} {e : TypeId} (h : Blk wr b ((sched l 64).map word) e) (j : Nat) (hj : j < 64) : wr.cell? ⟨b, j, none⟩ = some (.int .u32 ((wd l j).toNat : Int)) := by
  refine h.cell ?_
  have hl := sched_length l 64
  have := sched_getD l 64 j hj
  rw [List.getD_eq_getElem?_getD, List.getElem?_eq_getElem (by omega)] at this
  simp [hl, hj]
  rw [← this]; rfl
theorem St.cells {s : St} {w : World} {b : Nat} {e : TypeId} (h : Blk w b (s.l.map word) e) :
    w.cell? ⟨b, 0, none⟩ = some (.int .u32 (s.a.toNat : Int)) ∧ w.cell? ⟨b, 1, none⟩ = some (.int .u32 (s.b.toNat : Int)) ∧ w.cell? ⟨b, 2, none⟩ = some (.int .u32 (s.c.toNat : Int)) ∧ w.cell? ⟨b, 3, none⟩ = some (.int .u32 (s.d.toNat : Int)) ∧
    w.cell? ⟨b, 4, none⟩ = some (.int .u32 (s.e.toNat : Int)) ∧ w.cell? ⟨b, 5, none⟩ = some (.int .u32 (s.f.toNat : Int)) ∧ w.cell? ⟨b, 6, none⟩ = some (.int .u32 (s.g.toNat : Int)) ∧ w.cell? ⟨b, 7, none⟩ = some (.int .u32 (s.h.toNat : Int)) :=
  ⟨h.cell rfl, h.cell rfl, h.cell rfl, h.cell rfl, h.cell rfl, h.cell rfl, h.cell rfl, h.cell rfl⟩

set_option maxHeartbeats 2000000 in
set_option maxRecDepth 100000 in
theorem mixed_calls (s : St) (v : Value) (l : List UInt8) (w : World) {D : Nat → Prop} (hB : Byt D w v l) (hl : l.length = 64) (hT : TabB w 1) :
    Calls Tryz.prog 77 #[.agg (s.l.map word).toArray, v] w fun e w' => e = .returned (.agg ((mixed s l).l.map word).toArray) ∧ Below w.heap.size w w' := by
  obtain ⟨a, c, rfl, hk, hby⟩ := hB
  obtain ⟨b, off, rfl, _, hc⟩ := hby.resolve_left (by intro e; subst e; simp at hl)
  have hl1 : 64 ≤ l.length := by omega
  have hl2 : l.length ≤ 64 := by omega
  have hlt : b < w.heap.size := hc.lt (by intro e; subst e; simp at hl)
  clear hl hby
  go_enter Tryz.func77, Tryz.ntmps77
  go_wp2
  go_loopw [6, 7, 8, 15] (fun _ _ _ i wr => ∃ t : Nat, t ≤ 64 ∧ i = .int .i64 t ∧ MixRel s l w.heap.size w wr t) (fun _ _ _ i _ => 64 - (intOf i).toNat)
  case atStart => exact ⟨0, by omega, rfl, mix_start s l w⟩
  case round =>
    obtain ⟨t, ht, rfl, hM⟩ := hrel
    by_cases h64 : t < 64
    · have hold := mix_old hM h64
      have hfz := hM.2.2.2.2.free t
      have HS := Lib.hid (mix_step h64 hM)
      by_cases h16 : t < 16
      · have hb := hM.1
        have c0 := (hc.fr (Fr.ofBelow hb) (by omega)) (4 * t) (by omega)
        have c1 := (hc.fr (Fr.ofBelow hb) (by omega)) (4 * t + 1) (by omega)
        have c2 := (hc.fr (Fr.ofBelow hb) (by omega)) (4 * t + 2) (by omega)
        have c3 := (hc.fr (Fr.ofBelow hb) (by omega)) (4 * t + 3) (by omega)
        have hw : wd l t = be (l[4 * t]'(by omega)) (l[4 * t + 1]'(by omega)) (l[4 * t + 2]'(by omega)) (l[4 * t + 3]'(by omega)) := by
          rw [wd_low l t h16]
          simp [first, List.getD_eq_getElem?_getD, show 4 * t < l.length from by omega, show 4 * t + 1 < l.length from by omega, show 4 * t + 2 < l.length from by omega, show 4 * t + 3 < l.length from by omega]
        rw [hw] at HS
        have hx0 := (l[4 * t]'(by omega)).toNat_lt
        have hx1 := (l[4 * t + 1]'(by omega)).toNat_lt
        have hx2 := (l[4 * t + 2]'(by omega)).toNat_lt
        have hx3 := (l[4 * t + 3]'(by omega)).toNat_lt
        clear hb hw hM hT
        go_wp2
        go_region
        go_wp2
        go_roundw
        case rel =>
          refine ⟨t + 1, by omega, by go_num, ?_⟩
          rw [be_int]
          exact HS.out.drew
        case measure => simp [intOf]; omega
      · have c1 := mix_cell hM (t - 15) (by omega)
        have c3 := mix_cell hM (t - 2) (by omega)
        have HM := Lib.hid hM
        clear hM hT hold hfz HS
        go_wp2
        go_quiet (fail)
        go_wp2
        have HM := HM.out.drewN nq
        clear c1 c3
        generalize wr.drewN nq = wr at *
        have c0 := mix_cell HM (t - 16) (by omega)
        have c2 := mix_cell HM (t - 7) (by omega)
        have hold := mix_old HM h64
        have hfz := HM.2.2.2.2.free t
        have HS := Lib.hid (mix_step h64 HM)
        rw [wd_high l t (by omega)] at HS
        have e1 : IntKind.i64.wrap ((t : Int) - 16) = ((t - 16 : Nat) : Int) := by rw [IntWalk.i64_in _ (by omega)]; omega
        have e2 : IntKind.i64.wrap ((t : Int) - 7) = ((t - 7 : Nat) : Int) := by rw [IntWalk.i64_in _ (by omega)]; omega
        have e3 : ((t - 16 : Nat) : Int) < 64 := by omega
        have e4 : ((t - 7 : Nat) : Int) < 64 := by omega
        have e5 : (t : Int) < 64 := by omega
        clear HM
        refine wp_region_still_tail 29 (by kernel_rfl) (by kernel_rfl) ?_
        change wpStill _ _ wr.drew _ _ _
        simp only [List.take_succ_cons, List.take_zero, List.drop_succ_cons, List.drop_zero]
        repeat (first | still_step | still_call (turn_still _ _ _ (by omega) (by omega)))
        refine wpStill_nil ?_
        go_wp2
        go_roundw
        case rel =>
          refine ⟨t + 1, by omega, by go_num, ?_⟩
          rw [sched_int]
          exact HS.out.drew
        case measure => simp [intOf]; omega
    · obtain rfl : t = 64 := by omega
      obtain ⟨g0, g1, g2, g3, g4, g5, g6, g7⟩ := St.cells hM.2.2.1
      have hTr := hT.fr (Fr.ofBelow hM.1) (by have := hT.choose_spec.choose_spec; have := (Array.getElem?_eq_some_iff.1 this).1; omega)
      obtain ⟨tt, tfr, hTb⟩ := hTr
      have HM := Lib.hid hM
      have HT := Lib.hid hTb
      have hglt : 1 < wr.heap.size := (Array.getElem?_eq_some_iff.1 hTb).1
      clear hM hT hTb
      go_wp2_with (with_reducible refine wpList_load_row rfl _ _ rfl 1 rfl tt tabV tfr _ ((Below.heap_alloc _ _ _ hglt).trans HT.out) Tryz.underlying147 rfl (by kernel_rfl) ?_)
      have HR := Lib.hid (rnd_start HM.out)
      clear HM HT g0 g1 g2 g3 g4 g5 g6 g7 hglt
      generalize wr.heap.size = R at *
      go_loopw [10, 11, 12, 13, 95] (fun _ _ _ _ i wq => ∃ t : Nat, t ≤ 64 ∧ i = .int .i64 t ∧ RndRel s l w.heap.size R w wq t) (fun _ _ _ _ i _ => 64 - (intOf i).toNat)
      case atStart => exact ⟨0, by omega, rfl, HR.out⟩
      case round =>
        obtain ⟨t, ht, rfl, hM⟩ := hrel
        by_cases h64 : t < 64
        · obtain ⟨g0, g1, g2, g3, g4, g5, g6, g7⟩ := St.cells hM.2.2.2.2.2.2
          have hfz := hM.2.2.2.2.2.2.free
          have hw := sched_cell hM.2.2.2.2.2.1 t h64
          have hix := fun w => index_tab t h64 w
          have HM := Lib.hid hM
          clear hM
          go_wp2
          go_quiet ((go_at_call 100; exact Calls.quiet_of_same (turn_still _ _ _ (by omega) (by omega))))
          go_wp2
          rw [wx_int]
          have hM := HM.out.drewN nq
          clear HM g0 g1 g2 g3 g4 g5 g6 g7 hfz hw
          generalize wr.drewN nq = wr at *
          obtain ⟨g0, g1, g2, g3, g4, g5, g6, g7⟩ := St.cells hM.2.2.2.2.2.2
          have HM := Lib.hid hM
          clear hM
          go_wp2
          go_quiet ((go_at_call 100; exact Calls.quiet_of_same (turn_still _ _ _ (by omega) (by omega))))
          have hM := HM.out.drewN nq
          clear HM g0 g1 g2 g3 g4 g5 g6 g7
          generalize wr.drewN nq = wr at *
          obtain ⟨g0, g1, g2, g3, g4, g5, g6, g7⟩ := St.cells hM.2.2.2.2.2.2
          have hfz := hM.2.2.2.2.2.2.free
          have HM := Lib.hid hM
          clear hM
          go_wp2
          go_roundw
          case rel =>
            refine ⟨t + 1, by omega, by go_num, ?_⟩
            have := rnd_step HM.out rfl
            rw [wy_int, add_int]
            exact this
          case measure => simp [intOf]; omega
        · obtain rfl : t = 64 := by omega
          have HM := Lib.hid (sum_start hM)
          clear hM HR
          generalize hr : rounds l s 64 = r at *
          have HRD := Lib.hid (mixed_eq s l r hr)
          clear hr
          go_wp2
          go_loopw [14, 182] (fun _ i wq => ∃ t : Nat, t ≤ 8 ∧ i = .int .i64 t ∧ SumRel s r w.heap.size R w wq t) (fun _ i _ => 8 - (intOf i).toNat)
          case atStart => exact ⟨0, by omega, rfl, HM.out⟩
          case round =>
            obtain ⟨t, ht, rfl, hM⟩ := hrel
            by_cases h8 : t < 8
            · have c1 := hM.2.2.2.1.cell (part_cell s r t h8)
              have c2 := hM.2.2.2.2.2.cell (r_cell r t h8)
              have hfz := hM.2.2.2.1.free t
              have HS := Lib.hid (sum_step h8 hM)
              unfold word at c1 c2
              clear hM HM
              go_wp2
              go_region
              go_wp2
              go_roundw
              case rel =>
                refine ⟨t + 1, by omega, by go_num, ?_⟩
                rw [add_int]
                exact HS.out.drew
              case measure => simp [intOf]; omega
            · obtain rfl : t = 8 := by omega
              obtain ⟨g0, g1, g2, g3, g4, g5, g6, g7⟩ := St.cells (s := s.add r) hM.2.2.2.1
              have o0 := hM.2.2.2.2.1.cell (i := 0) rfl
              have o1 := hM.2.2.2.2.1.cell (i := 1) rfl
              have o2 := hM.2.2.2.2.1.cell (i := 2) rfl
              have o3 := hM.2.2.2.2.1.cell (i := 3) rfl
              have o4 := hM.2.2.2.2.1.cell (i := 4) rfl
              have o5 := hM.2.2.2.2.1.cell (i := 5) rfl
              have o6 := hM.2.2.2.2.1.cell (i := 6) rfl
              have o7 := hM.2.2.2.2.1.cell (i := 7) rfl
              have hfz := hM.2.2.2.2.1.free
              have HB := Lib.hid hM.1
              clear hM HM
              go_wp2
              refine bodyPost_ret (v := .agg ((s.add r).l.map word).toArray) (by simp [results, Tryz.results77, go_sem, o0, o1, o2, o3, o4, o5, o6, o7, St.l, word]) rfl ?_
              refine ⟨congrArg (fun z : St => Ending.returned (.agg (z.l.map word).toArray)) HRD.out.symm, ?_⟩
              iterate 8 (refine Below.setCell ?_ (by show w.heap.size ≤ w.heap.size + 1; omega) _)
              exact HB.out
end Go.Proofs.YtmenchnjajpkmaaGreatDoor.ShaW
end

section
namespace Go.Proofs.YtmenchnjajpkmaaGreatDoor.ShaW
open Go Go.RowKit Mem Sha

theorem elemB : ElemT Tryz.prog 25 5 (.int .u8 0) 1 1 :=
  ⟨Tryz.underlying25, ⟨_, (info_parts (P := Tryz.prog) (e := 5) (z := .int .u8 0) (size := 1) (bytes := 1) (by kernel_rfl)).choose_spec⟩, rfl, by decide⟩

/-- the object: at block h, its blocks in S -/
def HashRaw (S : Nat → Prop) (w : World) (h : Nat) (st : St) (rest : List UInt8) (n : Nat) : Prop :=
  S h ∧ ∃ rv, Blk w h (st.l.map word ++ [rv, .int .i64 (n : Int)]) 144 ∧ OwnB 0 5 w rv rest ∧ ∀ k, rv.ownBlock = some k → S k ∧ k ≠ h
def HashIs (S : Nat → Prop) (w : World) (h : Nat) (l : List UInt8) : Prop := HashRaw S w h (feed ini l) (left l) l.length
theorem HashRaw.fr {S T : Nat → Prop} {w w' : World} {h : Nat} {st : St} {rest : List UInt8} {n : Nat} (H : HashRaw S w h st rest n) (hf : Fr T w w') (hn : ∀ k, k < w.heap.size → S k → ¬ T k) : HashRaw S w' h st rest n := by
  obtain ⟨h1, rv, h2, h3, h4⟩ := H
  exact ⟨h1, rv, h2.fr hf (hn h h2.lt h1), h3.fr hf (fun k hk => hn k (h3.lt k hk).2 (h4 k hk).1), h4⟩
theorem HashRaw.mono {S T : Nat → Prop} {w : World} {h : Nat} {st : St} {rest : List UInt8} {n : Nat} (H : HashRaw S w h st rest n) (hn : ∀ k, k < w.heap.size → S k → T k) : HashRaw T w h st rest n := by
  obtain ⟨h1, rv, h2, h3, h4⟩ := H
  exact ⟨hn h h2.lt h1, rv, h2, h3, fun k hk => ⟨hn k (h3.lt k hk).2 (h4 k hk).1, (h4 k hk).2⟩⟩
/-- the blocks of S, and those that were made between two worlds -/
def Plus (S : Nat → Prop) (w w' : World) : Nat → Prop := fun k => S k ∨ (w.heap.size ≤ k ∧ k < w'.heap.size)

theorem HashRaw.drew {S : Nat → Prop} {w : World} {h : Nat} {st : St} {rest : List UInt8} {n : Nat} (H : HashRaw S w h st rest n) : HashRaw S w.drew h st rest n := H
theorem HashRaw.opened {S : Nat → Prop} {w : World} {h : Nat} {st : St} {rest : List UInt8} {n : Nat} (H : HashRaw S w h st rest n) :
    ∃ ra rc, Blk w h (st.l.map word ++ [.slice ra rest.length rc, .int .i64 (n : Int)]) 144 ∧ OwnB 0 5 w (.slice ra rest.length rc) rest ∧ (∀ k, (Value.slice ra rest.length rc).ownBlock = some k → S k ∧ k ≠ h) ∧ S h ∧
      w.cell? ⟨h, 8, none⟩ = some (.slice ra rest.length rc) ∧ w.cell? ⟨h, 9, none⟩ = some (.int .i64 (n : Int)) ∧ (∀ j, w.frozen? ⟨h, j, none⟩ = false) ∧ h < w.heap.size := by
  obtain ⟨h1, rv, h2, h3, h4⟩ := H
  obtain ⟨ra, rc, rfl, _⟩ := id h3.byt
  exact ⟨ra, rc, h2, h3, h4, h1, h2.cell rfl, h2.cell rfl, h2.free, h2.lt⟩
/-- behind 'h.rest = append(h.rest, ..)' -/
theorem HashRaw.appended {S : Nat → Prop} {w w2 : World} {h : Nat} {st : St} {rest r2 : List UInt8} {n : Nat} (H : HashRaw S w h st rest n) {rv v2 : Value} (hrv : w.cell? ⟨h, 8, none⟩ = some rv)
    (o1 : OwnB 0 5 w2 v2 r2) (o2 : w.grownBy w2 rv.ownBlock) (o3 : v2.ownBlock = rv.ownBlock ∨ v2.ownBlock = some w.heap.size) :
    HashRaw (Plus S w (w2.setCell ⟨h, 8, none⟩ v2)) (w2.setCell ⟨h, 8, none⟩ v2) h st r2 n ∧ Fr S w (w2.setCell ⟨h, 8, none⟩ v2) ∧ w2.cell? ⟨h, 8, none⟩ = some rv ∧ w2.frozen? ⟨h, 8, none⟩ = false := by
  obtain ⟨h1, rv', h2, h3, h4⟩ := H
  obtain rfl : rv' = rv := by
    have := h2.cell (i := 8) (v := rv') rfl
    rw [hrv] at this; exact (Option.some.inj this).symm
  have hg := Fr.ofGrown o2
  have hne : ¬ rv'.ownBlock = some h := fun e => (h4 h e).2 rfl
  have hb2 := h2.fr hg hne
  have hv2 : ∀ k, v2.ownBlock = some k → Plus S w (w2.setCell ⟨h, 8, none⟩ v2) k ∧ k ≠ h := by
    intro k hk
    rcases o3 with o3 | o3
    · rw [o3] at hk; exact ⟨.inl (h4 k hk).1, (h4 k hk).2⟩
    · have hlt := (o1.lt k hk).2
      rw [o3] at hk
      simp only [Option.some.injEq] at hk; subst hk
      have := h2.lt
      exact ⟨.inr ⟨Nat.le_refl _, by simpa using hlt⟩, by omega⟩
  refine ⟨⟨.inl h1, v2, hb2.set 8 v2, ?_, hv2⟩, ?_, hb2.cell rfl, hb2.free 8⟩
  · exact o1.fr (S := fun k => k = h) (Fr.setCell (S := fun k => k = h) (p := ⟨h, 8, none⟩) (Fr.refl _ w2) (.inr rfl) v2) (fun k hk => (hv2 k hk).2)
  · exact Fr.setCell (S := S) (p := ⟨h, 8, none⟩) (hg.mono fun k _ e => (h4 k e).1) (.inr h1) v2
/-- behind a store of a state -/
theorem HashRaw.turned {S : Nat → Prop} {w : World} {h : Nat} {st : St} {rest : List UInt8} {n : Nat} (H : HashRaw S w h st rest n) (s2 : St) :
    HashRaw S ((((((((w.setCell ⟨h, 0, none⟩ (word s2.a)).setCell ⟨h, 1, none⟩ (word s2.b)).setCell ⟨h, 2, none⟩ (word s2.c)).setCell ⟨h, 3, none⟩ (word s2.d)).setCell ⟨h, 4, none⟩ (word s2.e)).setCell ⟨h, 5, none⟩ (word s2.f)).setCell ⟨h, 6, none⟩ (word s2.g)).setCell ⟨h, 7, none⟩ (word s2.h)) h s2 rest n ∧
    Fr S w ((((((((w.setCell ⟨h, 0, none⟩ (word s2.a)).setCell ⟨h, 1, none⟩ (word s2.b)).setCell ⟨h, 2, none⟩ (word s2.c)).setCell ⟨h, 3, none⟩ (word s2.d)).setCell ⟨h, 4, none⟩ (word s2.e)).setCell ⟨h, 5, none⟩ (word s2.f)).setCell ⟨h, 6, none⟩ (word s2.g)).setCell ⟨h, 7, none⟩ (word s2.h)) := by
  obtain ⟨h1, rv, h2, h3, h4⟩ := H
  have fr : ∀ {T : Nat → Prop} (_ : T h), Fr T w ((((((((w.setCell ⟨h, 0, none⟩ (word s2.a)).setCell ⟨h, 1, none⟩ (word s2.b)).setCell ⟨h, 2, none⟩ (word s2.c)).setCell ⟨h, 3, none⟩ (word s2.d)).setCell ⟨h, 4, none⟩ (word s2.e)).setCell ⟨h, 5, none⟩ (word s2.f)).setCell ⟨h, 6, none⟩ (word s2.g)).setCell ⟨h, 7, none⟩ (word s2.h)) := by
    intro T ht
    iterate 8 (refine Fr.setCell ?_ (.inr ht) _)
    exact Fr.refl _ _
  refine ⟨⟨h1, rv, ?_, h3.fr (S := fun k => k = h) (fr rfl) (fun k hk => (h4 k hk).2), h4⟩, fr h1⟩
  exact (((((((h2.set 0 (word s2.a)).set 1 (word s2.b)).set 2 (word s2.c)).set 3 (word s2.d)).set 4 (word s2.e)).set 5 (word s2.f)).set 6 (word s2.g)).set 7 (word s2.h)
theorem HashRaw.cells {S : Nat → Prop} {w : World} {h : Nat} {st : St} {rest : List UInt8} {n : Nat} (H : HashRaw S w h st rest n) :
    w.cell? ⟨h, 0, none⟩ = some (.int .u32 (st.a.toNat : Int)) ∧ w.cell? ⟨h, 1, none⟩ = some (.int .u32 (st.b.toNat : Int)) ∧ w.cell? ⟨h, 2, none⟩ = some (.int .u32 (st.c.toNat : Int)) ∧ w.cell? ⟨h, 3, none⟩ = some (.int .u32 (st.d.toNat : Int)) ∧
    w.cell? ⟨h, 4, none⟩ = some (.int .u32 (st.e.toNat : Int)) ∧ w.cell? ⟨h, 5, none⟩ = some (.int .u32 (st.f.toNat : Int)) ∧ w.cell? ⟨h, 6, none⟩ = some (.int .u32 (st.g.toNat : Int)) ∧ w.cell? ⟨h, 7, none⟩ = some (.int .u32 (st.h.toNat : Int)) := by
  obtain ⟨h1, rv, h2, h3, h4⟩ := H
  exact ⟨h2.cell rfl, h2.cell rfl, h2.cell rfl, h2.cell rfl, h2.cell rfl, h2.cell rfl, h2.cell rfl, h2.cell rfl⟩
theorem Plus.trans {S : Nat → Prop} {a b c : World} (h1 : a.heap.size ≤ b.heap.size) (h2 : b.heap.size ≤ c.heap.size) (k : Nat) (h : Plus (Plus S a b) b c k) : Plus S a c k := by
  rcases h with (h | h) | h
  · exact .inl h
  · exact .inr ⟨h.1, by omega⟩
  · exact .inr ⟨by omega, h.2⟩
theorem Plus.fr {S : Nat → Prop} {a b c : World} (h1 : Fr S a b) (h2 : Fr (Plus S a b) b c) : Fr S a c :=
  h1.trans' h2 (fun i hi h => by rcases h with h | h; exact h; omega)

abbrev set8 (w : World) (h : Nat) (s2 : St) : World :=
  (((((((w.setCell ⟨h, 0, none⟩ (word s2.a)).setCell ⟨h, 1, none⟩ (word s2.b)).setCell ⟨h, 2, none⟩ (word s2.c)).setCell ⟨h, 3, none⟩ (word s2.d)).setCell ⟨h, 4, none⟩ (word s2.e)).setCell ⟨h, 5, none⟩ (word s2.f)).setCell ⟨h, 6, none⟩ (word s2.g)).setCell ⟨h, 7, none⟩ (word s2.h)
/-- behind 'h.rest = nil' -/
theorem HashRaw.cleared {S : Nat → Prop} {w : World} {h : Nat} {st : St} {rest : List UInt8} {n : Nat} (H : HashRaw S w h st rest n) :
    HashRaw S (w.setCell ⟨h, 8, none⟩ (.slice none 0 0)) h st [] n ∧ Fr S w (w.setCell ⟨h, 8, none⟩ (.slice none 0 0)) := by
  obtain ⟨h1, rv, h2, h3, h4⟩ := H
  exact ⟨⟨h1, .slice none 0 0, h2.set 8 _, OwnB.nil _ _ _, fun k hk => by cases hk⟩, Fr.setCell (S := S) (p := ⟨h, 8, none⟩) (Fr.refl _ w) (.inr h1) _⟩
/-- behind 'h.s = h.s.mixed(..)' -/
theorem HashRaw.mixes {S : Nat → Prop} {w wc w5 : World} {q : Nat} {st : St} {rest : List UInt8} {N : Nat} (F : Fr S w wc) (H : HashRaw (Plus S w wc) wc q st rest N) (hb : Below wc.drew.heap.size wc.drew w5) (r : St) :
    HashRaw (Plus S w (set8 w5 q r)) (set8 w5 q r) q r rest N ∧ Fr S w (set8 w5 q r) ∧ Fr (Plus S w wc) wc (set8 w5 q r) := by
  have H5 := H.drew.fr (Fr.ofBelow hb) (fun k h1 _ h2 => by omega)
  obtain ⟨t1, t2⟩ := H5.turned r
  have hz : wc.heap.size ≤ w5.heap.size := hb.size
  have hz2 : (set8 w5 q r).heap.size = w5.heap.size := by simp
  have hf2 : Fr (Plus S w wc) wc (set8 w5 q r) := ((Fr.refl _ wc).drew.trans (Fr.ofBelowAll hb (Nat.le_refl _))).trans t2
  refine ⟨t1.mono ?_, Plus.fr F hf2, hf2⟩
  intro k _ hp
  rcases hp with hp | hp
  · exact .inl hp
  · exact .inr ⟨hp.1, by omega⟩

theorem mixed8 (s : St) (v : Value) (l : List UInt8) (w : World) {D : Nat → Prop} (hB : Byt D w v l) (hl : l.length = 64) (hT : TabB w 1) :
    Calls Tryz.prog 77 #[.agg #[.int .u32 (s.a.toNat : Int), .int .u32 (s.b.toNat : Int), .int .u32 (s.c.toNat : Int), .int .u32 (s.d.toNat : Int), .int .u32 (s.e.toNat : Int), .int .u32 (s.f.toNat : Int), .int .u32 (s.g.toNat : Int), .int .u32 (s.h.toNat : Int)], v] w
      fun e w' => (∃ r, r = mixed s l ∧ e = .returned (.agg #[.int .u32 (r.a.toNat : Int), .int .u32 (r.b.toNat : Int), .int .u32 (r.c.toNat : Int), .int .u32 (r.d.toNat : Int), .int .u32 (r.e.toNat : Int), .int .u32 (r.f.toNat : Int), .int .u32 (r.g.toNat : Int), .int .u32 (r.h.toNat : Int)])) ∧ Below w.heap.size w w' :=
  (mixed_calls s v l w hB hl hT).mono fun _ _ h => ⟨⟨_, rfl, h.1⟩, h.2⟩

theorem begun_calls (w : World) :
    Calls Tryz.prog 76 #[] w fun e w' => e = .returned (.agg (ini.l.map word).toArray) ∧ Below w.heap.size w w' := by
  go_enter Tryz.func76, Tryz.ntmps76
  go_wp2
  exact bodyPost_ret (v := .agg (ini.l.map word).toArray) (by simp [results, Tryz.results76, go_sem]; rfl) rfl ⟨rfl, (Below.refl _ _).alloc (Nat.le_refl _) _⟩

theorem new_calls (w : World) :
    Calls Tryz.prog 52 #[] w fun e w' => ∃ h, e = .returned (.pointer (some ⟨h, 0, none⟩)) ∧ w.heap.size ≤ h ∧ HashIs (fun k => k = h) w' h [] ∧ Below w.heap.size w w' := by
  go_enter Tryz.func52, Tryz.ntmps52
  go_wp2_with fail
  refine (begun_calls w).mono ?_
  rintro e w1 ⟨rfl, hb⟩
  go_wp2
  go_ret
  refine ⟨w1.heap.size, rfl, hb.size, ⟨rfl, .slice none 0 0, ?_, OwnB.cast (OwnB.nil _ _ _) ?_, fun k hk => by cases hk⟩, hb.alloc hb.size _⟩
  · exact Blk.new _ _ _ _ (by rw [feed_short _ _ (by simp)]; rfl)
  · rw [left_short _ (by simp)]

/-- what the ways through Write keep -/
def WRel (S D : Nat → Prop) (w : World) (q : Nat) (F : St) (Lf : List UInt8) (N nb : Nat) (v : Value) (wx : World) : Prop :=
  ∃ (st : St) (bs : List UInt8), HashRaw (Plus S w wx) wx q st [] N ∧ Byt (fun k => k < w.heap.size ∧ D k) wx v bs ∧ feed st bs = F ∧ left bs = Lf ∧ bs.length ≤ nb ∧ Fr S w wx
def slen : Value → Nat | .slice _ n _ => n | _ => 0

set_option maxHeartbeats 4000000 in
set_option maxRecDepth 100000 in
theorem write_calls (S D : Nat → Prop) (w : World) (q : Nat) (l : List UInt8) (v : Value) (b : List UInt8) (H : HashIs S w q l) (hB : Byt D w v b) (hD : ∀ k, k < w.heap.size → D k → ¬ S k)
    (hlen : l.length + b.length ≤ 1125899906842624) (hT : TabB w 1) (hTS : ¬ S 1) :
    Calls Tryz.prog 53 #[.pointer (some ⟨q, 0, none⟩), v] w fun e w' => e = .returned (.tuple #[]) ∧ HashIs (Plus S w w') w' q (l ++ b) ∧ Fr S w w' := by
  obtain ⟨hS, rv, hblk, hown, hown2⟩ := H
  obtain ⟨ra, rc, rfl, hrk, hrx⟩ := id hown.byt
  clear hrx
  obtain ⟨a, c, rfl, hk, hby⟩ := id hB
  have hn := hblk.cell (i := 9) (v := .int .i64 (l.length : Int)) rfl
  have hr := hblk.cell (i := 8) (v := .slice ra (left l).length rc) rfl
  have hfz := hblk.free
  have hb9 := hblk.set 9 (.int .i64 ((l.length + b.length : Nat) : Int))
  have hf9 : Fr S w (w.setCell ⟨q, 9, none⟩ (.int .i64 ((l.length + b.length : Nat) : Int))) := (Fr.refl S w).setCell (.inr hS) _
  have hraw : HashRaw S (w.setCell ⟨q, 9, none⟩ (.int .i64 ((l.length + b.length : Nat) : Int))) q (feed ini l) (left l) (l.length + b.length) :=
    ⟨hS, _, hb9, hown.fr (S := fun k => k = q) (Fr.setCell (S := fun k => k = q) (p := ⟨q, 9, none⟩) (Fr.refl (fun k => k = q) w) (.inr rfl) _) (fun k hk => (hown2 k hk).2), hown2⟩
  have hBD := hB.lt
  have hDS : ∀ k, (k < w.heap.size ∧ D k) → ¬ S k := fun k hk => hD k hk.1 hk.2
  clear hD
  have hr1 : (w.setCell ⟨q, 9, none⟩ (.int .i64 ((l.length + b.length : Nat) : Int))).cell? ⟨q, 8, none⟩ = some (.slice ra (left l).length rc) :=
    (World.cell?_setCell_other _ _ _ _ (by intro e; injection e with _ e2 _; omega)).trans hr
  have hll := left_lt l
  have HH := Lib.hid hraw
  have HF := Lib.hid hf9
  clear hb9 hraw hf9 hblk hown hown2 hby
  go_enter Tryz.func53, Tryz.ntmps53
  go_upto_if 19 with fail
  rw [← Int.natCast_add]
  generalize w.setCell ⟨q, 9, none⟩ (.int .i64 ((l.length + b.length : Nat) : Int)) = w1 at *
  go_cut [1] (fun s1 wx => WRel S D w q (feed (feed ini l) (left l ++ b)) (left (left l ++ b)) (l.length + b.length) b.length s1 wx)
  case first =>
    by_cases h0 : 0 < (left l).length
    · rw [decide_eq_true h0]
      obtain ⟨n, hn⟩ : ∃ n, n = min b.length (64 - (left l).length) := ⟨_, rfl⟩
      have hn1 : n ≤ b.length := by omega
      have hn2 : n ≤ 64 - (left l).length := by omega
      have hn3 : n = b.length ∨ n = 64 - (left l).length := by omega
      have HN := Lib.hid hn
      clear hn
      go_upto_region 2 with fail
      go_cut [4] (fun s4 wx => s4 = .int .i64 (n : Int) ∧ w1 = wx)
      case first =>
        go_wp2
        all_goals go_meet
        case rel => exact ⟨by rw [HN.out]; congr 1; omega, rfl⟩
        case rel => exact ⟨by rw [HN.out]; congr 1; omega, rfl⟩
      case rest =>
        obtain ⟨rfl, rfl⟩ := hcut
        obtain ⟨sa, scap, hs2, hs3⟩ := run_slice_hi elemB hBD n hn1
        obtain ⟨sb, sbc, ht2, ht3⟩ := run_slice_lo elemB hBD n hn1
        have hnl : (b.take n).length = n := by simp; omega
        have hs3 := hs3.fr HF.out (fun k _ hk => hDS k hk)
        have HNL := Lib.hid hnl
        clear hnl
        obtain ⟨ra', rc', _, ho, ho2, _, hr8, _, hfz1, hqlt⟩ := HH.out.opened
        rw [hr1] at hr8
        obtain ⟨rfl, rfl⟩ : ra = ra' ∧ rc = rc' := by simpa using hr8
        have HO := Lib.hid ho
        clear ho ho2 hr8
        go_upto_region 3 with fail
        go_cut [4] (fun s4 wx => s4 = .int .i64 (n : Int) ∧ HashRaw (Plus S w1 wx) wx q (feed ini l) (left l ++ b.take n) (l.length + b.length) ∧ Fr S w1 wx)
        case first =>
          go_region_law ((refine step_append_byt rfl (.tmp 33) (.tmp 36) 25 rfl 0 5 elemB _ (left l) (by simp [Act.eval]) HO.out.drew _ _ (by simp [Act.eval]) hs3.drew (by simp; omega) (Nat.zero_le _) ?_; intro va vc w2 o1 o2 o3; rw [HNL.out] at o1 o3 ⊢; obtain ⟨p1, p2, p3, p4⟩ := HH.out.drew.appended hr1 o1 o2 o3; have P1 := Lib.hid p1; have P2 := Lib.hid p2; clear p1 p2))
          go_wp2_with fail
          go_meet
          case rel =>
            exact ⟨rfl, P1.out, (Fr.refl S w1).drew.trans P2.out⟩
        case rest =>
          obtain ⟨rfl, hH2, hF2⟩ := hcut
          have hE := feed_app (feed ini l) (left l) b
          have hF3 : Fr S w wc := HF.out.trans hF2
          have hlen2 : (left l ++ b.take n).length = (left l).length + n := by simp; omega
          generalize hr2 : left l ++ b.take n = r2 at hH2 hlen2
          have hHp : HashRaw (Plus S w wc) wc q (feed ini l) r2 (l.length + b.length) := hH2.mono fun k hk hp => by
            rcases hp with hp | hp
            · exact .inl hp
            · exact .inr ⟨by have := HF.out.size; omega, hp.2⟩
          obtain ⟨ra2, rc2, _, ho2, hs22, hS2, hr82, hr92, hfz2, hqlt2⟩ := hHp.opened
          obtain ⟨g0, g1, g2, g3, g4, g5, g6, g7⟩ := hHp.cells
          have hby2 := ho2.byt
          have HL2 := Lib.hid hlen2
          have HE := Lib.hid hr2
          have HF4 := Lib.hid hF3
          have HHp := Lib.hid hHp
          have HO2 := Lib.hid hby2
          by_cases h64 : r2.length < 64
          · have hres : HashIs (Plus S w wc) wc q (l ++ b) := by
              have hnb : n = b.length := by omega
              subst hnb
              rw [List.take_length] at hr2
              unfold HashIs
              rw [feed_app, left_app, hr2, feed_short _ _ h64, left_short _ h64, List.length_append]
              exact hHp
            have HR := Lib.hid hres
            clear hlen2 hr2 hF3 hF2 hH2 hHp hby2 ho2 hE hres HE HHp HO2
            go_wp2
            exact bodyPost_ret (v := .tuple #[]) (by simp [results, Tryz.results53, go_sem]) rfl ⟨rfl, HR.out, HF4.out⟩
          · have h64' : 64 ≤ r2.length := by omega
            clear hlen2 hr2 hF3 hF2 hH2 hHp hby2 ho2
            have hr64 : r2.length = 64 := by have := HL2.out; omega
            have HR64 := Lib.hid hr64
            clear hr64
            have hTw : TabB wc 1 := hT.fr HF4.out hTS
            have HTw := Lib.hid hTw
            clear hTw
            go_upto_region 6 with fail
            go_cut [1] (fun s1 wx => s1 = .slice sb (b.length - n) sbc ∧ HashRaw (Plus S w wx) wx q (mixed (feed ini l) r2) r2 (l.length + b.length) ∧ Fr S w wx)
            case first =>
              go_region_law ((go_simp; go_at_call 77; refine (mixed8 _ _ r2 _ HO2.out.drew HR64.out HTw.out).mono ?_; rintro e w5 ⟨⟨r, hr, rfl⟩, hbw⟩; have HQ := Lib.hid (HHp.out.drew.fr (Fr.ofBelow hbw) (fun k h1 _ h2 => by omega)); have HBW := Lib.hid hbw; have HRR := Lib.hid hr; clear hbw hr; obtain ⟨k0, k1, k2, k3, k4, k5, k6, k7⟩ := HQ.out.cells; have kf := (HQ.out.opened.choose_spec.choose_spec.2.2.2.2.2.2.1)))
              all_goals go_wp2_with fail
              all_goals go_meet
              all_goals (obtain ⟨t1, t2, _⟩ := HHp.out.mixes HF4.out HBW.out r; rw [← HRR.out]; exact ⟨rfl, t1, t2⟩)
            case rest =>
              obtain ⟨rfl, hH6, hF6⟩ := hcut
              obtain ⟨ra6, rc6, hb6, ho6, hs6, hS6, hr86, _, hfz6, hqlt6⟩ := hH6.opened
              have HB6 := Lib.hid hb6
              have HE6 := Lib.hid hE
              clear hb6 ho6 hs6 hE
              go_wp2
              go_meet
              case rel =>
                obtain ⟨c1, c2⟩ := hH6.cleared
                have hfr : Fr S w (wc.setCell ⟨q, 8, none⟩ (.slice none 0 0)) := Plus.fr hF6 c2
                have he : left l ++ b = r2 ++ b.drop n := by rw [← HE.out, List.append_assoc, List.take_append_drop]
                refine ⟨mixed (feed ini l) r2, b.drop n, c1.mono ?_, ?_, ?_, ?_, by simp, hfr⟩
                · intro k _ hp
                  rcases hp with hp | hp
                  · exact .inl hp
                  · exact .inr ⟨hp.1, by simpa using hp.2⟩
                · exact ht3.fr hfr (fun k _ hk => hDS k hk)
                · rw [he, feed_long _ (r2 ++ b.drop n) (by rw [List.length_append, HR64.out]; omega), List.take_left' HR64.out, List.drop_left' HR64.out]
                · rw [he, left_long (r2 ++ b.drop n) (by rw [List.length_append, HR64.out]; omega), List.drop_left' HR64.out]
    · have h1 : (left l).length = 0 := by omega
      have h2 : left l = [] := List.length_eq_zero_iff.1 h1
      rw [decide_eq_false h0]
      have hraw := HH.out
      rw [h2] at hraw
      have hE : feed (feed ini l) b = feed (feed ini l) (left l ++ b) ∧ left b = left (left l ++ b) := by rw [h2]; exact ⟨rfl, rfl⟩
      clear h1 h2
      go_wp2
      go_meet
      case rel => exact ⟨feed ini l, b, hraw.mono fun k hk hs => .inl hs, hBD.fr HF.out (fun k _ hk => hDS k hk), hE.1, hE.2, Nat.le_refl _, HF.out⟩
  case rest =>
    have hEf := feed_app ini l b
    have hEl := left_app l b
    rw [← hEf, ← hEl] at hcut
    have HC := Lib.hid hcut
    have hwl := hT
    clear hcut hEf hEl hr1 HH HF hn hr hfz hrk hk hB hll
    go_wp2
    go_loopw [1] (fun v wr => WRel S D w q (feed ini (l ++ b)) (left (l ++ b)) (l.length + b.length) b.length v wr) (fun v _ => slen v)
    case atStart => exact HC.out
    case round =>
      obtain ⟨st, bs, hH, hBs, hE, hE1, hlb, hF⟩ := hrel
      obtain ⟨ba, bc, rfl, hbk, _⟩ := id hBs
      obtain ⟨g0, g1, g2, g3, g4, g5, g6, g7⟩ := hH.cells
      have hTw := hT.fr hF hTS
      by_cases h64 : 64 ≤ bs.length
      · obtain ⟨sa, scap, hs2, hs3⟩ := run_slice_hi elemB hBs 64 h64
        obtain ⟨sb, sbc, ht2, ht3⟩ := run_slice_lo elemB hBs 64 h64
        have hs2 : ∀ (kh : IntKind) (w' : World), (Instr.sliceAt 25 (.slice ba bs.length bc) none (some (.int kh 64)) none).run Tryz.prog w' = .ok (.slice sa 64 scap) w' := hs2
        have ht2 : ∀ (kh : IntKind) (w' : World), (Instr.sliceAt 25 (.slice ba bs.length bc) (some (.int kh 64)) none none).run Tryz.prog w' = .ok (.slice sb (bs.length - 64) sbc) w' := ht2
        go_upto_region 9 with fail
        have HH9 := Lib.hid hH
        have HF9 := Lib.hid hF
        have HE9 := Lib.hid hE
        have HE19 := Lib.hid hE1
        have hl64 : (bs.take 64).length = 64 := by simp; omega
        have HL64 := Lib.hid hl64
        have HTw := Lib.hid hTw
        clear hH hF hE hE1 hl64 hTw
        go_cut [1] (fun s1 wx => s1 = .slice ba bs.length bc ∧ HashRaw (Plus S w wx) wx q (mixed st (bs.take 64)) [] (l.length + b.length) ∧ Fr S w wx ∧ Fr (Plus S w wr) wr wx)
        case first =>
          go_region_law ((go_simp; go_at_call 77; refine (mixed8 _ _ (bs.take 64) _ hs3.drew HL64.out HTw.out).mono ?_; rintro e w5 ⟨⟨r, hr, rfl⟩, hbw⟩; have HQ := Lib.hid (HH9.out.drew.fr (Fr.ofBelow hbw) (fun k h1 _ h2 => by omega)); have HBW := Lib.hid hbw; have HRR := Lib.hid hr; clear hbw hr; obtain ⟨k0, k1, k2, k3, k4, k5, k6, k7⟩ := HQ.out.cells; have kf := (HQ.out.opened.choose_spec.choose_spec.2.2.2.2.2.2.1)))
          all_goals go_wp2_with fail
          all_goals go_meet
          all_goals (obtain ⟨t1, t2, t3⟩ := HH9.out.mixes HF9.out HBW.out r; rw [← HRR.out]; exact ⟨rfl, t1, t2, t3⟩)
        case rest =>
          obtain ⟨rfl, hH6, hF6, hF7⟩ := hcut
          have HH6 := Lib.hid hH6
          have HF6 := Lib.hid hF6
          have HF7 := Lib.hid hF7
          clear hH6 hF6 hF7
          go_wp2
          go_roundw
          case rel =>
            refine ⟨mixed st (bs.take 64), bs.drop 64, HH6.out, ht3.fr HF7.out ?_, ?_, ?_, by simp; omega, HF6.out⟩
            · intro k _ hk hp
              rcases hp with hp | hp
              · exact hDS k hk hp
              · omega
            · rw [← HE9.out, feed_long st bs h64]
            · rw [← HE19.out, left_long bs h64]
          case measure => simp [slen]; omega
      · have hbs : bs.length < 64 := by omega
        obtain ⟨ra0, rc0, _, ho0, _, _, hr80, _, hfz0, _⟩ := hH.opened
        have HH9 := Lib.hid hH
        have HF9 := Lib.hid hF
        have HE9 := Lib.hid hE
        have HE19 := Lib.hid hE1
        have HO9 := Lib.hid ho0
        clear hH hF hE hE1 ho0
        go_upto_region 11 with fail
        go_wp2_with (at_builtin; refine wpList_append_byt _ rfl (.tmp 83) (.tmp 84) 25 rfl 0 5 elemB _ [] rfl HO9.out _ bs rfl hBs (by simp; omega) (Nat.zero_le _) ?_)
        intro va vc w2 o1 o2 o3
        obtain ⟨p1, p2, p3, p4⟩ := HH9.out.appended hr80 o1 o2 o3
        have P1 := Lib.hid p1
        have P2 := Lib.hid p2
        clear p1 p2
        go_wp2
        go_end0
        refine ⟨rfl, ?_, Plus.fr HF9.out P2.out⟩
        have h1 : st = feed ini (l ++ b) := by rw [← HE9.out, feed_short st bs hbs]
        have h2 : bs = left (l ++ b) := by rw [← HE19.out, left_short bs hbs]
        unfold HashIs
        rw [← h1, ← h2, List.length_append]
        exact P1.out.mono fun k _ hp => Plus.trans HF9.out.size P2.out.size k hp
end Go.Proofs.YtmenchnjajpkmaaGreatDoor.ShaW
end

section
namespace Go.Proofs.YtmenchnjajpkmaaGreatDoor.ShaW
open Go Go.RowKit Mem Sha

/-- the relation of Sum's first loops: b holds bs; the result's block is as it was made -/
def PadRel (B : Nat) (w : World) (v : Value) (bs : List UInt8) (wx : World) : Prop :=
  OwnB (B + 1) 5 wx v bs ∧ Below B w wx ∧ Blk wx B (List.replicate 32 (.int .u8 0)) 24
theorem PadRel.grows {B : Nat} {w w1 w2 : World} {v v2 : Value} {bs b2 : List UInt8} (hB : B ≤ w1.heap.size) (h : PadRel B w v bs w1) (o1 : OwnB (B + 1) 5 w2 v2 b2) (o2 : Fr (fun k => v.ownBlock = some k) w1 w2) : PadRel B w v2 b2 w2 := by
  obtain ⟨h1, h2, h3⟩ := h
  have hn : ∀ k, k ≤ B → ¬ v.ownBlock = some k := fun k hk e => by have := (h1.lt k e).1; omega
  refine ⟨o1, h2.trans (o2.below hB (fun k hk => by have := (h1.lt k hk).1; omega)), h3.fr o2 (hn B (Nat.le_refl _))⟩
/-- the relation of Sum's third loop -/
def FeedRel (B g : Nat) (w : World) (v : Value) (st : St) (cs : List UInt8) (wx : World) : Prop :=
  Blk wx g (st.l.map word) 141 ∧ Byt (fun k => B + 1 ≤ k ∧ k < g) wx v cs ∧ Below B w wx ∧ Blk wx B (List.replicate 32 (.int .u8 0)) 24 ∧ B < g
theorem feed_start {B : Nat} {w wr : World} {v : Value} {cs : List UInt8} (h : PadRel B w v cs wr) (st : St) (hB : B = w.heap.size) : FeedRel B wr.heap.size w v st cs (wr.alloc (.cells (st.l.map word).toArray 141)) := by
  obtain ⟨h1, h2, h3⟩ := h
  refine ⟨Blk.new _ _ _ _ rfl, ?_, h2.alloc (by have := h2.size; omega) _, h3.alloc _, h3.lt⟩
  refine (h1.byt.below ((Below.refl _ _).alloc (Nat.le_refl _) _)).mono ?_
  intro k _ hk
  exact ⟨hk.2, (h1.lt k hk.1).2⟩
theorem feed_below {B g : Nat} {w wx w5 : World} {v : Value} {st : St} {cs : List UInt8} (h : FeedRel B g w v st cs wx) (hb : Below wx.drew.heap.size wx.drew w5) (hB : B ≤ wx.heap.size) : FeedRel B g w v st cs w5 := by
  obtain ⟨h1, h2, h3, h4, h5⟩ := h
  have hb' : Below wx.heap.size wx w5 := ((Below.refl _ wx).drew).trans hb
  exact ⟨h1.below hb', h2.below hb', h3.trans (hb'.mono hB), h4.below hb', h5⟩
theorem set8_fr {S : Nat → Prop} (w : World) (g : Nat) (r : St) (hs : S g) : Fr S w (set8 w g r) := by
  unfold set8
  iterate 8 (refine Fr.setCell ?_ (.inr hs) _)
  exact Fr.refl _ _
theorem feed_next {B g : Nat} {wx w5 : World} {v : Value} {cs : List UInt8} (h : Byt (fun k => B + 1 ≤ k ∧ k < g) wx v cs) (hb : Below wx.drew.heap.size wx.drew w5) (r : St) : Byt (fun k => B + 1 ≤ k ∧ k < g) (set8 w5 g r) v cs := by
  have hb' : Below wx.heap.size wx w5 := ((Below.refl _ wx).drew).trans hb
  exact (h.below hb').fr (set8_fr (S := fun k => k = g) w5 g r rfl) (fun k _ hk e => by omega)
theorem feed_set {B g : Nat} {w wx : World} {v : Value} {st : St} {cs : List UInt8} (h : FeedRel B g w v st cs wx) (r : St) : FeedRel B g w v r cs (set8 wx g r) := by
  obtain ⟨h1, h2, h3, h4, h5⟩ := h
  have fr := set8_fr (S := fun k => k = g) wx g r rfl
  refine ⟨?_, h2.fr fr (fun k _ hk e => by omega), ?_, h4.fr fr (by omega), h5⟩
  · exact (((((((h1.set 0 (word r.a)).set 1 (word r.b)).set 2 (word r.c)).set 3 (word r.d)).set 4 (word r.e)).set 5 (word r.f)).set 6 (word r.g)).set 7 (word r.h)
  · unfold set8
    iterate 8 (refine Below.setCell ?_ (by show B ≤ g; omega) _)
    exact h3
theorem out_get (st : St) (i k : Nat) (hi : i < 8) (hk : k < 4) : (out st)[4 * i + k]? = some (UInt8.ofNat ((st.l.getD i 0).toNat / 2 ^ (24 - 8 * k))) := by
  rcases (by omega : i = 0 ∨ i = 1 ∨ i = 2 ∨ i = 3 ∨ i = 4 ∨ i = 5 ∨ i = 6 ∨ i = 7) with rfl | rfl | rfl | rfl | rfl | rfl | rfl | rfl <;>
    rcases (by omega : k = 0 ∨ k = 1 ∨ k = 2 ∨ k = 3) with rfl | rfl | rfl | rfl <;> rfl
set_option maxRecDepth 100000 in
theorem index_st (st : St) (i : Nat) (hi : i < 8) (w : World) :
    (Instr.index 141 (.agg #[.int .u32 (st.a.toNat : Int), .int .u32 (st.b.toNat : Int), .int .u32 (st.c.toNat : Int), .int .u32 (st.d.toNat : Int), .int .u32 (st.e.toNat : Int), .int .u32 (st.f.toNat : Int), .int .u32 (st.g.toNat : Int), .int .u32 (st.h.toNat : Int)]) (.int .i64 (i : Int))).run Tryz.prog w = .ok (.int .u32 ((st.l.getD i 0).toNat : Int)) w := by
  rcases (by omega : i = 0 ∨ i = 1 ∨ i = 2 ∨ i = 3 ∨ i = 4 ∨ i = 5 ∨ i = 6 ∨ i = 7) with rfl | rfl | rfl | rfl | rfl | rfl | rfl | rfl <;> rfl
theorem byte_of (n m : Nat) : ((n : Int) / 2 ^ m % 256) = ((UInt8.ofNat (n / 2 ^ m)).toNat : Int) := by
  rw [UInt8.toNat_ofNat', Int.natCast_emod, Int.natCast_ediv, Int.natCast_pow]; rfl
/-- the relation of Sum's last loops -/
def OutRel (B g d : Nat) (w : World) (st : St) (n : Nat) (wx : World) : Prop :=
  Below B w wx ∧ Blk wx B (List.replicate 32 (.int .u8 0)) 24 ∧ Blk wx d (((out st).take n).map byt ++ List.replicate (32 - n) (.int .u8 0)) 24 ∧ B < g ∧ g < d
theorem out_step {B g d : Nat} {w wx : World} {st : St} {i k : Nat} (hi : i < 8) (hk : k < 4) (h : OutRel B g d w st (4 * i + k) wx) :
    OutRel B g d w st (4 * i + k + 1) (wx.setCell ⟨d, 4 * i + k, none⟩ (.int .u8 ((UInt8.ofNat ((st.l.getD i 0).toNat / 2 ^ (24 - 8 * k))).toNat : Int))) := by
  obtain ⟨h1, h2, h3, h4, h5⟩ := h
  refine ⟨h1.setCell (by show B ≤ d; omega) _, h2.other (by show d ≠ B; omega) _, ?_, h4, h5⟩
  have := h3.set (4 * i + k) (.int .u8 ((UInt8.ofNat ((st.l.getD i 0).toNat / 2 ^ (24 - 8 * k))).toNat : Int))
  have hg := out_get st i k hi hk
  have hl : (out st).length = 32 := out_length st
  rw [List.set_append_right _ _ (by simp [hl]; omega)] at this
  have ez : 4 * i + k - (((out st).take (4 * i + k)).map byt).length = 0 := by simp [hl]; omega
  rw [ez] at this
  obtain ⟨m, hm⟩ : ∃ m, 32 - (4 * i + k) = m + 1 := ⟨31 - (4 * i + k), by omega⟩
  rw [hm, List.replicate_succ, List.set_cons_zero] at this
  rw [show 32 - (4 * i + k + 1) = m from by omega, List.take_add_one, hg, List.map_append, List.append_assoc]
  exact this
theorem out_cell {B g d : Nat} {w wx : World} {st : St} {n : Nat} (hn : n < 32) (h : OutRel B g d w st n wx) : wx.cell? ⟨d, n, none⟩ = some (.int .u8 0) := by
  refine h.2.2.1.cell ?_
  have hl : (out st).length = 32 := out_length st
  rw [List.getElem?_append_right (by simp [hl]; omega)]
  simp [hl, List.getElem?_replicate]; omega
theorem byte_int (n m : Nat) : (8 * (n : Int) / 2 ^ m % 256) = ((UInt8.ofNat (8 * n / 2 ^ m)).toNat : Int) := by
  rw [UInt8.toNat_ofNat']
  rw [Int.natCast_emod, Int.natCast_ediv, Int.natCast_mul, Int.natCast_pow]; rfl
theorem be8_take (v k : Nat) (h : k < 8) : (be8 v).take (k + 1) = (be8 v).take k ++ [UInt8.ofNat (v / 2 ^ (56 - 8 * k))] := by
  rw [List.take_succ_eq_append_getElem (by rw [be8_length]; exact h)]
  simp [be8]
def vlen : Value → Nat | .slice _ n _ => n | _ => 0
def zs (l : List UInt8) : Nat := (119 - l.length % 64) % 64

set_option maxHeartbeats 4000000 in
set_option maxRecDepth 100000 in
theorem sum_calls (S : Nat → Prop) (w : World) (q : Nat) (l : List UInt8) (H : HashIs S w q l) (hlen : l.length ≤ 1125899906842624) (hT : TabB w 1) :
    Calls Tryz.prog 54 #[.pointer (some ⟨q, 0, none⟩)] w fun e w' => e = .returned (.agg ((sha l).map byt).toArray) ∧ Below w.heap.size w w' := by
  obtain ⟨ra, rc, _, ho, _, _, h8, h9, hfz, hq⟩ := H.opened
  obtain ⟨g0, g1, g2, g3, g4, g5, g6, g7⟩ := H.cells
  have hll := left_lt l
  have hby := ho.byt.any
  have HO := Lib.hid (hby.below ((Below.refl _ _).alloc (Nat.le_refl _) (.cells (List.replicate 32 (.int .u8 0)).toArray 24)))
  clear ho hby
  go_enter Tryz.func54, Tryz.ntmps54
  go_upto_region 1 with fail
  have hP0 : PadRel w.heap.size w (.slice none 0 0) [] (w.alloc (.cells (List.replicate 32 (.int .u8 0)).toArray 24)) :=
    ⟨OwnB.nil _ _ _, (Below.refl _ _).alloc (Nat.le_refl _) _, Blk.new w _ _ _ rfl⟩
  go_wp2_with (at_builtin; refine wpList_append_byt _ rfl (.const (.slice none 0 0)) (.tmp 13) 25 rfl (w.heap.size + 1) 5 elemB _ [] rfl (OwnB.nil _ _ _) _ (left l) rfl HO.out (by simp; omega) (by simp) ?_)
  intro va vc w1 o1 o2 o3
  have hP1 := hP0.grows (by simp) o1 (Fr.ofGrown o2)
  clear o1 o2 o3 hP0
  have HP1 := Lib.hid hP1
  have hz1 : w.heap.size < w1.heap.size := hP1.2.2.lt
  clear hP1
  go_wp2_with (at_builtin; refine wpList_append_one _ rfl (.tmp 15) (.tmp 16) 25 rfl (w.heap.size + 1) 5 elemB _ (left l) rfl HP1.out.1 _ 128 rfl rfl (by omega) (by omega) ?_)
  intro va2 vc2 w2 o1 o2 o3
  have hP2 := HP1.out.grows (by omega) o1 o2
  clear o1 o2 o3 HP1
  have HP2 := Lib.hid hP2
  clear hP2 HO
  go_wp2
  go_loopw [3] (fun v wx => ∃ j bs, j ≤ zs l ∧ bs = left l ++ [128] ++ List.replicate j 0 ∧ PadRel w.heap.size w v bs wx) (fun v _ => 200 - vlen v)
  case atStart => exact ⟨0, _, Nat.zero_le _, by simp, HP2.out⟩
  case round =>
    obtain ⟨j, bs, hj, hbs, hP⟩ := hrel
    obtain ⟨xa, xc, rfl, _⟩ := id hP.1.byt
    have hz := hP.2.2.lt
    have hll2 := left_length _ l rfl
    have hb1 : bs.length = l.length % 64 + 1 + j := by rw [hbs]; simp; omega
    have hb2 : bs.length ≤ l.length % 64 + 1 + j := by omega
    have hb3 : l.length % 64 + 1 + j ≤ bs.length := by omega
    have hzs : zs l = (119 - l.length % 64) % 64 := rfl
    have hz63 : zs l ≤ 63 := by omega
    have hl63 : l.length % 64 ≤ 63 := by omega
    have HBS := Lib.hid hbs
    have HP := Lib.hid hP
    by_cases hjz : j = zs l
    · have ht : ((bs.length : Int) % 64 != 56) = false := by rw [bne_eq_false_iff_eq]; omega
      have hbz : bs = left l ++ [128] ++ List.replicate (zs l) 0 := by rw [hbs, hjz]
      have hb4 : bs.length ≤ 128 := by omega
      have HBZ := Lib.hid hbz
      clear hbs hP hb1 hzs hll2 hjz HBS hbz hb2 hb3
      go_wp2
      go_loopw [3, 4, 25] (fun v _ i wx => ∃ (k : Nat) (cs : List UInt8), k ≤ 8 ∧ i = .int .i64 k ∧ cs = bs ++ (be8 (8 * l.length)).take k ∧ PadRel w.heap.size w v cs wx) (fun _ _ i _ => 8 - (intOf i).toNat)
      case atStart => exact ⟨0, _, by omega, rfl, by simp, HP.out⟩
      case round =>
        obtain ⟨k, cs, hk8, rfl, hcs, hP⟩ := hrel
        obtain ⟨ya, yc, rfl, _⟩ := id hP.1.byt
        have hz2 := hP.2.2.lt
        have hcl : cs.length ≤ 200 := by rw [hcs]; simp; omega
        have h9r := (hP.2.1.cell (p := ⟨q, 9, none⟩) hq).trans h9
        have HP2 := Lib.hid hP
        have HCS := Lib.hid hcs
        clear hP hcs HP
        by_cases hlt : k < 8
        · go_wp2_with (at_builtin; refine wpList_append_one _ rfl (.tmp 28) (.tmp 40) 25 rfl (w.heap.size + 1) 5 elemB _ cs rfl HP2.out.1 _ (UInt8.ofNat (8 * l.length / 2 ^ (56 - 8 * k))) (byte_int _ _) rfl (by omega) (by omega) ?_)
          intro va2 vc2 w2 o1 o2 o3
          have hP3 := HP2.out.grows (by omega) o1 o2
          clear o1 o2 o3 HP2
          have HP3 := Lib.hid hP3
          clear hP3
          go_wp2
          go_roundw
          case rel => exact ⟨k + 1, _, by omega, by go_num, by rw [HCS.out, be8_take _ k hlt, ← List.append_assoc], HP3.out⟩
          case measure => simp [intOf]; omega
        · obtain rfl : k = 8 := by omega
          have hfin : cs = left l ++ padTail l.length := by
            rw [HCS.out, HBZ.out]
            unfold padTail zs
            rw [show 8 * l.length % 18446744073709551616 = 8 * l.length from by omega, show (be8 (8 * l.length)).take 8 = be8 (8 * l.length) from List.take_of_length_le (by rw [be8_length]; omega)]
            simp
          have HFIN := Lib.hid hfin
          have hPz := HP2.out
          have ga0 := (hPz.2.1.cell (p := ⟨q, 0, none⟩) hq).trans g0
          have ga1 := (hPz.2.1.cell (p := ⟨q, 1, none⟩) hq).trans g1
          have ga2 := (hPz.2.1.cell (p := ⟨q, 2, none⟩) hq).trans g2
          have ga3 := (hPz.2.1.cell (p := ⟨q, 3, none⟩) hq).trans g3
          have ga4 := (hPz.2.1.cell (p := ⟨q, 4, none⟩) hq).trans g4
          have ga5 := (hPz.2.1.cell (p := ⟨q, 5, none⟩) hq).trans g5
          have ga6 := (hPz.2.1.cell (p := ⟨q, 6, none⟩) hq).trans g6
          have ga7 := (hPz.2.1.cell (p := ⟨q, 7, none⟩) hq).trans g7
          clear hPz hfin HBZ HCS
          have hst := feed_start HP2.out (feed ini l) rfl
          have hgB : w.heap.size < wr.heap.size := HP2.out.2.2.lt
          have hcsl : cs.length % 64 = 0 := by rw [HFIN.out, List.length_append, left_length _ l rfl]; have := padTail_length l.length; omega
          have HST := Lib.hid hst
          have HCSL := Lib.hid hcsl
          clear hst hcsl
          go_wp2
          clear ga0 ga1 ga2 ga3 ga4 ga5 ga6 ga7 HP2 g0 g1 g2 g3 g4 g5 g6 g7 h8 h9 hfz
          generalize wr.heap.size = g at *
          go_loopw [3] (fun v wx => ∃ (st : St) (ds : List UInt8), feed st ds = feed (feed ini l) cs ∧ ds.length % 64 = 0 ∧ ds.length ≤ 200 ∧ FeedRel w.heap.size g w v st ds wx) (fun v _ => vlen v)
          case atStart => exact ⟨_, cs, rfl, HCSL.out, hcl, HST.out⟩
          case round =>
            obtain ⟨st, ds, hE, hmod, hdl, hF⟩ := hrel
            obtain ⟨xb, xbc, rfl, hxk, _⟩ := id hF.2.1
            have hTw := hT.fr (Fr.ofBelow hF.2.2.1) (by have := hT.choose_spec.choose_spec; have := (Array.getElem?_eq_some_iff.1 this).1; omega)
            have HTw := Lib.hid hTw
            have HE := Lib.hid hE
            have HF := Lib.hid hF
            have HMOD := Lib.hid hmod
            clear hTw
            by_cases h0 : 0 < ds.length
            · have h64 : 64 ≤ ds.length := by omega
              obtain ⟨sa, scap, hs2, hs3⟩ := run_slice_hi elemB hF.2.1 64 h64
              obtain ⟨sb, sbc, ht2, ht3⟩ := run_slice_lo elemB hF.2.1 64 h64
              have hs2 : ∀ (kh : IntKind) (w' : World), (Instr.sliceAt 25 (.slice xb ds.length xbc) none (some (.int kh 64)) none).run Tryz.prog w' = .ok (.slice sa 64 scap) w' := hs2
              have ht2 : ∀ (kh : IntKind) (w' : World), (Instr.sliceAt 25 (.slice xb ds.length xbc) (some (.int kh 64)) none none).run Tryz.prog w' = .ok (.slice sb (ds.length - 64) sbc) w' := ht2
              obtain ⟨k0, k1, k2, k3, k4, k5, k6, k7⟩ := St.cells hF.1
              have hl64 : (ds.take 64).length = 64 := by simp; omega
              have HL64 := Lib.hid hl64
              have hgw := hF.2.2.2.2
              clear hF hmod hl64 hE
              go_upto_region 12 with fail
              go_cut [3] (fun s3 wx => s3 = .slice xb ds.length xbc ∧ FeedRel w.heap.size g w (.slice xb ds.length xbc) (mixed st (ds.take 64)) ds wx ∧ Byt (fun k => w.heap.size + 1 ≤ k ∧ k < g) wx (.slice sb (ds.length - 64) sbc) (ds.drop 64))
              case first =>
                go_region_law ((go_simp; go_at_call 77; refine (mixed8 _ _ (ds.take 64) _ hs3.drew HL64.out HTw.out).mono ?_; rintro e w5 ⟨⟨r, hr, rfl⟩, hbw⟩; have HQ := Lib.hid (feed_below HF.out hbw (by have := HF.out.2.2.2.1.lt; omega)); have HBW := Lib.hid hbw; have HRR := Lib.hid hr; clear hbw hr k0 k1 k2 k3 k4 k5 k6 k7; obtain ⟨k0, k1, k2, k3, k4, k5, k6, k7⟩ := St.cells HQ.out.1; have kf := HQ.out.1.free))
                all_goals go_wp2_with fail
                all_goals go_meet
                all_goals (rw [← HRR.out]; exact ⟨rfl, feed_set HQ.out r, feed_next ht3 HBW.out r⟩)
              case rest =>
                obtain ⟨rfl, hF, hB⟩ := hcut
                have HF2 := Lib.hid hF
                have HB2 := Lib.hid hB
                clear hF hB HF
                go_wp2
                go_roundw
                case rel =>
                  refine ⟨mixed st (ds.take 64), ds.drop 64, ?_, ?_, by simp; omega, ?_⟩
                  · rw [← HE.out, feed_long st ds h64]
                  · have := HMOD.out; simp; omega
                  · obtain ⟨f1, _, f3, f4, f5⟩ := HF2.out
                    exact ⟨f1, HB2.out, f3, f4, f5⟩
                case measure => simp [vlen]; omega
            · have hd0 : ds = [] := List.length_eq_zero_iff.1 (by omega)
              have hst2 : st = feed (feed ini l) cs := by rw [← HE.out, hd0, feed_short _ _ (by simp)]
              have hsh : sha l = out st := by rw [sha_left, hst2, HFIN.out]
              have HSH := Lib.hid hsh
              obtain ⟨k0, k1, k2, k3, k4, k5, k6, k7⟩ := St.cells hF.1
              have hgw := hF.2.2.2.2
              clear hF hE hd0 hst2 hsh hmod
              have hglt : g < wr.heap.size := HF.out.1.lt
              have hO : OutRel w.heap.size g wr.heap.size w st 0 (wr.alloc (.cells (List.replicate 32 (.int .u8 0)).toArray 24)) :=
                ⟨HF.out.2.2.1.alloc (by omega) _, HF.out.2.2.2.1.alloc _, by simpa using Blk.new wr _ 24 (List.replicate 32 (.int .u8 0)) rfl, hgw, hglt⟩
              have HO2 := Lib.hid hO
              clear hO HF
              go_wp2
              generalize wr.heap.size = d at *
              go_loopw [7, 8, 9, 57, 61] (fun _ _ _ i _ wx => ∃ k : Nat, k ≤ 8 ∧ i = .int .i64 k ∧ OutRel w.heap.size g d w st (4 * k) wx) (fun _ _ _ i _ _ => 8 - (intOf i).toNat)
              case atStart => exact ⟨0, by omega, rfl, HO2.out⟩
              case round =>
                obtain ⟨k, hk8, rfl, hR⟩ := hrel
                by_cases hlt : k < 8
                · have hix := fun w => index_st st k hlt w
                  have HR := Lib.hid hR
                  clear hR
                  go_wp2
                  go_loopw [9, 61] (fun _ i wx => ∃ m : Nat, m ≤ 4 ∧ i = .int .i64 m ∧ OutRel w.heap.size g d w st (4 * k + m) wx) (fun _ i _ => 4 - (intOf i).toNat)
                  case atStart => exact ⟨0, by omega, rfl, HR.out⟩
                  case round =>
                    obtain ⟨m, hm4, rfl, hR2⟩ := hrel
                    by_cases hlm : m < 4
                    · have hcell := out_cell (by omega) hR2
                      have hfree := hR2.2.2.1.free (4 * k + m)
                      have HS := Lib.hid (out_step hlt hlm hR2)
                      clear hR2 HR
                      go_wp2
                      go_roundw
                      case rel =>
                        refine ⟨m + 1, by omega, by go_num, ?_⟩
                        rw [byte_of]
                        exact HS.out
                      case measure => simp [intOf]; omega
                    · obtain rfl : m = 4 := by omega
                      have HR2 := Lib.hid hR2
                      clear hR2 HR
                      go_wp2
                      go_roundw
                      case rel => exact ⟨k + 1, by omega, by go_num, HR2.out⟩
                      case measure => simp [intOf]; omega
                · obtain rfl : k = 8 := by omega
                  have hD : Blk wr d ((out st).map byt) 24 := by
                    have := hR.2.2.1
                    rw [show 4 * 8 = 32 from rfl, List.take_of_length_le (by rw [out_length]; omega)] at this
                    simpa using this
                  have hBl := hR.2.1
                  have hBe := hR.1
                  have hone : ∀ v ∈ (out st).map byt, v.oneCell' = true := by
                    intro v hv; obtain ⟨c, _, rfl⟩ := List.mem_map.1 hv; rfl
                  have HD := Lib.hid hD
                  have HBL := Lib.hid hBl
                  have HBE := Lib.hid hBe
                  have HONE := Lib.hid hone
                  clear hR hD hBl hBe hone
                  go_wp2_with (first
                    | (with_reducible refine wpList_load_blk rfl _ _ rfl d _ rfl HD.out _ Tryz.underlying24 rfl (by kernel_rfl) ?_)
                    | (with_reducible refine wpList_store_blk rfl _ _ _ rfl w.heap.size ((out st).map byt) _ rfl _ rfl rfl HBL.out (by kernel_rfl) (by simp [out_length]) HONE.out ?_))
                  refine bodyPost_ret (v := .agg ((out st).map byt).toArray) (results_cell_row Tryz.results54 _ _ w.heap.size 24 _ (0, 0) _ rfl (HBL.out.row _) Tryz.underlying24 rfl (by kernel_rfl)) rfl ⟨by rw [HSH.out], below_setRow HBE.out (Nat.le_refl _) _⟩
    · have ht : ((bs.length : Int) % 64 != 56) = true := by rw [bne_iff_ne]; omega
      have hm1 : j + 1 ≤ zs l := by omega
      clear hbs hP hb1 hzs hll2
      go_wp2_with (at_builtin; refine wpList_append_one _ rfl (.tmp 22) (.tmp 23) 25 rfl (w.heap.size + 1) 5 elemB _ bs rfl HP.out.1 _ 0 rfl rfl (by omega) (by omega) ?_)
      intro va2 vc2 w2 o1 o2 o3
      have hP2 := HP.out.grows (by omega) o1 o2
      clear o1 o2 o3 HP
      have HP2 := Lib.hid hP2
      clear hP2
      go_wp2
      go_roundw
      case rel => exact ⟨j + 1, _, hm1, by rw [HBS.out, List.replicate_succ', ← List.append_assoc], HP2.out⟩
      case measure => simp [vlen]; omega

theorem of_calls (w : World) (D : Nat → Prop) (v : Value) (b : List UInt8) (hB : Byt D w v b) (hlen : b.length ≤ 1125899906842624) (hT : TabB w 1) :
    Calls Tryz.prog 51 #[v] w fun e w' => e = .returned (.agg ((sha b).map byt).toArray) ∧ Below w.heap.size w w' := by
  obtain ⟨a, c, rfl, _⟩ := id hB
  have hz : (List.replicate 32 (Value.int .u8 0)).toArray = #[.int .u8 0, .int .u8 0, .int .u8 0, .int .u8 0, .int .u8 0, .int .u8 0, .int .u8 0, .int .u8 0, .int .u8 0, .int .u8 0, .int .u8 0, .int .u8 0, .int .u8 0, .int .u8 0, .int .u8 0, .int .u8 0,
    .int .u8 0, .int .u8 0, .int .u8 0, .int .u8 0, .int .u8 0, .int .u8 0, .int .u8 0, .int .u8 0, .int .u8 0, .int .u8 0, .int .u8 0, .int .u8 0, .int .u8 0, .int .u8 0, .int .u8 0, .int .u8 0] := rfl
  have hblk := Blk.new w _ 24 (List.replicate 32 (.int .u8 0)) rfl
  have hb0 : Below w.heap.size w (w.alloc (.cells (List.replicate 32 (.int .u8 0)).toArray 24)) := (Below.refl _ _).alloc (Nat.le_refl _) _
  have hB0 := hB.lt.below hb0
  have hT0 := hT.below hb0
  have hgl : 1 < w.heap.size := (Array.getElem?_eq_some_iff.1 hT.choose_spec.choose_spec).1
  rw [hz] at hblk hb0 hB0 hT0
  clear hz
  have HBLK := Lib.hid hblk
  have HB0 := Lib.hid hb0
  clear hblk hb0
  go_enter Tryz.func51, Tryz.ntmps51
  go_upto_region 1 with fail
  generalize (w.alloc (.cells #[.int .u8 0, .int .u8 0, .int .u8 0, .int .u8 0, .int .u8 0, .int .u8 0, .int .u8 0, .int .u8 0, .int .u8 0, .int .u8 0, .int .u8 0, .int .u8 0, .int .u8 0, .int .u8 0, .int .u8 0, .int .u8 0,
    .int .u8 0, .int .u8 0, .int .u8 0, .int .u8 0, .int .u8 0, .int .u8 0, .int .u8 0, .int .u8 0, .int .u8 0, .int .u8 0, .int .u8 0, .int .u8 0, .int .u8 0, .int .u8 0, .int .u8 0, .int .u8 0] 24)) = w0 at *
  go_wp2_with fail
  refine (new_calls w0).mono ?_
  rintro e w1 ⟨q, rfl, hq, hH, hb1⟩
  have HH := Lib.hid hH
  have HB1 := Lib.hid hb1
  clear hH hb1
  go_wp2_with fail
  refine (write_calls (fun k => k = q) (fun k => k < w.heap.size ∧ D k) w1 q [] _ b HH.out (hB0.below HB1.out) (fun k _ hk e => by have := HBLK.out.lt; omega) (by simpa using hlen) (hT0.below HB1.out) (by have := HBLK.out.lt; omega)).mono ?_
  rintro e w2 ⟨rfl, hH, hf⟩
  rw [List.nil_append] at hH
  have HH2 := Lib.hid hH
  have HF2 := Lib.hid hf
  clear hH hf
  go_wp2_with fail
  have hT2 : TabB w2 1 := (hT0.below HB1.out).fr HF2.out (by have := HBLK.out.lt; omega)
  refine (sum_calls _ w2 q b HH2.out hlen hT2).mono ?_
  rintro e w3 ⟨rfl, hb3⟩
  have hbl3 : Blk w3 w.heap.size (List.replicate 32 (.int .u8 0)) 24 := (((HBLK.out.below HB1.out).fr HF2.out (by have := HBLK.out.lt; omega)).below hb3)
  have hbe : Below w.heap.size w w3 := by
    refine (HB0.out.trans (HB1.out.mono ?_)).trans ((HF2.out.below (B := w.heap.size) ?_ ?_).trans (hb3.mono ?_))
    · have := HBLK.out.lt; omega
    · have := HB1.out.size; have := HBLK.out.lt; omega
    · intro k hk; have := HBLK.out.lt; omega
    · have := HF2.out.size; have := HB1.out.size; have := HBLK.out.lt; omega
  have hone : ∀ v ∈ (sha b).map byt, v.oneCell' = true := by
    intro v hv; obtain ⟨c, _, rfl⟩ := List.mem_map.1 hv; rfl
  have HD := Lib.hid hbl3
  have HE := Lib.hid hbe
  have HONE := Lib.hid hone
  clear hbl3 hbe hone hb3
  go_wp2_with (with_reducible refine wpList_store_blk rfl _ _ _ rfl w.heap.size ((sha b).map byt) _ rfl _ rfl rfl HD.out (by kernel_rfl) (by simp [sha_length]) HONE.out ?_)
  exact bodyPost_ret (v := .agg ((sha b).map byt).toArray) (results_cell_row Tryz.results51 _ _ w.heap.size 24 _ (0, 0) _ rfl (HD.out.row _) Tryz.underlying24 rfl (by kernel_rfl)) rfl ⟨rfl, below_setRow HE.out (Nat.le_refl _) _⟩
end Go.Proofs.YtmenchnjajpkmaaGreatDoor.ShaW
end

section
namespace Go.Proofs.YtmenchnjajpkmaaGreatDoor.ShaW
open Go Go.RowKit Mem Sha

theorem one_cells (l : List UInt8) : ∀ v ∈ l.map byt, v.oneCell' = true := by
  intro v hv; obtain ⟨c, _, rfl⟩ := List.mem_map.1 hv; rfl

theorem new32 (w : World) : Blk (w.alloc (.cells #[.int .u8 0, .int .u8 0, .int .u8 0, .int .u8 0, .int .u8 0, .int .u8 0, .int .u8 0, .int .u8 0, .int .u8 0, .int .u8 0, .int .u8 0, .int .u8 0, .int .u8 0, .int .u8 0, .int .u8 0, .int .u8 0, .int .u8 0, .int .u8 0, .int .u8 0, .int .u8 0, .int .u8 0, .int .u8 0, .int .u8 0, .int .u8 0, .int .u8 0, .int .u8 0, .int .u8 0, .int .u8 0, .int .u8 0, .int .u8 0, .int .u8 0, .int .u8 0] 24)) w.heap.size (List.replicate 32 (.int .u8 0)) 24 := Blk.new w _ _ _ rfl
theorem made32 (w : World) (m : List UInt8) : Blk ((w.alloc (.cells #[.int .u8 0, .int .u8 0, .int .u8 0, .int .u8 0, .int .u8 0, .int .u8 0, .int .u8 0, .int .u8 0, .int .u8 0, .int .u8 0, .int .u8 0, .int .u8 0, .int .u8 0, .int .u8 0, .int .u8 0, .int .u8 0, .int .u8 0, .int .u8 0, .int .u8 0, .int .u8 0, .int .u8 0, .int .u8 0, .int .u8 0, .int .u8 0, .int .u8 0, .int .u8 0, .int .u8 0, .int .u8 0, .int .u8 0, .int .u8 0, .int .u8 0, .int .u8 0] 24)).setRow w.heap.size (m.map byt).toArray) w.heap.size (m.map byt) 24 ∧ Below w.heap.size w ((w.alloc (.cells #[.int .u8 0, .int .u8 0, .int .u8 0, .int .u8 0, .int .u8 0, .int .u8 0, .int .u8 0, .int .u8 0, .int .u8 0, .int .u8 0, .int .u8 0, .int .u8 0, .int .u8 0, .int .u8 0, .int .u8 0, .int .u8 0, .int .u8 0, .int .u8 0, .int .u8 0, .int .u8 0, .int .u8 0, .int .u8 0, .int .u8 0, .int .u8 0, .int .u8 0, .int .u8 0, .int .u8 0, .int .u8 0, .int .u8 0, .int .u8 0, .int .u8 0, .int .u8 0] 24)).setRow w.heap.size (m.map byt).toArray) :=
  ⟨(new32 w).row _, below_setRow ((Below.refl _ _).alloc (Nat.le_refl _) _) (Nat.le_refl _) _⟩
/-- what the reference's Mac keeps: its result's block, the key's copy -/
def MacK (B : Nat) (w : World) (v : Value) (q : List UInt8) (wx : World) : Prop :=
  Below B w wx ∧ Blk wx B (List.replicate 32 (.int .u8 0)) 24 ∧ OwnB (B + 1) 5 wx v q ∧ B < wx.heap.size
theorem MacK.grows {B : Nat} {w w1 w2 : World} {q q2 : List UInt8} {v v2 : Value} (h : MacK B w v q w1) (o1 : OwnB (B + 1) 5 w2 v2 q2) (o2 : Fr (fun k => v.ownBlock = some k) w1 w2) : MacK B w v2 q2 w2 := by
  have hne : ∀ k, v.ownBlock = some k → B + 1 ≤ k := fun k hk => (h.2.2.1.lt k hk).1
  exact ⟨h.1.trans (o2.below (Nat.le_of_lt h.2.2.2) (fun k hk => by have := hne k hk; omega)), h.2.1.fr o2 (fun e => by have := hne B e; omega), o1, by have := o2.size; have := h.2.2.2; omega⟩

end Go.Proofs.YtmenchnjajpkmaaGreatDoor.ShaW
end

section
namespace Go.Proofs.YtmenchnjajpkmaaGreatDoor.ShaW
open Go Go.RowKit Mem Sha

def TextRel (B : Nat) (w : World) (m q : List UInt8) (v : Value) (wx : World) : Prop :=
  Below B w wx ∧ Blk wx B (m.map byt) 24 ∧ OwnB (B + 1) 5 wx v q ∧ B < wx.heap.size
theorem TextRel.grows {B : Nat} {w w1 w2 : World} {m q q2 : List UInt8} {v v2 : Value} (h : TextRel B w m q v w1) (o1 : OwnB (B + 1) 5 w2 v2 q2) (o2 : Fr (fun k => v.ownBlock = some k) w1 w2) : TextRel B w m q2 v2 w2 := by
  have hne : ∀ k, v.ownBlock = some k → B + 1 ≤ k := fun k hk => (h.2.2.1.lt k hk).1
  exact ⟨h.1.trans (o2.below (Nat.le_of_lt h.2.2.2) (fun k hk => by have := hne k hk; omega)), h.2.1.fr o2 (fun e => by have := hne B e; omega), o1, by have := o2.size; have := h.2.2.2; omega⟩

theorem text_calls (w : World) (m : List UInt8) (hm : m.length = 32) :
    Calls Tryz.prog 55 #[.agg (m.map byt).toArray] w fun e w' => ∃ a c, e = .returned (.slice a 32 c) ∧ OwnB (w.heap.size + 1) 5 w' (.slice a 32 c) m ∧ Below w.heap.size w w' := by
  have h0 : TextRel w.heap.size w m [] (.slice none 0 0) (w.alloc (.cells (m.map byt).toArray 24)) :=
    ⟨(Below.refl _ _).alloc (Nat.le_refl _) _, Blk.new _ _ _ _ rfl, OwnB.nil _ _ _, by simp⟩
  have H0 := Lib.hid h0
  have HM := Lib.hid hm
  have hs : ((m.map byt).toArray).size = 32 := by simp [hm]
  clear h0 hm
  generalize (m.map byt).toArray = cs at *
  go_enter Tryz.func55, Tryz.ntmps55
  go_wp2
  go_loopw [3, 4] (fun v i wx => ∃ (n : Nat) (q : List UInt8), n ≤ 32 ∧ i = .int .i64 n ∧ q = m.take n ∧ q.length = n ∧ TextRel w.heap.size w m q v wx) (fun _ i _ => 32 - (intOf i).toNat)
  case atStart => exact ⟨0, [], by omega, rfl, rfl, rfl, H0.out⟩
  case round =>
    obtain ⟨n, q, hn, rfl, hq, hl, hR⟩ := hrel
    obtain ⟨xa, xc, rfl, hxk, _⟩ := id hR.2.2.1.byt
    have HR := Lib.hid hR
    have HQ := Lib.hid hq
    have hl1 : q.length ≤ n := by omega
    have hl2 : n ≤ q.length := by omega
    clear hq hl
    by_cases hlt : n < 32
    · have hn1 : n < m.length := by rw [HM.out]; exact hlt
      have c1 : wr.cell? ⟨w.heap.size, n, none⟩ = some (.int .u8 ((m[n]'hn1).toNat : Int)) := hR.2.1.cell (by simp [hn1])
      clear hR
      go_wp2_with (at_builtin; refine wpList_append_one _ rfl (.tmp 9) (.tmp 13) 25 rfl (w.heap.size + 1) 5 elemB _ q rfl HR.out.2.2.1 _ (m[n]'hn1) rfl rfl (by omega) (by have := HR.out.2.2.2; omega) ?_)
      intro va vc w2 o1 o2 o3
      have HR2 := Lib.hid (HR.out.grows o1 o2)
      clear o1 o2 o3 HR
      go_wp2
      go_roundw
      case rel => exact ⟨n + 1, _, by omega, by go_num, by rw [HQ.out, List.take_add_one, List.getElem?_eq_getElem hn1]; rfl, by simp; omega, HR2.out⟩
      case measure => simp [intOf]; omega
    · obtain rfl : n = 32 := by omega
      have hq2 : q = m := by rw [HQ.out]; exact List.take_of_length_le (by rw [HM.out]; omega)
      have h32 : q.length = 32 := by omega
      have HQ2 := Lib.hid hq2
      have H32 := Lib.hid h32
      clear hq2 h32 hR
      go_wp2
      go_ret
      refine ⟨xa, xc, by rw [H32.out]; rfl, ?_, HR.out.1⟩
      have := HR.out.2.2.1
      rw [H32.out, HQ2.out] at this
      exact this
end Go.Proofs.YtmenchnjajpkmaaGreatDoor.ShaW
end

section
namespace Go.Proofs.YtmenchnjajpkmaaGreatDoor.RfW
open Go Go.RowKit Mem Codec CodecW CodecN
set_option linter.unusedVariables false

/-- the reference's W at block q, its blocks in S, that has m; bad: something may not be -/
def RefIs (S : Nat → Prop) (w : World) (q : Nat) (m : List UInt8) (bad : Bool) : Prop :=
  S q ∧ ∃ wv, Blk w q [wv, .bool bad] 91 ∧ OwnB 0 5 w wv m ∧ ∀ k, wv.ownBlock = some k → S k ∧ k ≠ q
section
variable {S T : Nat → Prop} {w w' : World} {q : Nat} {m : List UInt8} {bad : Bool}
theorem RefIs.fr (H : RefIs S w q m bad) (hf : Fr T w w') (hn : ∀ k, k < w.heap.size → S k → ¬ T k) : RefIs S w' q m bad := by
  obtain ⟨h1, wv, h2, h3, h4⟩ := H
  exact ⟨h1, wv, h2.fr hf (hn q h2.lt h1), h3.fr hf (fun k hk => hn k (h3.lt k hk).2 (h4 k hk).1), h4⟩
theorem RefIs.mono (H : RefIs S w q m bad) (hn : ∀ k, k < w.heap.size → S k → T k) : RefIs T w q m bad := by
  obtain ⟨h1, wv, h2, h3, h4⟩ := H
  exact ⟨hn q h2.lt h1, wv, h2, h3, fun k hk => ⟨hn k (h3.lt k hk).2 (h4 k hk).1, (h4 k hk).2⟩⟩
theorem RefIs.below (H : RefIs S w q m bad) (hb : Below w.heap.size w w') : RefIs S w' q m bad := H.fr (Fr.ofBelow hb) (fun k hk _ h => by omega)
theorem RefIs.drew (H : RefIs S w q m bad) : RefIs S w.drew q m bad := H
theorem RefIs.lt (H : RefIs S w q m bad) : q < w.heap.size := H.2.choose_spec.1.lt
theorem RefIs.opened (H : RefIs S w q m bad) : ∃ a c, Blk w q [.slice a m.length c, .bool bad] 91 ∧ OwnB 0 5 w (.slice a m.length c) m ∧ (∀ k, (Value.slice a m.length c).ownBlock = some k → S k ∧ k ≠ q) ∧ S q ∧ q < w.heap.size := by
  obtain ⟨h1, wv, h2, h3, h4⟩ := H
  obtain ⟨a, c, rfl, _⟩ := id h3.byt
  exact ⟨a, c, h2, h3, h4, h1, h2.lt⟩
theorem RefIs.new (w : World) : RefIs (fun k => k = w.heap.size) (w.alloc (.cells #[.slice none 0 0, .bool false] 91)) w.heap.size [] false :=
  ⟨rfl, _, Blk.new _ _ _ _ rfl, OwnB.nil _ _ _, fun k hk => by cases hk⟩
/-- behind 'w.B = append(w.B, ..)' -/
theorem appended {w2 : World} {rv v2 : Value} {m2 : List UInt8} (h1 : S q) (h2 : Blk w q [rv, .bool bad] 91) (h4 : ∀ k, rv.ownBlock = some k → S k ∧ k ≠ q)
    (o1 : OwnB 0 5 w2 v2 m2) (o2 : Fr (fun k => rv.ownBlock = some k) w w2) (o3 : v2.ownBlock = rv.ownBlock ∨ ∃ k, v2.ownBlock = some k ∧ w.heap.size ≤ k ∧ k < w2.heap.size) :
    RefIs (Plus S w (w2.setCell ⟨q, 0, none⟩ v2)) (w2.setCell ⟨q, 0, none⟩ v2) q m2 bad ∧ Fr S w (w2.setCell ⟨q, 0, none⟩ v2) ∧ w2.cell? ⟨q, 0, none⟩ = some rv ∧ w2.frozen? ⟨q, 0, none⟩ = false := by
  have hne : ¬ rv.ownBlock = some q := fun e => (h4 q e).2 rfl
  have hb2 := h2.fr o2 hne
  have hv2 : ∀ k, v2.ownBlock = some k → Plus S w (w2.setCell ⟨q, 0, none⟩ v2) k ∧ k ≠ q := by
    intro k hk
    have hkl := (o1.lt k hk).2
    rcases o3 with o3 | ⟨k', o3, o4, o5⟩
    · rw [o3] at hk; exact ⟨.inl (h4 k hk).1, (h4 k hk).2⟩
    · rw [o3] at hk; cases hk
      exact ⟨.inr ⟨o4, by simpa [World.setCell] using o5⟩, by have := h2.lt; omega⟩
  refine ⟨⟨.inl h1, v2, by simpa using hb2.set 0 v2, ?_, hv2⟩, ?_, hb2.cell rfl, hb2.free 0⟩
  · exact o1.fr (S := fun k => k = q) (Fr.setCell (S := fun k => k = q) (p := ⟨q, 0, none⟩) (Fr.refl _ w2) (.inr rfl) v2) (fun k hk => (hv2 k hk).2)
  · exact Fr.setCell (S := S) (p := ⟨q, 0, none⟩) (o2.mono fun k _ e => (h4 k e).1) (.inr h1) v2
end
set_option maxHeartbeats 4000000 in
theorem raw_calls (S D : Nat → Prop) (w : World) (q : Nat) (m : List UInt8) (bad : Bool) (v : Value) (b : List UInt8) (H : RefIs S w q m bad) (hB : Byt D w v b) (hlen : m.length + b.length ≤ 140737488355328) :
    Calls Tryz.prog 80 #[.pointer (some ⟨q, 0, none⟩), v] w fun e w' => e = .returned (.tuple #[]) ∧ RefIs (Plus S w w') w' q (m ++ b) bad ∧ Fr S w w' := by
  obtain ⟨a, c, h1, h2, h3, h4, h5⟩ := H.opened
  obtain ⟨va, vc, rfl, _⟩ := id hB
  have c0 := h1.cell (i := 0) rfl
  have H1 := Lib.hid h1
  have H2 := Lib.hid h2
  have H3 := Lib.hid h3
  have H4 := Lib.hid h4
  have HB := Lib.hid hB
  clear h1 h2 h3 h4 H hB
  go_enter Tryz.func80, Tryz.ntmps80
  go_wp2_with (at_builtin; refine wpList_append_byt _ rfl (.tmp 8) (.tmp 9) 25 rfl 0 5 elemB _ m rfl H2.out _ b rfl HB.out hlen (Nat.zero_le _) ?_)
  intro va2 vc2 w2 o1 o2 o3
  obtain ⟨g1, g2, g3, g4⟩ := appended H4.out H1.out H3.out o1 (Fr.ofGrown o2) (o3.imp_right fun o3 => ⟨_, o3, Nat.le_refl _, by have := (o1.lt _ o3).2; exact this⟩)
  have G1 := Lib.hid g1
  have G2 := Lib.hid g2
  clear o1 o2 o3 g1 g2 c0
  go_wp2
  go_end0
  exact ⟨rfl, G1.out, G2.out⟩
theorem Plus.le {S : Nat → Prop} {a b c : World} (hb : b.heap.size ≤ c.heap.size) {k : Nat} (h : Plus S a b k) : Plus S a c k := h.imp_right fun h => ⟨h.1, by omega⟩
theorem Plus.join {S : Nat → Prop} {a b c : World} (h1 : a.heap.size ≤ b.heap.size) (h2 : b.heap.size ≤ c.heap.size) (k : Nat) (h : Plus (Plus S a b) b c k) : Plus S a c k := by
  rcases h with (h | h) | h
  · exact .inl h
  · exact .inr ⟨h.1, by omega⟩
  · exact .inr ⟨by omega, h.2⟩
/-- two steps, one behind the other -/
theorem Fr.join {S : Nat → Prop} {a b c : World} (h1 : Fr S a b) (h2 : Fr (Plus S a b) b c) : Fr S a c :=
  h1.trans' h2 (fun k hk h => by rcases h with h | h; exact h; omega)
set_option maxHeartbeats 4000000 in
theorem num_calls (S : Nat → Prop) (w : World) (q : Nat) (m : List UInt8) (bad : Bool) (n k : Nat) (hn : n < 18446744073709551616) (hk : k ≤ 8) (H : RefIs S w q m bad) (hlen : m.length + k ≤ 140737488355328) :
    Calls Tryz.prog 57 #[.pointer (some ⟨q, 0, none⟩), .int .u64 (n : Int), .int .i64 (k : Int)] w fun e w' => e = .returned (.tuple #[]) ∧ RefIs (Plus S w w') w' q (m ++ num n k) bad ∧ Fr S w w' := by
  have H1 := Lib.hid H
  clear H
  go_enter Tryz.func57, Tryz.ntmps57
  go_wp2_with fail
  refine (number_calls w n k hn hk).mono ?_
  rintro e w1 ⟨a, c, rfl, g1, g2⟩
  have hnl : (num n k).length = k := num_length n k
  have HO := Lib.hid g1
  have HB := Lib.hid g2
  have H2 := Lib.hid (H1.out.below g2)
  clear g1 g2
  go_wp2_with fail
  refine (raw_calls S _ w1 q m bad _ (num n k) H2.out HO.out.byt (by omega)).mono ?_
  rintro e w2 ⟨rfl, g1, g2⟩
  have R2 := Lib.hid (show RefIs (Plus S w w2) w2 q (m ++ num n k) bad from g1.mono (fun k _ h => by
    rcases h with h | h
    · exact .inl h
    · exact .inr ⟨by have := HB.out.size; omega, h.2⟩))
  have F2 := Lib.hid ((Fr.ofBelowAll HB.out (Nat.le_refl _) : Fr S w w1).trans' g2 (fun k _ h => h))
  clear g1 g2
  go_wp2
  go_end0
  exact ⟨rfl, R2.out, F2.out⟩
end Go.Proofs.YtmenchnjajpkmaaGreatDoor.RfW
end
