/- Walks of SHA-256's small functions. No condition. -/
import Derived.Test.YtmenchnjajpkmaaDoorProg
import Derived.Test.YtmenchnjajpkmaaDoorMem
import Derived.Test.YtmenchnjajpkmaaDoorShaPure
import Derived.WalkKit
import Derived.BigRegion
import Derived.StillTailTactics
import Derived.RegionTactic
import Derived.Deep.Light
namespace Go.Proofs.YtmenchnjajpkmaaDoor.ShaW
open Go Go.RowKit Mem Sha

theorem shl_int (x : W) (m : Nat) : (x.toNat : Int) * 2 ^ m % 4294967296 = ((x <<< m).toNat : Int) := by
  rw [BitVec.toNat_shiftLeft, Nat.shiftLeft_eq]
  rw [Int.natCast_emod, Int.natCast_mul, Int.natCast_pow]; rfl
theorem shr_int (x : W) (m : Nat) : (x.toNat : Int) / 2 ^ m = ((x >>> m).toNat : Int) := by
  rw [BitVec.toNat_ushiftRight, Nat.shiftRight_eq_div_pow, Int.natCast_ediv, Int.natCast_pow]; rfl
theorem or_int (x y : W) : bits .or .u32 (x.toNat : Int) (y.toNat : Int) = ((x ||| y).toNat : Int) := by
  rw [u32_or_nat _ _ x.isLt y.isLt, BitVec.toNat_or]
theorem and_int (x y : W) : bits .and .u32 (x.toNat : Int) (y.toNat : Int) = ((x &&& y).toNat : Int) := by
  rw [u32_and_nat _ _ x.isLt y.isLt, BitVec.toNat_and]
theorem xor_int (x y : W) : bits .xor .u32 (x.toNat : Int) (y.toNat : Int) = ((x ^^^ y).toNat : Int) := by
  rw [u32_xor_nat _ _ x.isLt y.isLt, BitVec.toNat_xor]
theorem add_int (x y : W) : ((x.toNat : Int) + (y.toNat : Int)) % 4294967296 = ((x + y).toNat : Int) := by
  rw [BitVec.toNat_add, Int.natCast_emod, Int.natCast_add]; rfl

theorem neg_and31 (n : Nat) (h1 : 1 ≤ n) (h2 : n ≤ 31) : bits .and .u64 (IntKind.u64.wrap (-(n : Int))) 31 = ((32 - n : Nat) : Int) := by
  have e : IntKind.u64.wrap (-(n : Int)) = ((18446744073709551616 - n : Nat) : Int) := by
    rw [show IntKind.u64.wrap (-(n : Int)) = (-(n : Int)) % 18446744073709551616 from by simp [IntKind.wrap, IntKind.bits, IntKind.signed]]
    omega
  rw [e]
  show bits .and .u64 _ ((31 : Nat) : Int) = _
  rw [u64_and_nat _ _ (by omega) (by omega), show (31 : Nat) = 2 ^ 5 - 1 from rfl, Nat.and_two_pow_sub_one_eq_mod]
  omega

theorem rotl (x : W) (k : Int) (w : World) (h1 : 1 ≤ k) (h2 : k ≤ 31) :
    Calls Tryd.prog 54 #[.int .u32 (x.toNat : Int), .int .i64 (-k)] w fun e w' => e = .returned (.int .u32 ((rotr x k.toNat).toNat : Int)) ∧ w = w' := by
  have hx := x.isLt
  obtain ⟨n, rfl⟩ := Int.eq_ofNat_of_zero_le (by omega : 0 ≤ k)
  have hm := neg_and31 n (by omega) (by omega)
  have hn1 : 32 - n ≤ 31 := by omega
  go_enter Tryd.func54, Tryd.ntmps54
  go_wp2
  go_ret
  exact ⟨ret_int (by rw [shl_int, shr_int, or_int, show 32 - (32 - n) = n from by omega]; rfl), rfl⟩

theorem turn (x : W) (k : Int) (w : World) (h1 : 1 ≤ k) (h2 : k ≤ 31) :
    Calls Tryd.prog 50 #[.int .u32 (x.toNat : Int), .int .i64 k] w fun e w' => e = .returned (.int .u32 ((rotr x k.toNat).toNat : Int)) ∧ w = w' := by
  go_enter Tryd.func50, Tryd.ntmps50
  go_wp2_with fail
  refine (rotl x k w h1 h2).mono ?_
  rintro e w' ⟨rfl, rfl⟩
  go_wp2
  go_ret
  exact ⟨rfl, rfl⟩


theorem shr3_int (x : W) : (x.toNat : Int) / (8 : Int) = ((x >>> 3).toNat : Int) := shr_int x 3
theorem shr10_int (x : W) : (x.toNat : Int) / (1024 : Int) = ((x >>> 10).toNat : Int) := shr_int x 10
theorem sum4_int (a b c d : W) : ((a.toNat : Int) + (b.toNat : Int) + (c.toNat : Int) + (d.toNat : Int)) % 4294967296 = (((a + b) + c + d).toNat : Int) := by
  simp only [BitVec.toNat_add]; omega
theorem sched_int (a x b y : W) : ((a.toNat : Int) + bits .xor .u32 (bits .xor .u32 ((rotr x 7).toNat : Int) ((rotr x 18).toNat : Int)) ((x.toNat : Int) / 8) + (b.toNat : Int) +
    bits .xor .u32 (bits .xor .u32 ((rotr y 17).toNat : Int) ((rotr y 19).toNat : Int)) ((y.toNat : Int) / 1024)) % 4294967296 = ((a + sig0 x + b + sig1 y).toNat : Int) := by
  rw [shr3_int, shr10_int, xor_int, xor_int, xor_int, xor_int, sum4_int]; rfl

theorem not_int (v : W) : bits .xor .u32 IntKind.u32.max (v.toNat : Int) = ((~~~v).toNat : Int) := by
  have h := v.isLt
  show bits .xor .u32 ((4294967295 : Nat) : Int) (v.toNat : Int) = _
  rw [u32_xor_nat _ _ (by omega) h]
  rw [show (4294967295 : Nat) = (BitVec.allOnes 32).toNat from rfl, ← BitVec.toNat_xor, BitVec.allOnes_xor]

/-- the table, as a value -/
def tabL : List Value := table.map fun (n : Nat) => .int .u32 (n : Int)
def tabV : Array Value := tabL.toArray
/-- a world whose block g holds the table -/
def TabB (w : World) (g : Nat) : Prop := ∃ t fr, w.heap[g]? = some (.cells tabV t fr)
theorem TabB.fr {S : Nat → Prop} {w w' : World} {g : Nat} (h : TabB w g) (hf : Fr S w w') (hn : ¬ S g) : TabB w' g := by
  obtain ⟨t, fr, h⟩ := h
  exact ⟨t, fr, (hf.block g (Array.getElem?_eq_some_iff.1 h).1 hn).trans h⟩
theorem TabB.below {w w' : World} {g : Nat} (h : TabB w g) (hf : Below w.heap.size w w') : TabB w' g := by
  obtain ⟨t, fr, h⟩ := h
  exact ⟨t, fr, (hf.block g (Array.getElem?_eq_some_iff.1 h).1).trans h⟩
theorem tab_at (t : Nat) (h : t < 64) : tabV[t]? = some (.int .u32 ((K t).toNat : Int)) := by
  have : ∀ t, t < 64 → table[t]? = some (K t).toNat := by decide +kernel
  have h2 := this t h
  simp [tabV, tabL, h2]

theorem index_tab (t : Nat) (h : t < 64) (w : World) : (Instr.index 76 (.agg tabV) (.int .i64 (t : Int))).run Tryd.prog w = .ok (.int .u32 ((K t).toNat : Int)) w := by
  have hs := tab_at t h
  have e : (((t : Nat) : Int)).toNat = t := by omega
  have h0 : (0 : Int) ≤ (t : Int) := by omega
  simp [Instr.index, go_sem, hs, h0, e]
  intro h2; omega

theorem turn_still (x : W) (k : Int) (w : World) (h1 : 1 ≤ k) (h2 : k ≤ 31) :
    Calls Tryd.prog 50 #[.int .u32 (x.toNat : Int), .int .i64 k] w fun e w' => e = .returned (.int .u32 ((rotr x k.toNat).toNat : Int)) ∧ w' = w :=
  (turn x k w h1 h2).mono fun _ _ h => ⟨h.1, h.2.symm⟩

theorem be_int (x y z u : UInt8) : bits .or .u32 (bits .or .u32 (bits .or .u32 ((x.toNat : Int) * 16777216) ((y.toNat : Int) * 65536)) ((z.toNat : Int) * 256)) (u.toNat : Int) = ((be x y z u).toNat : Int) := by
  have hx := x.toNat_lt
  have hy := y.toNat_lt
  have hz := z.toNat_lt
  have hu := u.toNat_lt
  have sh : ∀ (c : UInt8) (m : Nat), m ≤ 24 → (c.toNat : Int) * 2 ^ m = ((BitVec.ofNat 32 c.toNat <<< m).toNat : Int) := by
    intro c m hm
    have hc := c.toNat_lt
    rw [← shl_int]
    have e : (BitVec.ofNat 32 c.toNat).toNat = c.toNat := by rw [BitVec.toNat_ofNat]; omega
    have e2 : (c.toNat : Int) * 2 ^ m = ((c.toNat * 2 ^ m : Nat) : Int) := by rw [Int.natCast_mul, Int.natCast_pow]; rfl
    rw [e, e2]
    have h2 : 2 ^ m ≤ 2 ^ 24 := Nat.pow_le_pow_right (by omega) hm
    have h3 : c.toNat * 2 ^ m ≤ 255 * 2 ^ 24 := Nat.mul_le_mul (by omega) h2
    omega
  have a1 := sh x 24 (by omega)
  have a2 := sh y 16 (by omega)
  have a3 := sh z 8 (by omega)
  have a4 : (u.toNat : Int) = ((BitVec.ofNat 32 u.toNat).toNat : Int) := by rw [BitVec.toNat_ofNat]; omega
  rw [show ((2 : Int) ^ 24) = 16777216 from rfl] at a1
  rw [show ((2 : Int) ^ 16) = 65536 from rfl] at a2
  rw [show ((2 : Int) ^ 8) = 256 from rfl] at a3
  rw [a1, a2, a3, a4, or_int, or_int, or_int]; rfl

/-- the first loop's relation -/
def MixRel (s : St) (l : List UInt8) (B : Nat) (w wr : World) (t : Nat) : Prop :=
  Below B w wr ∧ wr.heap.size = B + 3 ∧ Blk wr B (s.l.map word) 89 ∧ Blk wr (B + 1) (List.replicate 8 (.int .u32 0)) 89 ∧
    Blk wr (B + 1 + 1) ((sched l t).map word ++ List.replicate (64 - t) (.int .u32 0)) 76
theorem mix_start (s : St) (l : List UInt8) (w : World) :
    MixRel s l w.heap.size w (((w.alloc (.cells (s.l.map word).toArray 89)).alloc (.cells (List.replicate 8 (.int .u32 0)).toArray 89)).alloc (.cells (List.replicate 64 (.int .u32 0)).toArray 76)) 0 := by
  refine ⟨?_, by simp, ?_, ?_, ?_⟩
  · exact (((Below.refl _ _).alloc (Nat.le_refl _) _).alloc (by simp) _).alloc (by simp; omega) _
  · exact ((Blk.new w _ _ (s.l.map word) rfl).alloc _).alloc _
  · have := (Blk.new (w.alloc (.cells (s.l.map word).toArray 89)) (List.replicate 8 (.int .u32 0)).toArray 89 _ rfl)
    simp only [World.size_alloc] at this
    exact this.alloc _
  · have := (Blk.new ((w.alloc (.cells (s.l.map word).toArray 89)).alloc (.cells (List.replicate 8 (.int .u32 0)).toArray 89)) (List.replicate 64 (.int .u32 0)).toArray 76 _ rfl)
    simp only [World.size_alloc] at this
    exact this
theorem sched_succ (l : List UInt8) (t : Nat) : sched l (t + 1) = sched l t ++ [wd l t] := by
  have hl := sched_length l t
  conv => rhs; rw [wd, sched, List.getD_eq_getElem?_getD, List.getElem?_append_right (by omega)]
  simp [sched, hl]
theorem MixRel.drew {s : St} {l : List UInt8} {B : Nat} {w wr : World} {t : Nat} (h : MixRel s l B w wr t) : MixRel s l B w wr.drew t := ⟨h.1.drew, h.2⟩
theorem MixRel.drewN {s : St} {l : List UInt8} {B : Nat} {w wr : World} {t : Nat} (h : MixRel s l B w wr t) (n : Nat) : MixRel s l B w (wr.drewN n) t := ⟨below_drewN h.1 n, h.2⟩
theorem mix_step {s : St} {l : List UInt8} {B : Nat} {w wr : World} {t : Nat} (ht : t < 64) (h : MixRel s l B w wr t) :
    MixRel s l B w (wr.setCell ⟨B + 1 + 1, t, none⟩ (.int .u32 ((wd l t).toNat : Int))) (t + 1) := by
  obtain ⟨h1, h2, h3, h4, h5⟩ := h
  refine ⟨h1.setCell (by show B ≤ B + 1 + 1; omega) _, by simpa using h2, h3.other (by show B + 1 + 1 ≠ B; omega) _, h4.other (by show B + 1 + 1 ≠ B + 1; omega) _, ?_⟩
  have := h5.set t (.int .u32 ((wd l t).toNat : Int))
  have hl := sched_length l t
  rw [List.set_append_right _ _ (by simp [hl])] at this
  rw [sched_succ, List.map_append, List.append_assoc]
  have e : (List.replicate (64 - t) (Value.int .u32 0)).set (t - ((sched l t).map word).length) (.int .u32 ((wd l t).toNat : Int)) = List.map word [wd l t] ++ List.replicate (64 - (t + 1)) (.int .u32 0) := by
    rw [List.length_map, hl, Nat.sub_self]
    obtain ⟨m, hm⟩ : ∃ m, 64 - t = m + 1 := ⟨63 - t, by omega⟩
    rw [hm, show 64 - (t + 1) = m from by omega]
    rfl
  rw [e] at this
  exact this
theorem mix_cell {s : St} {l : List UInt8} {B : Nat} {w wr : World} {t : Nat} (h : MixRel s l B w wr t) (j : Nat) (hj : j < t) : wr.cell? ⟨B + 1 + 1, j, none⟩ = some (.int .u32 ((wd l j).toNat : Int)) := by
  refine h.2.2.2.2.cell ?_
  have hl := sched_length l t
  rw [List.getElem?_append_left (by simp [hl]; omega)]
  have := sched_getD l t j hj
  rw [List.getD_eq_getElem?_getD, List.getElem?_eq_getElem (by omega)] at this
  simp [hl, hj]
  rw [← this]; rfl
theorem mix_old {s : St} {l : List UInt8} {B : Nat} {w wr : World} {t : Nat} (h : MixRel s l B w wr t) (ht : t < 64) : wr.cell? ⟨B + 1 + 1, t, none⟩ = some (.int .u32 0) := by
  refine h.2.2.2.2.cell ?_
  rw [List.getElem?_append_right (by simp [sched_length])]
  simp [sched_length, List.getElem?_replicate]; omega

/-- the second loop's relation -/
def RndRel (s : St) (l : List UInt8) (B R : Nat) (w wr : World) (t : Nat) : Prop :=
  Below B w wr ∧ wr.heap.size = R + 1 ∧ B + 3 = R ∧ Blk wr B (s.l.map word) 89 ∧ Blk wr (B + 1) (List.replicate 8 (.int .u32 0)) 89 ∧
    Blk wr (B + 1 + 1) ((sched l 64).map word) 76 ∧ Blk wr R ((rounds l s t).l.map word) 89
theorem rnd_start {s : St} {l : List UInt8} {B : Nat} {w wr : World} (h : MixRel s l B w wr 64) : RndRel s l B wr.heap.size w (wr.alloc (.cells (s.l.map word).toArray 89)) 0 := by
  obtain ⟨h1, h2, h3, h4, h5⟩ := h
  refine ⟨h1.alloc (by omega) _, by simp, h2.symm, h3.alloc _, h4.alloc _, ?_, Blk.new _ _ _ _ rfl⟩
  have h5 : Blk wr (B + 1 + 1) ((sched l 64).map word ++ []) 76 := h5
  rw [List.append_nil] at h5
  exact h5.alloc _
theorem RndRel.drewN {s : St} {l : List UInt8} {B R : Nat} {w wr : World} {t : Nat} (h : RndRel s l B R w wr t) (n : Nat) : RndRel s l B R w (wr.drewN n) t := ⟨below_drewN h.1 n, h.2⟩
theorem rnd_step {s : St} {l : List UInt8} {B R : Nat} {w wr : World} {t : Nat} (h : RndRel s l B R w wr t) {a b c d e f g i : W} (hr : rnd (rounds l s t) (K t) (wd l t) = ⟨a, b, c, d, e, f, g, i⟩) :
    RndRel s l B R w ((((((((wr.setCell ⟨R, 0, none⟩ (word a)).setCell ⟨R, 1, none⟩ (word b)).setCell ⟨R, 2, none⟩ (word c)).setCell ⟨R, 3, none⟩ (word d)).setCell ⟨R, 4, none⟩ (word e)).setCell ⟨R, 5, none⟩ (word f)).setCell ⟨R, 6, none⟩ (word g)).setCell ⟨R, 7, none⟩ (word i)) (t + 1) := by
  obtain ⟨h1, h2, h3, h4, h5, h6, h7⟩ := h
  have ne0 : R ≠ B := by omega
  have ne1 : R ≠ B + 1 := by omega
  have ne2 : R ≠ B + 1 + 1 := by omega
  have le : B ≤ R := by omega
  refine ⟨(((((((h1.setCell le _).setCell le _).setCell le _).setCell le _).setCell le _).setCell le _).setCell le _).setCell le _, by simpa using h2, h3,
    (((((((h4.other ne0 _).other ne0 _).other ne0 _).other ne0 _).other ne0 _).other ne0 _).other ne0 _).other ne0 _,
    (((((((h5.other ne1 _).other ne1 _).other ne1 _).other ne1 _).other ne1 _).other ne1 _).other ne1 _).other ne1 _,
    (((((((h6.other ne2 _).other ne2 _).other ne2 _).other ne2 _).other ne2 _).other ne2 _).other ne2 _).other ne2 _, ?_⟩
  have := (((((((h7.set 0 (word a)).set 1 (word b)).set 2 (word c)).set 3 (word d)).set 4 (word e)).set 5 (word f)).set 6 (word g)).set 7 (word i)
  have e1 : rounds l s (t + 1) = ⟨a, b, c, d, e, f, g, i⟩ := hr
  rw [e1]
  exact this
theorem sum5_int (a b c d e : W) : ((a.toNat : Int) + (b.toNat : Int) + (c.toNat : Int) + (d.toNat : Int) + (e.toNat : Int)) % 4294967296 = ((((a + b) + c) + d + e).toNat : Int) := by
  simp only [BitVec.toNat_add]; omega
theorem wx_int (s : St) (k w : W) : ((s.h.toNat : Int) + bits .xor .u32 (bits .xor .u32 ((rotr s.e 6).toNat : Int) ((rotr s.e 11).toNat : Int)) ((rotr s.e 25).toNat : Int) +
    bits .xor .u32 (bits .and .u32 (s.e.toNat : Int) (s.f.toNat : Int)) (bits .and .u32 (bits .xor .u32 IntKind.u32.max (s.e.toNat : Int)) (s.g.toNat : Int)) + (k.toNat : Int) + (w.toNat : Int)) % 4294967296 = ((wx s k w).toNat : Int) := by
  rw [not_int, and_int, and_int, xor_int, xor_int, xor_int, sum5_int]; rfl
theorem wy_int (x : W) (s : St) : ((x.toNat : Int) + (bits .xor .u32 (bits .xor .u32 ((rotr s.a 2).toNat : Int) ((rotr s.a 13).toNat : Int)) ((rotr s.a 22).toNat : Int) +
    bits .xor .u32 (bits .xor .u32 (bits .and .u32 (s.a.toNat : Int) (s.b.toNat : Int)) (bits .and .u32 (s.a.toNat : Int) (s.c.toNat : Int))) (bits .and .u32 (s.b.toNat : Int) (s.c.toNat : Int)))) % 4294967296 = ((x + wy s).toNat : Int) := by
  rw [and_int, and_int, and_int, xor_int, xor_int, xor_int, xor_int]
  show ((x.toNat : Int) + (((Sig0 s.a).toNat : Int) + ((maj s.a s.b s.c).toNat : Int))) % 4294967296 = _
  unfold wy
  simp only [BitVec.toNat_add]; omega
theorem mixed_eq (s : St) (l : List UInt8) (r : St) (h : rounds l s 64 = r) : mixed s l = s.add r := by subst h; rfl
/-- the third loop's list: the first t words are summed -/
def part (s r : St) (t : Nat) : List W := (s.add r).l.take t ++ s.l.drop t
def SumRel (s r : St) (B R : Nat) (w wr : World) (t : Nat) : Prop :=
  Below B w wr ∧ wr.heap.size = R + 1 ∧ B + 3 = R ∧ Blk wr B ((part s r t).map word) 89 ∧ Blk wr (B + 1) (List.replicate 8 (.int .u32 0)) 89 ∧ Blk wr R (r.l.map word) 89
theorem sum_start {s : St} {l : List UInt8} {B R : Nat} {w wr : World} {t : Nat} (h : RndRel s l B R w wr t) : SumRel s (rounds l s t) B R w wr 0 := by
  obtain ⟨h1, h2, h3, h4, h5, h6, h7⟩ := h
  exact ⟨h1, h2, h3, h4, h5, h7⟩
theorem part_cell (s r : St) (t : Nat) (h : t < 8) : ((part s r t).map word)[t]? = some (word (s.l.getD t 0)) := by
  match t, h with
  | 0, _ | 1, _ | 2, _ | 3, _ | 4, _ | 5, _ | 6, _ | 7, _ => rfl
  | j + 8, h => omega
theorem r_cell (r : St) (t : Nat) (h : t < 8) : (r.l.map word)[t]? = some (word (r.l.getD t 0)) := by
  match t, h with
  | 0, _ | 1, _ | 2, _ | 3, _ | 4, _ | 5, _ | 6, _ | 7, _ => rfl
  | j + 8, h => omega
theorem part_set (s r : St) (t : Nat) (h : t < 8) : ((part s r t).map word).set t (word (s.l.getD t 0 + r.l.getD t 0)) = (part s r (t + 1)).map word := by
  match t, h with
  | 0, _ | 1, _ | 2, _ | 3, _ | 4, _ | 5, _ | 6, _ | 7, _ => rfl
  | j + 8, h => omega
theorem sum_step {s r : St} {B R : Nat} {w wr : World} {t : Nat} (ht : t < 8) (h : SumRel s r B R w wr t) :
    SumRel s r B R w (wr.setCell ⟨B, t, none⟩ (.int .u32 (((s.l.getD t 0 + r.l.getD t 0)).toNat : Int))) (t + 1) := by
  obtain ⟨h1, h2, h3, h4, h5, h7⟩ := h
  refine ⟨h1.setCell (Nat.le_refl _) _, by simpa using h2, h3, ?_, h5.other (by show B ≠ B + 1; omega) _, h7.other (by show B ≠ R; omega) _⟩
  rw [← part_set s r t ht]
  exact h4.set _ _
theorem SumRel.drew {s r : St} {B R : Nat} {w wr : World} {t : Nat} (h : SumRel s r B R w wr t) : SumRel s r B R w wr.drew t := ⟨h.1.drew, h.2⟩
theorem sched_cell {l : List UInt8} {b : Nat} {wr : World} {e : TypeId} (h : Blk wr b ((sched l 64).map word) e) (j : Nat) (hj : j < 64) : wr.cell? ⟨b, j, none⟩ = some (.int .u32 ((wd l j).toNat : Int)) := by
  refine h.cell ?_
  have hl := sched_length l 64
  have := sched_getD l 64 j hj
  rw [List.getD_eq_getElem?_getD, List.getElem?_eq_getElem (by omega)] at this
  simp [hl, hj]
  rw [← this]; rfl
theorem St.cells {s : St} {w : World} {b : Nat} {e : TypeId} (h : Blk w b (s.l.map word) e) :
    w.cell? ⟨b, 0, none⟩ = some (.int .u32 (s.a.toNat : Int)) ∧ w.cell? ⟨b, 1, none⟩ = some (.int .u32 (s.b.toNat : Int)) ∧ w.cell? ⟨b, 2, none⟩ = some (.int .u32 (s.c.toNat : Int)) ∧ w.cell? ⟨b, 3, none⟩ = some (.int .u32 (s.d.toNat : Int)) ∧
    w.cell? ⟨b, 4, none⟩ = some (.int .u32 (s.e.toNat : Int)) ∧ w.cell? ⟨b, 5, none⟩ = some (.int .u32 (s.f.toNat : Int)) ∧ w.cell? ⟨b, 6, none⟩ = some (.int .u32 (s.g.toNat : Int)) ∧ w.cell? ⟨b, 7, none⟩ = some (.int .u32 (s.h.toNat : Int)) :=
  ⟨h.cell rfl, h.cell rfl, h.cell rfl, h.cell rfl, h.cell rfl, h.cell rfl, h.cell rfl, h.cell rfl⟩

set_option maxHeartbeats 2000000 in
set_option maxRecDepth 100000 in
theorem mixed_calls (s : St) (v : Value) (l : List UInt8) (w : World) {D : Nat → Prop} (hB : Byt D w v l) (hl : l.length = 64) (hT : TabB w 1) :
    Calls Tryd.prog 45 #[.agg (s.l.map word).toArray, v] w fun e w' => e = .returned (.agg ((mixed s l).l.map word).toArray) ∧ Below w.heap.size w w' := by
  obtain ⟨a, c, rfl, hk, hby⟩ := hB
  obtain ⟨b, off, rfl, _, hc⟩ := hby.resolve_left (by intro e; subst e; simp at hl)
  have hl1 : 64 ≤ l.length := by omega
  have hl2 : l.length ≤ 64 := by omega
  have hlt : b < w.heap.size := hc.lt (by intro e; subst e; simp at hl)
  clear hl hby
  go_enter Tryd.func45, Tryd.ntmps45
  go_wp2
  go_loopw [6, 7, 8, 15] (fun _ _ _ i wr => ∃ t : Nat, t ≤ 64 ∧ i = .int .i64 t ∧ MixRel s l w.heap.size w wr t) (fun _ _ _ i _ => 64 - (intOf i).toNat)
  case atStart => exact ⟨0, by omega, rfl, mix_start s l w⟩
  case round =>
    obtain ⟨t, ht, rfl, hM⟩ := hrel
    by_cases h64 : t < 64
    · have hold := mix_old hM h64
      have hfz := hM.2.2.2.2.free t
      have HS := Lib.hid (mix_step h64 hM)
      by_cases h16 : t < 16
      · have hb := hM.1
        have c0 := (hc.fr (Fr.ofBelow hb) (by omega)) (4 * t) (by omega)
        have c1 := (hc.fr (Fr.ofBelow hb) (by omega)) (4 * t + 1) (by omega)
        have c2 := (hc.fr (Fr.ofBelow hb) (by omega)) (4 * t + 2) (by omega)
        have c3 := (hc.fr (Fr.ofBelow hb) (by omega)) (4 * t + 3) (by omega)
        have hw : wd l t = be (l[4 * t]'(by omega)) (l[4 * t + 1]'(by omega)) (l[4 * t + 2]'(by omega)) (l[4 * t + 3]'(by omega)) := by
          rw [wd_low l t h16]
          simp [first, List.getD_eq_getElem?_getD, show 4 * t < l.length from by omega, show 4 * t + 1 < l.length from by omega, show 4 * t + 2 < l.length from by omega, show 4 * t + 3 < l.length from by omega]
        rw [hw] at HS
        have hx0 := (l[4 * t]'(by omega)).toNat_lt
        have hx1 := (l[4 * t + 1]'(by omega)).toNat_lt
        have hx2 := (l[4 * t + 2]'(by omega)).toNat_lt
        have hx3 := (l[4 * t + 3]'(by omega)).toNat_lt
        clear hb hw hM hT
        go_wp2
        go_region
        go_wp2
        go_roundw
        case rel =>
          refine ⟨t + 1, by omega, by go_num, ?_⟩
          rw [be_int]
          exact HS.out.drew
        case measure => simp [intOf]; omega
      · have c1 := mix_cell hM (t - 15) (by omega)
        have c3 := mix_cell hM (t - 2) (by omega)
        have HM := Lib.hid hM
        clear hM hT hold hfz HS
        go_wp2
        go_quiet (fail)
        go_wp2
        have HM := HM.out.drewN nq
        clear c1 c3
        generalize wr.drewN nq = wr at *
        have c0 := mix_cell HM (t - 16) (by omega)
        have c2 := mix_cell HM (t - 7) (by omega)
        have hold := mix_old HM h64
        have hfz := HM.2.2.2.2.free t
        have HS := Lib.hid (mix_step h64 HM)
        rw [wd_high l t (by omega)] at HS
        have e1 : IntKind.i64.wrap ((t : Int) - 16) = ((t - 16 : Nat) : Int) := by rw [IntWalk.i64_in _ (by omega)]; omega
        have e2 : IntKind.i64.wrap ((t : Int) - 7) = ((t - 7 : Nat) : Int) := by rw [IntWalk.i64_in _ (by omega)]; omega
        have e3 : ((t - 16 : Nat) : Int) < 64 := by omega
        have e4 : ((t - 7 : Nat) : Int) < 64 := by omega
        have e5 : (t : Int) < 64 := by omega
        clear HM
        refine wp_region_still_tail 29 (by kernel_rfl) (by kernel_rfl) ?_
        change wpStill _ _ wr.drew _ _ _
        simp only [List.take_succ_cons, List.take_zero, List.drop_succ_cons, List.drop_zero]
        repeat (first | still_step | still_call (turn_still _ _ _ (by omega) (by omega)))
        refine wpStill_nil ?_
        go_wp2
        go_roundw
        case rel =>
          refine ⟨t + 1, by omega, by go_num, ?_⟩
          rw [sched_int]
          exact HS.out.drew
        case measure => simp [intOf]; omega
    · obtain rfl : t = 64 := by omega
      obtain ⟨g0, g1, g2, g3, g4, g5, g6, g7⟩ := St.cells hM.2.2.1
      have hTr := hT.fr (Fr.ofBelow hM.1) (by have := hT.choose_spec.choose_spec; have := (Array.getElem?_eq_some_iff.1 this).1; omega)
      obtain ⟨tt, tfr, hTb⟩ := hTr
      have HM := Lib.hid hM
      have HT := Lib.hid hTb
      have hglt : 1 < wr.heap.size := (Array.getElem?_eq_some_iff.1 hTb).1
      clear hM hT hTb
      go_wp2_with (with_reducible refine wpList_load_row rfl _ _ rfl 1 rfl tt tabV tfr _ ((Below.heap_alloc _ _ _ hglt).trans HT.out) Tryd.underlying76 rfl (by kernel_rfl) ?_)
      have HR := Lib.hid (rnd_start HM.out)
      clear HM HT g0 g1 g2 g3 g4 g5 g6 g7 hglt
      generalize wr.heap.size = R at *
      go_loopw [10, 11, 12, 13, 95] (fun _ _ _ _ i wq => ∃ t : Nat, t ≤ 64 ∧ i = .int .i64 t ∧ RndRel s l w.heap.size R w wq t) (fun _ _ _ _ i _ => 64 - (intOf i).toNat)
      case atStart => exact ⟨0, by omega, rfl, HR.out⟩
      case round =>
        obtain ⟨t, ht, rfl, hM⟩ := hrel
        by_cases h64 : t < 64
        · obtain ⟨g0, g1, g2, g3, g4, g5, g6, g7⟩ := St.cells hM.2.2.2.2.2.2
          have hfz := hM.2.2.2.2.2.2.free
          have hw := sched_cell hM.2.2.2.2.2.1 t h64
          have hix := fun w => index_tab t h64 w
          have HM := Lib.hid hM
          clear hM
          go_wp2
          go_quiet ((go_at_call 50; exact Calls.quiet_of_same (turn_still _ _ _ (by omega) (by omega))))
          go_wp2
          rw [wx_int]
          have hM := HM.out.drewN nq
          clear HM g0 g1 g2 g3 g4 g5 g6 g7 hfz hw
          generalize wr.drewN nq = wr at *
          obtain ⟨g0, g1, g2, g3, g4, g5, g6, g7⟩ := St.cells hM.2.2.2.2.2.2
          have HM := Lib.hid hM
          clear hM
          go_wp2
          go_quiet ((go_at_call 50; exact Calls.quiet_of_same (turn_still _ _ _ (by omega) (by omega))))
          have hM := HM.out.drewN nq
          clear HM g0 g1 g2 g3 g4 g5 g6 g7
          generalize wr.drewN nq = wr at *
          obtain ⟨g0, g1, g2, g3, g4, g5, g6, g7⟩ := St.cells hM.2.2.2.2.2.2
          have hfz := hM.2.2.2.2.2.2.free
          have HM := Lib.hid hM
          clear hM
          go_wp2
          go_roundw
          case rel =>
            refine ⟨t + 1, by omega, by go_num, ?_⟩
            have := rnd_step HM.out rfl
            rw [wy_int, add_int]
            exact this
          case measure => simp [intOf]; omega
        · obtain rfl : t = 64 := by omega
          have HM := Lib.hid (sum_start hM)
          clear hM HR
          generalize hr : rounds l s 64 = r at *
          have HRD := Lib.hid (mixed_eq s l r hr)
          clear hr
          go_wp2
          go_loopw [14, 182] (fun _ i wq => ∃ t : Nat, t ≤ 8 ∧ i = .int .i64 t ∧ SumRel s r w.heap.size R w wq t) (fun _ i _ => 8 - (intOf i).toNat)
          case atStart => exact ⟨0, by omega, rfl, HM.out⟩
          case round =>
            obtain ⟨t, ht, rfl, hM⟩ := hrel
            by_cases h8 : t < 8
            · have c1 := hM.2.2.2.1.cell (part_cell s r t h8)
              have c2 := hM.2.2.2.2.2.cell (r_cell r t h8)
              have hfz := hM.2.2.2.1.free t
              have HS := Lib.hid (sum_step h8 hM)
              unfold word at c1 c2
              clear hM HM
              go_wp2
              go_region
              go_wp2
              go_roundw
              case rel =>
                refine ⟨t + 1, by omega, by go_num, ?_⟩
                rw [add_int]
                exact HS.out.drew
              case measure => simp [intOf]; omega
            · obtain rfl : t = 8 := by omega
              obtain ⟨g0, g1, g2, g3, g4, g5, g6, g7⟩ := St.cells (s := s.add r) hM.2.2.2.1
              have o0 := hM.2.2.2.2.1.cell (i := 0) rfl
              have o1 := hM.2.2.2.2.1.cell (i := 1) rfl
              have o2 := hM.2.2.2.2.1.cell (i := 2) rfl
              have o3 := hM.2.2.2.2.1.cell (i := 3) rfl
              have o4 := hM.2.2.2.2.1.cell (i := 4) rfl
              have o5 := hM.2.2.2.2.1.cell (i := 5) rfl
              have o6 := hM.2.2.2.2.1.cell (i := 6) rfl
              have o7 := hM.2.2.2.2.1.cell (i := 7) rfl
              have hfz := hM.2.2.2.2.1.free
              have HB := Lib.hid hM.1
              clear hM HM
              go_wp2
              refine bodyPost_ret (v := .agg ((s.add r).l.map word).toArray) (by simp [results, Tryd.results45, go_sem, o0, o1, o2, o3, o4, o5, o6, o7, St.l, word]) rfl ?_
              refine ⟨congrArg (fun z : St => Ending.returned (.agg (z.l.map word).toArray)) HRD.out.symm, ?_⟩
              iterate 8 (refine Below.setCell ?_ (by show w.heap.size ≤ w.heap.size + 1; omega) _)
              exact HB.out
end Go.Proofs.YtmenchnjajpkmaaDoor.ShaW
