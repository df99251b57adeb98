/- The walks of the checksum: the program's Sum and the reference's, on whatever bytes, come to Crc.crc. No condition but that the bytes are as many as a slice can have. -/
import Derived.Test.YtjdohjoljobinaaProg
import Derived.Test.YtjdohjoljobinaaCrc
import Derived.Test.YtjdohjoljobinaaMem
import Derived.WalkKit
import Derived.Lib.Hide
namespace Go.Proofs.Ytjdohjoljobinaa.SumW
open Go.RowKit Crc Mem

theorem bst_int (v : BitVec 32) : bits .xor .u32 ((v.toNat : Int) / 2) (3988292384 * bits .and .u32 (v.toNat : Int) 1 % 4294967296) = ((bst v).toNat : Int) := by
  have h := v.isLt
  have e1 : bits .and .u32 (v.toNat : Int) 1 = ((v.toNat &&& 1 : Nat) : Int) := u32_and_nat v.toNat 1 h (by omega)
  rw [e1, show (3988292384 * ((v.toNat &&& 1 : Nat) : Int) % 4294967296) = ((3988292384 * (v.toNat &&& 1) % 4294967296 : Nat) : Int) from by omega,
    show (v.toNat : Int) / 2 = ((v.toNat / 2 : Nat) : Int) from by omega]
  rw [u32_xor_nat _ _ (by omega) (by omega)]
  unfold bst poly
  rw [BitVec.toNat_xor, BitVec.toNat_ushiftRight, Nat.shiftRight_eq_div_pow, BitVec.toNat_mul, BitVec.toNat_and]
  rfl

theorem xor_int (v : BitVec 32) (c : UInt8) : bits .xor .u32 (v.toNat : Int) (c.toNat : Int) = ((cx v c).toNat : Int) := by
  have h := v.isLt
  have h2 := c.toNat_lt
  unfold cx
  rw [u32_xor_nat _ _ h (by omega), BitVec.toNat_xor]
  congr 2

theorem and15_int (v : BitVec 32) : bits .and .u32 (v.toNat : Int) 15 = ((v.toNat % 16 : Nat) : Int) := by
  have h := v.isLt
  have : bits .and .u32 (v.toNat : Int) 15 = ((v.toNat &&& 15 : Nat) : Int) := u32_and_nat v.toNat 15 h (by omega)
  rw [this, show (15 : Nat) = 2 ^ 4 - 1 from rfl, Nat.and_two_pow_sub_one_eq_mod]

def halfN (j : Nat) : BitVec 32 := half (BitVec.ofNat 32 j)

theorem nib_int (v : BitVec 32) : bits .xor .u32 ((halfN (v.toNat % 16)).toNat : Int) ((v.toNat : Int) / 16) = ((nib v).toNat : Int) := by
  have h := v.isLt
  have h2 := (halfN (v.toNat % 16)).isLt
  rw [show (v.toNat : Int) / 16 = ((v.toNat / 16 : Nat) : Int) from by omega, u32_xor_nat _ _ h2 (by omega)]
  unfold nib
  rw [BitVec.toNat_xor, BitVec.toNat_ushiftRight, Nat.shiftRight_eq_div_pow]
  have : BitVec.ofNat 32 (v.toNat % 16) = v &&& 15#32 := by
    apply BitVec.eq_of_toNat_eq
    rw [BitVec.toNat_and, BitVec.toNat_ofNat]
    show _ = v.toNat &&& 15
    rw [show (15 : Nat) = 2 ^ 4 - 1 from rfl, Nat.and_two_pow_sub_one_eq_mod]; omega
  unfold halfN; rw [this]

def it : Nat → BitVec 32 → BitVec 32
  | 0, v => v
  | n + 1, v => bst (it n v)

theorem run_snoc (v : BitVec 32) (l : List UInt8) (k : Nat) (h : k < l.length) : run v (l.take (k + 1)) = cstep (run v (l.take k)) l[k] := by
  rw [List.take_succ_eq_append_getElem h, run_append]; rfl

def tabRel (B : Nat) (w wr : World) (k : Nat) : Prop :=
  Below B w wr ∧ wr.heap.size = B + 1 ∧ (∀ j, j < 16 → wr.cell? ⟨B, j, none⟩ = some (.int .u32 (if j < k then ((halfN j).toNat : Int) else 0))) ∧ ∀ j, wr.frozen? ⟨B, j, none⟩ = false

theorem tab_start (B : Nat) (w : World) (hB : B = w.heap.size) (cs : Array Value) (e : TypeId) (hcs : ∀ j, j < 16 → cs[j]? = some (.int .u32 0)) : tabRel B w (w.alloc (.cells cs e)) 0 := by
  subst hB
  refine ⟨(Below.refl _ _).alloc (Nat.le_refl _) _, by simp, ?_, ?_⟩
  · intro j hj; rw [World.cell?_alloc_new, hcs j hj]; simp
  · intro j; exact World.frozen?_alloc_new _ _ _ _

theorem tab_step (B : Nat) (w wr : World) (k : Nat) (hk : k < 16) (h : tabRel B w wr k) : tabRel B w (wr.setCell ⟨B, k, none⟩ (.int .u32 ((halfN k).toNat : Int))) (k + 1) := by
  obtain ⟨h1, h2, h3, h4⟩ := h
  refine ⟨h1.setCell (Nat.le_refl _) _, by simpa [World.setCell] using h2, ?_, ?_⟩
  · intro j hj
    by_cases e : j = k
    · subst e
      rw [if_pos (by omega)]
      have := h3 j hj
      exact World.cell?_setCell_same _ _ _ this
    · rw [show (if j < k + 1 then ((halfN j).toNat : Int) else 0) = (if j < k then ((halfN j).toNat : Int) else 0) from by
        by_cases c : j < k
        · rw [if_pos c, if_pos (by omega)]
        · rw [if_neg c, if_neg (by omega)]]
      rw [← h3 j hj]
      exact World.cell?_setCell_other _ _ _ _ (by intro q; injection q; omega)
  · intro j; rw [World.frozen?_setCell]; exact h4 j

theorem halfN_eq (k : Nat) : halfN k = it 4 (BitVec.ofNat 32 k) := rfl

theorem not_int (v : BitVec 32) : bits .xor .u32 IntKind.u32.max (v.toNat : Int) = ((~~~v).toNat : Int) := by
  have h := v.isLt
  show bits .xor .u32 ((4294967295 : Nat) : Int) (v.toNat : Int) = _
  rw [u32_xor_nat _ _ (by omega) h]
  rw [show (4294967295 : Nat) = (BitVec.allOnes 32).toNat from rfl, ← BitVec.toNat_xor, BitVec.allOnes_xor]

theorem not_int' (v : BitVec 32) : bits .xor .u32 (v.toNat : Int) 4294967295 = ((~~~v).toNat : Int) := by
  have h := v.isLt
  show bits .xor .u32 (v.toNat : Int) ((4294967295 : Nat) : Int) = _
  rw [u32_xor_nat _ _ h (by omega)]
  rw [show (4294967295 : Nat) = (BitVec.allOnes 32).toNat from rfl, ← BitVec.toNat_xor, BitVec.xor_allOnes]

def polyI (v : BitVec 32) : BitVec 32 := (v >>> 1) ^^^ poly
theorem poly_int (v : BitVec 32) : bits .xor .u32 ((v.toNat : Int) / 2) 3988292384 = ((polyI v).toNat : Int) := by
  have h := v.isLt
  rw [show (v.toNat : Int) / 2 = ((v.toNat / 2 : Nat) : Int) from by omega]
  show bits .xor .u32 _ ((3988292384 : Nat) : Int) = _
  rw [u32_xor_nat _ _ (by omega) (by omega)]
  unfold polyI
  rw [BitVec.toNat_xor, BitVec.toNat_ushiftRight, Nat.shiftRight_eq_div_pow]; rfl

def itR : Nat → BitVec 32 → BitVec 32
  | 0, v => v
  | n + 1, v => bsr (itR n v)
theorem bsr_odd (v : BitVec 32) (h : v.toNat % 2 = 1) : bsr v = polyI v := by unfold bsr polyI; rw [if_pos h]
theorem bsr_half (v : BitVec 32) (h : ¬ v.toNat % 2 = 1) : ((bsr v).toNat : Int) = (v.toNat : Int) / 2 := by
  unfold bsr; rw [if_neg h, BitVec.toNat_ushiftRight, Nat.shiftRight_eq_div_pow]; omega

attribute [local go_sem] xor_int and15_int nib_int
set_option maxHeartbeats 1000000 in
theorem sum_prog (v : Value) (l : List UInt8) (w : World) (hl : l.length ≤ 140737488351232) {D : Nat → Prop} (hB : Byt D w v l) :
    Calls Try.prog 39 #[v] w fun e w' => e = .returned (.int .u32 ((crc l).toNat : Int)) ∧ Below w.heap.size w w' := by
  obtain ⟨a, c, rfl, _, hby⟩ := hB
  go_enter Try.func39, Try.ntmps39
  go_wp2
  go_loopw [4, 5, 9, 14] (fun _ _ i _ wr => ∃ k : Nat, k ≤ 16 ∧ i = .int .i64 k ∧ tabRel w.heap.size w wr k) (fun _ _ i _ _ => 16 - (intOf i).toNat)
  case atStart => exact ⟨0, by omega, rfl, tab_start _ _ rfl _ _ (fun j hj => by match j, hj with | 0, _ | 1, _ | 2, _ | 3, _ | 4, _ | 5, _ | 6, _ | 7, _ | 8, _ | 9, _ | 10, _ | 11, _ | 12, _ | 13, _ | 14, _ | 15, _ => rfl | j + 16, h => omega)⟩
  case round =>
    obtain ⟨k, hk, rfl, hrel⟩ := hrel
    have hrelT := hrel
    have hz := hrel.2.1
    have hfz := hrel.2.2.2 k
    by_cases hlt : k < 16
    · have hcell := hrel.2.2.1 k hlt
      go_wp2
      go_loopw [5, 14] (fun c i wr2 => ∃ (m : Nat), m ≤ 4 ∧ i = .int .i64 m ∧ c = .int .u32 ((it m (BitVec.ofNat 32 k)).toNat : Int) ∧ wr2 = wr) (fun _ i _ => 4 - (intOf i).toNat)
      case atStart => exact ⟨0, by omega, rfl, by simp [it]; omega, rfl⟩
      case round =>
        obtain ⟨m, hm, rfl, rfl, rfl⟩ := hrel
        by_cases hlt2 : m < 4
        · have hv := (it m (BitVec.ofNat 32 k)).isLt
          have HS := Lib.hid (bst_int (it m (BitVec.ofNat 32 k)))
          clear hrel hz hfz hcell
          go_wp2
          go_roundw
          case rel => exact ⟨m + 1, by omega, by go_num, by rw [HS.out]; rfl, by first | rfl | trivial⟩
          case measure => simp [intOf]; omega
        · have hm4 : m = 4 := by omega
          have hnew := Lib.hid (tab_step w.heap.size w wr k hlt hrel)
          go_wp2
          go_roundw
          case rel => exact ⟨k + 1, by omega, by go_num, by rw [← halfN_eq]; exact hnew.out⟩
          case measure => simp [intOf]; omega
    · obtain rfl : k = 16 := by omega
      go_wp2
      go_loop [6, 29] (fun c i => ∃ k : Nat, k ≤ l.length ∧ i = .int .i64 k ∧ c = .int .u32 ((run (ones) (l.take k)).toNat : Int)) (fun _ i => l.length - (intOf i).toNat)
      case atStart => exact ⟨0, Nat.zero_le _, rfl, rfl⟩
      case round =>
        obtain ⟨k, hk, rfl, rfl⟩ := hrel
        have hv := (run (ones) (l.take k)).isLt
        by_cases hlt2 : k < l.length
        · obtain ⟨b, off, rfl, _, hc⟩ := hby.resolve_left (by intro e; subst e; simp at hlt2)
          have hb : b < w.heap.size := hc.lt (by intro e; subst e; simp at hlt2)
          have hcell : wr.cell? ⟨b, off + k, none⟩ = some (.int .u8 (l[k]'hlt2).toNat) := (hrelT.1.cell hb).trans (hc k hlt2)
          have hx := (l[k]'hlt2).toNat_lt
          have hv1 := (cx (run ones (l.take k)) (l[k]'hlt2)).isLt
          have hv2 := (nib (cx (run ones (l.take k)) (l[k]'hlt2))).isLt
          have ht1 := hrelT.2.2.1 ((cx (run ones (l.take k)) (l[k]'hlt2)).toNat % 16) (by omega)
          rw [if_pos (by omega)] at ht1
          have ht2 := hrelT.2.2.1 ((nib (cx (run ones (l.take k)) (l[k]'hlt2))).toNat % 16) (by omega)
          rw [if_pos (by omega)] at ht2
          have hsn := Lib.hid (run_snoc ones l k hlt2)
          clear hrel hrelT hfz
          go_wp2
          go_round
          case rel => exact ⟨k + 1, by omega, by go_num, by rw [hsn.out]; rfl⟩
          case measure => simp [intOf]; omega
        · have hkl : l.take k = l := List.take_of_length_le (by omega)
          go_wp2
          go_ret
          exact ⟨ret_int (not_int _), hrelT.1⟩

attribute [local go_sem] poly_int
set_option maxHeartbeats 1000000 in
theorem sum_ref (v : Value) (l : List UInt8) (w : World) (hl : l.length ≤ 140737488351232) {D : Nat → Prop} (hB : Byt D w v l) :
    Calls Try.prog 44 #[v] w fun e w' => e = .returned (.int .u32 ((crc l).toNat : Int)) ∧ w = w' := by
  obtain ⟨a, c, rfl, _, hby⟩ := hB
  go_enter Try.func44, Try.ntmps44
  go_wp2
  go_loop [3, 4, 5] (fun c i _ => ∃ k : Nat, k ≤ l.length ∧ i = .int .i64 k ∧ c = .int .u32 ((run ones (l.take k)).toNat : Int)) (fun _ i _ => l.length - (intOf i).toNat)
  case atStart => exact ⟨0, Nat.zero_le _, rfl, rfl⟩
  case round =>
    obtain ⟨k, hk, rfl, rfl⟩ := hrel
    have hv := (run ones (l.take k)).isLt
    by_cases hlt2 : k < l.length
    · obtain ⟨b, off, rfl, _, hc⟩ := hby.resolve_left (by intro e; subst e; simp at hlt2)
      have hcell : w.cell? ⟨b, off + k, none⟩ = some (.int .u8 (l[k]'hlt2).toNat) := hc k hlt2
      have hx := (l[k]'hlt2).toNat_lt
      have hsn := Lib.hid (run_snoc ones l k hlt2)
      go_wp2
      go_loop [3, 5] (fun c i => ∃ m : Nat, m ≤ 8 ∧ i = .int .i64 m ∧ c = .int .u32 ((itR m (cx (run ones (l.take k)) (l[k]'hlt2))).toNat : Int)) (fun _ i => 8 - (intOf i).toNat)
      case atStart => exact ⟨0, Nat.zero_le _, rfl, rfl⟩
      case round =>
        obtain ⟨m, hm, rfl, rfl⟩ := hrel
        have hv2 := (itR m (cx (run ones (l.take k)) (l[k]'hlt2))).isLt
        by_cases hm8 : m < 8
        · by_cases ho : (itR m (cx (run ones (l.take k)) (l[k]'hlt2))).toNat % 2 = 1
          · have HO := Lib.hid (bsr_odd _ ho)
            have ho' : (((itR m (cx (run ones (l.take k)) (l[k]'hlt2))).toNat : Int) % 2 == 1) = true := by rw [beq_iff_eq]; omega
            clear ho
            go_wp2
            go_round
            case rel => exact ⟨m + 1, by omega, by go_num, by rw [← HO.out]; rfl⟩
            case measure => simp [intOf]; omega
          · have HO := Lib.hid (bsr_half _ ho)
            have ho' : (((itR m (cx (run ones (l.take k)) (l[k]'hlt2))).toNat : Int) % 2 == 1) = false := by rw [beq_eq_false_iff_ne]; omega
            clear ho
            go_wp2
            go_round
            case rel => exact ⟨m + 1, by omega, by go_num, by rw [← HO.out]; rfl⟩
            case measure => simp [intOf]; omega
        · obtain rfl : m = 8 := by omega
          go_wp2
          go_round
          case rel => exact ⟨k + 1, by omega, by go_num, by rw [hsn.out, cstep_eq]; rfl⟩
          case measure => simp [intOf]; omega
    · have hkl : l.take k = l := List.take_of_length_le (by omega)
      go_wp2
      go_ret
      exact ⟨ret_int (not_int' _), rfl⟩
end Go.Proofs.Ytjdohjoljobinaa.SumW
