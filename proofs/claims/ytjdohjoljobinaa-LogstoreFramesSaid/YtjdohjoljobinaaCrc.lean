/- The plain law of the checksum: the table of four bits at a time and the eight single steps come to the same number, and one turned bit turns it. No condition. -/
import Derived.WalkKit
namespace Go.Proofs.Ytjdohjoljobinaa.Crc
open Go

abbrev W := BitVec 32
def poly : W := 3988292384#32
/-- one bit, as the program's table is made -/
def bst (v : W) : W := (v >>> 1) ^^^ (poly * (v &&& 1#32))
def half (v : W) : W := bst (bst (bst (bst v)))
def nib (v : W) : W := half (v &&& 15#32) ^^^ (v >>> 4)
def cx (v : W) (x : UInt8) : W := v ^^^ x.toBitVec.setWidth 32
def cstep (v : W) (x : UInt8) : W := nib (nib (cx v x))
def run (v : W) (l : List UInt8) : W := l.foldl cstep v
def ones : W := 4294967295#32
def crc (l : List UInt8) : W := ~~~(run (ones) l)

/-- one bit, as the reference has it -/
def bsr (v : W) : W := if v.toNat % 2 = 1 then (v >>> 1) ^^^ poly else v >>> 1
def stepR (v : W) (x : UInt8) : W := bsr (bsr (bsr (bsr (bsr (bsr (bsr (bsr (cx v x))))))))

theorem and_one (v : W) : (v &&& 1#32) = if v.toNat % 2 = 1 then 1#32 else 0#32 := by
  apply BitVec.eq_of_toNat_eq
  rw [BitVec.toNat_and]
  show v.toNat &&& 1 = _
  rw [Nat.and_one_is_mod]
  split <;> simp <;> omega

theorem bst_eq (v : W) : bst v = bsr v := by
  unfold bst bsr
  rw [and_one]
  split
  · simp
  · simp

theorem mod_two_xor (x y : Nat) : (x ^^^ y) % 2 = (x % 2 + y % 2) % 2 := by
  have := @Nat.xor_mod_two_eq_one x y
  omega

theorem bsr_xor (x y : W) : bsr (x ^^^ y) = bsr x ^^^ bsr y := by
  unfold bsr
  rw [BitVec.toNat_xor, mod_two_xor, BitVec.ushiftRight_xor_distrib]
  have key : ∀ p q : Bool, ((x >>> 1) ^^^ (y >>> 1)) ^^^ (if (p ^^ q) = true then poly else 0#32) = ((x >>> 1) ^^^ (if p = true then poly else 0#32)) ^^^ ((y >>> 1) ^^^ (if q = true then poly else 0#32)) := by
    intro p q
    apply BitVec.eq_of_getLsbD_eq
    intro i hi
    cases p <;> cases q <;> simp only [BitVec.getLsbD_xor, Bool.xor_true, Bool.xor_false, Bool.not_true, Bool.not_false, Bool.false_eq_true, reduceIte, BitVec.getLsbD_zero] <;>
      (cases (x >>> 1).getLsbD i <;> cases (y >>> 1).getLsbD i <;> cases poly.getLsbD i <;> rfl)
  rcases Nat.mod_two_eq_zero_or_one x.toNat with hx | hx <;> rcases Nat.mod_two_eq_zero_or_one y.toNat with hy | hy <;> rw [hx, hy]
  · simp
  · simpa using key false true
  · simpa using key true false
  · simpa using key true true

theorem bsr_even (v : W) (h : v.toNat % 2 = 0) : bsr v = v >>> 1 := by
  unfold bsr; rw [if_neg (by omega)]

theorem bst4_high (v : W) : half ((v >>> 4) <<< 4) = v >>> 4 := by
  unfold half
  simp only [bst_eq]
  have e0 : ((v >>> 4) <<< 4).toNat = (v.toNat / 16) * 16 := by
    have := v.isLt
    simp [Nat.shiftLeft_eq, Nat.shiftRight_eq_div_pow]
    omega
  have e1 : (((v >>> 4) <<< 4) >>> 1).toNat = (v.toNat / 16) * 8 := by
    rw [BitVec.toNat_ushiftRight, e0, Nat.shiftRight_eq_div_pow]; omega
  have e2 : ((((v >>> 4) <<< 4) >>> 1) >>> 1).toNat = (v.toNat / 16) * 4 := by
    rw [BitVec.toNat_ushiftRight, e1, Nat.shiftRight_eq_div_pow]; omega
  have e3 : (((((v >>> 4) <<< 4) >>> 1) >>> 1) >>> 1).toNat = (v.toNat / 16) * 2 := by
    rw [BitVec.toNat_ushiftRight, e2, Nat.shiftRight_eq_div_pow]; omega
  rw [bsr_even ((v >>> 4) <<< 4) (by omega), bsr_even (((v >>> 4) <<< 4) >>> 1) (by omega), bsr_even ((((v >>> 4) <<< 4) >>> 1) >>> 1) (by omega), bsr_even (((((v >>> 4) <<< 4) >>> 1) >>> 1) >>> 1) (by omega)]
  apply BitVec.eq_of_toNat_eq
  rw [BitVec.toNat_ushiftRight, e3, BitVec.toNat_ushiftRight, Nat.shiftRight_eq_div_pow, Nat.shiftRight_eq_div_pow]; omega

theorem split4 (v : W) : v = (v &&& 15#32) ^^^ ((v >>> 4) <<< 4) := by
  apply BitVec.eq_of_getLsbD_eq
  intro i hi
  have h15 : ∀ i, i < 32 → (15#32).getLsbD i = decide (i < 4) := by decide
  simp only [BitVec.getLsbD_xor, BitVec.getLsbD_and, h15 i hi, BitVec.getLsbD_shiftLeft, BitVec.getLsbD_ushiftRight]
  by_cases h : i < 4
  · simp [h]
  · have : 4 + (i - 4) = i := by omega
    simp [h, hi, this]

theorem half_xor (x y : W) : half (x ^^^ y) = half x ^^^ half y := by
  unfold half; simp only [bst_eq, bsr_xor]

theorem nib_eq (v : W) : nib v = half v := by
  unfold nib
  conv => rhs; rw [split4 v, half_xor, bst4_high]

theorem cstep_eq (v : W) (x : UInt8) : cstep v x = stepR v x := by
  unfold cstep stepR
  rw [nib_eq, nib_eq]; unfold half; simp only [bst_eq]

theorem bsr_bit (v : W) : (bsr v).getLsbD 31 = decide (v.toNat % 2 = 1) := by
  unfold bsr
  split
  · rename_i h
    simp only [BitVec.getLsbD_xor, BitVec.getLsbD_ushiftRight, h, decide_true]
    rw [BitVec.getLsbD_of_ge v _ (by omega)]
    decide
  · rename_i h
    simp only [BitVec.getLsbD_ushiftRight, h, decide_false]
    exact BitVec.getLsbD_of_ge v _ (by omega)

theorem bsr_inj (x y : W) (h : bsr x = bsr y) : x = y := by
  have hb : decide (x.toNat % 2 = 1) = decide (y.toNat % 2 = 1) := by rw [← bsr_bit, ← bsr_bit, h]
  have hb' : x.toNat % 2 = 1 ↔ y.toNat % 2 = 1 := by simpa using hb
  have hs : x >>> 1 = y >>> 1 := by
    unfold bsr at h
    by_cases hx : x.toNat % 2 = 1
    · rw [if_pos hx, if_pos (hb'.1 hx)] at h
      have := congrArg (· ^^^ poly) h
      simpa [BitVec.xor_assoc] using this
    · rw [if_neg hx, if_neg (fun e => hx (hb'.2 e))] at h
      exact h
  have hn := congrArg BitVec.toNat hs
  rw [BitVec.toNat_ushiftRight, BitVec.toNat_ushiftRight, Nat.shiftRight_eq_div_pow, Nat.shiftRight_eq_div_pow] at hn
  apply BitVec.eq_of_toNat_eq
  have h1 := Nat.mod_two_eq_zero_or_one x.toNat
  have h2 := Nat.mod_two_eq_zero_or_one y.toNat
  omega

theorem stepR_inj (x y : W) (c : UInt8) (h : stepR x c = stepR y c) : x = y := by
  unfold stepR at h
  have := bsr_inj _ _ (bsr_inj _ _ (bsr_inj _ _ (bsr_inj _ _ (bsr_inj _ _ (bsr_inj _ _ (bsr_inj _ _ (bsr_inj _ _ h)))))))
  unfold cx at this
  have := congrArg (· ^^^ c.toBitVec.setWidth 32) this
  simpa [BitVec.xor_assoc] using this

theorem stepR_byte (v : W) (c d : UInt8) (h : stepR v c = stepR v d) : c = d := by
  unfold stepR at h
  have := bsr_inj _ _ (bsr_inj _ _ (bsr_inj _ _ (bsr_inj _ _ (bsr_inj _ _ (bsr_inj _ _ (bsr_inj _ _ (bsr_inj _ _ h)))))))
  unfold cx at this
  have := congrArg (v ^^^ ·) this
  simp only [← BitVec.xor_assoc, BitVec.xor_self, BitVec.zero_xor] at this
  have e := congrArg (BitVec.setWidth 8) this
  simp at e
  exact UInt8.eq_of_toBitVec_eq e

theorem run_inj (l : List UInt8) : ∀ x y : W, run x l = run y l → x = y := by
  induction l with
  | nil => intro x y h; exact h
  | cons c l ih =>
    intro x y h
    have := ih _ _ h
    rw [cstep_eq, cstep_eq] at this
    exact stepR_inj _ _ _ this

theorem run_append (v : W) (a b : List UInt8) : run v (a ++ b) = run (run v a) b := by
  simp [run, List.foldl_append]

/-- one byte that is turned turns the checksum -/
theorem crc_turned (l : List UInt8) (i : Nat) (h : i < l.length) (c : UInt8) (hc : c ≠ l[i]) : crc (l.set i c) ≠ crc l := by
  intro e
  unfold crc at e
  have e := congrArg (fun z : W => ~~~z) e
  simp only [BitVec.not_not] at e
  have h1 : l = l.take i ++ l[i] :: l.drop (i + 1) := by rw [List.getElem_cons_drop]; exact (List.take_append_drop i l).symm
  have h2 : l.set i c = l.take i ++ c :: l.drop (i + 1) := by rw [List.set_eq_take_append_cons_drop, if_pos h]
  have e : run (ones) (l.take i ++ c :: l.drop (i + 1)) = run (ones) (l.take i ++ l[i] :: l.drop (i + 1)) := by rw [← h2, ← h1]; exact e
  rw [run_append, run_append] at e
  have e' : run (cstep (run (ones) (l.take i)) c) (l.drop (i + 1)) = run (cstep (run (ones) (l.take i)) l[i]) (l.drop (i + 1)) := e
  have := run_inj _ _ _ e'
  rw [cstep_eq, cstep_eq] at this
  exact hc (stepR_byte _ _ _ this)
theorem crc_known : (crc [49, 50, 51, 52, 53, 54, 55, 56, 57]).toNat = 3421780262 := by decide +kernel
theorem turned_ne (c : UInt8) (k : Nat) (h : k < 8) : c ^^^ (UInt8.ofNat (2 ^ k)) ≠ c := by
  intro e
  have e2 := congrArg (fun z => z ^^^ c) e
  simp only [UInt8.xor_self] at e2
  rw [UInt8.xor_comm c, UInt8.xor_assoc, UInt8.xor_self, UInt8.xor_zero] at e2
  have : ∀ k, k < 8 → UInt8.ofNat (2 ^ k) ≠ 0 := by decide
  exact this k h e2
end Go.Proofs.Ytjdohjoljobinaa.Crc
