/- The codec, in plain Lean: numbers, lengths, texts; a reader as what is left and what is amiss. No program here. -/
namespace Go.Proofs.Ytjdohjoljobinaa.Codec
/-- n in so many bytes, the highest first -/
def num (n : Nat) : Nat → List UInt8
  | 0 => []
  | k + 1 => UInt8.ofNat (n / 256 ^ k) :: num n k
theorem num_length (n : Nat) : ∀ k, (num n k).length = k
  | 0 => rfl
  | k + 1 => by simp [num, num_length n k]
def var (n : Nat) : List UInt8 :=
  if n < 253 then [UInt8.ofNat n] else if n < 65536 then 253 :: num n 2 else if n < 4294967296 then 254 :: num n 4 else 255 :: num n 8
def vlen (n : Nat) : Nat := if n < 253 then 1 else if n < 65536 then 3 else if n < 4294967296 then 5 else 9
theorem var_length (n : Nat) : (var n).length = vlen n := by
  unfold var vlen
  repeat (split; · simp [num_length])
  simp [num_length]
theorem vlen_le (n : Nat) : vlen n ≤ 9 := by
  unfold vlen
  split
  · omega
  · split
    · omega
    · split <;> omega
def text (b : List UInt8) : List UInt8 := var b.length ++ b
def said (l : List UInt8) : Nat := l.foldl (fun n c => (256 * n + c.toNat) % 18446744073709551616) 0
theorem said_lt (l : List UInt8) : said l < 18446744073709551616 := by
  unfold said
  rw [← List.reverse_reverse l, List.foldl_reverse]
  cases l.reverse with
  | nil => simp
  | cons c r => simp only [List.foldr_cons]; exact Nat.mod_lt _ (by omega)
theorem said_snoc (l : List UInt8) (c : UInt8) : said (l ++ [c]) = (256 * said l + c.toNat) % 18446744073709551616 := by simp [said]
theorem said_bound : ∀ (l : List UInt8), l.length ≤ 8 → said l < 256 ^ l.length := by
  intro l
  rw [← List.reverse_reverse l]
  generalize l.reverse = r
  induction r with
  | nil => intro _; simp [said]
  | cons c r ih =>
    intro h
    simp only [List.reverse_cons, List.length_append, List.length_reverse, List.length_cons, List.length_nil] at h ⊢
    have h1 := ih (by simp; omega)
    rw [List.length_reverse] at h1
    rw [said_snoc]
    have hc := c.toNat_lt
    refine Nat.lt_of_le_of_lt (Nat.mod_le _ _) ?_
    rw [Nat.zero_add, Nat.pow_succ]
    omega
/-- the bytes of a number say it -/
theorem num_said : ∀ (l : List UInt8), l.length ≤ 8 → num (said l) l.length = l := by
  have key : ∀ (k n c : Nat), c < 256 → num (256 * n + c) (k + 1) = num n k ++ [UInt8.ofNat c] := by
    intro k
    induction k with
    | zero => intro n c hc; simp [num]
    | succ k ih =>
      intro n c hc
      rw [num, ih n c hc]
      have : (256 * n + c) / 256 ^ (k + 1) = n / 256 ^ k := by
        rw [Nat.pow_succ, Nat.mul_comm (256 ^ k), ← Nat.div_div_eq_div_mul]
        congr 1
        omega
      rw [this]
      rfl
  intro l
  rw [← List.reverse_reverse l]
  generalize l.reverse = r
  induction r with
  | nil => intro _; rfl
  | cons c r ih =>
    intro h
    simp only [List.reverse_cons, List.length_append, List.length_reverse, List.length_cons, List.length_nil] at h ⊢
    have h1 := ih (by simp; omega)
    rw [List.length_reverse] at h1
    have hb := said_bound r.reverse (by simp; omega)
    rw [List.length_reverse] at hb
    have hc := c.toNat_lt
    have hp : 256 ^ r.length ≤ 256 ^ 7 := Nat.pow_le_pow_right (by omega) (by omega)
    rw [said_snoc, Nat.mod_eq_of_lt (by omega), Nat.zero_add, key _ _ _ hc, h1]
    congr 2
    exact UInt8.toNat_inj.1 (by simp)
theorem num_mod (n : Nat) : ∀ (k m : Nat), k ≤ m → num (n % 256 ^ m) k = num n k
  | 0, _, _ => rfl
  | k + 1, m, h => by
    rw [num, num, num_mod n k m (by omega)]
    congr 1
    obtain ⟨d, rfl⟩ : ∃ d, m = k + 1 + d := ⟨m - (k + 1), by omega⟩
    apply UInt8.toNat_inj.1
    simp only [UInt8.toNat_ofNat']
    rw [Nat.pow_add, Nat.pow_succ, Nat.mul_assoc, Nat.mod_mul_right_div_self]
    rw [Nat.mod_mul_right_mod]
theorem said_num : ∀ (k n : Nat), k ≤ 8 → said (num n k) = n % 256 ^ k := by
  have key : ∀ (k n : Nat), num n (k + 1) = num (n / 256) k ++ [UInt8.ofNat n] := by
    intro k
    induction k with
    | zero => intro n; simp [num]
    | succ k ih =>
      intro n
      rw [num, ih n, num]
      rw [show n / 256 ^ (k + 1) = n / 256 / 256 ^ k from by rw [Nat.pow_succ, Nat.mul_comm, Nat.div_div_eq_div_mul]]
      rfl
  intro k
  induction k with
  | zero => intro n _; simp [num, said, Nat.mod_one]
  | succ k ih =>
    intro n h
    rw [key, said_snoc, ih _ (by omega)]
    have h1 : n / 256 % 256 ^ k < 256 ^ k := Nat.mod_lt _ (Nat.pow_pos (by omega))
    have h2 : 256 ^ k ≤ 256 ^ 7 := Nat.pow_le_pow_right (by omega) (by omega)
    have h3 : (UInt8.ofNat n).toNat = n % 256 := by simp
    rw [h3, Nat.mod_eq_of_lt (by omega)]
    rw [Nat.pow_succ, Nat.mul_comm (256 ^ k) 256, Nat.mod_mul]
    omega

/-- a reader: what is left, and what is amiss -/
structure Rd where
  rest : List UInt8
  e : Int
def Rd.take (r : Rd) (n : Nat) : Rd × List UInt8 :=
  if r.e ≠ 0 then (r, []) else if r.rest.length < n then (⟨r.rest, 110⟩, []) else (⟨r.rest.drop n, 0⟩, r.rest.take n)
def Rd.num (r : Rd) (many : Nat) : Rd × Nat := ((r.take many).1, said (r.take many).2)
/-- behind the first byte -/
def Rd.more (s : Rd) (c : Nat) : Rd × Nat × Nat :=
  if c = 253 then ((s.num 2).1, (s.num 2).2, 253) else if c = 254 then ((s.num 4).1, (s.num 4).2, 65536) else if c = 255 then ((s.num 8).1, (s.num 8).2, 4294967296) else (s, c, 0)
def Rd.var (r : Rd) (most : Nat) : Rd × Nat :=
  let m := (r.num 1).1.more (r.num 1).2
  if m.1.e ≠ 0 then (⟨r.rest, m.1.e⟩, 0) else if m.2.1 < m.2.2 then (⟨r.rest, 111⟩, 0) else if most < m.2.1 then (⟨r.rest, 112⟩, 0) else (m.1, m.2.1)
def Rd.room (r : Rd) (most : Int) : Rd × Nat :=
  let m := r.var most.toNat
  if most < 0 ∧ m.1.e = 0 then (⟨r.rest, 112⟩, 0) else m
def Rd.fail (r : Rd) (e : Int) : Rd := if r.e = 0 then ⟨r.rest, e⟩ else r
def Rd.raw (r : Rd) (n : Int) : Rd × List UInt8 := if n < 0 then (r.fail 112, []) else r.take n.toNat
def Rd.text (r : Rd) (most : Int) : Rd × List UInt8 :=
  let m := r.room most
  let s : Rd := if m.1.e = 0 ∧ m.1.rest.length < m.2 then ⟨r.rest, 110⟩ else m.1
  s.take m.2
def Rd.fin (r : Rd) : Int := if r.e = 0 ∧ 0 < r.rest.length then 113 else r.e
end Go.Proofs.Ytjdohjoljobinaa.Codec
