/- The plain words of SHA-256: words, rounds, the schedule. No condition. -/
import Derived.WalkKit
namespace Go.Proofs.YtmenchnjajpkmaaDoor.Sha
open Go

abbrev W := BitVec 32
/-- a word, turned right by n (1 to 31) -/
def rotr (x : W) (n : Nat) : W := (x <<< (32 - n)) ||| (x >>> n)
def word (x : W) : Value := .int .u32 (x.toNat : Int)

structure St where
  a : W
  b : W
  c : W
  d : W
  e : W
  f : W
  g : W
  h : W

def St.l (s : St) : List W := [s.a, s.b, s.c, s.d, s.e, s.f, s.g, s.h]
def ini : St := ⟨0x6a09e667#32, 0xbb67ae85#32, 0x3c6ef372#32, 0xa54ff53a#32, 0x510e527f#32, 0x9b05688c#32, 0x1f83d9ab#32, 0x5be0cd19#32⟩

def table : List Nat := [1116352408, 1899447441, 3049323471, 3921009573, 961987163, 1508970993, 2453635748, 2870763221, 3624381080, 310598401, 607225278, 1426881987, 1925078388, 2162078206, 2614888103, 3248222580, 3835390401, 4022224774, 264347078, 604807628, 770255983, 1249150122, 1555081692, 1996064986, 2554220882, 2821834349, 2952996808, 3210313671, 3336571891, 3584528711, 113926993, 338241895, 666307205, 773529912, 1294757372, 1396182291, 1695183700, 1986661051, 2177026350, 2456956037, 2730485921, 2820302411, 3259730800, 3345764771, 3516065817, 3600352804, 4094571909, 275423344, 430227734, 506948616, 659060556, 883997877, 958139571, 1322822218, 1537002063, 1747873779, 1955562222, 2024104815, 2227730452, 2361852424, 2428436474, 2756734187, 3204031479, 3329325298]
def K (t : Nat) : W := BitVec.ofNat 32 (table.getD t 0)

def sig0 (x : W) : W := (rotr x 7 ^^^ rotr x 18) ^^^ (x >>> 3)
def sig1 (x : W) : W := (rotr x 17 ^^^ rotr x 19) ^^^ (x >>> 10)
def Sig1 (x : W) : W := (rotr x 6 ^^^ rotr x 11) ^^^ rotr x 25
def Sig0 (x : W) : W := (rotr x 2 ^^^ rotr x 13) ^^^ rotr x 22
def ch (e f g : W) : W := (e &&& f) ^^^ (~~~e &&& g)
def maj (a b c : W) : W := ((a &&& b) ^^^ (a &&& c)) ^^^ (b &&& c)
def wx (s : St) (k w : W) : W := ((s.h + Sig1 s.e) + ch s.e s.f s.g + k) + w
def wy (s : St) : W := Sig0 s.a + maj s.a s.b s.c
def rnd (s : St) (k w : W) : St := ⟨wx s k w + wy s, s.a, s.b, s.c, s.d + wx s k w, s.e, s.f, s.g⟩

/-- four bytes as a word -/
def be (x y z u : UInt8) : W := (((BitVec.ofNat 32 x.toNat <<< 24) ||| (BitVec.ofNat 32 y.toNat <<< 16)) ||| (BitVec.ofNat 32 z.toNat <<< 8)) ||| BitVec.ofNat 32 u.toNat
/-- the word t of a piece -/
def first (p : List UInt8) (t : Nat) : W := be (p.getD (4 * t) 0) (p.getD (4 * t + 1) 0) (p.getD (4 * t + 2) 0) (p.getD (4 * t + 3) 0)
/-- the schedule: its first n words -/
def sched (p : List UInt8) : Nat → List W
  | 0 => []
  | t + 1 =>
    let l := sched p t
    l ++ [if t < 16 then first p t else ((l.getD (t - 16) 0 + sig0 (l.getD (t - 15) 0)) + l.getD (t - 7) 0) + sig1 (l.getD (t - 2) 0)]
theorem sched_length (p : List UInt8) : ∀ n, (sched p n).length = n
  | 0 => rfl
  | t + 1 => by simp [sched, sched_length p t]
/-- word t of the schedule -/
def wd (p : List UInt8) (t : Nat) : W := (sched p (t + 1)).getD t 0
theorem sched_getD (p : List UInt8) (n : Nat) : ∀ t, t < n → (sched p n).getD t 0 = wd p t := by
  induction n with
  | zero => intro t h; omega
  | succ n ih =>
    intro t h
    by_cases e : t = n
    · subst e; rfl
    · have h2 := ih t (by omega)
      have hl := sched_length p n
      simp only [sched, List.getD_eq_getElem?_getD]
      rw [List.getElem?_append_left (by omega)]
      simpa [List.getD_eq_getElem?_getD] using h2
theorem wd_low (p : List UInt8) (t : Nat) (h : t < 16) : wd p t = first p t := by
  have hl := sched_length p t
  simp [wd, sched, List.getD_eq_getElem?_getD, hl, h]
theorem wd_high (p : List UInt8) (t : Nat) (h : 16 ≤ t) : wd p t = ((wd p (t - 16) + sig0 (wd p (t - 15))) + wd p (t - 7)) + sig1 (wd p (t - 2)) := by
  have hl := sched_length p t
  have e : wd p t = (((sched p t).getD (t - 16) 0 + sig0 ((sched p t).getD (t - 15) 0)) + (sched p t).getD (t - 7) 0) + sig1 ((sched p t).getD (t - 2) 0) := by
    simp [wd, sched, List.getD_eq_getElem?_getD, hl, show ¬ t < 16 from by omega]
  rw [e, sched_getD _ _ _ (by omega), sched_getD _ _ _ (by omega), sched_getD _ _ _ (by omega), sched_getD _ _ _ (by omega)]

def rounds (p : List UInt8) (s : St) : Nat → St
  | 0 => s
  | t + 1 => rnd (rounds p s t) (K t) (wd p t)
def St.add (s r : St) : St := ⟨s.a + r.a, s.b + r.b, s.c + r.c, s.d + r.d, s.e + r.e, s.f + r.f, s.g + r.g, s.h + r.h⟩
/-- a state behind one more piece -/
def mixed (s : St) (p : List UInt8) : St := s.add (rounds p s 64)

/-- the state behind all whole pieces -/
def feed (s : St) (l : List UInt8) : St := if l.length < 64 then s else feed (mixed s (l.take 64)) (l.drop 64)
termination_by l.length
decreasing_by simp; omega
/-- what is left of a text behind its whole pieces -/
def left (l : List UInt8) : List UInt8 := if l.length < 64 then l else left (l.drop 64)
termination_by l.length
decreasing_by simp; omega
theorem feed_short (s : St) (l : List UInt8) (h : l.length < 64) : feed s l = s := by rw [feed, if_pos h]
theorem feed_long (s : St) (l : List UInt8) (h : 64 ≤ l.length) : feed s l = feed (mixed s (l.take 64)) (l.drop 64) := by rw [feed, if_neg (by omega)]
theorem left_short (l : List UInt8) (h : l.length < 64) : left l = l := by rw [left, if_pos h]
theorem left_long (l : List UInt8) (h : 64 ≤ l.length) : left l = left (l.drop 64) := by rw [left, if_neg (by omega)]
theorem left_length : ∀ (n : Nat) (l : List UInt8), l.length = n → (left l).length = n % 64 := by
  intro n
  induction n using Nat.strongRecOn with
  | ind n ih =>
    intro l hl
    by_cases h : l.length < 64
    · rw [left_short l h]; omega
    · rw [left_long l (by omega), ih (n - 64) (by omega) (l.drop 64) (by simp; omega)]; omega
theorem left_lt (l : List UInt8) : (left l).length < 64 := by rw [left_length _ l rfl]; omega
theorem feed_append (n : Nat) : ∀ (s : St) (a b : List UInt8), a.length = n → feed s (a ++ b) = feed (feed s a) (left a ++ b) ∧ left (a ++ b) = left (left a ++ b) := by
  induction n using Nat.strongRecOn with
  | ind n ih =>
    intro s a b hn
    by_cases h : a.length < 64
    · rw [feed_short s a h, left_short a h]; exact ⟨rfl, rfl⟩
    · have hab : 64 ≤ (a ++ b).length := by simp; omega
      rw [feed_long s (a ++ b) hab, left_long (a ++ b) hab, feed_long s a (by omega), left_long a (by omega)]
      rw [List.take_append_of_le_length (by omega), List.drop_append_of_le_length (by omega)]
      exact ih (n - 64) (by omega) _ _ _ (by simp; omega)
theorem feed_app (s : St) (a b : List UInt8) : feed s (a ++ b) = feed (feed s a) (left a ++ b) := (feed_append _ s a b rfl).1
theorem left_app (a b : List UInt8) : left (a ++ b) = left (left a ++ b) := (feed_append _ ini a b rfl).2

/-- a number's eight bytes -/
def be8 (v : Nat) : List UInt8 := (List.range 8).map fun i => UInt8.ofNat (v / 2 ^ (56 - 8 * i))
def padTail (n : Nat) : List UInt8 := 128 :: (List.replicate ((119 - n % 64) % 64) 0 ++ be8 (8 * n % 18446744073709551616))
/-- a word's four bytes -/
def be4 (x : W) : List UInt8 := (List.range 4).map fun k => UInt8.ofNat (x.toNat / 2 ^ (24 - 8 * k))
def out (s : St) : List UInt8 := s.l.flatMap be4
/-- the digest of a text -/
def sha (l : List UInt8) : List UInt8 := out (feed ini (l ++ padTail l.length))
theorem out_length (s : St) : (out s).length = 32 := rfl
theorem be8_length (v : Nat) : (be8 v).length = 8 := rfl
theorem sha_length (l : List UInt8) : (sha l).length = 32 := rfl
theorem padTail_length (n : Nat) : (n + (padTail n).length) % 64 = 0 := by
  have : (padTail n).length = 1 + ((119 - n % 64) % 64 + 8) := by simp [padTail, be8_length]; omega
  omega
/-- the digest by way of what is left -/
theorem sha_left (l : List UInt8) : sha l = out (feed (feed ini l) (left l ++ padTail l.length)) := by unfold sha; rw [feed_app]
end Go.Proofs.YtmenchnjajpkmaaDoor.Sha
