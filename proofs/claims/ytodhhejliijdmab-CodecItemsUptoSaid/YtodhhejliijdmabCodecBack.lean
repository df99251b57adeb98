/- Plain laws of the codec: what is read as a number, or as a text, stands at the front as it is written. No program here. -/
import Derived.Test.YtodhhejliijdmabCodecPure
namespace Go.Proofs.Ytodhhejliijdmab.Codec
theorem Rd.take_ok {r : Rd} {n : Nat} (h : (r.take n).1.e = 0) : r.e = 0 ∧ r.rest = (r.take n).2 ++ (r.take n).1.rest ∧ (r.take n).2.length = n := by
  unfold Rd.take at *
  by_cases he : r.e = 0
  · by_cases hl : r.rest.length < n
    · simp [he, hl] at h
    · simp [he, hl]
      omega
  · simp [he] at h
theorem Rd.num_ok {r : Rd} {k : Nat} (hk : k ≤ 8) (h : (r.num k).1.e = 0) : r.e = 0 ∧ r.rest = Codec.num (r.num k).2 k ++ (r.num k).1.rest ∧ (r.num k).2 < 256 ^ k := by
  obtain ⟨h1, h2, h3⟩ := Rd.take_ok h
  have h4 := num_said (r.take k).2 (by omega)
  have h5 := said_bound (r.take k).2 (by omega)
  rw [h3] at h4 h5
  refine ⟨h1, ?_, h5⟩
  show _ = Codec.num (said (r.take k).2) k ++ (r.take k).1.rest
  rw [h4]; exact h2
theorem Rd.more_e {s : Rd} {c : Nat} (h : (s.more c).1.e = 0) : s.e = 0 := by
  unfold Rd.more at h
  split at h
  · exact (Rd.num_ok (by omega) h).1
  · split at h
    · exact (Rd.num_ok (by omega) h).1
    · split at h
      · exact (Rd.num_ok (by omega) h).1
      · exact h
theorem Rd.var_ok {r : Rd} {most : Nat} (h : (r.var most).1.e = 0) : r.e = 0 ∧ r.rest = Codec.var (r.var most).2 ++ (r.var most).1.rest ∧ (r.var most).2 ≤ most := by
  have hv : r.var most = (let m := (r.num 1).1.more (r.num 1).2; if m.1.e ≠ 0 then (⟨r.rest, m.1.e⟩, 0) else if m.2.1 < m.2.2 then (⟨r.rest, 111⟩, 0) else if most < m.2.1 then (⟨r.rest, 112⟩, 0) else (m.1, m.2.1)) := rfl
  dsimp only at hv
  by_cases h1 : ((r.num 1).1.more (r.num 1).2).1.e = 0
  · by_cases h2 : ((r.num 1).1.more (r.num 1).2).2.1 < ((r.num 1).1.more (r.num 1).2).2.2
    · rw [hv, if_neg (by simpa using h1), if_pos h2] at h; simp at h
    · by_cases h3 : most < ((r.num 1).1.more (r.num 1).2).2.1
      · rw [hv, if_neg (by simpa using h1), if_neg h2, if_pos h3] at h; simp at h
      · rw [hv, if_neg (by simpa using h1), if_neg h2, if_neg h3]
        obtain ⟨k1, k2, k3⟩ := Rd.num_ok (k := 1) (by omega) (Rd.more_e h1)
        refine ⟨k1, ?_, by simpa using h3⟩
        generalize (r.num 1).1 = s at *
        generalize (r.num 1).2 = c at *
        rw [k2]
        have e1 : Codec.num c 1 = [UInt8.ofNat c] := by simp [Codec.num]
        rw [e1]
        clear hv h k1 k2 e1 h3
        unfold Rd.more at *
        by_cases c1 : c = 253
        · simp only [if_pos c1] at *
          obtain ⟨_, j2, j3⟩ := Rd.num_ok (k := 2) (by omega) h1
          rw [c1, j2]
          have : Codec.var (s.num 2).2 = 253 :: Codec.num (s.num 2).2 2 := by unfold Codec.var; rw [if_neg (by omega), if_pos (by omega)]
          rw [this]; simp
        · simp only [if_neg c1] at *
          by_cases c2 : c = 254
          · simp only [if_pos c2] at *
            obtain ⟨_, j2, j3⟩ := Rd.num_ok (k := 4) (by omega) h1
            rw [c2, j2]
            have : Codec.var (s.num 4).2 = 254 :: Codec.num (s.num 4).2 4 := by unfold Codec.var; rw [if_neg (by omega), if_neg (by omega), if_pos (by omega)]
            rw [this]; simp
          · simp only [if_neg c2] at *
            by_cases c3 : c = 255
            · simp only [if_pos c3] at *
              obtain ⟨_, j2, j3⟩ := Rd.num_ok (k := 8) (by omega) h1
              rw [c3, j2]
              have : Codec.var (s.num 8).2 = 255 :: Codec.num (s.num 8).2 8 := by unfold Codec.var; rw [if_neg (by omega), if_neg (by omega), if_neg (by omega)]
              rw [this]; simp
            · simp only [if_neg c3] at *
              have : Codec.var c = [UInt8.ofNat c] := by unfold Codec.var; rw [if_pos (by omega)]
              rw [this]
  · rw [hv, if_pos h1] at h; exact absurd h h1
theorem Rd.var_bad {r : Rd} {most : Nat} (h : (r.var most).1.e ≠ 0) : (r.var most).2 = 0 ∧ (r.var most).1.rest = r.rest := by
  have hv : r.var most = (let m := (r.num 1).1.more (r.num 1).2; if m.1.e ≠ 0 then (⟨r.rest, m.1.e⟩, 0) else if m.2.1 < m.2.2 then (⟨r.rest, 111⟩, 0) else if most < m.2.1 then (⟨r.rest, 112⟩, 0) else (m.1, m.2.1)) := rfl
  dsimp only at hv
  by_cases h1 : ((r.num 1).1.more (r.num 1).2).1.e = 0
  · by_cases h2 : ((r.num 1).1.more (r.num 1).2).2.1 < ((r.num 1).1.more (r.num 1).2).2.2
    · rw [hv, if_neg (by simpa using h1), if_pos h2]; exact ⟨rfl, rfl⟩
    · by_cases h3 : most < ((r.num 1).1.more (r.num 1).2).2.1
      · rw [hv, if_neg (by simpa using h1), if_neg h2, if_pos h3]; exact ⟨rfl, rfl⟩
      · rw [hv, if_neg (by simpa using h1), if_neg h2, if_neg h3] at h; exact absurd h1 h
  · rw [hv, if_pos h1]; exact ⟨rfl, rfl⟩
theorem Rd.num_zero {r : Rd} {k : Nat} (h : (r.num k).2 ≠ 0) : (r.num k).1.e = 0 := by
  unfold Rd.num at *
  dsimp only at *
  unfold Rd.take at *
  by_cases he : r.e = 0
  · by_cases hl : r.rest.length < k
    · simp [he, hl, said] at h
    · simp [he, hl]
  · simp [he, said] at h
/-- how much is read, against how long the number is -/
theorem Rd.more_len_eq {r : Rd} (h : ((r.num 1).1.more (r.num 1).2).1.e = 0) :
    (vlen ((r.num 1).1.more (r.num 1).2).2.1 ≠ r.rest.length - ((r.num 1).1.more (r.num 1).2).1.rest.length) = (((r.num 1).1.more (r.num 1).2).2.1 < ((r.num 1).1.more (r.num 1).2).2.2) := by
  obtain ⟨k1, k2, k3⟩ := Rd.num_ok (k := 1) (by omega) (Rd.more_e h)
  have hl := congrArg List.length k2
  rw [List.length_append, num_length] at hl
  generalize (r.num 1).1 = s at *
  generalize (r.num 1).2 = c at *
  clear k1 k2
  unfold Rd.more at *
  by_cases c1 : c = 253
  · simp only [if_pos c1] at *
    obtain ⟨_, j2, j3⟩ := Rd.num_ok (k := 2) (by omega) h
    have hl2 := congrArg List.length j2
    rw [List.length_append, num_length] at hl2
    unfold vlen
    apply propext
    constructor
    · intro hh; by_cases h1 : (s.num 2).2 < 253
      · exact h1
      · rw [if_neg h1, if_pos (by omega)] at hh; omega
    · intro hh; rw [if_pos hh]; omega
  · simp only [if_neg c1] at *
    by_cases c2 : c = 254
    · simp only [if_pos c2] at *
      obtain ⟨_, j2, j3⟩ := Rd.num_ok (k := 4) (by omega) h
      have hl2 := congrArg List.length j2
      rw [List.length_append, num_length] at hl2
      unfold vlen
      apply propext
      constructor
      · intro hh; by_cases h1 : (s.num 4).2 < 65536
        · exact h1
        · rw [if_neg (by omega), if_neg h1, if_pos (by omega)] at hh; omega
      · intro hh; by_cases h1 : (s.num 4).2 < 253
        · rw [if_pos h1]; omega
        · rw [if_neg h1, if_pos hh]; omega
    · simp only [if_neg c2] at *
      by_cases c3 : c = 255
      · simp only [if_pos c3] at *
        obtain ⟨_, j2, j3⟩ := Rd.num_ok (k := 8) (by omega) h
        have hl2 := congrArg List.length j2
        rw [List.length_append, num_length] at hl2
        unfold vlen
        apply propext
        constructor
        · intro hh; by_cases h1 : (s.num 8).2 < 4294967296
          · exact h1
          · rw [if_neg (by omega), if_neg (by omega), if_neg h1] at hh; omega
        · intro hh; by_cases h1 : (s.num 8).2 < 253
          · rw [if_pos h1]; omega
          · by_cases h2 : (s.num 8).2 < 65536
            · rw [if_neg h1, if_pos h2]; omega
            · rw [if_neg h1, if_neg h2, if_pos hh]; omega
      · simp only [if_neg c3] at *
        unfold vlen
        rw [if_pos (by omega)]
        apply propext
        constructor
        · intro hh; omega
        · intro hh; omega
/-- a number as the reference reads it -/
def Rd.rvar (r : Rd) (most : Nat) (neg : Bool) : Rd × Nat :=
  let m := (r.num 1).1.more (r.num 1).2
  if m.1.e ≠ 0 then (⟨r.rest, m.1.e⟩, 0) else if m.2.1 < m.2.2 then (⟨r.rest, 111⟩, 0) else if neg = true ∨ most < m.2.1 then (⟨r.rest, 112⟩, 0) else (m.1, m.2.1)
theorem Rd.rvar_false (r : Rd) (most : Nat) : r.rvar most false = r.var most := by
  unfold Rd.rvar Rd.var
  simp
theorem Rd.rvar_room (r : Rd) (most : Int) (m2 : Nat) (h : 0 ≤ most → (m2 : Int) = most) : r.rvar m2 (decide (most < 0)) = r.room most := by
  by_cases hn : most < 0
  · rw [decide_eq_true hn]
    unfold Rd.room
    rw [show most.toNat = 0 by omega]
    unfold Rd.rvar Rd.var
    dsimp only
    generalize (r.num 1).1.more (r.num 1).2 = m
    obtain ⟨s, n, l⟩ := m
    dsimp only
    by_cases h1 : s.e = 0
    · by_cases h2 : n < l
      · simp [h1, h2]
      · by_cases h3 : 0 < n
        · simp [h1, h2, h3]
        · simp [h1, h2, h3, hn]
    · simp [h1]
  · rw [decide_eq_false hn, Rd.rvar_false]
    unfold Rd.room
    rw [show most.toNat = m2 by have := h (by omega); omega]
    simp [hn]
end Go.Proofs.Ytodhhejliijdmab.Codec
