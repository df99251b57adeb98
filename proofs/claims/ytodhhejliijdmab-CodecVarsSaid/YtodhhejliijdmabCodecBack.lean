/- Plain laws of the codec: what is read as a number, or as a text, stands at the front as it is written. No program here. -/
import Derived.Test.YtodhhejliijdmabCodecPure
namespace Go.Proofs.Ytodhhejliijdmab.Codec
theorem Rd.take_ok {r : Rd} {n : Nat} (h : (r.take n).1.e = 0) : r.e = 0 ∧ r.rest = (r.take n).2 ++ (r.take n).1.rest ∧ (r.take n).2.length = n := by
  unfold Rd.take at *
  by_cases he : r.e = 0
  · by_cases hl : r.rest.length < n
    · simp [he, hl] at h
    · simp [he, hl]
      omega
  · simp [he] at h
theorem Rd.num_ok {r : Rd} {k : Nat} (hk : k ≤ 8) (h : (r.num k).1.e = 0) : r.e = 0 ∧ r.rest = Codec.num (r.num k).2 k ++ (r.num k).1.rest ∧ (r.num k).2 < 256 ^ k := by
  obtain ⟨h1, h2, h3⟩ := Rd.take_ok h
  have h4 := num_said (r.take k).2 (by omega)
  have h5 := said_bound (r.take k).2 (by omega)
  rw [h3] at h4 h5
  refine ⟨h1, ?_, h5⟩
  show _ = Codec.num (said (r.take k).2) k ++ (r.take k).1.rest
  rw [h4]; exact h2
theorem Rd.more_e {s : Rd} {c : Nat} (h : (s.more c).1.e = 0) : s.e = 0 := by
  unfold Rd.more at h
  split at h
  · exact (Rd.num_ok (by omega) h).1
  · split at h
    · exact (Rd.num_ok (by omega) h).1
    · split at h
      · exact (Rd.num_ok (by omega) h).1
      · exact h
theorem Rd.var_ok {r : Rd} {most : Nat} (h : (r.var most).1.e = 0) : r.e = 0 ∧ r.rest = Codec.var (r.var most).2 ++ (r.var most).1.rest ∧ (r.var most).2 ≤ most := by
  have hv : r.var most = (let m := (r.num 1).1.more (r.num 1).2; if m.1.e ≠ 0 then (⟨r.rest, m.1.e⟩, 0) else if m.2.1 < m.2.2 then (⟨r.rest, 111⟩, 0) else if most < m.2.1 then (⟨r.rest, 112⟩, 0) else (m.1, m.2.1)) := rfl
  dsimp only at hv
  by_cases h1 : ((r.num 1).1.more (r.num 1).2).1.e = 0
  · by_cases h2 : ((r.num 1).1.more (r.num 1).2).2.1 < ((r.num 1).1.more (r.num 1).2).2.2
    · rw [hv, if_neg (by simpa using h1), if_pos h2] at h; simp at h
    · by_cases h3 : most < ((r.num 1).1.more (r.num 1).2).2.1
      · rw [hv, if_neg (by simpa using h1), if_neg h2, if_pos h3] at h; simp at h
      · rw [hv, if_neg (by simpa using h1), if_neg h2, if_neg h3]
        obtain ⟨k1, k2, k3⟩ := Rd.num_ok (k := 1) (by omega) (Rd.more_e h1)
        refine ⟨k1, ?_, by simpa using h3⟩
        generalize (r.num 1).1 = s at *
        generalize (r.num 1).2 = c at *
        rw [k2]
        have e1 : Codec.num c 1 = [UInt8.ofNat c] := by simp [Codec.num]
        rw [e1]
        clear hv h k1 k2 e1 h3
        unfold Rd.more at *
        by_cases c1 : c = 253
        · simp only [if_pos c1] at *
          obtain ⟨_, j2, j3⟩ := Rd.num_ok (k := 2) (by omega) h1
          rw [c1, j2]
          have : Codec.var (s.num 2).2 = 253 :: Codec.num (s.num 2).2 2 := by unfold Codec.var; rw [if_neg (by omega), if_pos (by omega)]
          rw [this]; simp
        · simp only [if_neg c1] at *
          by_cases c2 : c = 254
          · simp only [if_pos c2] at *
            obtain ⟨_, j2, j3⟩ := Rd.num_ok (k := 4) (by omega) h1
            rw [c2, j2]
            have : Codec.var (s.num 4).2 = 254 :: Codec.num (s.num 4).2 4 := by unfold Codec.var; rw [if_neg (by omega), if_neg (by omega), if_pos (by omega)]
            rw [this]; simp
          · simp only [if_neg c2] at *
            by_cases c3 : c = 255
            · simp only [if_pos c3] at *
              obtain ⟨_, j2, j3⟩ := Rd.num_ok (k := 8) (by omega) h1
              rw [c3, j2]
              have : Codec.var (s.num 8).2 = 255 :: Codec.num (s.num 8).2 8 := by unfold Codec.var; rw [if_neg (by omega), if_neg (by omega), if_neg (by omega)]
              rw [this]; simp
            · simp only [if_neg c3] at *
              have : Codec.var c = [UInt8.ofNat c] := by unfold Codec.var; rw [if_pos (by omega)]
              rw [this]
  · rw [hv, if_pos h1] at h; exact absurd h h1
theorem Rd.var_bad {r : Rd} {most : Nat} (h : (r.var most).1.e ≠ 0) : (r.var most).2 = 0 ∧ (r.var most).1.rest = r.rest := by
  have hv : r.var most = (let m := (r.num 1).1.more (r.num 1).2; if m.1.e ≠ 0 then (⟨r.rest, m.1.e⟩, 0) else if m.2.1 < m.2.2 then (⟨r.rest, 111⟩, 0) else if most < m.2.1 then (⟨r.rest, 112⟩, 0) else (m.1, m.2.1)) := rfl
  dsimp only at hv
  by_cases h1 : ((r.num 1).1.more (r.num 1).2).1.e = 0
  · by_cases h2 : ((r.num 1).1.more (r.num 1).2).2.1 < ((r.num 1).1.more (r.num 1).2).2.2
    · rw [hv, if_neg (by simpa using h1), if_pos h2]; exact ⟨rfl, rfl⟩
    · by_cases h3 : most < ((r.num 1).1.more (r.num 1).2).2.1
      · rw [hv, if_neg (by simpa using h1), if_neg h2, if_pos h3]; exact ⟨rfl, rfl⟩
      · rw [hv, if_neg (by simpa using h1), if_neg h2, if_neg h3] at h; exact absurd h1 h
  · rw [hv, if_pos h1]; exact ⟨rfl, rfl⟩
end Go.Proofs.Ytodhhejliijdmab.Codec
