/- A batch of changes of the log: what is wrong with one, its bytes; the walks of right (both sides), put and codec's Put of changes. Condition: as many bytes as a batch may have. -/
import Derived.Test.YtjdohjoljobinaaCodecW
import Derived.Test.YtjdohjoljobinaaOps2
import Derived.Test.YtjdohjoljobinaaRep
namespace Go.Proofs.Ytjdohjoljobinaa.Fra
open Go Go.RowKit Mem Codec CodecW Ops Reps Arr
set_option linter.unusedVariables false

/-- a change: its key, its value, is it a drop -/
abbrev XCh := List UInt8 × List UInt8 × Bool
def RCh : (Nat → Prop) → World → List Value → XCh → Prop := PairR RBy (PairR RBy RBool)
theorem rep_Ch : Rep 3 RCh := rep_pair rep_by (rep_pair rep_by rep_bool)
def rightE (c : XCh) : Int := if c.1.length = 0 ∨ 64 < c.1.length then 150 else if c.2.2 = false ∧ 1048576 < c.2.1.length then 151 else 0
def rights : List XCh → Int
  | [] => 0
  | c :: r => if rightE c = 0 then rights r else rightE c
def putLen (c : XCh) : Nat := if c.2.2 = true then 0 else c.2.1.length
def tot (l : List XCh) : Nat := (l.map putLen).sum
def encCh (c : XCh) : List UInt8 := if c.2.2 = true then 0 :: text c.1 else 1 :: (text c.1 ++ text c.2.1)
def bodyF (l : List XCh) : List UInt8 := var l.length ++ l.flatMap encCh
theorem rights_take {l : List XCh} {n : Nat} (h : rights (l.take n) = 0) {c : XCh} (hc : l[n]? = some c) : (rightE c = 0 → rights (l.take (n + 1)) = 0) ∧ (rightE c ≠ 0 → rights l = rightE c) := by
  induction l generalizing n with
  | nil => simp at hc
  | cons a r ih =>
    cases n with
    | zero =>
      simp at hc; subst hc
      refine ⟨fun h => ?_, fun h => ?_⟩
      · show rights [a] = 0
        simp [rights, h]
      · simp [rights, h]
    | succ n =>
      have ha : rightE a = 0 := by
        by_cases h0 : rightE a = 0
        · exact h0
        · rw [List.take_succ_cons] at h; simp only [rights, if_neg h0] at h; exact absurd h h0
      rw [List.take_succ_cons] at h
      simp only [rights, if_pos ha] at h
      have := ih h (by simpa using hc)
      refine ⟨fun h1 => ?_, fun h1 => ?_⟩
      · rw [List.take_succ_cons]; simp only [rights, if_pos ha]; exact this.1 h1
      · simp only [rights, if_pos ha]; exact this.2 h1
theorem tot_take {l : List XCh} {n : Nat} {c : XCh} (hc : l[n]? = some c) : tot (l.take (n + 1)) = tot (l.take n) + putLen c := by
  rw [List.take_add_one, hc]
  simp [tot]
theorem tot_le (l : List XCh) (n : Nat) : tot (l.take n) ≤ tot l := by
  unfold tot
  conv => rhs; rw [← List.take_append_drop n l, List.map_append, List.sum_append]
  omega
theorem right_all : ∀ {l : List XCh}, rights l = 0 → ∀ c ∈ l, rightE c = 0
  | a :: r, h, c, hc => by
    by_cases ha : rightE a = 0
    · simp only [rights, if_pos ha] at h
      rcases List.mem_cons.1 hc with rfl | hc
      · exact ha
      · exact right_all h c hc
    · simp only [rights, if_neg ha] at h; exact absurd h ha
theorem text_len (b : List UInt8) : (text b).length ≤ 9 + b.length := by
  have : (var b.length).length ≤ 9 := by rw [var_length]; exact vlen_le _
  simp [text]; omega
theorem enc_le {c : XCh} (h : rightE c = 0) : (encCh c).length ≤ 83 + putLen c := by
  have hk : c.1.length ≤ 64 := by
    unfold rightE at h
    split at h
    · cases h
    · rename_i h1; omega
  have h1 := text_len c.1
  have h2 := text_len c.2.1
  unfold encCh putLen
  split
  · simp; omega
  · simp; omega
theorem encs_le : ∀ {l : List XCh}, (∀ c ∈ l, rightE c = 0) → (l.flatMap encCh).length ≤ 83 * l.length + tot l
  | [], _ => by simp [tot]
  | c :: r, h => by
    have h1 := enc_le (h c (by simp))
    have h2 := encs_le (l := r) (fun x hx => h x (by simp [hx]))
    simp only [List.flatMap_cons, List.length_append, tot, List.map_cons, List.sum_cons, List.length_cons] at h2 ⊢
    omega
theorem chC {D : Nat → Prop} {w : World} {cs : List Value} {c : XCh} (h : RCh D w cs c) : ∃ a1 c1 a2 c2, cs = [.slice a1 c.1.length c1, .slice a2 c.2.1.length c2, .bool c.2.2] ∧ Byt D w (.slice a1 c.1.length c1) c.1 ∧ Byt D w (.slice a2 c.2.1.length c2) c.2.1 := by
  obtain ⟨_, _, rfl, ⟨v1, rfl, h1⟩, _, _, rfl, ⟨v2, rfl, h2⟩, _, rfl⟩ := h
  obtain ⟨a1, c1, rfl, _⟩ := id h1
  obtain ⟨a2, c2, rfl, _⟩ := id h2
  exact ⟨a1, c1, a2, c2, rfl, h1, h2⟩
set_option maxHeartbeats 4000000 in
set_option maxRecDepth 100000 in
theorem right_calls (w : World) (cs : List Value) (c : XCh) (hR : RCh Any w cs c) :
    Calls Try.prog 31 #[.agg cs.toArray] w fun e w' => e = .returned (.int .i64 (rightE c)) ∧ Below w.heap.size w w' := by
  obtain ⟨a1, c1, a2, c2, rfl, h1, h2⟩ := chC hR
  obtain ⟨k, v, d⟩ := c
  obtain ⟨kn, hkn⟩ : ∃ n, k.length = n := ⟨_, rfl⟩
  obtain ⟨vn, hvn⟩ : ∃ n, v.length = n := ⟨_, rfl⟩
  have hE : rightE (k, v, d) = if kn = 0 ∨ 64 < kn then 150 else if d = false ∧ 1048576 < vn then 151 else 0 := by rw [← hkn, ← hvn]; rfl
  have HE := Lib.hid hE
  dsimp only at h1 h2 ⊢
  rw [hkn, hvn]
  clear h1 h2 hR hE hkn hvn
  go_enter Try.func31, Try.ntmps31
  go_upto_region 1 with (first
    | ((with_reducible refine wpList_box rfl _ _ rfl [.slice a1 kn c1, .slice a2 vn c2, .bool d] rfl (fun w1 k1 b1 z1 => ?_)); have K1 := Lib.hid k1; have B1 := Lib.hid b1; clear k1 b1))
  have g0 := K1.out.cell (i := 0) rfl
  have g1 := K1.out.cell (i := 1) rfl
  have g2 := K1.out.cell (i := 2) rfl
  by_cases q1 : kn = 0
  · have HV := Lib.hid (show rightE (k, v, d) = 150 from by rw [HE.out, if_pos (Or.inl q1)])
    have q1' : ((kn : Int) == 0) = true := by simp [q1]
    clear q1
    go_wp2
    go_ret
    exact ⟨by rw [HV.out]; rfl, B1.out⟩
  have q1' : ((kn : Int) == 0) = false := by simp [q1]
  have q1i : ¬ (kn : Int) = 0 := by omega
  by_cases q2 : 64 < kn
  · have q2' : (64 : Int) < (kn : Int) := by omega
    have HV := Lib.hid (show rightE (k, v, d) = 150 from by rw [HE.out, if_pos (Or.inr q2)])
    go_wp2
    go_ret
    exact ⟨by rw [HV.out]; rfl, B1.out⟩
  have q2' : ¬ (64 : Int) < (kn : Int) := by omega
  rcases d with _ | _
  · by_cases q3 : 1048576 < vn
    · have q3' : (1048576 : Int) < (vn : Int) := by omega
      have HV := Lib.hid (show rightE (k, v, false) = 151 from by rw [HE.out, if_neg (by omega), if_pos ⟨rfl, q3⟩])
      go_wp2
      go_ret
      exact ⟨by rw [HV.out]; rfl, B1.out⟩
    · have q3' : ¬ (1048576 : Int) < (vn : Int) := by omega
      have HV := Lib.hid (show rightE (k, v, false) = 0 from by rw [HE.out, if_neg (by omega), if_neg (fun h => q3 h.2)])
      go_wp2
      go_ret
      exact ⟨by rw [HV.out]; rfl, B1.out⟩
  · have HV := Lib.hid (show rightE (k, v, true) = 0 from by rw [HE.out, if_neg (by omega), if_neg (by simp)])
    go_wp2
    go_ret
    exact ⟨by rw [HV.out]; rfl, B1.out⟩
set_option maxHeartbeats 4000000 in
set_option maxRecDepth 100000 in
theorem rright_calls (w : World) (cs : List Value) (c : XCh) (hR : RCh Any w cs c) :
    Calls Try.prog 40 #[.agg cs.toArray] w fun e w' => e = .returned (.int .i64 (rightE c)) ∧ Below w.heap.size w w' := by
  obtain ⟨a1, c1, a2, c2, rfl, h1, h2⟩ := chC hR
  obtain ⟨k, v, d⟩ := c
  obtain ⟨kn, hkn⟩ : ∃ n, k.length = n := ⟨_, rfl⟩
  obtain ⟨vn, hvn⟩ : ∃ n, v.length = n := ⟨_, rfl⟩
  have hE : rightE (k, v, d) = if kn = 0 ∨ 64 < kn then 150 else if d = false ∧ 1048576 < vn then 151 else 0 := by rw [← hkn, ← hvn]; rfl
  have HE := Lib.hid hE
  dsimp only at h1 h2 ⊢
  rw [hkn, hvn]
  clear h1 h2 hR hE hkn hvn
  go_enter Try.func40, Try.ntmps40
  go_upto_region 1 with (first
    | ((with_reducible refine wpList_box rfl _ _ rfl [.slice a1 kn c1, .slice a2 vn c2, .bool d] rfl (fun w1 k1 b1 z1 => ?_)); have K1 := Lib.hid k1; have B1 := Lib.hid b1; clear k1 b1))
  have g0 := K1.out.cell (i := 0) rfl
  have g1 := K1.out.cell (i := 1) rfl
  have g2 := K1.out.cell (i := 2) rfl
  by_cases q1 : kn = 0
  · have HV := Lib.hid (show rightE (k, v, d) = 150 from by rw [HE.out, if_pos (Or.inl q1)])
    have q1' : ((kn : Int) == 0) = true := by simp [q1]
    clear q1
    go_wp2
    go_ret
    exact ⟨by rw [HV.out]; rfl, B1.out⟩
  have q1' : ((kn : Int) == 0) = false := by simp [q1]
  have q1i : ¬ (kn : Int) = 0 := by omega
  by_cases q2 : 64 < kn
  · have q2' : (64 : Int) < (kn : Int) := by omega
    have HV := Lib.hid (show rightE (k, v, d) = 150 from by rw [HE.out, if_pos (Or.inr q2)])
    go_wp2
    go_ret
    exact ⟨by rw [HV.out]; rfl, B1.out⟩
  have q2' : ¬ (64 : Int) < (kn : Int) := by omega
  rcases d with _ | _
  · by_cases q3 : 1048576 < vn
    · have q3' : (1048576 : Int) < (vn : Int) := by omega
      have HV := Lib.hid (show rightE (k, v, false) = 151 from by rw [HE.out, if_neg (by omega), if_pos ⟨rfl, q3⟩])
      go_wp2
      go_ret
      exact ⟨by rw [HV.out]; rfl, B1.out⟩
    · have q3' : ¬ (1048576 : Int) < (vn : Int) := by omega
      have HV := Lib.hid (show rightE (k, v, false) = 0 from by rw [HE.out, if_neg (by omega), if_neg (fun h => q3 h.2)])
      go_wp2
      go_ret
      exact ⟨by rw [HV.out]; rfl, B1.out⟩
  · have HV := Lib.hid (show rightE (k, v, true) = 0 from by rw [HE.out, if_neg (by omega), if_neg (by simp)])
    go_wp2
    go_ret
    exact ⟨by rw [HV.out]; rfl, B1.out⟩
set_option maxHeartbeats 4000000 in
set_option maxRecDepth 100000 in
theorem put0 (S D : Nat → Prop) (w : World) (q : Nat) (m : List UInt8) (cs : List Value) (c : XCh) (H : WriterIs S w q m) (hL : ∀ k, S k → k < w.heap.size) (hR : RCh D w cs c) (hS : ∀ k, k < w.heap.size → D k → ¬ S k) (hlen : m.length + 83 + c.1.length + putLen c ≤ 140737488355328) :
    Calls Try.prog 34 #[.pointer (some ⟨q, 0, none⟩), .agg cs.toArray] w fun e w' => e = .returned (.tuple #[]) ∧ WriterIs (Plus S w w') w' q (m ++ encCh c) ∧ Fr S w w' := by
  obtain ⟨a1, c1, a2, c2, rfl, h1, h2⟩ := chC hR
  obtain ⟨k, v, d⟩ := c
  dsimp only at h1 h2 hlen ⊢
  have HPL := Lib.hid hlen
  have hlen1 : m.length + 83 + k.length ≤ 140737488355328 := by omega
  clear hlen
  have HS := Lib.hid hS
  have HL := Lib.hid hL
  have H0 := Lib.hid H
  have H1 := Lib.hid h1
  have H2 := Lib.hid h2
  clear hS H h1 h2 hR hL
  go_enter Try.func34, Try.ntmps34
  go_upto_region 1 with (first
    | ((with_reducible refine wpList_box rfl _ _ rfl [.slice a1 k.length c1, .slice a2 v.length c2, .bool d] rfl (fun w1 k1 b1 z1 => ?_)); have K1 := Lib.hid k1; have B1 := Lib.hid b1; clear k1 b1))
  have W1 := Lib.hid (H0.out.below B1.out)
  have T1 := Lib.hid (H1.out.lt.below B1.out)
  have T2 := Lib.hid (H2.out.lt.below B1.out)
  have HF1 := Lib.hid (show Fr S w w1 from Fr.ofBelowAll B1.out (Nat.le_refl _))
  have hwz : w.heap.size ≤ w1.heap.size := B1.out.size
  have g0 := K1.out.cell (i := 0) rfl
  have g1 := K1.out.cell (i := 1) rfl
  have g2 := K1.out.cell (i := 2) rfl
  clear H0 H1 H2
  rcases d with _ | _
  · go_wp2_with fail
    refine (CodecW.byte_calls S w1 q m 1 1 rfl W1.out (by omega)).mono ?_
    rintro e w2 ⟨rfl, x1, x2⟩
    have X1 := Lib.hid x1
    have F2 := Lib.hid (HF1.out.trans x2)
    have hs2 := x2.size
    have K2 := Lib.hid (K1.out.fr x2 (fun h => by have := HL.out _ h; omega))
    have T12 := Lib.hid (T1.out.fr x2 (fun j _ h e => HS.out j h.1 h.2 e))
    have T22 := Lib.hid (T2.out.fr x2 (fun j _ h e => HS.out j h.1 h.2 e))
    have g0 := K2.out.cell (i := 0) rfl
    clear x1 x2 W1 T1 T2 K1 HF1
    go_wp2_with fail
    refine (CodecW.text_calls _ _ w2 q _ _ k X1.out T12.out (fun j _ h e => by rcases e with e | e; exact HS.out j h.1 h.2 e; omega) (by simp; omega)).mono ?_
    rintro e w3 ⟨rfl, x1, x2⟩
    have X2 := Lib.hid (Plus.two x1 hs2 x2.size)
    have F3 := Lib.hid (F2.out.trans' (T := Plus S w1 w2) x2 (fun j hj h => by rcases h with h | h; exact h; omega))
    have hs3 := x2.size
    have K3 := Lib.hid (K2.out.fr x2 (fun h => by rcases h with h | h; have := HL.out _ h; omega; omega))
    have T23 := Lib.hid (T22.out.fr x2 (fun j _ h e => by rcases e with e | e; exact HS.out j h.1 h.2 e; omega))
    have g1 := K3.out.cell (i := 1) rfl
    clear x1 x2 X1 T12 T22 K2 F2
    go_wp2_with fail
    refine (CodecW.text_calls _ _ w3 q _ _ v X2.out T23.out (fun j _ h e => by rcases e with e | e; exact HS.out j h.1 h.2 e; omega) (by have := text_len k; have h2 := HPL.out; simp [putLen] at h2; simp; omega)).mono ?_
    rintro e w4 ⟨rfl, x1, x2⟩
    have X3 := Lib.hid ((Plus.two x1 (by omega) x2.size).mono (T := Plus S w w4) (fun j hj h => by rcases h with h | h; exact .inl h; exact .inr ⟨by omega, h.2⟩))
    have F4 := Lib.hid (F3.out.trans' (T := Plus S w1 w3) x2 (fun j hj h => by rcases h with h | h; exact h; omega))
    clear x1 x2 X2 F3 K3 T23
    go_wp2
    go_end0
    have e : m ++ [(1 : UInt8)] ++ text k ++ text v = m ++ encCh (k, v, false) := by simp [encCh]
    exact ⟨rfl, by rw [← e]; exact X3.out, F4.out⟩
  · go_wp2_with fail
    refine (CodecW.byte_calls S w1 q m 0 0 rfl W1.out (by omega)).mono ?_
    rintro e w2 ⟨rfl, x1, x2⟩
    have X1 := Lib.hid x1
    have F2 := Lib.hid (HF1.out.trans x2)
    have hs2 := x2.size
    have K2 := Lib.hid (K1.out.fr x2 (fun h => by have := HL.out _ h; omega))
    have T12 := Lib.hid (T1.out.fr x2 (fun j _ h e => HS.out j h.1 h.2 e))
    have g0 := K2.out.cell (i := 0) rfl
    clear x1 x2 W1 T1 T2 K1 HF1
    go_wp2_with fail
    refine (CodecW.text_calls _ _ w2 q _ _ k X1.out T12.out (fun j _ h e => by rcases e with e | e; exact HS.out j h.1 h.2 e; omega) (by simp; omega)).mono ?_
    rintro e w3 ⟨rfl, x1, x2⟩
    have X2 := Lib.hid ((Plus.two x1 hs2 x2.size).mono (T := Plus S w w3) (fun j hj h => by rcases h with h | h; exact .inl h; exact .inr ⟨by omega, h.2⟩))
    have F3 := Lib.hid (F2.out.trans' (T := Plus S w1 w2) x2 (fun j hj h => by rcases h with h | h; exact h; omega))
    clear x1 x2 X1 F2 T12 K2
    go_wp2
    refine bodyPost_ret (results_none rfl _ _ _) rfl ?_
    have e : m ++ [(0 : UInt8)] ++ text k = m ++ encCh (k, v, true) := by simp [encCh]
    exact ⟨rfl, by rw [← e]; exact X2.out, F3.out⟩
theorem put_calls (S D : Nat → Prop) (w : World) (q : Nat) (m : List UInt8) (cs : List Value) (c : XCh) (H : WriterIs S w q m) (hR : RCh D w cs c) (hS : ∀ k, k < w.heap.size → D k → ¬ S k) (hlen : m.length + 83 + c.1.length + putLen c ≤ 140737488355328) :
    Calls Try.prog 34 #[.pointer (some ⟨q, 0, none⟩), .agg cs.toArray] w fun e w' => e = .returned (.tuple #[]) ∧ WriterIs (Plus S w w') w' q (m ++ encCh c) ∧ Fr S w w' :=
  (put0 (fun k => S k ∧ k < w.heap.size) D w q m cs c (H.mono fun k hk h => ⟨h, hk⟩) (fun k h => h.2) hR (fun k hk hd h => hS k hk hd h.1) hlen).mono fun e w' ⟨h1, h2, h3⟩ =>
    ⟨h1, h2.mono fun k _ h => by rcases h with h | h; exact .inl h.1; exact .inr h, h3.mono fun k _ h => h.1⟩
end Go.Proofs.Ytjdohjoljobinaa.Fra
