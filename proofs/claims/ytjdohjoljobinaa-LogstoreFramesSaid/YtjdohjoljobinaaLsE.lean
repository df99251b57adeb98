/- The walk of the law's begun. Condition: none. -/
import Derived.Test.YtjdohjoljobinaaLsD
import Derived.Test.YtjdohjoljobinaaSum
import Derived.Test.YtjdohjoljobinaaFrC
import Derived.Lib.SlBytesConst
namespace Go.Proofs.Ytjdohjoljobinaa.Ls
open Go Go.RowKit Mem Maps Ops Reps Dk Fra
open Go.Maps (Keyed string_keyed)
set_option linter.unusedVariables false
set_option linter.unusedSimpArgs false

theorem results_tmp4 {fn : Func} {t u v x : Tmp} (h : fn.results = #[.tmp t, .tmp u, .tmp v, .tmp x]) (tmps : Array Value) (P : Program) (w : World) :
    (results fn tmps).run P w = .ok (.tuple #[tmps.getD t undef, tmps.getD u undef, tmps.getD v undef, tmps.getD x undef]) w := by
  simp [results, h]
def BegunT (w : World) (room : Int) (e : Ending) (w' : World) : Prop :=
  ∃ q b s mb, e = .returned (.tuple #[.pointer (some ⟨q, 0, none⟩), .pointer (some ⟨s, 0, none⟩), .int .i64 0, .bool true]) ∧ w.heap.size ≤ q ∧ w.heap.size ≤ b ∧ w.heap.size ≤ s ∧ w.heap.size ≤ mb ∧ s ≠ q ∧ s ≠ b ∧ mb ≠ q ∧ mb ≠ b ∧ StIs w' s q b mb LOG [] 0 ∧ DkIs w' q b (openedD room) ∧ Below w.heap.size w w'
/-- the law's first change, as it lies -/
theorem change_new (w w1 w2 w3 : World) (t u : TypeId) (f : Nat × Nat) (h1 : w.alloc (.cells #[.int .u8 97] t f) = w1) (h2 : w1.alloc (.cells #[.int .u8 1] t) = w2)
    (h3 : w2.alloc (.cells #[.slice (some ⟨w.heap.size, 0, none⟩) 1 1, .slice (some ⟨w.heap.size + 1, 0, none⟩) 1 1, .bool false] u) = w3) :
    Sl 3 RCh (fun k => w.heap.size ≤ k) w3 (.slice (some ⟨w.heap.size + 1 + 1, 0, none⟩) 1 1) CH ∧ Below w.heap.size w w3 := by
  have z1 : w1.heap.size = w.heap.size + 1 := by rw [← h1]; simp
  have z2 : w2.heap.size = w.heap.size + 1 + 1 := by rw [← h2]; simp [z1]
  have B1 : Below w.heap.size w w1 := by rw [← h1]; exact below_alloc _ _
  have B2 : Below w1.heap.size w1 w2 := by rw [← h2]; exact below_alloc _ _
  have B3 : Below w2.heap.size w2 w3 := by rw [← h3]; exact below_alloc _ _
  have one : ∀ (c : UInt8) (i : Nat) (h : i < [c].length), #[Value.int .u8 (c.toNat : Int)][i]? = some (byt ([c][i]'h)) := fun c i hi => by
    have h0 : i = 0 := by simpa using hi
    subst h0; rfl
  have X1 : Byt (fun k => w.heap.size ≤ k) w1 (.slice (some ⟨w.heap.size, 0, none⟩) 1 1) [97] := by
    rw [← h1]
    exact Byt.newBlock w _ t f [97] 1 1 rfl (by decide) (Nat.le_refl _) (one 97)
  have X2 : Byt (fun k => w.heap.size ≤ k) w2 (.slice (some ⟨w.heap.size + 1, 0, none⟩) 1 1) [1] := by
    rw [← h2, ← z1]
    exact Byt.newBlock w1 _ t (0, 0) [1] 1 1 rfl (by decide) (by omega) (one 1)
  have Y1 := (X1.below B2).below B3
  have Y2 := X2.below B3
  have K3 : Blk w3 w2.heap.size [.slice (some ⟨w.heap.size, 0, none⟩) 1 1, .slice (some ⟨w.heap.size + 1, 0, none⟩) 1 1, .bool false] u := by rw [← h3]; exact Blk.new w2 _ _ _ rfl
  refine ⟨⟨[[.slice (some ⟨w.heap.size, 0, none⟩) 1 1, .slice (some ⟨w.heap.size + 1, 0, none⟩) 1 1, .bool false]], ?_, ?_⟩, ?_⟩
  · refine ⟨_, 1, rfl, ⟨Nat.le_refl _, by decide, fun h => by cases h⟩, by simp, .inr ⟨w2.heap.size, 0, by rw [z2], by omega, fun i hi => ?_⟩⟩
    have : i = 0 := by simpa using hi
    subst this
    intro j u hu
    rw [show 0 + 0 * 3 + j = j from by omega]
    exact K3.cell hu
  · exact .cons ⟨_, _, rfl, ⟨_, rfl, Y1⟩, _, _, rfl, ⟨_, rfl, Y2⟩, trivial, rfl⟩ .nil
  · exact (B1.trans (B2.mono (by omega))).trans (B3.mono (by omega))
set_option maxHeartbeats 8000000 in
set_option maxRecDepth 100000 in
theorem begun_calls (w : World) (room : Int) (hr : room ≤ 9223372036854775807) :
    Calls Try.prog 12 #[.int .i64 room] w (BegunT w room) := by
  have kc := fun (w : World) (C : Array Value) (n c : Nat) => Lib.run_convert_bytes_const (P := Try.prog) w 23 5 C n c Try.underlying23 Try.underlying5
  have hlog : nmV LOG = .string ⟨#[108, 111, 103]⟩ := rfl
  go_enter Try.func12, Try.ntmps12
  go_wp2_with fail
  refine (new_calls w 1000).mono ?_
  rintro e w1 ⟨q, b, rfl, hq, hb, d1, g1⟩
  have D1 := Lib.hid d1
  have G1 := Lib.hid g1
  have hlt1 := d1.lt
  have hlt1' := g1.size
  clear d1 g1
  go_wp2_with fail
  have hop := open_calls w1 q b 1000 D1.out (by omega)
  rw [hlog] at hop
  refine hop.mono ?_
  clear hop
  rintro e w2 ⟨s, mb, rfl, hs, hmb, s2, d2, f2⟩
  have D2 := Lib.hid d2
  have S2 := Lib.hid s2
  have F2 := Lib.hid f2
  have hlt2 := s2.lt
  have hz2 := f2.size
  clear d2 s2 f2 D1
  go_wp2_with fail
  obtain ⟨wa, hwa⟩ : ∃ x, w2.alloc (.cells #[.int .u8 97] 5 (1, 2)) = x := ⟨_, rfl⟩
  obtain ⟨wb, hwb⟩ : ∃ x, wa.alloc (.cells #[.int .u8 1] 5) = x := ⟨_, rfl⟩
  obtain ⟨wc, hwc⟩ : ∃ x, wb.alloc (.cells #[.slice (some ⟨w2.heap.size, 0, none⟩) 1 1, .slice (some ⟨w2.heap.size + 1, 0, none⟩) 1 1, .bool false] 70) = x := ⟨_, rfl⟩
  obtain ⟨ca, cb⟩ := change_new w2 wa wb wc _ _ _ hwa hwb hwc
  rw [hwa, hwb, hwc]
  clear hwa hwb hwc
  have D3 := Lib.hid (D2.out.below cb)
  have S3 := Lib.hid (S2.out.below cb)
  have F3 := Lib.hid (show Below w.heap.size w wc from (G1.out.trans (F2.out.below hlt1' (fun k hk => by rcases hk with rfl | rfl <;> omega))).trans (cb.mono (by omega)))
  have hz3 := cb.size
  have hne : s ≠ q ∧ s ≠ b ∧ mb ≠ q ∧ mb ≠ b := ⟨by omega, by omega, by omega, by omega⟩
  obtain ⟨F, HFF⟩ : ∃ x, frameT CH = x := ⟨_, rfl⟩
  have HFL := Lib.hid (show F.length = 18 from by rw [← HFF]; exact ch_len)
  have hco := commit1_calls wc s q b mb _ F HFF S3.out D3.out (ca.mono rep_Ch (fun k _ h => ⟨by omega, by omega, by omega, by omega⟩)) hne
  refine hco.mono ?_
  clear hco ca cb D2 S2 F2 HFF
  rintro e w4 ⟨rfl, s4, d4, f4⟩
  have D4 := Lib.hid d4
  have S4 := Lib.hid s4
  have F4 := Lib.hid f4
  have hz4 := f4.size
  clear s4 d4 f4 D3 S3
  go_wp2_with fail
  obtain ⟨w5, hw5⟩ : ∃ x, w4.alloc (.cells #[.int .u8 97] 5 (1, 2)) = x := ⟨_, rfl⟩
  have B5 : Below w4.heap.size w4 w5 := by rw [← hw5]; exact below_alloc _ _
  have Y5 : Byt Any w5 (.slice (some ⟨w4.heap.size, 0, none⟩) 1 1) [97] := by
    rw [← hw5]
    exact Byt.newBlock w4 _ _ (1, 2) [97] 1 1 rfl (by decide) trivial (fun i hi => by
      have h0 : i = 0 := by simpa using hi
      subst h0; rfl)
  have z5 : w5.heap.size = w4.heap.size + 1 := by rw [← hw5]; simp
  rw [hw5]
  have D5 := Lib.hid (D4.out.below B5)
  have S5 := Lib.hid (S4.out.below B5)
  have F5 := Lib.hid ((F3.out.trans (F4.out.below (by omega) (fun k hk => by rcases hk with rfl | rfl | rfl | rfl <;> omega))).trans (B5.mono (by omega)))
  clear hw5 F3 F4 D4 S4 G1
  refine (get_calls w5 s q b mb 18 LOG [([97], [1])] S5.out _ [97] Y5 (by decide) (by decide)).mono ?_
  clear Y5
  rintro e w6 ⟨v, rfl, hv, g6⟩
  rw [show valF [([97], [1])] [97] = some [1] from rfl] at hv ⊢
  dsimp only [Option.isSome_some, Option.getD_some] at hv ⊢
  obtain ⟨va, vc, rfl, _⟩ := id hv
  have V6 := Lib.hid hv
  have D6 := Lib.hid (D5.out.below g6)
  have S6 := Lib.hid (S5.out.below g6)
  have F6 := Lib.hid (F5.out.trans (g6.mono (by omega)))
  have z6 := g6.size
  clear hv g6 F5 D5 S5 B5
  go_wp2_with fail
  have hrd := read_calls w6 q b (fourthD F) LOG D6.out (by simp [maxLen, LOG]) (by show F.length ≤ _; rw [HFL.out]; omega)
  rw [hlog] at hrd
  refine hrd.mono ?_
  clear hrd
  rintro e w7 ⟨u, rfl, hu, g7⟩
  rw [show lookF (fourthD F).fs LOG = some (F, F.length) from rfl]
  have hu' : Byt (fun k => w6.heap.size ≤ k) w7 u F := hu
  obtain ⟨ua, uc, rfl, _⟩ := hu'
  rw [HFL.out]
  dsimp only [Option.isSome_some]
  have V7 := Lib.hid (V6.out.below g7)
  have D7 := Lib.hid (D6.out.below g7)
  have S7 := Lib.hid (S6.out.below g7)
  have F7 := Lib.hid (F6.out.trans (g7.mono (by omega)))
  have z7 := g7.size
  clear hu g7 F6 D6 S6 V6
  have hst := run_convert_byt (P := Try.prog) V7.out Try.underlying23 Try.underlying5 Try.underlying9
  rw [show str [1] = ⟨#[1]⟩ from rfl] at hst
  dsimp only [List.length_cons, List.length_nil, Nat.zero_add] at hst ⊢
  have hle := len_calls w7 s q b mb 18 LOG [([97], [1])] S7.out
  have hsi := size_calls w7 s q b mb 18 LOG [([97], [1])] S7.out
  go_wp2_with fail
  refine hle.mono ?_
  clear hle hst
  rintro e wx ⟨rfl, rfl⟩
  dsimp only [List.length_cons, List.length_nil, Nat.zero_add, Int.ofNat_eq_natCast, Int.natCast_one]
  go_wp2_with fail
  refine hsi.mono ?_
  clear hsi
  rintro e wx ⟨rfl, rfl⟩
  dsimp only [Int.ofNat_eq_natCast, Int.natCast_one]
  go_wp2_with fail
  obtain ⟨w8, hw8⟩ : ∃ x, w7.alloc (.cells #[.int .u8 49, .int .u8 50, .int .u8 51, .int .u8 52, .int .u8 53, .int .u8 54, .int .u8 55, .int .u8 56, .int .u8 57] 5 (9, 10)) = x := ⟨_, rfl⟩
  have B8 : Below w7.heap.size w7 w8 := by rw [← hw8]; exact below_alloc _ _
  have Y8 : Byt Any w8 (.slice (some ⟨w7.heap.size, 0, none⟩) 9 9) [49, 50, 51, 52, 53, 54, 55, 56, 57] := by
    rw [← hw8]
    exact Byt.newBlock w7 _ _ (9, 10) [49, 50, 51, 52, 53, 54, 55, 56, 57] 9 9 rfl (by decide) trivial (fun i hi => by
      have h0 : i < 9 := by simpa using hi
      match i, h0 with
      | 0, _ | 1, _ | 2, _ | 3, _ | 4, _ | 5, _ | 6, _ | 7, _ | 8, _ => rfl)
  rw [hw8]
  have F8 := Lib.hid (F7.out.trans (B8.mono (by omega)))
  have z8 := B8.size
  clear hw8 F7 D7 S7 V7 B8
  refine (SumW.sum_prog _ _ w8 (by decide) Y8).mono ?_
  clear Y8
  rintro e w9 ⟨rfl, g9⟩
  rw [Crc.crc_known]
  have F9 := Lib.hid (F8.out.trans (g9.mono (by omega)))
  have z9 := g9.size
  clear g9 F8
  go_wp2_with fail
  refine (new_calls w9 room).mono ?_
  rintro e w10 ⟨q', b', rfl, hq', hb', d1, g1⟩
  have D10 := Lib.hid d1
  have F10 := Lib.hid (F9.out.trans (g1.mono (by omega)))
  have hlt10 := d1.lt
  have hlt10' := g1.size
  clear d1 g1 F9
  go_wp2_with fail
  have hop := open_calls w10 q' b' room D10.out hr
  rw [hlog] at hop
  refine hop.mono ?_
  clear hop D10
  rintro e w11 ⟨s', mb', rfl, hs', hmb', s2, d2, f2⟩
  have D11 := Lib.hid d2
  have S11 := Lib.hid s2
  have F11 := Lib.hid (F10.out.trans (f2.below (by omega) (fun k hk => by rcases hk with rfl | rfl <;> omega)))
  clear d2 s2 f2 F10
  go_wp2_with fail
  refine bodyPost_ret (results_tmp4 rfl _ _ _) rfl ?_
  exact ⟨q', b', s', mb', rfl, by omega, by omega, by omega, by omega, by omega, by omega, by omega, by omega, S11.out, D11.out, F11.out⟩
end Go.Proofs.Ytjdohjoljobinaa.Ls
