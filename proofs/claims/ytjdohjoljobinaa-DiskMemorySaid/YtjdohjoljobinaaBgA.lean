/- The walk of the disk laws' begun. No condition. -/
import Derived.Test.YtjdohjoljobinaaDxL
import Derived.Test.YtjdohjoljobinaaQuiet
namespace Go.Proofs.Ytjdohjoljobinaa.Lw
open Go Go.RowKit Mem Maps Ops Reps Dx
set_option linter.unusedVariables false
set_option linter.unusedSimpArgs false

theorem byt_blk {D : Nat → Prop} {w : World} {g : Nat} {l : List UInt8} {e : TypeId} (h : Blk w g (l.map byt) e) (hd : D g) (hl : l.length ≤ maxLen) : Byt D w (.slice (some ⟨g, 0, none⟩) l.length l.length) l := by
  refine ⟨_, _, rfl, ⟨Nat.le_refl _, hl, fun h => by cases h⟩, .inr ⟨g, 0, rfl, hd, fun i hi => ?_⟩⟩
  rw [Nat.zero_add]
  exact h.cell (by simp [hi, byt])
def BegunT (D : Nat → Prop) (w : World) (d : Disk) (e : Ending) (w' : World) : Prop := ∃ q b, e = .returned (.tuple #[.pointer (some ⟨q, 0, none⟩), .bool true]) ∧ w.heap.size ≤ q ∧ w.heap.size ≤ b ∧ DkIs (fun k => D k ∧ k ≠ q ∧ k ≠ b) w' q b d ∧ Below w.heap.size w w'
set_option maxHeartbeats 16000000 in
set_option maxRecDepth 100000 in
theorem begun_calls (w : World) (D : Nat → Prop) (hD : ∀ k, w.heap.size ≤ k → D k) (room : Int) : Calls Try.prog 13 #[.int .i64 room] w (BegunT D w (newD room)) := by
  have HD := Lib.hid hD
  clear hD
  go_enter Try.func13, Try.ntmps13
  go_wp2_with fail
  refine (new_calls w (fun k => w.heap.size ≤ k) (fun _ h => h) 10).mono ?_
  rintro e w1 ⟨q0, b0, rfl, hq0, hb0, h1, g1⟩
  have H1 := Lib.hid h1
  have G1 := Lib.hid g1
  have hs1 := g1.size
  clear h1 g1
  go_wp2_with fail
  obtain ⟨w2, e2⟩ : ∃ x, w1.alloc (.cells #[.int .u8 1, .int .u8 2] 5) = x := ⟨_, rfl⟩
  have v2 : Byt Any w2 (.slice (some ⟨w1.heap.size, 0, none⟩) 2 2) [1, 2] := by
    rw [← e2]; exact byt_blk (l := [1, 2]) (Blk.new w1 _ _ _ rfl) trivial (by unfold maxLen; decide)
  have c2 : Below w1.heap.size w1 w2 := by rw [← e2]; exact below_alloc _ _
  have H2 := Lib.hid (H1.out.below c2)
  have C2 := Lib.hid (G1.out.trans (c2.mono hs1))
  rw [e2]
  clear e2 H1 G1
  have a2 := append_calls w2 q0 b0 (newD 10) [97] _ [1, 2] H2.out (by unfold maxLen; decide) v2 (by decide) (by decide) (by decide) (by decide) (by decide) (by decide)
  rw [show appendD (newD 10) [97] [1, 2] = (⟨10, 1, -1, false, [([97], [1, 2], 0)]⟩, 0) from rfl] at a2
  refine a2.mono ?_
  rintro e w3 ⟨rfl, h3, f3⟩
  have H3 := Lib.hid h3
  have C3 := Lib.hid (C2.out.trans (f3.below C2.out.size (fun k hk => by rcases hk with rfl | rfl <;> assumption)))
  clear a2 v2 c2 h3 f3 H2 C2
  go_wp2_with fail
  have a3 := sync_calls w3 q0 b0 _ [97] H3.out (by unfold maxLen; decide) (by decide) (by decide) (by decide) (by decide)
  rw [show syncD ⟨10, 1, -1, false, [([97], [1, 2], 0)]⟩ [97] = (⟨10, 2, -1, false, [([97], [1, 2], 2)]⟩, 0) from rfl] at a3
  refine a3.mono ?_
  rintro e w4 ⟨rfl, h4, f4⟩
  have H4 := Lib.hid h4
  have C4 := Lib.hid (C3.out.trans (f4.below C3.out.size (fun k hk => by rcases hk with rfl | rfl <;> assumption)))
  clear a3 h4 f4 H3 C3
  go_wp2_with fail
  obtain ⟨w5, e5⟩ : ∃ x, w4.alloc (.cells #[.int .u8 3] 5) = x := ⟨_, rfl⟩
  have v5 : Byt Any w5 (.slice (some ⟨w4.heap.size, 0, none⟩) 1 1) [3] := by
    rw [← e5]; exact byt_blk (l := [3]) (Blk.new w4 _ _ _ rfl) trivial (by unfold maxLen; decide)
  have c5 : Below w4.heap.size w4 w5 := by rw [← e5]; exact below_alloc _ _
  have H5 := Lib.hid (H4.out.below c5)
  have C5 := Lib.hid (C4.out.trans (c5.mono C4.out.size))
  rw [e5]
  clear e5 H4 C4
  have a5 := append_calls w5 q0 b0 _ [97] _ [3] H5.out (by unfold maxLen; decide) v5 (by decide) (by decide) (by decide) (by decide) (by decide) (by decide)
  rw [show appendD ⟨10, 2, -1, false, [([97], [1, 2], 2)]⟩ [97] [3] = (⟨10, 3, -1, false, [([97], [1, 2, 3], 2)]⟩, 0) from rfl] at a5
  refine a5.mono ?_
  rintro e w6 ⟨rfl, h6, f6⟩
  have H6 := Lib.hid h6
  have C6 := Lib.hid (C5.out.trans (f6.below C5.out.size (fun k hk => by rcases hk with rfl | rfl <;> assumption)))
  clear a5 v5 c5 h6 f6 H5 C5
  go_wp2_with fail
  refine (read_calls w6 q0 b0 _ [97] H6.out (by unfold maxLen; decide) (by decide)).mono ?_
  rintro e w7 ⟨va, rfl, o7, g7⟩
  rw [show bytesF [([97], [1, 2, 3], 2)] [97] = [1, 2, 3] from rfl] at o7
  rw [show (lookF [(([97] : Nm), ([1, 2, 3] : List UInt8), 2)] [97]).isSome = true from rfl]
  have H7 := Lib.hid (H6.out.below g7)
  have C7 := Lib.hid (C6.out.trans (g7.mono C6.out.size))
  have V7 := Lib.hid o7.any
  clear o7 g7 H6 C6
  go_wp2_with fail
  have hi7 : Ints Any w7 (.slice none 0 0) [] := Arr.Arr.nil _ _ _
  have a7 := crash_calls w7 q0 b0 _ H7.out _ [] hi7 (by decide) (by decide) (by decide) (by decide) (fun n => by unfold lastF bytesF lookF; dsimp only; split <;> simp [lookF]) (by simp)
  refine a7.mono ?_
  rintro e w8 ⟨q1, b1, rfl, hq1, hb1, h8, g8⟩
  rw [show crashD ⟨10, 3, -1, false, [([97], [1, 2, 3], 2)]⟩ [] = ⟨10, 0, -1, false, [([97], [1, 2], 2)]⟩ from by simp [crashD, crashAll, namesF, crashStep, putF, newD, cutK, bytesF, lastF, lookF]] at h8
  have H8 := Lib.hid (H7.out.below g8)
  have C8 := Lib.hid (C7.out.trans (g8.mono C7.out.size))
  have V8 := Lib.hid (V7.out.below g8)
  have X8 := Lib.hid h8
  clear a7 h8 g8 H7 C7 V7 hi7
  go_wp2_with fail
  refine (read_calls w8 q1 b1 _ [97] X8.out (by unfold maxLen; decide) (by decide)).mono ?_
  rintro e w9 ⟨vb, rfl, o9, g9⟩
  rw [show bytesF [([97], [1, 2], 2)] [97] = [1, 2] from rfl] at o9
  rw [show (lookF [(([97] : Nm), ([1, 2] : List UInt8), 2)] [97]).isSome = true from rfl]
  have H9 := Lib.hid (H8.out.below g9)
  have C9 := Lib.hid (C8.out.trans (g9.mono C8.out.size))
  have V9 := Lib.hid (V8.out.below g9)
  have U9 := Lib.hid o9.any
  clear o9 g9 H8 C8 V8 X8
  go_wp2_with fail
  refine (new_calls w9 D (fun k hk => HD.out k (Nat.le_trans C9.out.size hk)) room).mono ?_
  rintro e w10 ⟨q, b, rfl, hq, hb, h10, g10⟩
  have H10 := Lib.hid (H9.out.below g10)
  have N10 := Lib.hid h10
  have C10 := Lib.hid (C9.out.trans (g10.mono C9.out.size))
  have e1 := run_convert_byt (V9.out.below g10) Try.underlying23 Try.underlying5 Try.underlying9
  have e2 := run_convert_byt (U9.out.below g10) Try.underlying23 Try.underlying5 Try.underlying9
  have hsz := C9.out.size
  clear h10 g10 H9 C9 V9 U9
  have t1 : (str [1, 2, 3]).toList = [1, 2, 3] := by simp [str, ByteArray.toList, ByteArray.toList.loop, ByteArray.size, ByteArray.get!]
  have t2 : (str [1, 2]).toList = [1, 2] := by simp [str, ByteArray.toList, ByteArray.toList.loop, ByteArray.size, ByteArray.get!]
  go_wp2_with fail
  refine (steps_calls w10 q0 b0 _ H10.out).mono ?_
  rintro e w11 ⟨rfl, rfl⟩
  go_wp2
  go_ret2
  exact ⟨q, b, rfl, by omega, by omega, N10.out, C10.out⟩
end Go.Proofs.Ytjdohjoljobinaa.Lw
