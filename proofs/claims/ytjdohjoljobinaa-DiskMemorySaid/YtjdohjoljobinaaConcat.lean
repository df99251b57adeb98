/- slices.Concat of slices of bytes, with slices.Grow of nil. Conditions: together at most 2^40 bytes, at most 2^40 slices. -/
import Derived.Test.YtjdohjoljobinaaRead2
import Derived.Test.YtjdohjoljobinaaMem2
import Derived.Test.YtjdohjoljobinaaCodecN
namespace Go.Proofs.Ytjdohjoljobinaa.Cat
open Go Go.RowKit Mem CodecW
set_option linter.unusedVariables false

theorem flat_succ (ls : List (List UInt8)) (n : Nat) (h : n < ls.length) : (ls.take (n + 1)).flatten = (ls.take n).flatten ++ ls[n] := by
  rw [List.take_add_one, List.getElem?_eq_getElem h, List.flatten_append]
  simp only [Option.toList_some, List.flatten_cons, List.flatten_nil, List.append_nil]
theorem flat_le (ls : List (List UInt8)) (n : Nat) : ((ls.take n).flatten).length ≤ (ls.map List.length).sum := by
  rw [List.length_flatten]
  conv => rhs; rw [← List.take_append_drop n ls, List.map_append, List.sum_append]
  omega
theorem run_append_zeros {P : Program} (w : World) (t u ty e : TypeId) (ik : IntKind) (T : ElemT P t e (.int .u8 0) 1 1) (hu : P.underlying u = some (.int ik)) (n : Nat) (hn : 0 < n) (hn2 : n ≤ 140737488355328) :
    ∃ cap w', (Builtin.append_ #[t, u] ty #[.slice none 0 0, .int .i64 (n : Int)]).run P w = .ok (.slice (some ⟨w.heap.size, 0, none⟩) n cap) w' ∧ OwnB w.heap.size e w' (.slice (some ⟨w.heap.size, 0, none⟩) 0 cap) [] ∧ Below w.heap.size w w' := by
  obtain ⟨ht, ⟨i, hi, hz, hs, hb⟩, _⟩ := T
  have hw : IntKind.i64.wrap (n : Int) = (n : Int) := IntWalk.i64_in _ (by omega)
  have h0 : ¬ ((n : Int) < 0) := by omega
  have hn0 : n ≠ 0 := by omega
  have h63 : ¬ (9223372036854775807 < (n : Int)) := by omega
  have h48 : ¬ (281474976710656 < (n : Int) * (i.bytes : Int)) := by rw [hb]; omega
  have h48' : ¬ (281474976710656 < Builtin.nextslicecap n 0 * i.bytes) := by rw [nextslicecap_zero hn, hb]; omega
  refine ⟨grownCap w n 0 e, w.drew.alloc (.cells (Builtin.zeroCells #[.int .u8 0] n ++ Builtin.zeroCells #[.int .u8 0] (grownCap w n 0 e - n)) e), ?_, ?_, ?_⟩
  · simp [Builtin.append_, run_underlying ht, run_underlying hu, sizeOf, typeInfo, zeroValue, hi, hz, hs, asInt, asIntOf, hw, h0, h48, hn0, h63, h48', Question.forced, newRow, grownCap, run_firstCells_none, Value.cells]
  · have hc : n ≤ grownCap w n 0 e := grownCap_ge _ _ _ _
    have hm : grownCap w n 0 e ≤ maxLen := grownCap_le_maxLen _ _ _ _ (by unfold maxLen; omega)
    refine ⟨by simp, .inr ⟨w.heap.size, _, _, rfl, Nat.le_refl _, heap_alloc_new w.drew _, Nat.zero_le _, hm, by simp [size_zeroCells]; omega, by simp⟩⟩
  · exact (show Below w.heap.size w w.drew from ⟨rfl, rfl, rfl, Nat.le_refl _, fun _ _ => rfl⟩).alloc (Nat.le_refl _) _
theorem wpList_append_zeros {P : Program} (w : World) {ops : Array Oper} {rest : List Oper} {o : Oper} {a : Act} {Q : Exit → Act → World → Prop} (hgd : o.guard = none) (s x : Operand) (t u : TypeId)
    (ho : o.op = .call { callee := .builtin .append, args := #[s, x], argTypes := #[t, u] }) (e : TypeId) (ik : IntKind) (T : ElemT P t e (.int .u8 0) 1 1) (hu : P.underlying u = some (.int ik))
    (hs : a.eval s = .slice none 0 0) (n : Nat) (hx : a.eval x = .int .i64 (n : Int)) (hn : 0 < n) (hn2 : n ≤ 140737488355328)
    (h : ∀ (cap' : Nat) (w' : World), OwnB w.heap.size e w' (.slice (some ⟨w.heap.size, 0, none⟩) 0 cap') [] → Below w.heap.size w w' → wpList P ops Q rest (a.put o.dst (.slice (some ⟨w.heap.size, 0, none⟩) n cap')) w') :
    wpList P ops Q (o :: rest) a w := by
  obtain ⟨cap', w', h0, h1, h2⟩ := run_append_zeros (P := P) w t u o.type e ik T hu n hn hn2
  refine wpList_plain hgd fun K hK => ?_
  unfold Oper.wp
  simp [execOp, ho, resolve, invoke, builtin, hs, hx, h0, Result.andThen]
  exact hK _ _ (h cap' w' h1 h2)

set_option maxHeartbeats 4000000 in
set_option maxRecDepth 100000 in
theorem grow_calls (w : World) (n : Nat) (hn : n ≤ 140737488355328) :
    Calls Try.prog 80 #[.slice none 0 0, .int .i64 (n : Int)] w fun e w' => ∃ v, e = .returned v ∧ OwnB w.heap.size 5 w' v [] ∧ Below w.heap.size w w' := by
  have h0 : ¬ ((n : Int) < 0) := by omega
  have hw : IntKind.i64.wrap (n : Int) = (n : Int) := IntWalk.i64_in _ (by omega)
  by_cases hp : 0 < n
  · have hpI : (0 : Int) < (n : Int) := by omega
    go_enter Try.func80, Try.ntmps80
    go_wp2_with (at_builtin; refine wpList_append_zeros _ rfl (.tmp 20) (.tmp 21) 23 3 rfl 5 .i64 elemB Try.underlying3 rfl n rfl hp hn ?_)
    intro c w2 g1 g2
    go_wp2
    go_ret
    exact ⟨_, rfl, g1, g2⟩
  · have hpI : ¬ (0 : Int) < (n : Int) := by omega
    go_enter Try.func80, Try.ntmps80
    go_wp2
    go_ret
    exact ⟨_, rfl, OwnB.nil _ _ _, Below.refl _ _⟩

set_option maxHeartbeats 4000000 in
set_option maxRecDepth 100000 in
theorem concat_calls (w : World) (v : Value) (ls : List (List UInt8)) (hA : Byts w v ls) (hl : (ls.map List.length).sum ≤ 140737488355328) (hn : ls.length ≤ 140737488355328) :
    Calls Try.prog 52 #[v] w fun e w' => ∃ v', e = .returned v' ∧ OwnB w.heap.size 5 w' v' ls.flatten ∧ Below w.heap.size w w' := by
  obtain ⟨a, cap, rfl, hk, hh⟩ := id hA
  have HA := Lib.hid hA
  clear hA hk hh
  go_enter Try.func52, Try.ntmps52
  go_upto_region 3 with fail
  go_loopw [3, 11] (fun s i wx => ∃ (n : Nat), n ≤ ls.length ∧ i = .int .i64 n ∧ s = .int .i64 (((ls.take n).flatten.length : Nat) : Int) ∧ wx = w) (fun _ i _ => ls.length - (intOf i).toNat)
  case atStart => exact ⟨0, by omega, rfl, rfl, rfl⟩
  case round =>
    obtain ⟨n, hn1, rfl, rfl, rfl⟩ := hrel
    by_cases hlt : n < ls.length
    · obtain ⟨pb, po, pc, pe, rfl, hc, hpB⟩ := HA.out.cell n hlt
      clear hpB
      have hX := flat_succ ls n hlt
      have hle := flat_le ls (n + 1)
      have hXl : (ls.take (n + 1)).flatten.length = (ls.take n).flatten.length + ls[n].length := by rw [hX, List.length_append]
      have HX := Lib.hid hXl
      rw [hXl] at hle
      clear hX hXl
      have hnI : ¬ ((((ls.take n).flatten.length : Nat) : Int) + (ls[n].length : Int) < 0) := by omega
      generalize ls[n] = p at *
      generalize (ls.take n).flatten.length = q at *
      go_wp2
      go_roundw
      case rel => exact ⟨n + 1, by omega, by go_num, by rw [HX.out]; go_num, trivial⟩
      case measure => simp [intOf]; omega
    · obtain rfl : n = ls.length := by omega
      rw [List.take_length]
      have hfl : ls.flatten.length = (ls.map List.length).sum := by rw [List.length_flatten]
      have HFL := Lib.hid hfl
      clear hfl
      generalize hq : ls.flatten.length = q at *
      go_wp2_with fail
      refine (grow_calls _ q (by have := HFL.out; omega)).mono ?_
      rintro e w2 ⟨v, rfl, g1, g2⟩
      obtain ⟨w0, rfl⟩ : ∃ w0, w0 = wr := ⟨wr, rfl⟩
      have H1 := Lib.hid g1
      have H2 := Lib.hid g2
      clear g1 g2
      go_upto_region 11 with fail
      go_loopw [6, 27] (fun s i wx => ∃ (n : Nat), n ≤ ls.length ∧ i = .int .i64 n ∧ OwnB w0.heap.size 5 wx s (ls.take n).flatten ∧ Below w0.heap.size w0 wx) (fun _ i _ => ls.length - (intOf i).toNat)
      case atStart => exact ⟨0, by omega, rfl, by simpa using H1.out, H2.out⟩
      case round =>
        obtain ⟨n, hn1, rfl, hO, hB⟩ := hrel
        obtain ⟨xa, xc, rfl, _⟩ := id hO.byt
        have HO := Lib.hid hO
        have HB := Lib.hid hB
        have hs := hB.size
        clear hO hB
        by_cases hlt : n < ls.length
        · obtain ⟨pb, po, pc, pe, rfl, hc3, hpB⟩ := HA.out.cell n hlt
          have hc : wr.cell? ⟨pb, po + n, none⟩ = some (.slice pc (ls[n]).length pe) := by
            rw [World.cell?_of_block (w := w0) (HB.out.block pb (World.block_lt_of_cell? w0 _ hc3))]; exact hc3
          have HQB := Lib.hid (hpB.below HB.out)
          clear hc3 hpB
          have hX := flat_succ ls n hlt
          have hle := flat_le ls (n + 1)
          have hXl : (ls.take (n + 1)).flatten.length = (ls.take n).flatten.length + ls[n].length := by rw [hX, List.length_append]
          rw [hXl] at hle
          have HX := Lib.hid hX
          clear hX hXl
          generalize ls[n] = p at *
          generalize hm : (ls.take n).flatten = m at *
          go_wp2_with (at_builtin; refine wpList_append_byt _ rfl (.tmp 31) (.tmp 32) 23 rfl w0.heap.size 5 elemB _ m rfl HO.out _ p rfl HQB.out (by omega) hs ?_)
          intro va3 vc3 w7 o1 o2 o3
          have hlo := HO.out.lt
          have O7 := Lib.hid o1
          have B7 := Lib.hid (HB.out.trans ((Fr.ofGrown o2).below (B := w0.heap.size) hs (fun b h => (hlo _ h).1)))
          clear o1 o2 o3 HO hc HQB hlo hm
          go_wp2
          go_roundw
          case rel => exact ⟨n + 1, by omega, by go_num, by rw [HX.out]; exact O7.out, B7.out⟩
          case measure => simp [intOf]; omega
        · obtain rfl : n = ls.length := by omega
          rw [List.take_length] at HO
          rw [List.take_length]
          go_wp2
          go_ret
          have HO2 := HO.out
          rw [hq] at HO2
          exact ⟨_, rfl, HO2, HB.out⟩
end Go.Proofs.Ytjdohjoljobinaa.Cat
