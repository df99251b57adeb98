/- Walks of the reference's reader: Raw, Said, Get, GetVar, GetText, End. Condition: the bytes are at most 2^47. Walks of the reference's GetText, End. Condition: the bytes are at most 2^47. A range over a function whose iterator writes blocks of its own: what the iterator promises, and the law for the caller. Program-independent; no condition. Walks of the wire's reader: must, kind, digest, key. Condition: the bytes are at most 2^47. The laws of Ops, inside a fence (in the body of a function that ranges over a function, or is ranged over). Program-independent; no condition. The walk of the codec's Items at keys: what its iterator promises. Condition: one thing's reader keeps its contract. rangeSeq, where the assignment of a round's values makes memory. Program-independent; no condition. Walks of the codec's Items and List at keys, and of the closure that things hands them. Condition: the bytes are at most 2^40; at most 65536 things. Walks of the wire's reader: things at keys, params. Condition: the bytes are at most 2^47. The walks of the program's ReadParams. Condition: the bytes are at most 2^47. -/
import Derived.Test.YtmenchnjajpkmaaGreatDoorEvic
import Derived.Test.YtmenchnjajpkmaaGreatDoorEvia
import Derived.Test.YtmenchnjajpkmaaGreatDoorEvii
import Derived.Laws.ResultCell
import Derived.Deep.RegionHeld3
import Derived.RangeFuncNested
import Derived.RangeFuncBound
import Derived.RangeFuncCalls
import Derived.RangeFuncLeaves
import Derived.Test.YtmenchnjajpkmaaGreatDoorEvih
import Derived.Laws.CopyOwn
import Derived.Test.YtmenchnjajpkmaaGreatDoorEvie
import Derived.OwnWalkIn
import Derived.Shelf.Abstract
import Derived.Shelf.RegionOpen
import Derived.TacticsInMore
import Derived.LoopNIn
import Derived.LoopIn
section
namespace Go.Proofs.YtmenchnjajpkmaaGreatDoor.CodecRef
open Go Go.RowKit Mem Codec CodecW CodecR CodecN

theorem results_row_tmp {P : Program} {fn : Func} {p u : Tmp} {ty : TypeId} (h : fn.results = #[.cell p ty, .tmp u]) (tmps : Array Value) (w : World) (g : Nat) (t : TypeId) (l : List Value) (d : TypeDesc)
    (hp : tmps.getD p undef = .pointer (some ⟨g, 0, none⟩)) (hB : Blk w g l t) (hu : P.underlying ty = some d) (hd : (match d with | .struct _ | .array _ _ => true | _ => false) = true) (hi : (P.info? ty).map (·.size) = some l.length) :
    (results fn tmps).run P w = .ok (.tuple #[.agg l.toArray, tmps.getD u undef]) w := by
  rw [results_cell_tmp h, hp]
  have ha : (asAddr (.pointer (some ⟨g, 0, none⟩))).run P w = .ok ⟨g, 0, none⟩ w := rfl
  rw [ha]
  simp only [Result.andThen_ok]
  rw [run_loadVar_row w g t ty l.toArray (0, 0) d hB hu hd (by simpa using hi)]
  rfl
theorem Blk.set3 {w : World} {b : Nat} {x y z : Value} {t : TypeId} (h : Blk w b [x, y, z] t) (x' y' z' : Value) : Blk (((w.setCell ⟨b, 0, none⟩ x').setCell ⟨b, 1, none⟩ y').setCell ⟨b, 2, none⟩ z') b [x', y', z'] t :=
  ((h.set 0 x').set 1 y').set 2 z'
/-- the reference's reader as a value -/
abbrev rv (a : Option Addr) (n c : Nat) (at' : Nat) (e : Int) : Value := .agg #[.slice a n c, .int .i64 (at' : Int), .int .i64 e]

set_option maxHeartbeats 4000000 in
set_option maxRecDepth 100000 in
theorem raw_calls (w : World) (a : Option Addr) (c : Nat) (B : List UInt8) (at' : Nat) (e : Int) (n : Int) (hB : Byt Any w (.slice a B.length c) B) (hat : at' ≤ B.length) (hl : B.length ≤ 140737488355328) (h1 : -9223372036854775808 ≤ n) (h2 : n < 9223372036854775808) :
    Calls Tryz.prog 102 #[rv a B.length c at' e, .int .i64 n] w fun x w' => ∃ v, x = .returned (.tuple #[rv a B.length c (B.length - (Rd.raw ⟨B.drop at', e⟩ n).1.rest.length) (Rd.raw ⟨B.drop at', e⟩ n).1.e, v]) ∧ Byt (fun k => w.heap.size ≤ k) w' v (Rd.raw ⟨B.drop at', e⟩ n).2 ∧ Below w.heap.size w w' := by
  have HB := Lib.hid hB
  clear hB
  have hbl : ∀ (W : World) (o1 o2 : Obj), W = (w.alloc o1).alloc o2 → Below w.heap.size w W := fun W o1 o2 h => by
    rw [h]; exact ((Below.refl _ _).alloc (Nat.le_refl _) _).alloc (by simp) _
  have hbk : ∀ (o1 : Obj) (l : List Value), Blk ((w.alloc o1).alloc (.cells l.toArray 121)) (w.heap.size + 1) l 121 := fun o1 l => by
    have := Blk.new (w.alloc o1) l.toArray 121 l rfl
    rwa [World.size_alloc] at this
  have HBL := Lib.hid hbl
  have HBK := Lib.hid hbk
  clear hbl hbk
  by_cases he : e = 0
  · subst he
    by_cases hn : n < 0
    · have hr : Rd.raw ⟨B.drop at', 0⟩ n = (⟨B.drop at', 112⟩, []) := by unfold Rd.raw; rw [if_pos hn]; rfl
      rw [hr]
      have hz : B.length - (B.drop at').length = at' := by simp; omega
      dsimp only
      rw [hz]
      have HZ := Lib.hid hz
      clear hr hz
      go_enter Tryz.func102, Tryz.ntmps102
      go_wp2
      exact bodyPost_ret (results_row_tmp Tryz.results102 _ _ (w.heap.size + 1) 121 [.slice a B.length c, .int .i64 at', .int .i64 112] _ rfl (HBK.out _ _) Tryz.underlying121 rfl (by kernel_rfl)) rfl ⟨.slice none 0 0, rfl, Byt.nil _ _, HBL.out _ _ _ rfl⟩
    · obtain ⟨m, rfl⟩ : ∃ m : Nat, n = (m : Int) := ⟨n.toNat, by omega⟩
      have hr0 : Rd.raw ⟨B.drop at', 0⟩ (m : Int) = Rd.take ⟨B.drop at', 0⟩ m := by unfold Rd.raw; rw [if_neg hn, Int.toNat_natCast]
      have hnz : ¬ ((m : Int) < 0) := by omega
      by_cases hs : B.length - at' < m
      · have hr : Rd.raw ⟨B.drop at', 0⟩ (m : Int) = (⟨B.drop at', 110⟩, []) := by
          rw [hr0]; unfold Rd.take; simp [hs]
        rw [hr]
        have hz : B.length - (B.drop at').length = at' := by simp; omega
        dsimp only
        rw [hz]
        clear hr hz hr0
        have hsz : (B.length : Int) - (at' : Int) < (m : Int) := by omega
        go_enter Tryz.func102, Tryz.ntmps102
        go_wp2
        exact bodyPost_ret (results_row_tmp Tryz.results102 _ _ (w.heap.size + 1) 121 [.slice a B.length c, .int .i64 at', .int .i64 110] _ rfl (HBK.out _ _) Tryz.underlying121 rfl (by kernel_rfl)) rfl ⟨.slice none 0 0, rfl, Byt.nil _ _, HBL.out _ _ _ rfl⟩
      · have hr : Rd.raw ⟨B.drop at', 0⟩ (m : Int) = (⟨(B.drop at').drop m, 0⟩, (B.drop at').take m) := by
          rw [hr0]; unfold Rd.take; simp [hs]
        rw [hr]
        have hz : B.length - ((B.drop at').drop m).length = at' + m := by simp; omega
        have htk : (B.drop at').take m = (B.take (at' + m)).drop at' := by rw [List.take_drop]
        dsimp only
        rw [hz, htk]
        clear hr hz hr0 htk
        have hsz : ¬ ((B.length : Int) - (at' : Int) < (m : Int)) := by omega
        have hb2 : Below w.heap.size w ((w.alloc (.cells #[.slice a B.length c, .int .i64 at', .int .i64 0] 121)).alloc (.cells #[.slice none 0 0, .int .i64 0, .int .i64 0] 121)) := HBL.out _ _ _ rfl
        have hk1 : Blk ((w.alloc (.cells #[.slice a B.length c, .int .i64 at', .int .i64 0] 121)).alloc (.cells #[.slice none 0 0, .int .i64 0, .int .i64 0] 121)) w.heap.size [.slice a B.length c, .int .i64 at', .int .i64 0] 121 := (Blk.new w _ _ _ rfl).alloc _
        have hk2 := HBK.out (.cells #[.slice a B.length c, .int .i64 at', .int .i64 0] 121) [.slice none 0 0, .int .i64 0, .int .i64 0]
        obtain ⟨sa, scap, hs1, _, _, hs4⟩ := run_slice_byt elemB (HB.out.below hb2) at' (at' + m) (by omega) (by omega)
        rw [Nat.add_sub_cancel_left] at hs4
        have hs5 : ∀ (kl kh : IntKind) (w' : World), (Instr.sliceAt 25 (.slice a B.length c) (some (.int kl (at' : Int))) (some (.int kh ((at' : Int) + (m : Int)))) none).run Tryz.prog w' = .ok (.slice sa m scap) w' := fun kl kh w' => by
          have := hs1 kl kh w'
          rwa [Nat.add_sub_cancel_left, Int.natCast_add] at this
        have hlp : ((B.take (at' + m)).drop at').length = m := by simp; omega
        have HS := Lib.hid hs4
        have HK1 := Lib.hid hk1
        have HK2 := Lib.hid hk2
        have HB2 := Lib.hid hb2
        have hsw : ((w.alloc (.cells #[.slice a B.length c, .int .i64 at', .int .i64 0] 121)).alloc (.cells #[.slice none 0 0, .int .i64 0, .int .i64 0] 121)).heap.size = w.heap.size + 2 := by simp
        clear hs1 hs4 hk1 hk2 hb2
        go_enter Tryz.func102, Tryz.ntmps102
        go_upto_region 10 with fail
        generalize ((w.alloc (.cells #[.slice a B.length c, .int .i64 at', .int .i64 0] 121)).alloc (.cells #[.slice none 0 0, .int .i64 0, .int .i64 0] 121)) = W at *
        have c0 := HK1.out.cell (i := 0) rfl
        have c1 := HK1.out.cell (i := 1) rfl
        go_wp2_with (at_builtin; refine wpList_append_byt _ rfl (.tmp 28) (.tmp 37) 25 rfl W.heap.size 5 elemB _ [] rfl (OwnB.nil _ _ _) (.slice sa m scap) ((B.take (at' + m)).drop at') rfl HS.out (by simp; omega) (Nat.le_refl _) ?_)
        intro va vc w3 o1 o2 o3
        have hb3 : Below W.heap.size W w3 := (Below.refl _ _).grown o2 (Nat.le_refl _) (fun k hk => by cases hk)
        have hs3 := hb3.size
        have hk1 := HK1.out.below hb3
        have hk2 := HK2.out.below hb3
        have HB3 := Lib.hid (HB2.out.trans (hb3.mono (by omega)))
        have HV := Lib.hid o1
        have c0 := hk1.cell (i := 0) rfl
        have c1 := hk1.cell (i := 1) rfl
        have c2 := hk1.cell (i := 2) rfl
        have d0 := hk2.cell (i := 0) rfl
        have d1 := hk2.cell (i := 1) rfl
        have d2 := hk2.cell (i := 2) rfl
        have f0 := hk1.free
        have f1 := hk2.free
        have HK2 := Lib.hid hk2
        clear hk1 hk2 hb3 o1 o2 o3 hs5
        go_wp2
        have hfin := Blk.set3 (HK2.out.other (a := ⟨w.heap.size, 1, none⟩) (by show w.heap.size ≠ w.heap.size + 1; omega) (.int .i64 ((at' : Int) + (m : Int)))) (.slice a B.length c) (.int .i64 ((at' : Int) + (m : Int))) (.int .i64 0)
        have hown := (((HV.out.set1 (a := ⟨w.heap.size, 1, none⟩) (by show w.heap.size < w.heap.size + 2; omega) (.int .i64 ((at' : Int) + (m : Int)))).set1 (a := ⟨w.heap.size + 1, 0, none⟩) (by show w.heap.size + 1 < w.heap.size + 2; omega) (.slice a B.length c)).set1 (a := ⟨w.heap.size + 1, 1, none⟩) (by show w.heap.size + 1 < w.heap.size + 2; omega) (.int .i64 ((at' : Int) + (m : Int)))).set1 (a := ⟨w.heap.size + 1, 2, none⟩) (by show w.heap.size + 1 < w.heap.size + 2; omega) (.int .i64 0)
        have hbel := (((HB3.out.setCell (p := ⟨w.heap.size, 1, none⟩) (Nat.le_refl _) (.int .i64 ((at' : Int) + (m : Int)))).setCell (p := ⟨w.heap.size + 1, 0, none⟩) (Nat.le_succ _) (.slice a B.length c)).setCell (p := ⟨w.heap.size + 1, 1, none⟩) (Nat.le_succ _) (.int .i64 ((at' : Int) + (m : Int)))).setCell (p := ⟨w.heap.size + 1, 2, none⟩) (Nat.le_succ _) (.int .i64 0)
        refine bodyPost_ret (results_row_tmp Tryz.results102 _ _ (w.heap.size + 1) 121 _ _ rfl hfin Tryz.underlying121 rfl (by kernel_rfl)) rfl ⟨_, rfl, ?_, hbel⟩
        have := hown.byt.mono (E := fun k => w.heap.size ≤ k) (fun k _ h => by have := h.2; omega)
        simpa using this
  · have hne : (e != 0) = true := by simpa using he
    have hr : Rd.raw ⟨B.drop at', e⟩ n = (⟨B.drop at', e⟩, []) := by
      unfold Rd.raw
      split
      · unfold Rd.fail; rw [if_neg he]
      · unfold Rd.take; rw [if_pos he]
    rw [hr]
    have hz : B.length - (B.drop at').length = at' := by simp; omega
    dsimp only
    rw [hz]
    clear hr hz
    go_enter Tryz.func102, Tryz.ntmps102
    go_wp2
    exact bodyPost_ret (results_row_tmp Tryz.results102 _ _ (w.heap.size + 1) 121 [.slice a B.length c, .int .i64 at', .int .i64 e] _ rfl (HBK.out _ _) Tryz.underlying121 rfl (by kernel_rfl)) rfl ⟨.slice none 0 0, rfl, Byt.nil _ _, HBL.out _ _ _ rfl⟩
theorem said_step2 (y : Nat) (c : UInt8) (_ : y < 18446744073709551616) : IntKind.u64.wrap (IntKind.u64.wrap (256 * (y : Int)) + IntKind.u64.wrap (c.toNat : Int)) = (((256 * y + c.toNat) % 18446744073709551616 : Nat) : Int) := by
  rw [IntKind.wrap_u64, IntKind.wrap_u64, IntKind.wrap_u64]; omega
set_option maxHeartbeats 4000000 in
theorem said_calls (D : Nat → Prop) (w : World) (v : Value) (l : List UInt8) (hB : Byt D w v l) :
    Calls Tryz.prog 86 #[v] w fun e w' => e = .returned (.int .u64 (said l : Nat)) ∧ w = w' := by
  obtain ⟨a, c, rfl, hk, hx⟩ := id hB
  have HX := Lib.hid hx
  clear hB hx
  go_enter Tryz.func86, Tryz.ntmps86
  go_wp2
  go_loop [3, 4] (fun x i => ∃ k : Nat, k ≤ l.length ∧ i = .int .i64 k ∧ x = .int .u64 (said (l.take k) : Nat)) (fun _ i => l.length - (intOf i).toNat)
  case atStart => exact ⟨0, by omega, rfl, rfl⟩
  case round =>
    obtain ⟨k, hk2, rfl, rfl⟩ := hrel
    by_cases hlt : k < l.length
    · obtain ⟨b, off, rfl, _, hly⟩ := HX.out.resolve_left (by rintro rfl; simp at hlt)
      have c0 := hly k hlt
      have hsn : said (l.take (k + 1)) = (256 * said (l.take k) + (l[k]'hlt).toNat) % 18446744073709551616 := by
        rw [List.take_add_one, List.getElem?_eq_getElem hlt]; exact said_snoc _ _
      have hsl := said_lt (l.take k)
      have HSN := Lib.hid hsn
      clear hly hsn
      generalize said (l.take k) = y at *
      generalize l[k] = cc at *
      have HST := Lib.hid (said_step2 y cc hsl)
      have hkm : k + 1 ≤ 9223372036854775807 := by
        have h1 := hk.1
        have h2 := hk.2.1
        unfold maxLen at h2
        omega
      go_wp2
      go_round
      case rel => exact ⟨k + 1, by omega, by go_num, by rw [HSN.out, ← HST.out]⟩
      case measure => simp [intOf]; omega
    · obtain rfl : k = l.length := by omega
      go_wp2
      go_ret
      exact ⟨rfl, rfl⟩
theorem Rd.take_suf (r : Rd) (n : Nat) : ∃ k, (r.take n).1.rest = r.rest.drop k := by
  unfold Rd.take
  split
  · exact ⟨0, by simp⟩
  · split
    · exact ⟨0, by simp⟩
    · exact ⟨n, rfl⟩
theorem suf_at {B l : List UInt8} {at' : Nat} (h : ∃ k, l = (B.drop at').drop k) (_ : at' ≤ B.length) : l = B.drop (B.length - l.length) ∧ B.length - l.length ≤ B.length ∧ at' ≤ B.length - l.length := by
  obtain ⟨k, rfl⟩ := h
  refine ⟨?_, Nat.sub_le _ _, by simp; omega⟩
  rw [List.drop_drop]
  by_cases hk : at' + k ≤ B.length
  · rw [show B.length - (B.drop (at' + k)).length = at' + k by simp; omega]
  · rw [List.drop_eq_nil_of_le (by omega)]; simp
set_option maxHeartbeats 4000000 in
set_option maxRecDepth 100000 in
theorem get_calls (w : World) (a : Option Addr) (c : Nat) (B : List UInt8) (at' : Nat) (e : Int) (k : Nat) (hB : Byt Any w (.slice a B.length c) B) (hat : at' ≤ B.length) (hl : B.length ≤ 140737488355328) (hk : k ≤ 8) :
    Calls Tryz.prog 103 #[rv a B.length c at' e, .int .i64 k] w fun x w' => x = .returned (.tuple #[rv a B.length c (B.length - (Rd.num ⟨B.drop at', e⟩ k).1.rest.length) (Rd.num ⟨B.drop at', e⟩ k).1.e, .int .u64 ((Rd.num ⟨B.drop at', e⟩ k).2 : Int)]) ∧ Below w.heap.size w w' := by
  have hr : Rd.raw ⟨B.drop at', e⟩ (k : Int) = Rd.take ⟨B.drop at', e⟩ k := by unfold Rd.raw; rw [if_neg (by omega), Int.toNat_natCast]
  have hb2 : Below w.heap.size w ((w.alloc (.cells #[.slice a B.length c, .int .i64 at', .int .i64 e] 121)).alloc (.cells #[.slice none 0 0, .int .i64 0, .int .i64 0] 121)) := ((Below.refl _ _).alloc (Nat.le_refl _) _).alloc (by simp) _
  have hk1 : Blk ((w.alloc (.cells #[.slice a B.length c, .int .i64 at', .int .i64 e] 121)).alloc (.cells #[.slice none 0 0, .int .i64 0, .int .i64 0] 121)) w.heap.size [.slice a B.length c, .int .i64 at', .int .i64 e] 121 := (Blk.new w _ _ _ rfl).alloc _
  have hk2 : Blk ((w.alloc (.cells #[.slice a B.length c, .int .i64 at', .int .i64 e] 121)).alloc (.cells #[.slice none 0 0, .int .i64 0, .int .i64 0] 121)) (w.heap.size + 1) [.slice none 0 0, .int .i64 0, .int .i64 0] 121 := by
    have := Blk.new (w.alloc (.cells #[.slice a B.length c, .int .i64 at', .int .i64 e] 121)) #[.slice none 0 0, .int .i64 0, .int .i64 0] 121 [.slice none 0 0, .int .i64 0, .int .i64 0] rfl
    rwa [World.size_alloc] at this
  have hsw : ((w.alloc (.cells #[.slice a B.length c, .int .i64 at', .int .i64 e] 121)).alloc (.cells #[.slice none 0 0, .int .i64 0, .int .i64 0] 121)).heap.size = w.heap.size + 2 := by simp
  have HB := Lib.hid (hB.below hb2)
  clear hB
  go_enter Tryz.func103, Tryz.ntmps103
  go_upto_region 1 with fail
  generalize ((w.alloc (.cells #[.slice a B.length c, .int .i64 at', .int .i64 e] 121)).alloc (.cells #[.slice none 0 0, .int .i64 0, .int .i64 0] 121)) = W at *
  have c0 := hk1.cell (i := 0) rfl
  have c1 := hk1.cell (i := 1) rfl
  have c2 := hk1.cell (i := 2) rfl
  have HK1 := Lib.hid hk1
  have HK2 := Lib.hid hk2
  have HB2 := Lib.hid hb2
  clear hk1 hk2 hb2
  go_wp2_with fail
  refine (raw_calls W a c B at' e k HB.out hat hl (by omega) (by omega)).mono ?_
  rintro x w3 ⟨v, rfl, g1, g2⟩
  rw [hr] at g1 ⊢
  have hnum : Rd.num ⟨B.drop at', e⟩ k = ((Rd.take ⟨B.drop at', e⟩ k).1, said (Rd.take ⟨B.drop at', e⟩ k).2) := rfl
  have HN := Lib.hid hnum
  clear hnum hr
  generalize Rd.take ⟨B.drop at', e⟩ k = y at *
  obtain ⟨⟨l, e2⟩, got⟩ := y
  dsimp only at g1 ⊢
  have hk1 := HK1.out.below g2
  have hk2 := HK2.out.below g2
  have HG := Lib.hid g1
  have HB3 := Lib.hid (HB2.out.trans (g2.mono (by omega)))
  have c0 := hk1.cell (i := 0) rfl
  have c1 := hk1.cell (i := 1) rfl
  have c2 := hk1.cell (i := 2) rfl
  have d0 := hk2.cell (i := 0) rfl
  have d1 := hk2.cell (i := 1) rfl
  have d2 := hk2.cell (i := 2) rfl
  have f0 := hk1.free
  have f1 := hk2.free
  have hs3 := g2.size
  have HK1 := Lib.hid hk1
  have HK2 := Lib.hid hk2
  obtain ⟨ga, gc, rfl, _⟩ := id g1
  obtain ⟨z, hz⟩ : ∃ z, B.length - l.length = z := ⟨_, rfl⟩
  rw [hz]
  have HZ := Lib.hid hz
  clear hk1 hk2 g1 g2 hz
  go_upto_region 2 with fail
  have hk14 := Blk.set3 HK1.out (.slice a B.length c) (.int .i64 (z : Int)) (.int .i64 e2)
  have hk24 := ((HK2.out.other (a := ⟨w.heap.size, 0, none⟩) (by show w.heap.size ≠ w.heap.size + 1; omega) (.slice a B.length c)).other (a := ⟨w.heap.size, 1, none⟩) (by show w.heap.size ≠ w.heap.size + 1; omega) (.int .i64 (z : Int))).other (a := ⟨w.heap.size, 2, none⟩) (by show w.heap.size ≠ w.heap.size + 1; omega) (.int .i64 e2)
  have hf4 : Fr (fun k => k = w.heap.size) w3 (((w3.setCell ⟨w.heap.size, 0, none⟩ (.slice a B.length c)).setCell ⟨w.heap.size, 1, none⟩ (.int .i64 (z : Int))).setCell ⟨w.heap.size, 2, none⟩ (.int .i64 e2)) := (((Fr.refl (fun k => k = w.heap.size) w3).setCell (p := ⟨w.heap.size, 0, none⟩) (.inr rfl) _).setCell (p := ⟨w.heap.size, 1, none⟩) (.inr rfl) _).setCell (p := ⟨w.heap.size, 2, none⟩) (.inr rfl) _
  have HB4 := Lib.hid (HB3.out.trans (hf4.below (Nat.le_trans (by omega) hs3) (fun k h => by omega)))
  have hg4 := HG.out.fr hf4 (fun k _ h1 h2 => by omega)
  have hs4 := hf4.size
  generalize (((w3.setCell ⟨w.heap.size, 0, none⟩ (.slice a B.length c)).setCell ⟨w.heap.size, 1, none⟩ (.int .i64 (z : Int))).setCell ⟨w.heap.size, 2, none⟩ (.int .i64 e2)) = w4 at *
  have c0 := hk14.cell (i := 0) rfl
  have c1 := hk14.cell (i := 1) rfl
  have c2 := hk14.cell (i := 2) rfl
  have d0 := hk24.cell (i := 0) rfl
  have d1 := hk24.cell (i := 1) rfl
  have d2 := hk24.cell (i := 2) rfl
  have f1 := hk24.free
  have HK24 := Lib.hid hk24
  have hsd := said_calls _ w4.drew _ got hg4.drew
  have HSD := Lib.hid hsd
  clear hk14 hk24 hf4 hg4 hsd f0 HK1 HK2 HG
  go_region_law (go_simp; go_at_call 86; refine HSD.out.mono ?_; rintro x wz ⟨rfl, rfl⟩)
  all_goals go_wp2
  all_goals
    rw [HN.out]
    dsimp only
    rw [HZ.out]
    exact bodyPost_ret (results_row_tmp Tryz.results103 _ _ (w.heap.size + 1) 121 _ _ rfl (Blk.set3 HK24.out (.slice a B.length c) (.int .i64 (z : Int)) (.int .i64 e2)).drew Tryz.underlying121 rfl (by kernel_rfl)) rfl
      ⟨rfl, (((HB4.out.setCell (p := ⟨w.heap.size + 1, 0, none⟩) (Nat.le_succ _) (.slice a B.length c)).setCell (p := ⟨w.heap.size + 1, 1, none⟩) (Nat.le_succ _) (.int .i64 (z : Int))).setCell (p := ⟨w.heap.size + 1, 2, none⟩) (Nat.le_succ _) (.int .i64 e2)).drew⟩
theorem Rd.num_suf (r : Rd) (n : Nat) : ∃ k, (r.num n).1.rest = r.rest.drop k := Rd.take_suf r n
/-- the two blocks that a reference's reading function makes, and the world behind them -/
theorem two_blk (w : World) (l : List Value) : Blk ((w.alloc (.cells l.toArray 121)).alloc (.cells #[.slice none 0 0, .int .i64 0, .int .i64 0] 121)) w.heap.size l 121 ∧
    Blk ((w.alloc (.cells l.toArray 121)).alloc (.cells #[.slice none 0 0, .int .i64 0, .int .i64 0] 121)) (w.heap.size + 1) [.slice none 0 0, .int .i64 0, .int .i64 0] 121 ∧
    Below w.heap.size w ((w.alloc (.cells l.toArray 121)).alloc (.cells #[.slice none 0 0, .int .i64 0, .int .i64 0] 121)) ∧
    ((w.alloc (.cells l.toArray 121)).alloc (.cells #[.slice none 0 0, .int .i64 0, .int .i64 0] 121)).heap.size = w.heap.size + 2 := by
  refine ⟨(Blk.new w _ _ _ rfl).alloc _, ?_, ((Below.refl _ _).alloc (Nat.le_refl _) _).alloc (by simp) _, by simp⟩
  have := Blk.new (w.alloc (.cells l.toArray 121)) #[.slice none 0 0, .int .i64 0, .int .i64 0] 121 [.slice none 0 0, .int .i64 0, .int .i64 0] rfl
  rwa [World.size_alloc] at this
/-- what GetVar keeps: its reader's block, its result's, the new reader's -/
def GV (w : World) (a : Option Addr) (c : Nat) (B : List UInt8) (at' : Nat) (e : Int) (p : Nat) (s : Rd) (wx : World) : Prop :=
  Blk wx w.heap.size [.slice a B.length c, .int .i64 (at' : Int), .int .i64 e] 121 ∧ Blk wx (w.heap.size + 1) [.slice none 0 0, .int .i64 0, .int .i64 0] 121 ∧
    Blk wx p [.slice a B.length c, .int .i64 ((B.length - s.rest.length : Nat) : Int), .int .i64 s.e] 121 ∧ Below w.heap.size w wx ∧ w.heap.size + 1 < p

theorem GV.below {w : World} {a : Option Addr} {c : Nat} {B : List UInt8} {at' : Nat} {e : Int} {p : Nat} {s : Rd} {wx wy : World} (h : GV w a c B at' e p s wx) (hb : Below wx.heap.size wx wy) : GV w a c B at' e p s wy :=
  ⟨h.1.below hb, h.2.1.below hb, h.2.2.1.below hb, h.2.2.2.1.trans (hb.mono h.2.2.2.1.size), h.2.2.2.2⟩
theorem GV.set {w : World} {a : Option Addr} {c : Nat} {B : List UInt8} {at' : Nat} {e : Int} {p : Nat} {s : Rd} {wx : World} (h : GV w a c B at' e p s wx) (s2 : Rd) :
    GV w a c B at' e p s2 (((wx.setCell ⟨p, 0, none⟩ (.slice a B.length c)).setCell ⟨p, 1, none⟩ (.int .i64 ((B.length - s2.rest.length : Nat) : Int))).setCell ⟨p, 2, none⟩ (.int .i64 s2.e)) := by
  obtain ⟨h1, h2, h3, h4, h5⟩ := h
  refine ⟨?_, ?_, Blk.set3 h3 _ _ _, ?_, h5⟩
  · exact ((h1.other (a := ⟨p, 0, none⟩) (by show p ≠ w.heap.size; omega) _).other (a := ⟨p, 1, none⟩) (by show p ≠ w.heap.size; omega) _).other (a := ⟨p, 2, none⟩) (by show p ≠ w.heap.size; omega) _
  · exact ((h2.other (a := ⟨p, 0, none⟩) (by show p ≠ w.heap.size + 1; omega) _).other (a := ⟨p, 1, none⟩) (by show p ≠ w.heap.size + 1; omega) _).other (a := ⟨p, 2, none⟩) (by show p ≠ w.heap.size + 1; omega) _
  · exact ((h4.setCell (p := ⟨p, 0, none⟩) (by show w.heap.size ≤ p; omega) _).setCell (p := ⟨p, 1, none⟩) (by show w.heap.size ≤ p; omega) _).setCell (p := ⟨p, 2, none⟩) (by show w.heap.size ≤ p; omega) _
theorem GV.ret {w : World} {a : Option Addr} {c : Nat} {B : List UInt8} {at' : Nat} {e : Int} {p : Nat} {s : Rd} {wx : World} (h : GV w a c B at' e p s wx) (ee : Int) :
    Blk ((((wx.setCell ⟨w.heap.size, 2, none⟩ (.int .i64 ee)).setCell ⟨w.heap.size + 1, 0, none⟩ (.slice a B.length c)).setCell ⟨w.heap.size + 1, 1, none⟩ (.int .i64 (at' : Int))).setCell ⟨w.heap.size + 1, 2, none⟩ (.int .i64 ee)) (w.heap.size + 1) [.slice a B.length c, .int .i64 (at' : Int), .int .i64 ee] 121 ∧
    Below w.heap.size w ((((wx.setCell ⟨w.heap.size, 2, none⟩ (.int .i64 ee)).setCell ⟨w.heap.size + 1, 0, none⟩ (.slice a B.length c)).setCell ⟨w.heap.size + 1, 1, none⟩ (.int .i64 (at' : Int))).setCell ⟨w.heap.size + 1, 2, none⟩ (.int .i64 ee)) :=
  ⟨Blk.set3 (h.2.1.other (a := ⟨w.heap.size, 2, none⟩) (by show w.heap.size ≠ w.heap.size + 1; omega) _) _ _ _, (((h.2.2.2.1.setCell (p := ⟨w.heap.size, 2, none⟩) (Nat.le_refl _) _).setCell (p := ⟨w.heap.size + 1, 0, none⟩) (Nat.le_succ _) _).setCell (p := ⟨w.heap.size + 1, 1, none⟩) (Nat.le_succ _) _).setCell (p := ⟨w.heap.size + 1, 2, none⟩) (Nat.le_succ _) _⟩
theorem GV.ok {w : World} {a : Option Addr} {c : Nat} {B : List UInt8} {at' : Nat} {e : Int} {p : Nat} {s : Rd} {wx : World} (h : GV w a c B at' e p s wx) (z ee : Int) :
    Blk (((wx.setCell ⟨w.heap.size + 1, 0, none⟩ (.slice a B.length c)).setCell ⟨w.heap.size + 1, 1, none⟩ (.int .i64 z)).setCell ⟨w.heap.size + 1, 2, none⟩ (.int .i64 ee)) (w.heap.size + 1) [.slice a B.length c, .int .i64 z, .int .i64 ee] 121 ∧
    Below w.heap.size w (((wx.setCell ⟨w.heap.size + 1, 0, none⟩ (.slice a B.length c)).setCell ⟨w.heap.size + 1, 1, none⟩ (.int .i64 z)).setCell ⟨w.heap.size + 1, 2, none⟩ (.int .i64 ee)) :=
  ⟨Blk.set3 h.2.1 _ _ _, ((h.2.2.2.1.setCell (p := ⟨w.heap.size + 1, 0, none⟩) (Nat.le_succ _) _).setCell (p := ⟨w.heap.size + 1, 1, none⟩) (Nat.le_succ _) _).setCell (p := ⟨w.heap.size + 1, 2, none⟩) (Nat.le_succ _) _⟩
set_option maxHeartbeats 4000000 in
set_option maxRecDepth 100000 in
theorem getvar_calls (w : World) (a : Option Addr) (c : Nat) (B : List UInt8) (at' : Nat) (e : Int) (most : Nat) (neg : Bool) (hB : Byt Any w (.slice a B.length c) B) (hat : at' ≤ B.length) (hl : B.length ≤ 140737488355328) (_ : most < 18446744073709551616) :
    Calls Tryz.prog 88 #[rv a B.length c at' e, .int .u64 most, .bool neg] w fun x w' => x = .returned (.tuple #[rv a B.length c (B.length - (Rd.rvar ⟨B.drop at', e⟩ most neg).1.rest.length) (Rd.rvar ⟨B.drop at', e⟩ most neg).1.e, .int .u64 ((Rd.rvar ⟨B.drop at', e⟩ most neg).2 : Int)]) ∧ Below w.heap.size w w' := by
  obtain ⟨hk1, hk2, hb2, hsw⟩ := two_blk w [.slice a B.length c, .int .i64 (at' : Int), .int .i64 e]
  have HB0 := Lib.hid hB
  clear hB
  go_enter Tryz.func88, Tryz.ntmps88
  go_upto_region 1 with fail
  generalize ((w.alloc (.cells [.slice a B.length c, .int .i64 (at' : Int), .int .i64 e].toArray 121)).alloc (.cells #[.slice none 0 0, .int .i64 0, .int .i64 0] 121)) = W at *
  have c0 := hk1.cell (i := 0) rfl
  have c1 := hk1.cell (i := 1) rfl
  have c2 := hk1.cell (i := 2) rfl
  have HK1 := Lib.hid hk1
  have HK2 := Lib.hid hk2
  have HB2 := Lib.hid hb2
  clear hk1 hk2 hb2
  go_wp2_with fail
  refine (get_calls W a c B at' e 1 (HB0.out.below HB2.out) hat hl (by omega)).mono ?_
  rintro x w3 ⟨rfl, g2⟩
  obtain ⟨y, hy⟩ : ∃ y, Rd.num ⟨B.drop at', e⟩ 1 = y := ⟨_, rfl⟩
  have hsuf := Rd.num_suf ⟨B.drop at', e⟩ 1
  have hnz := @Rd.num_zero ⟨B.drop at', e⟩ 1
  have hc1 := num1_lt ⟨B.drop at', e⟩
  rw [hy] at hsuf hnz hc1 ⊢
  obtain ⟨s1, cc⟩ := y
  dsimp only at hsuf hnz hc1 ⊢
  have HY := Lib.hid hy
  have hsa := suf_at hsuf hat
  have HSA := Lib.hid hsa
  have HNZ := Lib.hid hnz
  have hs3 := g2.size
  have HG := Lib.hid (show GV w a c B at' e w3.heap.size s1 (w3.alloc (.cells [.slice a B.length c, .int .i64 ((B.length - s1.rest.length : Nat) : Int), .int .i64 s1.e].toArray 121)) from
    ⟨(HK1.out.below g2).alloc _, (HK2.out.below g2).alloc _, Blk.new w3 _ _ _ rfl, (HB2.out.trans (g2.mono (by omega))).alloc (by omega) _, by omega⟩)
  obtain ⟨z1, hz1⟩ : ∃ z1, B.length - s1.rest.length = z1 := ⟨_, rfl⟩
  rw [hz1] at HG ⊢
  have HZ1 := Lib.hid hz1
  clear hy hsuf hnz hsa hz1 g2 c0 c1 c2
  go_upto_region 3 with fail
  generalize (w3.alloc (.cells [.slice a B.length c, .int .i64 (z1 : Int), .int .i64 s1.e].toArray 121)) = w4 at *
  generalize w3.heap.size = p at *
  go_cut [24] (fun b wx => b = .bool (decide (253 ≤ cc)) ∧ wx = w4)
  case first =>
    have k8 := HG.out.2.2.1.cell (i := 2) rfl
    by_cases hc : 253 ≤ cc
    · have he1 : s1.e = 0 := HNZ.out (by omega)
      rw [he1] at k8
      have hci : (253 : Int) ≤ (cc : Int) := by omega
      go_wp2_with fail
      go_meet
      case rel => exact ⟨by rw [decide_eq_true hc], rfl⟩
    · by_cases he1 : s1.e = 0
      · rw [he1] at k8
        have hci : ¬ ((253 : Int) ≤ (cc : Int)) := by omega
        go_wp2_with fail
        go_meet
        case rel => exact ⟨by rw [decide_eq_false hc], rfl⟩
      · have hci : (s1.e == 0) = false := by simpa using he1
        go_wp2_with fail
        go_meet
        case rel => exact ⟨by rw [decide_eq_false hc], rfl⟩
  case rest =>
    obtain ⟨rfl, rfl⟩ := hcut
    have HEQ := Lib.hid (show (⟨B.drop z1, s1.e⟩ : Rd) = s1 by rw [← HZ1.out, ← HSA.out.1])
    go_upto_if 24 with fail
    go_cut [10] (fun x wx => ∃ (s : Rd) (nn least : Nat), x = .int .u64 nn ∧ s1.more cc = (s, nn, least) ∧ nn < 18446744073709551616 ∧ (∃ k, s.rest = s1.rest.drop k) ∧ GV w a c B at' e p s wx)
    case first =>
      by_cases h253 : cc = 253
      · subst h253
        obtain ⟨x0, x1, x2, x3, x4⟩ := HG.out
        rw [HZ1.out] at x2
        have d0 := x2.cell (i := 0) rfl
        have d1 := x2.cell (i := 1) rfl
        have d2 := x2.cell (i := 2) rfl
        have HX3 := Lib.hid x3
        clear x0 x1 x2 x3
        go_wp2_with fail
        refine (get_calls wc a c B z1 s1.e 2 (HB0.out.below HX3.out) (by have := HSA.out.2.1; have := HZ1.out; omega) hl (by omega)).mono ?_
        rintro x w6 ⟨rfl, g2⟩
        rw [HEQ.out]
        have HG6 := Lib.hid (HG.out.below g2)
        have hsuf := Rd.num_suf s1 2
        have HSUF := Lib.hid hsuf
        have hnl := num_lt s1 2
        have HM := Lib.hid (show s1.more 253 = ((s1.num 2).1, (s1.num 2).2, 253) from rfl)
        obtain ⟨⟨s2, n2⟩, hy2⟩ : ∃ y, s1.num 2 = y := ⟨_, rfl⟩
        rw [hy2] at hnl HSUF HM ⊢
        dsimp only at hnl ⊢
        have d0 := HG6.out.2.2.1.cell (i := 0) rfl
        have d1 := HG6.out.2.2.1.cell (i := 1) rfl
        have d2 := HG6.out.2.2.1.cell (i := 2) rfl
        have f8 := HG6.out.2.2.1.free
        have HG7 := Lib.hid (HG6.out.set s2)
        obtain ⟨z2, hz2⟩ : ∃ z2, B.length - s2.rest.length = z2 := ⟨_, rfl⟩
        rw [hz2] at HG7 ⊢
        clear g2 hsuf hy2 hz2
        go_wp2_with fail
        go_meet
        case rel => exact ⟨s2, n2, 253, rfl, HM.out, hnl, HSUF.out, HG7.out⟩
      by_cases h254 : cc = 254
      · subst h254
        obtain ⟨x0, x1, x2, x3, x4⟩ := HG.out
        rw [HZ1.out] at x2
        have d0 := x2.cell (i := 0) rfl
        have d1 := x2.cell (i := 1) rfl
        have d2 := x2.cell (i := 2) rfl
        have HX3 := Lib.hid x3
        clear x0 x1 x2 x3
        go_wp2_with fail
        refine (get_calls wc a c B z1 s1.e 4 (HB0.out.below HX3.out) (by have := HSA.out.2.1; have := HZ1.out; omega) hl (by omega)).mono ?_
        rintro x w6 ⟨rfl, g2⟩
        rw [HEQ.out]
        have HG6 := Lib.hid (HG.out.below g2)
        have hsuf := Rd.num_suf s1 4
        have HSUF := Lib.hid hsuf
        have hnl := num_lt s1 4
        have HM := Lib.hid (show s1.more 254 = ((s1.num 4).1, (s1.num 4).2, 65536) from rfl)
        obtain ⟨⟨s2, n2⟩, hy2⟩ : ∃ y, s1.num 4 = y := ⟨_, rfl⟩
        rw [hy2] at hnl HSUF HM ⊢
        dsimp only at hnl ⊢
        have d0 := HG6.out.2.2.1.cell (i := 0) rfl
        have d1 := HG6.out.2.2.1.cell (i := 1) rfl
        have d2 := HG6.out.2.2.1.cell (i := 2) rfl
        have f8 := HG6.out.2.2.1.free
        have HG7 := Lib.hid (HG6.out.set s2)
        obtain ⟨z2, hz2⟩ : ∃ z2, B.length - s2.rest.length = z2 := ⟨_, rfl⟩
        rw [hz2] at HG7 ⊢
        clear g2 hsuf hy2 hz2
        go_wp2_with fail
        go_meet
        case rel => exact ⟨s2, n2, 65536, rfl, HM.out, hnl, HSUF.out, HG7.out⟩
      by_cases h255 : cc = 255
      · subst h255
        obtain ⟨x0, x1, x2, x3, x4⟩ := HG.out
        rw [HZ1.out] at x2
        have d0 := x2.cell (i := 0) rfl
        have d1 := x2.cell (i := 1) rfl
        have d2 := x2.cell (i := 2) rfl
        have HX3 := Lib.hid x3
        clear x0 x1 x2 x3
        go_wp2_with fail
        refine (get_calls wc a c B z1 s1.e 8 (HB0.out.below HX3.out) (by have := HSA.out.2.1; have := HZ1.out; omega) hl (by omega)).mono ?_
        rintro x w6 ⟨rfl, g2⟩
        rw [HEQ.out]
        have HG6 := Lib.hid (HG.out.below g2)
        have hsuf := Rd.num_suf s1 8
        have HSUF := Lib.hid hsuf
        have hnl := num_lt s1 8
        have HM := Lib.hid (show s1.more 255 = ((s1.num 8).1, (s1.num 8).2, 4294967296) from rfl)
        obtain ⟨⟨s2, n2⟩, hy2⟩ : ∃ y, s1.num 8 = y := ⟨_, rfl⟩
        rw [hy2] at hnl HSUF HM ⊢
        dsimp only at hnl ⊢
        have d0 := HG6.out.2.2.1.cell (i := 0) rfl
        have d1 := HG6.out.2.2.1.cell (i := 1) rfl
        have d2 := HG6.out.2.2.1.cell (i := 2) rfl
        have f8 := HG6.out.2.2.1.free
        have HG7 := Lib.hid (HG6.out.set s2)
        obtain ⟨z2, hz2⟩ : ∃ z2, B.length - s2.rest.length = z2 := ⟨_, rfl⟩
        rw [hz2] at HG7 ⊢
        clear g2 hsuf hy2 hz2
        go_wp2_with fail
        go_meet
        case rel => exact ⟨s2, n2, 4294967296, rfl, HM.out, hnl, HSUF.out, HG7.out⟩
      have hd : decide (253 ≤ cc) = false := decide_eq_false (by omega)
      have HM := Lib.hid (show s1.more cc = (s1, cc, 0) by unfold Rd.more; rw [if_neg h253, if_neg h254, if_neg h255])
      go_wp2_with fail
      go_meet
      case rel => exact ⟨s1, cc, 0, rfl, HM.out, by omega, ⟨0, by simp⟩, HG.out⟩
    case rest =>
      obtain ⟨s, nn, least, rfl, hmm, hnn, hsf, hg⟩ := hcut
      have hst := suf_at (B := B) (l := s.rest) (at' := z1) (by obtain ⟨k, hk⟩ := hsf; exact ⟨k, by rw [hk, HSA.out.1, HZ1.out]⟩) (by have := HSA.out.2.1; have := HZ1.out; omega)
      have hrv : Rd.rvar ⟨B.drop at', e⟩ most neg = if s.e ≠ 0 then (⟨B.drop at', s.e⟩, 0) else if nn < least then (⟨B.drop at', 111⟩, 0) else if neg = true ∨ most < nn then (⟨B.drop at', 112⟩, 0) else (s, nn) := by
        unfold Rd.rvar
        rw [HY.out]
        dsimp only
        rw [hmm]
      have hlen : s.e = 0 → ((vlen nn ≠ (B.drop at').length - s.rest.length) = (nn < least)) := fun h => by
        have := @Rd.more_len_eq ⟨B.drop at', e⟩
        rw [HY.out] at this
        dsimp only at this
        rw [hmm] at this
        exact this h
      have hz0 : B.length - (B.drop at').length = at' := by simp; omega
      have HRV := Lib.hid hrv
      have HLEN := Lib.hid hlen
      have HZ0 := Lib.hid hz0
      have HG := Lib.hid hg
      have hzs : at' ≤ B.length - s.rest.length := by have h1 := HSA.out.2.2; have h2 := hst.2.2; have h3 := HZ1.out; omega
      have hzl : B.length - s.rest.length ≤ B.length := Nat.sub_le _ _
      clear hmm hsf hg hrv hlen hz0 hst
      obtain ⟨x0, x1, x2, x3, x4⟩ := HG.out
      obtain ⟨z2, hz2⟩ : ∃ z2, B.length - s.rest.length = z2 := ⟨_, rfl⟩
      rw [hz2] at x2 hzs hzl
      have HZ2 := Lib.hid hz2
      have hsw := x3.size
      have c0 := x0.cell (i := 0) rfl
      have c1 := x0.cell (i := 1) rfl
      have c2 := x0.cell (i := 2) rfl
      have d0 := x1.cell (i := 0) rfl
      have d1 := x1.cell (i := 1) rfl
      have d2 := x1.cell (i := 2) rfl
      have k1 := x2.cell (i := 1) rfl
      have k2 := x2.cell (i := 2) rfl
      have f0 := x0.free
      have f1 := x1.free
      have X1 := Lib.hid x1
      have X3 := Lib.hid x3
      clear x0 x1 x2 x3 hz2
      by_cases hse : s.e = 0
      · rw [hse] at k2
        have hvl : ((var nn).length : Int) = (vlen nn : Int) := by rw [var_length]
        have hln := HLEN.out hse
        have hne : ((vlen nn : Int) != (z2 : Int) - (at' : Int)) = decide (nn < least) := by
          have h1 : (B.drop at').length - s.rest.length = z2 - at' := by
            have h1 := HZ2.out; have h2 := HZ0.out
            simp at h2 ⊢; omega
          rw [h1] at hln
          rw [Bool.eq_iff_iff, bne_iff_ne, decide_eq_true_iff, ← hln]
          omega
        have HNE := Lib.hid hne
        have hbd : Below wc.heap.size wc wc.drew := (Below.refl _ wc).drew
        have k1d : wc.drew.cell? ⟨p, 1, none⟩ = some (.int .i64 (z2 : Int)) := k1
        have c1d : wc.drew.cell? ⟨w.heap.size, 1, none⟩ = some (.int .i64 (at' : Int)) := c1
        have hva : ∀ wx : World, wx.cell? ⟨p, 1, none⟩ = some (.int .i64 (z2 : Int)) → wx.cell? ⟨w.heap.size, 1, none⟩ = some (.int .i64 (at' : Int)) → Below wc.heap.size wc wx → Calls Tryz.prog 83 #[.int .u64 nn] wx fun x w' => ∃ va vc, x = .returned (.slice va (vlen nn) vc) ∧ w'.cell? ⟨p, 1, none⟩ = some (.int .i64 (z2 : Int)) ∧ w'.cell? ⟨w.heap.size, 1, none⟩ = some (.int .i64 (at' : Int)) ∧ Below wc.heap.size wc w' := fun wx h1 h2 h3 =>
          (ref_var_calls wx nn hnn).mono fun x w' h => by
            obtain ⟨v, rfl, g1, g2⟩ := h
            obtain ⟨va, vc, rfl, _⟩ := id g1.byt
            refine ⟨va, vc, by rw [var_length], ?_, ?_, h3.trans (g2.mono h3.size)⟩
            · exact (World.cell?_of_block (w := wx) (g2.block p (World.block_lt_of_cell? wx _ h1))).trans h1
            · exact (World.cell?_of_block (w := wx) (g2.block w.heap.size (World.block_lt_of_cell? wx _ h2))).trans h2
        have HVA := Lib.hid hva
        clear hva hvl hln hne
        go_upto_region 13 with fail
        go_cut [50] (fun b wx => b = .bool (decide (nn < least)) ∧ Below wc.heap.size wc wx)
        case first =>
          go_region_held3 (fun w' => w'.cell? ⟨p, 1, none⟩ = some (.int .i64 (z2 : Int)) ∧ w'.cell? ⟨w.heap.size, 1, none⟩ = some (.int .i64 (at' : Int)) ∧ Below wc.heap.size wc w')
            (first | exact ⟨by assumption, by assumption, by assumption⟩)
            (first | (go_at_call 83; refine (HVA.out _ (by assumption) (by assumption) (by assumption)).mono ?_; rintro x wv ⟨va, vc, rfl, q1, q2, q3⟩))
          all_goals go_wp2_with fail
          all_goals go_meet
          case rel => exact ⟨by rw [← HNE.out, show IntKind.i64.wrap ((z2 : Int) - (at' : Int)) = (z2 : Int) - (at' : Int) from by rw [IntKind.wrap_i64]; omega], q3⟩
        case rest =>
          obtain ⟨rfl, hbx⟩ := hcut
          have HG2 := Lib.hid (HG.out.below hbx)
          obtain ⟨x0, x1, x2, x3, x4⟩ := HG2.out
          rw [HZ2.out, hse] at x2
          have c0 := x0.cell (i := 0) rfl
          have c1 := x0.cell (i := 1) rfl
          have c2 := x0.cell (i := 2) rfl
          have d0 := x1.cell (i := 0) rfl
          have d1 := x1.cell (i := 1) rfl
          have d2 := x1.cell (i := 2) rfl
          have k0 := x2.cell (i := 0) rfl
          have k1 := x2.cell (i := 1) rfl
          have k2 := x2.cell (i := 2) rfl
          have f0 := x0.free
          have f1 := x1.free
          clear x0 x1 x2 x3 hbx
          by_cases hlt : nn < least
          · have hd : decide (nn < least) = true := decide_eq_true hlt
            have HR := Lib.hid (show Rd.rvar ⟨B.drop at', e⟩ most neg = (⟨B.drop at', 111⟩, 0) by rw [HRV.out, if_neg (by simpa using hse), if_pos hlt])
            go_wp2
            rw [HR.out]
            dsimp only
            rw [HZ0.out]
            obtain ⟨r1, r2⟩ := HG2.out.ret 111
            exact bodyPost_ret (results_row_tmp Tryz.results88 _ _ (w.heap.size + 1) 121 _ _ rfl r1 Tryz.underlying121 rfl (by kernel_rfl)) rfl ⟨rfl, r2⟩
          · have hd : decide (nn < least) = false := decide_eq_false hlt
            by_cases hlm : neg = true ∨ most < nn
            · have HR := Lib.hid (show Rd.rvar ⟨B.drop at', e⟩ most neg = (⟨B.drop at', 112⟩, 0) by rw [HRV.out, if_neg (by simpa using hse), if_neg hlt, if_pos hlm])
              obtain ⟨r1, r2⟩ := HG2.out.ret 112
              have R1 := Lib.hid r1
              have R2 := Lib.hid r2
              clear r1 r2
              cases neg with
              | true =>
                go_wp2
                rw [HR.out]
                dsimp only
                rw [HZ0.out]
                have r1 := R1.out
                have r2 := R2.out
                exact bodyPost_ret (results_row_tmp Tryz.results88 _ _ (w.heap.size + 1) 121 _ _ rfl r1 Tryz.underlying121 rfl (by kernel_rfl)) rfl ⟨rfl, r2⟩
              | false =>
                have hmz : (most : Int) < (nn : Int) := by
                  rcases hlm with h | h
                  · cases h
                  · omega
                go_wp2
                rw [HR.out]
                dsimp only
                rw [HZ0.out]
                have r1 := R1.out
                have r2 := R2.out
                exact bodyPost_ret (results_row_tmp Tryz.results88 _ _ (w.heap.size + 1) 121 _ _ rfl r1 Tryz.underlying121 rfl (by kernel_rfl)) rfl ⟨rfl, r2⟩
            · have HR := Lib.hid (show Rd.rvar ⟨B.drop at', e⟩ most neg = (s, nn) by rw [HRV.out, if_neg (by simpa using hse), if_neg hlt, if_neg hlm])
              obtain rfl : neg = false := by cases neg <;> simp at hlm ⊢
              have hmz : ¬ ((most : Int) < (nn : Int)) := by intro h; exact hlm (.inr (by omega))
              obtain ⟨r1, r2⟩ := HG2.out.ok (z2 : Int) 0
              have R1 := Lib.hid r1
              have R2 := Lib.hid r2
              clear r1 r2
              go_wp2
              rw [HR.out]
              dsimp only
              rw [HZ2.out, hse]
              have r1 := R1.out
              have r2 := R2.out
              exact bodyPost_ret (results_row_tmp Tryz.results88 _ _ (w.heap.size + 1) 121 _ _ rfl r1 Tryz.underlying121 rfl (by kernel_rfl)) rfl ⟨rfl, r2⟩
      · have hse2 : (s.e != 0) = true := by simpa using hse
        have HR := Lib.hid (show Rd.rvar ⟨B.drop at', e⟩ most neg = (⟨B.drop at', s.e⟩, 0) by rw [HRV.out, if_pos hse])
        go_wp2
        rw [HR.out]
        dsimp only
        rw [HZ0.out]
        obtain ⟨r1, r2⟩ := HG.out.ret s.e
        exact bodyPost_ret (results_row_tmp Tryz.results88 _ _ (w.heap.size + 1) 121 _ _ rfl r1 Tryz.underlying121 rfl (by kernel_rfl)) rfl ⟨rfl, r2⟩
end Go.Proofs.YtmenchnjajpkmaaGreatDoor.CodecRef
end

section
namespace Go.Proofs.YtmenchnjajpkmaaGreatDoor.CodecRef
open Go Go.RowKit Mem Codec CodecW CodecR CodecN

theorem end_calls (w : World) (a : Option Addr) (c : Nat) (B : List UInt8) (at' : Nat) (e : Int) (hat : at' ≤ B.length) :
    Calls Tryz.prog 66 #[rv a B.length c at' e] w fun x w' => x = .returned (.int .i64 (Rd.fin ⟨B.drop at', e⟩)) ∧ Below w.heap.size w w' := by
  have hbl : Below w.heap.size w (w.alloc (.cells #[.slice a B.length c, .int .i64 (at' : Int), .int .i64 e] 121)) := (Below.refl _ _).alloc (Nat.le_refl _) _
  have HBL := Lib.hid hbl
  clear hbl
  by_cases he : e = 0
  · subst he
    by_cases hl : at' < B.length
    · have ht : Rd.fin ⟨B.drop at', 0⟩ = 113 := by unfold Rd.fin; rw [if_pos ⟨rfl, by simp; omega⟩]
      rw [ht]
      have hz : (at' : Int) < (B.length : Int) := by omega
      go_enter Tryz.func66, Tryz.ntmps66
      go_wp2
      go_ret
      exact ⟨rfl, HBL.out⟩
    · have ht : Rd.fin ⟨B.drop at', 0⟩ = 0 := by unfold Rd.fin; rw [if_neg (fun h => hl (by have := h.2; simp at this; omega))]
      rw [ht]
      have hz : ¬ ((at' : Int) < (B.length : Int)) := by omega
      go_enter Tryz.func66, Tryz.ntmps66
      go_wp2
      go_ret
      exact ⟨rfl, HBL.out⟩
  · have ht : Rd.fin ⟨B.drop at', e⟩ = e := by unfold Rd.fin; rw [if_neg (fun h => he h.1)]
    rw [ht]
    have hb : (e == 0) = false := by simpa using he
    go_enter Tryz.func66, Tryz.ntmps66
    go_wp2
    go_ret
    exact ⟨rfl, HBL.out⟩
theorem Rd.more_suf (s : Rd) (c : Nat) : ∃ k, (s.more c).1.rest = s.rest.drop k := by
  unfold Rd.more
  split
  · exact Rd.num_suf s 2
  · split
    · exact Rd.num_suf s 4
    · split
      · exact Rd.num_suf s 8
      · exact ⟨0, by simp⟩
theorem Rd.var_suf (r : Rd) (most : Nat) : ∃ k, (r.var most).1.rest = r.rest.drop k := by
  unfold Rd.var
  dsimp only
  split
  · exact ⟨0, by simp⟩
  · split
    · exact ⟨0, by simp⟩
    · split
      · exact ⟨0, by simp⟩
      · obtain ⟨k, hk⟩ := Rd.more_suf (r.num 1).1 (r.num 1).2
        obtain ⟨j, hj⟩ := Rd.num_suf r 1
        exact ⟨j + k, by rw [hk, hj, List.drop_drop]⟩
theorem Rd.room_suf (r : Rd) (most : Int) : ∃ k, (r.room most).1.rest = r.rest.drop k := by
  unfold Rd.room
  dsimp only
  split
  · exact ⟨0, by simp⟩
  · exact Rd.var_suf r _
end Go.Proofs.YtmenchnjajpkmaaGreatDoor.CodecRef
end

section
namespace Go.Proofs.YtmenchnjajpkmaaGreatDoor.Iter
open Go Go.RowKit Mem

/-- the iterator's word: it goes from state to state; T: the blocks that it turns; It: what it needs of memory; Y: what it yields; E: where it ends -/
def SeqC {σ : Type} (P : Program) (gf : Nat) (lb : Array Value) (T : Nat → Prop) (It : σ → World → Prop) (Y : σ → σ → Array Value → World → World → Prop) (E : σ → World → Prop) (s0 : σ) (w : World) : Prop :=
  ∀ (l : Nat) (J Jx : σ → World → Prop) (W : World), Below w.heap.size w W → w.heap.size + 2 ≤ W.heap.size →
    (∀ s A B, J s A → Fr T A B → J s B) →
    (∀ s s' vs A0 A, J s A0 → Fr T A0 A → Y s s' vs A0 A → It s' A → YieldAt Fence.wide 0 P l vs A fun e B => (e = .returned (.bool true) ∧ J s' B ∧ It s' B ∧ A.heap.size ≤ B.heap.size) ∨ (e = .returned (.bool false) ∧ Jx s' B)) →
    J s0 W →
    CallsIn Fence.wide 0 P gf (#[.func (.yield l) #[] #[]] ++ lb) W fun e B => (∃ v, e = .returned v) ∧ ((∃ s, E s B ∧ J s B) ∨ (∃ s, Jx s B))

/-- what a round leaves of the loop's record and of the block for its deferred calls -/
def Rec (D : Nat) (A B : World) : Prop := A.heap.size ≤ B.heap.size ∧ B.heap[D]? = A.heap[D]? ∧ B.heap[D + 1]? = A.heap[D + 1]?
theorem Rec.refl (D : Nat) (A : World) : Rec D A A := ⟨Nat.le_refl _, rfl, rfl⟩
theorem Rec.fr {D : Nat} {A B : World} {S : Nat → Prop} (h : Fr S A B) (hd : D + 1 < A.heap.size) (h1 : ¬ S D) (h2 : ¬ S (D + 1)) : Rec D A B :=
  ⟨h.size, h.block D (by omega) h1, h.block (D + 1) hd h2⟩
theorem Rec.trans {D : Nat} {A B C : World} (h : Rec D A B) (k : Rec D B C) : Rec D A C := ⟨Nat.le_trans h.1 k.1, k.2.1.trans h.2.1, k.2.2.trans h.2.2⟩
/-- how the body of a round may be left -/
def roundEnd {σ : Type} (D : Nat) (It : σ → World → Prop) (I : σ → World → Prop) (Ix : Code → σ → World → Prop) (s : σ) (A : World) : Exit → Act → World → Prop
  | .normal, _, B => Rec D A B ∧ I s B ∧ It s B
  | .ret, _, B => Rec D A B ∧ Ix .ret s B
  | .exit id, _, B => Rec D A B ∧ Ix (.exit id) s B
  | .goto t, _, B => Rec D A B ∧ Ix (.goto t) s B
  | .panic _, _, _ => False
  | .outgrown, _, _ => False
theorem Fr.putObj {S : Nat → Prop} (W : World) (r : Nat) (o : Obj) (h : S r) : Fr S W (W.putObj r o) :=
  ⟨rfl, rfl, rfl, by simp, fun k _ hn => World.putObj_heap_other (fun e => hn (e ▸ h))⟩

theorem rangeSeq {σ : Type} {P : Program} {g : Operand} {ps : Array Tmp} {assign body : Code} {Q : Exit → Act → World → Prop} {a : Act} {w : World} {gf : Nat} {lb : Array Value}
    (hg : a.eval g = .func (.func gf) #[] lb) (eg : ∀ args w, (callFunc gf args).run P w = .ok (.enter gf args) w)
    {T : Nat → Prop} {It : σ → World → Prop} {Y : σ → σ → Array Value → World → World → Prop} {E : σ → World → Prop} {s0 : σ} (hseq : SeqC P gf lb T It Y E s0 w)
    (hT : ∀ k, T k → k < w.heap.size)
    (hIt : ∀ s A B, It s A → Fr (fun b => b = w.heap.size + 1) A B → It s B)
    (hY : ∀ s s' vs A0 A B, Y s s' vs A0 A → w.heap.size + 1 < A0.heap.size → Fr (fun b => b = w.heap.size + 1) A B → Y s s' vs A0 B)
    (hE : ∀ s A B, E s A → Fr (fun b => b = w.heap.size + 1) A B → E s B)
    (hps : ∀ s s' vs A0 A, Y s s' vs A0 A → vs.size = ps.size)
    (I : σ → World → Prop) (Ix : Code → σ → World → Prop)
    (hI : ∀ s A B, I s A → Fr (fun b => T b ∨ b = w.heap.size + 1) A B → I s B)
    (hIx : ∀ c s A B, Ix c s A → Fr (fun b => b = w.heap.size + 1) A B → Ix c s B)
    (h0 : I s0 w) (a₁ : Array Value → Act)
    (hassign : ∀ (l : Nat) (vs : Array Value) (W : World) (K : Act → World → Prop), vs.size = ps.size → K (a₁ vs) W →
      assign.wpIn (Fence.wide.inRound l) 0 P (Exit.then K (fun _ _ _ => False)) { tmps := (ps.zip vs).foldl (fun t (p, v) => t.setIfInBounds p v) a.tmps, defers := [] } W)
    (hbody : ∀ (s s' : σ) (vs : Array Value) (A0 A : World), w.heap.size + 1 < A0.heap.size → I s A0 → Fr (fun b => T b ∨ b = w.heap.size + 1) A0 A → Y s s' vs A0 A → It s' A →
      body.wpIn (Fence.wide.inRound (w.heap.size + 1)) 0 P (roundEnd w.heap.size It I Ix s' A) (a₁ vs) A)
    (hdone : ∀ (s : σ) (W : World), E s W → I s W → W.heap[w.heap.size]? = some (.deferred (some [])) → Q .normal { a with defers := { target := .collected w.heap.size, args := #[] } :: a.defers } W)
    (hstop : ∀ (c : Code) (s : σ) (W : World), Ix c s W → W.heap[w.heap.size]? = some (.deferred (some [])) → c.wpIn Fence.wide 0 P Q { a with defers := { target := .collected w.heap.size, args := #[] } :: a.defers } W) :
    (Code.rangeFunc g ps assign body).wpIn Fence.wide 0 P Q a w := by
  refine wpIn_rangeFunc ?_
  intro fn hfn
  rw [show Fence.wide.round = none from rfl]
  obtain ⟨rec, hrec⟩ : ∃ rec : LoopState → Option Code → Loop, rec = fun st pe => { state := st, pending := pe, fn, tmps := a.tmps, params := ps, assign, body, defers := w.heap.size } := ⟨_, rfl⟩
  obtain ⟨W1, hW1⟩ : ∃ W1, (w.alloc (.deferred (some []))).alloc (.loop (rec .ready none)) = W1 := ⟨_, rfl⟩
  have hL1 : W1.heap[w.heap.size + 1]? = some (.loop (rec .ready none)) := by
    rw [← hW1]; have := World.alloc_heap_new (w.alloc (.deferred (some []))) (.loop (rec .ready none)); rwa [World.size_alloc] at this
  have hK1 : W1.heap[w.heap.size]? = some (.deferred (some [])) := by
    rw [← hW1]; exact (Below.heap_alloc _ _ _ (by simp)).trans (World.alloc_heap_new w _)
  have hb1 : Below w.heap.size w W1 := by
    rw [← hW1]; exact ((Below.refl _ w).alloc (Nat.le_refl _) _).alloc (by simp) _
  have hI1 : I s0 W1 := hI _ _ _ h0 (Fr.ofBelowAll hb1 (Nat.le_refl _))
  refine ⟨w.heap.size + 1, [{ target := .collected w.heap.size, args := #[] }], W1, { target := .fn (.func gf) lb, args := #[.func (.yield (w.heap.size + 1)) #[] #[]] }, W1, gf,
    #[.func (.yield (w.heap.size + 1)) #[] #[]] ++ lb, W1, ?_, ?_, ?_, ?_, fun h => by simp [Fence.wide] at h, ?_⟩
  · rw [← hW1, hrec]; exact run_enterLoop_outer _ _ _ _ _
  · simp only [resolve, hg]
    simp [go_sem]
  · intro f' _; trivial
  · simp [invoke, go_sem, eg]
  · refine (hseq (w.heap.size + 1)
      (fun s W => I s W ∧ W.heap[w.heap.size + 1]? = some (.loop (rec .ready none)) ∧ W.heap[w.heap.size]? = some (.deferred (some [])))
      (fun s W => ∃ c, Ix c s W ∧ W.heap[w.heap.size + 1]? = some (.loop (rec .done (some c))) ∧ W.heap[w.heap.size]? = some (.deferred (some [])))
      W1 hb1 (by rw [← hW1]; simp) ?_ ?_ ⟨hI1, hL1, hK1⟩).mono ?_
    · rintro s A B ⟨h1, h2, h3⟩ hf
      have hl := (Array.getElem?_eq_some_iff.1 h2).1
      exact ⟨hI _ _ _ h1 (hf.mono (fun k _ h => .inl h)), (hf.block _ hl (fun h => by have := hT _ h; omega)).trans h2, (hf.block _ (by omega) (fun h => by have := hT _ h; omega)).trans h3⟩
    · -- one round
      rintro s s' vs W0 W ⟨hi, hl0, hk0⟩ hf0 hYs hIt1
      have hlt0 : w.heap.size + 1 < W0.heap.size := (Array.getElem?_eq_some_iff.1 hl0).1
      have hl := (hf0.block _ hlt0 (fun h => by have := hT _ h; omega)).trans hl0
      have hk := (hf0.block _ (by omega : w.heap.size < W0.heap.size) (fun h => by have := hT _ h; omega)).trans hk0
      have hlt : w.heap.size + 1 < W.heap.size := (Array.getElem?_eq_some_iff.1 hl).1
      have hy := run_yield (P := P) (args := vs) hl (by rw [hrec]; exact hps _ _ _ _ _ hYs)
      rw [hrec] at hy
      refine ⟨fn, _, assign, body, hy, roundIn_of_wpIn hfn (hassign _ vs W _ (hps _ _ _ _ _ hYs) ⟨_, run_beginRound hl (by rw [hrec]), ?_⟩)⟩
      have hl2 : (W.putObj (w.heap.size + 1) (.loop { rec .ready none with state := .busy })).heap[w.heap.size + 1]? = some (.loop { rec .ready none with state := .busy }) := World.putObj_heap_same hlt
      have hk2 : (W.putObj (w.heap.size + 1) (.loop { rec .ready none with state := .busy })).heap[w.heap.size]? = some (.deferred (some [])) := (World.putObj_heap_other (by omega)).trans hk
      have hfb : ∀ (X : World) (o : Obj), Fr (fun b => b = w.heap.size + 1) X (X.putObj (w.heap.size + 1) o) := fun X o => Fr.putObj X _ o rfl
      refine wpIn_mono (hbody s s' vs W0 _ hlt0 hi ((hf0.mono (fun k _ h => .inl h)).trans ((hfb _ _).mono (fun k _ h => .inr h))) (hY _ _ _ _ _ _ hYs hlt0 (hfb _ _)) (hIt _ _ _ hIt1 (hfb _ _))) ?_
      have fin : ∀ (jump : Option Code) (W3 : World), Rec w.heap.size (W.putObj (w.heap.size + 1) (.loop { rec .ready none with state := .busy })) W3 →
          (Instr.endRound (w.heap.size + 1) jump).run P W3 = .ok (.bool jump.isNone) (W3.putObj (w.heap.size + 1) (.loop (rec (if jump.isNone then .ready else .done) jump))) ∧
          (W3.putObj (w.heap.size + 1) (.loop (rec (if jump.isNone then .ready else .done) jump))).heap[w.heap.size + 1]? = some (.loop (rec (if jump.isNone then .ready else .done) jump)) ∧
          (W3.putObj (w.heap.size + 1) (.loop (rec (if jump.isNone then .ready else .done) jump))).heap[w.heap.size]? = some (.deferred (some [])) := fun jump W3 hk3 => by
        have hl3 := hk3.2.2.trans hl2
        have := run_endRound (P := P) jump hl3
        rw [hrec] at this ⊢
        exact ⟨this, World.putObj_heap_same (Array.getElem?_eq_some_iff.1 hl3).1, (World.putObj_heap_other (by omega)).trans (hk3.2.1.trans hk2)⟩
      rintro e a3 W3 hp
      cases e with
      | normal =>
        obtain ⟨hk3, hi3, hit3⟩ := hp
        obtain ⟨hr, hl4, hk4⟩ := fin none W3 hk3
        exact ⟨_, _, hr, .inl ⟨rfl, ⟨hI _ _ _ hi3 ((hfb _ _).mono (fun k _ h => .inr h)), hl4, hk4⟩, hIt _ _ _ hit3 (hfb _ _), by have := hk3.1; simpa using this⟩⟩
      | ret =>
        obtain ⟨hk3, hi3⟩ := hp
        obtain ⟨hr, hl4, hk4⟩ := fin (some .ret) W3 hk3
        exact ⟨_, _, hr, .inr ⟨rfl, .ret, hIx _ _ _ _ hi3 (hfb _ _), hl4, hk4⟩⟩
      | exit id =>
        obtain ⟨hk3, hi3⟩ := hp
        obtain ⟨hr, hl4, hk4⟩ := fin (some (.exit id)) W3 hk3
        exact ⟨_, _, hr, .inr ⟨rfl, .exit id, hIx _ _ _ _ hi3 (hfb _ _), hl4, hk4⟩⟩
      | goto t =>
        obtain ⟨hk3, hi3⟩ := hp
        obtain ⟨hr, hl4, hk4⟩ := fin (some (.goto t)) W3 hk3
        exact ⟨_, _, hr, .inr ⟨rfl, .goto t, hIx _ _ _ _ hi3 (hfb _ _), hl4, hk4⟩⟩
      | panic ch => exact hp.elim
      | outgrown => exact hp.elim
    · -- behind the iterator
      have hfb : ∀ (X : World) (o : Obj), Fr (fun b => b = w.heap.size + 1) X (X.putObj (w.heap.size + 1) o) := fun X o => Fr.putObj X _ o rfl
      rintro e W2 ⟨⟨v, rfl⟩, (⟨s, hS, hi, hl, hk⟩ | ⟨s, c, hi, hl, hk⟩)⟩
      · exact ⟨none, _, by have := run_endLoop (P := P) hl (by rw [hrec]; simp); rw [hrec] at this; exact this, hdone s _ (hE _ _ _ hS (hfb _ _)) (hI _ _ _ hi ((hfb _ _).mono (fun k _ h => .inr h))) ((World.putObj_heap_other (by omega)).trans hk)⟩
      · exact ⟨some c, _, by have := run_endLoop (P := P) hl (by rw [hrec]; simp); rw [hrec] at this; exact this, hstop c s _ (hIx _ _ _ _ hi (hfb _ _)) ((World.putObj_heap_other (by omega)).trans hk)⟩
end Go.Proofs.YtmenchnjajpkmaaGreatDoor.Iter
end

section
namespace Go.Proofs.YtmenchnjajpkmaaGreatDoor.Wr
open Go Go.RowKit Mem Codec CodecR Arr Ops
set_option linter.unusedVariables false

def Rd.must (r : Rd) (ok : Bool) : Rd := if ok = true then r else r.fail 120
def Rd.kind (r : Rd) (lo hi : Int) : Rd × Int := (Rd.must (r.num 1).1 (decide (lo ≤ ((r.num 1).2 : Int)) && decide (((r.num 1).2 : Int) ≤ hi)), ((r.num 1).2 : Int))
/-- 32 bytes, noughts where there are none -/
def Rd.dig (r : Rd) : Rd × List UInt8 := ((r.raw 32).1, if (r.raw 32).2.length = 32 then (r.raw 32).2 else List.replicate 32 0)
theorem Rd.dig_len (r : Rd) : (Rd.dig r).2.length = 32 := by
  unfold Rd.dig
  dsimp only
  split
  · assumption
  · simp
section
variable {D : Nat → Prop} {w w' : World} {q : Nat} {r : Rd}
theorem rd_under {D : Nat → Prop} {w : World} {q : Nat} {r : Rd} (h : ReaderIs D w q r) : ReaderIs (fun k => k < w.heap.size ∧ D k) w q r := by
  obtain ⟨a, c, h1, h2, h3⟩ := h
  exact ⟨a, c, h1, h2.lt, fun h => h3 h.2⟩
theorem rd_back {D : Nat → Prop} {n : Nat} {w : World} {q : Nat} {r : Rd} (h : ReaderIs (fun k => k < n ∧ D k) w q r) (hq : q < n) : ReaderIs D w q r := by
  obtain ⟨a, c, h1, h2, h3⟩ := h
  exact ⟨a, c, h1, h2.mono (fun k _ h => h.2), fun h => h3 ⟨hq, h⟩⟩
theorem fr_box {o : Obj} (h : Fr (fun k => k = q) (w.alloc o) w') : Fr (fun k => k = q) w w' := ((Fr.refl _ w).alloc o).trans h
end
theorem raw32_len (r : Rd) : (r.raw 32).2.length = 32 ∨ (r.raw 32).2 = [] := by
  unfold Rd.raw
  rw [if_neg (by omega)]
  unfold Rd.take
  split
  · exact .inr rfl
  · split
    · exact .inr rfl
    · left
      have : (32 : Int).toNat = 32 := rfl
      rw [this] at *
      simp; omega
theorem zeroD (w : World) : (zeroValue 24).run Tryz.prog w = .ok (.agg (List.replicate 32 (.int .u8 0)).toArray) w := by kernel_rfl
/-- what a copied text's bytes are -/
theorem byt_src {D : Nat → Prop} {w : World} {a : Option Addr} {c : Nat} {l : List UInt8} (h : Byt D w (.slice a l.length c) l) (h0 : 0 < (l.map byt).length) : ∃ ad, a = some ad ∧ ∀ j v, (l.map byt)[j]? = some v → w.cell? (ad.add j) = some v := by
  obtain ⟨a', c', e, _, h⟩ := h
  cases e
  rcases h with h | ⟨b, off, rfl, _, hl⟩
  · subst h; simp at h0
  · refine ⟨_, rfl, fun j v hv => ?_⟩
    obtain ⟨hj, rfl⟩ := List.getElem?_eq_some_iff.1 hv
    rw [List.length_map] at hj
    rw [List.getElem_map]
    have := hl j hj
    unfold Addr.add
    split
    · rename_i h0; subst h0; exact this
    · exact this
theorem splice32 (r : Rd) : splice (List.replicate 32 (.int .u8 0)) 0 ((r.raw 32).2.map byt) = (Rd.dig r).2.map byt := by
  unfold Rd.dig splice
  dsimp only
  rcases raw32_len r with h | h
  · rw [if_pos h]
    simp [h]
  · rw [h]
    simp
set_option maxHeartbeats 4000000 in
set_option maxRecDepth 100000 in
theorem digest_calls (D : Nat → Prop) (w : World) (q : Nat) (r : Rd) (H : ReaderIs D w q r) (hl : r.rest.length ≤ 140737488355328) :
    Calls Tryz.prog 93 #[.agg #[.pointer (some ⟨q, 0, none⟩)]] w fun e w' => e = .returned (.agg ((Rd.dig r).2.map byt).toArray) ∧ ReaderIs D w' q (Rd.dig r).1 ∧ Fr (fun k => k = q) w w' := by
  have hql := H.lt
  have H1 := Lib.hid ((rd_under H).below (below_alloc w (.cells #[.pointer (some ⟨q, 0, none⟩)] 106)))
  have HB := Lib.hid (Blk.new w #[.pointer (some ⟨q, 0, none⟩)] 106 _ rfl)
  have HA := Lib.hid (below_alloc w (.cells #[.pointer (some ⟨q, 0, none⟩)] 106))
  have hz : w.heap.size + 1 = (w.alloc (.cells #[.pointer (some ⟨q, 0, none⟩)] 106)).heap.size := by simp
  have HSP := Lib.hid (splice32 r)
  have HRL := Lib.hid (raw32_len r)
  have HDL := Lib.hid (Rd.dig_len r)
  have hd1 : (Rd.dig r).1 = (r.raw 32).1 := rfl
  clear H
  go_enter Tryz.func93, Tryz.ntmps93
  go_upto_region 1 with (first
    | ((with_reducible refine wpList_alloc rfl _ rfl _ (zeroD _) (fun wa ka ca za => ?_)); have KA := Lib.hid ka; have CA := Lib.hid ca; clear ka ca))
  generalize (w.alloc (.cells #[.pointer (some ⟨q, 0, none⟩)] 106)) = w1 at *
  go_upto_region 2 with (first
    | ((with_reducible refine wpList_alloc rfl _ rfl _ (zeroD _) (fun wb kb cb zb => ?_)); have KB := Lib.hid kb; have CB := Lib.hid cb; clear kb cb))
  have H2 := Lib.hid ((H1.out.below CA.out).below CB.out)
  have HB2 := Lib.hid ((HB.out.below CA.out).below CB.out)
  have KA2 := Lib.hid (KA.out.below CB.out)
  have B2 := Lib.hid ((HA.out.trans (CA.out.mono (by omega))).trans (CB.out.mono (by omega)))
  have c0 := HB2.out.cell (i := 0) rfl
  clear H1 HB HA CA CB KA c0
  have hg1 : w1.heap.size < wa.heap.size := by omega
  have hg2 : wa.heap.size < wb.heap.size := by omega
  have hg0 : w.heap.size < w1.heap.size := by omega
  obtain ⟨g1, hg1e⟩ : ∃ g, w1.heap.size = g := ⟨_, rfl⟩
  rw [hg1e] at hg1 hg0 KA2
  obtain ⟨g2, hg2e⟩ : ∃ g, wa.heap.size = g := ⟨_, rfl⟩
  rw [hg2e] at hg1 hg2 KB
  refine wp_region_held_drew (S := (fun w' => (∃ l, Blk w' g2 l 24) ∧ Blk w' g1 (List.replicate 32 (.int .u8 0)) 24 ∧ Blk w' w.heap.size [.pointer (some ⟨q, 0, none⟩)] 106 ∧ Fr (fun k => k = q) w w')) (by kernel_rfl) ⟨⟨_, KB.out.drew⟩, KA2.out.drew, HB2.out.drew, (Fr.ofBelowAll B2.out (Nat.le_refl _)).drew⟩ (fun hHeld => ?_)
  refine wpAnyH_take (i := 0) (oi := ⟨_, _, _, _, _, _⟩) (v := ?_) rfl (by kernel_rfl) (by kernel_rfl) (by kernel_rfl) (fun _ _ _ h => h) (Or.inl ⟨by rfl, ?_⟩) (by assumption) ?_
  rotate_left
  · intro w hSw; go_simp; try (with_reducible rfl)
  try simp only [Act.put, List.setIfInBounds_toArray, List.set_cons_zero, List.set_cons_succ]
  refine wpAnyH_take (i := 1) (oi := ⟨_, _, _, _, _, _⟩) (v := ?_) rfl (by kernel_rfl) (by kernel_rfl) (by kernel_rfl) (fun _ _ _ h => h) (Or.inl ⟨by rfl, ?_⟩) (by assumption) ?_
  rotate_left
  · intro w hSw; go_simp; try (with_reducible rfl)
  try simp only [Act.put, List.setIfInBounds_toArray, List.set_cons_zero, List.set_cons_succ]
  refine wpAnyH_take (i := 2) (oi := ⟨_, _, _, _, _, _⟩) (v := .pointer (some ⟨q, 0, none⟩)) rfl (by kernel_rfl) (by kernel_rfl) (by kernel_rfl) (fun _ _ _ h => h) (Or.inl ⟨by rfl, fun w hSw => (by have c := hSw.2.2.1.cell (i := 0) rfl; go_simp; try (with_reducible rfl))⟩) (by assumption) ?_
  try simp only [Act.put, List.setIfInBounds_toArray, List.set_cons_zero, List.set_cons_succ]
  refine wpAnyH_ready (rs := [3]) (by kernel_rfl) (by simp) ?_
  refine AllReadyH.cons (o := ⟨_, _, _, _, _, _⟩) rfl (fun K hK => ?_) AllReadyH.nil
  go_simp
  have k2 := KB.out.lt
  have k1 := hHeld.2.1.lt
  refine (CodecR.raw_r_calls _ wb.drew q r 32 H2.out (by omega) (by omega) hl).mono ?_
  rintro e wc ⟨a, c, rfl, o1, o2, o3⟩
  refine hK.out _ _ (by exact ⟨hHeld.1.elim fun l hl => ⟨l, hl.fr o3 (by omega)⟩, hHeld.2.1.fr o3 (by omega), hHeld.2.2.1.fr o3 (by omega), hHeld.2.2.2.trans o3⟩) (fun hHeld => ?_)
  have O1 := Lib.hid o1.byt
  have KB3 := Lib.hid (KB.out.drew.fr o3 (by omega))
  have O2 := Lib.hid o2
  clear o1 o2 o3
  try simp only [Act.put, List.setIfInBounds_toArray, List.set_cons_zero, List.set_cons_succ]
  clear hK
  refine wpAnyH_ready (rs := [4]) (by kernel_rfl) (by simp) ?_
  refine AllReadyH.cons (o := ⟨_, _, _, _, _, _⟩) rfl (fun K hK => ?_) AllReadyH.nil
  refine step_copy_splice rfl (.tmp 4) (.tmp 7) 25 25 rfl 5 Tryz.underlying25 (by kernel_rfl) (some ⟨g2, 0, none⟩) a 32 32 (r.raw 32).2.length c rfl rfl g2 0 (List.replicate 32 (.int .u8 0)) 24 KB3.out ((r.raw 32).2.map byt) (by rw [List.length_map]; rcases HRL.out with h | h <;> rw [h] <;> rfl) (fun h => ⟨rfl, byt_src O1.out h⟩) (by rw [List.length_map]; rcases HRL.out with h | h <;> rw [h] <;> simp) (Wt.oneK _) g2 wc (Below.refl _ _) (Nat.le_refl _) (fun wd kd bd => ?_)
  refine hK.out _ _ (by exact ⟨⟨_, kd.out⟩, hHeld.2.1.fr (Fr.ofBelow bd) (by show ¬ g2 ≤ g1; omega), hHeld.2.2.1.fr (Fr.ofBelow bd) (by show ¬ g2 ≤ w.heap.size; omega), hHeld.2.2.2.trans' (Fr.ofBelow bd) (fun i hi (h : g2 ≤ i) => by omega)⟩) (fun hHeld => ?_)
  have KD := kd.out
  rw [HSP.out] at KD
  have HKD := Lib.hid (show Blk wd g2 ((Rd.dig r).2.map byt) 24 from KD)
  have O3 := Lib.hid (O2.out.fr (Fr.ofBelow bd) (by show ¬ g2 ≤ q; omega) (fun k _ h (e : g2 ≤ k) => by have := h.1; omega))
  clear KD kd O2 O1 KB3
  try simp only [Act.put, List.setIfInBounds_toArray, List.set_cons_zero, List.set_cons_succ]
  clear hK
  refine wpAnyH_done (by kernel_rfl) ?_ _
  have SZ := Lib.hid (Ww.szD HDL.out)
  have K1 := Lib.hid hHeld.2.1
  have FF := Lib.hid hHeld.2.2.2
  clear hHeld
  go_wp2_with (first
    | (with_reducible refine wpList_load_blk rfl _ _ rfl g2 ((Rd.dig r).2.map byt) rfl HKD.out _ Tryz.underlying24 rfl SZ.out ?_)
    | ((with_reducible refine wpList_put rfl _ _ _ rfl g1 ((Rd.dig r).2.map byt) _ rfl rfl K1.out SZ.out (by simp [HDL.out]) (Wt.oneK _) (fun we ke fe ze => ?_)); have KE := Lib.hid ke; have FE := Lib.hid fe; clear ke fe))
  exact bodyPost_ret (v := .agg ((Rd.dig r).2.map byt).toArray) (results_row1 Tryz.results93 _ _ g1 _ _ rfl KE.out Tryz.underlying24 rfl SZ.out) rfl ⟨rfl, rd_back (O3.out.fr FE.out (by omega) (fun k _ h (e : k = g1) => by have := h.1; omega)) hql, FF.out.trans' FE.out (fun i hi (e : i = g1) => by omega)⟩
end Go.Proofs.YtmenchnjajpkmaaGreatDoor.Wr
end

section
namespace Go.Proofs.YtmenchnjajpkmaaGreatDoor.Ops
open Go Go.RowKit Mem
section
variable {F : Fence} {n : Nat} {P : Program} {w : World} {ops : Array Oper} {rest : List Oper} {o : Oper} {a : Act} {K : Act → World → Prop} {Q : Exit → Act → World → Prop}
theorem wpIn_value {v : Value} {w' : World} (hab : o.about P w a.eval = none) (hd : ∀ c, o.op ≠ .defer c) (hrun : (execOp a.eval o).run P w = .ok (.value v) w') (h : K (a.put o.dst v) w') : o.wpIn F n P a w K Q := by
  unfold Oper.wpIn
  refine ⟨fun f hf => (by rw [hab] at hf; cases hf), ?_⟩
  rw [Oper.semAt_plain F _ _ hd, hrun]
  exact h
theorem wpListIn_alloc (hgd : o.guard = none) (t : TypeId) (ho : o.op = .alloc t) (zs : List Value) (hz : (zeroValue t).run P w = .ok (.agg zs.toArray) w)
    (h : ∀ w', Blk w' w.heap.size zs t → Below w.heap.size w w' → w.heap.size + 1 = w'.heap.size → wpListIn F n P ops Q rest (a.put o.dst (.pointer (some ⟨w.heap.size, 0, none⟩))) w') : wpListIn F n P ops Q (o :: rest) a w :=
  wpListIn_plain hgd fun K hK => wpIn_value (v := .pointer (some ⟨w.heap.size, 0, none⟩)) (w' := w.alloc (.cells zs.toArray t)) (by simp [Oper.about, ho]) (by rw [ho]; intro c h; cases h)
    (by simp [execOp, ho, Instr.alloc, hz, newVar, newRow, Value.cells, Result.andThen]) (hK _ _ (h _ (Blk.new w _ _ _ rfl) (below_alloc _ _) (by simp)))
theorem wpListIn_put (hgd : o.guard = none) (ty : TypeId) (x y : Operand) (ho : o.op = .store ty x y) (g : Nat) (l old : List Value) (hx : a.eval x = .pointer (some ⟨g, 0, none⟩)) (hy : a.eval y = .agg l.toArray) {t : TypeId} (hB : Blk w g old t)
    (hi : (P.info? ty).map (·.size) = some l.length) (hl : old.length = l.length) (h1 : ∀ v ∈ l, v.oneCell' = true)
    (h : ∀ w', Blk w' g l t → Fr (fun k => k = g) w w' → w'.heap.size = w.heap.size → wpListIn F n P ops Q rest (a.put o.dst undef) w') : wpListIn F n P ops Q (o :: rest) a w := by
  refine wpListIn_plain hgd fun K hK => ?_
  unfold Oper.wpIn
  refine ⟨fun f hf => (by simp [Oper.about, ho] at hf), ?_⟩
  rw [Oper.semAt_plain F _ _ (by rw [ho]; intro c h; cases h)]
  have hr := run_storeVar_row (P := P) w g t ty old.toArray l.toArray hB (by simpa using hi) (by simpa using hl) (by rw [Array.all_eq_true']; intro v hv; exact h1 v (by simpa using hv))
  have e : (execOp a.eval o).run P w = .ok .skip (w.setRow g l.toArray) := by
    unfold execOp
    simp only [ho, hx, hy, Instr.storeAt, Instr.sureAddr, Sem.run_bind, Sem.run_pure, Result.andThen_ok, hr]
  rw [e]
  exact hK _ _ (h _ (hB.row l) (Fr.setRow (S := fun k => k = g) (Fr.refl _ w) (.inr rfl) _) (by simp))
theorem wpListIn_load_blk (hgd : o.guard = none) (ty : TypeId) (x : Operand) (ho : o.op = .load ty x) (g : Nat) (l : List Value) (hx : a.eval x = .pointer (some ⟨g, 0, none⟩)) {t : TypeId} (hB : Blk w g l t) (d : TypeDesc) (hu : P.underlying ty = some d)
    (hd : d.isRow = true) (hi : (P.info? ty).map (·.size) = some l.length) (h : wpListIn F n P ops Q rest (a.put o.dst (.agg l.toArray)) w) : wpListIn F n P ops Q (o :: rest) a w :=
  wpListIn_plain hgd fun K hK => wpIn_value (v := .agg l.toArray) (w' := w) (by simp [Oper.about, ho]) (by rw [ho]; intro c h; cases h)
    (by unfold execOp; simp only [ho, hx, Instr.loadAt, Instr.sureAddr, Sem.run_bind, Sem.run_pure, Result.andThen_ok, run_loadVar_mid w g 0 ty l d (blk_range hB) hu hd hi]) (hK _ _ h)
/-- the same of an operation behind a guard that lets it -/
theorem wpListIn_load_blkw (hw : Region.wanted o (yielded ops a.tmps) = true) (ty : TypeId) (x : Operand) (ho : o.op = .load ty x) (g : Nat) (l : List Value) (hx : a.eval x = .pointer (some ⟨g, 0, none⟩)) {t : TypeId} (hB : Blk w g l t) (d : TypeDesc) (hu : P.underlying ty = some d)
    (hd : d.isRow = true) (hi : (P.info? ty).map (·.size) = some l.length) (h : wpListIn F n P ops Q rest (a.put o.dst (.agg l.toArray)) w) : wpListIn F n P ops Q (o :: rest) a w :=
  wpListIn_step fun K hK => by
    rw [if_pos hw]
    exact wpIn_value (v := .agg l.toArray) (w' := w) (by simp [Oper.about, ho]) (by rw [ho]; intro c h; cases h)
      (by unfold execOp; simp only [ho, hx, Instr.loadAt, Instr.sureAddr, Sem.run_bind, Sem.run_pure, Result.andThen_ok, run_loadVar_mid w g 0 ty l d (blk_range hB) hu hd hi]) (hK _ _ h)
/-- a slice of one element of many cells -/
theorem wpListIn_buildSlice1 (hgd : o.guard = none) {t e : TypeId} {z : Value} {k bytes : Nat} (T : ElemT P t e z k bytes) (x : Operand) (ho : o.op = .buildSlice t 1 #[(0, x)]) (l : List Value) (hx : a.eval x = .agg l.toArray) (hs : l.length = k) (hk : k ≤ 16777216)
    (h : ∀ w', Blk w' w.heap.size l e → Below w.heap.size w w' → w.heap.size + 1 = w'.heap.size → wpListIn F n P ops Q rest (a.put o.dst (.slice (some ⟨w.heap.size, 0, none⟩) 1 1)) w') : wpListIn F n P ops Q (o :: rest) a w := by
  refine wpListIn_plain hgd fun K hK => wpIn_value (v := .slice (some ⟨w.heap.size, 0, none⟩) 1 1) (w' := w.alloc (.cells l.toArray e)) (by simp [Oper.about, ho]) (by rw [ho]; intro c h; cases h) ?_ (hK _ _ (h _ (Blk.new w _ _ _ rfl) (below_alloc _ _) (by simp)))
  have hr := Arr.run_buildSlice T [.agg l.toArray] (by simp [Value.cells, hs]) (by simpa using hk) (by simp) w
  simp at hr
  simp [execOp, ho, hx, hr, Value.cells, Result.andThen]
theorem wpListIn_append_arr (hgd : o.guard = none) (s x : Operand) (t : TypeId)
    (ho : o.op = .call { callee := .builtin .append, args := #[s, x], argTypes := #[t, t] }) (base : Nat) (e : TypeId) {z : Value} {k bytes : Nat} (T : ElemT P t e z k bytes)
    (v : Value) (xs : List (List Value)) (hs : a.eval s = v) (hown : Arr.OwnA k base e w v xs) {D : Nat → Prop} (y : Value) (ys : List (List Value)) (hx : a.eval x = y) (hy : Arr.Arr k D w y ys)
    (h1 : ∀ x ∈ ys, ∀ c ∈ x, c.oneCell' = true) (h63 : xs.length + ys.length ≤ maxLen) (hbytes : (xs.length + ys.length) * bytes ≤ 140737488355328) (hb : base ≤ w.heap.size) (m : Nat) (hn : m = xs.length + ys.length)
    (h : ∀ (a' : Option Addr) (cap' : Nat) (w' : World), Arr.OwnA k base e w' (.slice a' m cap') (xs ++ ys) → w.grownBy w' v.ownBlock → ((Value.slice a' m cap').ownBlock = v.ownBlock ∨ (Value.slice a' m cap').ownBlock = some w.heap.size) → wpListIn F n P ops Q rest (a.put o.dst (.slice a' m cap')) w') :
    wpListIn F n P ops Q (o :: rest) a w := by
  subst hn
  obtain ⟨a', cap', w', h0, q1, q2, q4⟩ := Arr.run_append_arr (P := P) w t o.type base e T v xs hown y ys hy h1 h63 hbytes hb
  refine wpListIn_plain hgd fun K hK => ?_
  unfold Oper.wpIn
  refine ⟨?_, ?_⟩
  · simp [Oper.about, ho, resolve, Target.leads, Sem.run_pure]
  · rw [Oper.semAt_plain F _ _ (by rw [ho]; intro c hc'; cases hc')]
    simp [execOp, ho, resolve, invoke, builtin, hs, hx, h0, Result.andThen]
    exact hK _ _ (h a' cap' w' q1 q2 q4)
end
end Go.Proofs.YtmenchnjajpkmaaGreatDoor.Ops
end

section
namespace Go.Proofs.YtmenchnjajpkmaaGreatDoor.WtIt
open Go Go.RowKit Mem Codec CodecR Iter Ops
set_option linter.unusedVariables false

/-- so many things, up to the first one that fails -/
def items {α : Type} (one : Rd → Rd × α) : Nat → Rd → List α × Rd
  | 0, r => ([], r)
  | n + 1, r => if (one r).1.e ≠ 0 then ([], (one r).1) else ((one r).2 :: (items one n (one r).1).1, (items one n (one r).1).2)
section
variable {α : Type} (one : Rd → Rd × α)
/-- where one is -/
def At (n : Nat) (r1 : Rd) (s : List α × Rd) : Prop := s.1.length ≤ n ∧ items one n r1 = (s.1 ++ (items one (n - s.1.length) s.2).1, (items one (n - s.1.length) s.2).2)
theorem At.start (n : Nat) (r1 : Rd) : At one n r1 ([], r1) := ⟨Nat.zero_le _, by simp⟩
theorem At.next {n : Nat} {r1 : Rd} {pre : List α} {r : Rd} (h : At one n r1 (pre, r)) (hl : pre.length < n) (he : (one r).1.e = 0) : At one n r1 (pre ++ [(one r).2], (one r).1) := by
  obtain ⟨_, h⟩ := h
  refine ⟨by simp; omega, ?_⟩
  rw [h]
  dsimp only
  obtain ⟨k, hk⟩ : ∃ k, n - pre.length = k + 1 := ⟨n - pre.length - 1, by omega⟩
  rw [hk, items, if_neg (by simp [he]), show n - (pre ++ [(one r).2]).length = k by simp; omega]
  simp
theorem At.fails {n : Nat} {r1 : Rd} {pre : List α} {r : Rd} (h : At one n r1 (pre, r)) (hl : pre.length < n) (he : (one r).1.e ≠ 0) : items one n r1 = (pre, (one r).1) := by
  obtain ⟨_, h⟩ := h
  rw [h]
  dsimp only
  obtain ⟨k, hk⟩ : ∃ k, n - pre.length = k + 1 := ⟨n - pre.length - 1, by omega⟩
  rw [hk, items, if_pos he]
  simp
theorem At.all {n : Nat} {r1 : Rd} {pre : List α} {r : Rd} (h : At one n r1 (pre, r)) (hl : ¬ pre.length < n) : items one n r1 = (pre, r) := by
  obtain ⟨_, h⟩ := h
  rw [h, show n - pre.length = 0 by omega]
  simp [items]
/-- what a round is told: the reader behind its thing, the thing -/
def Y (n : Nat) (r1 : Rd) (V : World → World → Value → α → Prop) (s s' : List α × Rd) (vs : Array Value) (A0 A : World) : Prop :=
  ∃ v, s.1.length < n ∧ At one n r1 s ∧ s' = (s.1 ++ [(one s.2).2], (one s.2).1) ∧ (one s.2).1.e = 0 ∧ vs = #[.int .i64 (s.1.length : Int), v] ∧ V A0 A v (one s.2).2
def It (D : Nat → Prop) (q b1 b2 b3 d1 d2 : Nat) (most : Int) (fv fk : Value) (s : List α × Rd) (A : World) : Prop :=
  ReaderIs D A q s.2 ∧ A.cell? ⟨b1, 0, none⟩ = some (.pointer (some ⟨q, 0, none⟩)) ∧ A.cell? ⟨b2, 0, none⟩ = some (.int .i64 most) ∧ A.cell? ⟨b3, 0, none⟩ = some fv ∧ A.cell? ⟨d1, 0, none⟩ = some fk ∧ A.cell? ⟨d2, 0, none⟩ = some (.pointer (some ⟨q, 0, none⟩))
def E (n : Nat) (r1 : Rd) (D : Nat → Prop) (q : Nat) (s : List α × Rd) (A : World) : Prop := ∃ r2, items one n r1 = (s.1, r2) ∧ ReaderIs D A q r2
end

def KV (A B : World) (v : Value) (x : List UInt8) : Prop := v = .agg (x.map byt).toArray ∧ x.length = 32
attribute [local go_sem] Oper.semAt_some
end Go.Proofs.YtmenchnjajpkmaaGreatDoor.WtIt
end

section
namespace Go.Proofs.YtmenchnjajpkmaaGreatDoor.Iter
open Go Go.RowKit Mem

theorem rangeSeq2 {σ : Type} {P : Program} {g : Operand} {ps : Array Tmp} {assign body : Code} {Q : Exit → Act → World → Prop} {a : Act} {w : World} {gf : Nat} {lb : Array Value}
    (hg : a.eval g = .func (.func gf) #[] lb) (eg : ∀ args w, (callFunc gf args).run P w = .ok (.enter gf args) w)
    {T : Nat → Prop} {It : σ → World → Prop} {Y : σ → σ → Array Value → World → World → Prop} {E : σ → World → Prop} {s0 : σ} (hseq : SeqC P gf lb T It Y E s0 w)
    (hT : ∀ k, T k → k < w.heap.size)
    (hIt : ∀ s A B, It s A → Fr (fun b => b = w.heap.size + 1) A B → It s B)
    (hY : ∀ s s' vs A0 A B, Y s s' vs A0 A → w.heap.size + 1 < A0.heap.size → Fr (fun b => b = w.heap.size + 1) A B → Y s s' vs A0 B)
    (hE : ∀ s A B, E s A → Fr (fun b => b = w.heap.size + 1) A B → E s B)
    (hps : ∀ s s' vs A0 A, Y s s' vs A0 A → vs.size = ps.size)
    (I : σ → World → Prop) (Ix : Code → σ → World → Prop)
    (hI : ∀ s A B, I s A → Fr (fun b => T b ∨ b = w.heap.size + 1) A B → I s B)
    (hIx : ∀ c s A B, Ix c s A → Fr (fun b => b = w.heap.size + 1) A B → Ix c s B)
    (h0 : I s0 w) (AS : Array Value → Act → World → Prop)
    (hAS : ∀ vs a A B, AS vs a A → Fr (fun b => b = w.heap.size + 1) A B → AS vs a B)
    (hassign : ∀ (l : Nat) (s s' : σ) (vs : Array Value) (A0 W : World) (K : Act → World → Prop), Y s s' vs A0 W → w.heap.size + 1 < W.heap.size → (∀ a W', AS vs a W' → Below W.heap.size W W' → K a W') →
      assign.wpIn (Fence.wide.inRound l) 0 P (Exit.then K (fun _ _ _ => False)) { tmps := (ps.zip vs).foldl (fun t (p, v) => t.setIfInBounds p v) a.tmps, defers := [] } W)
    (hbody : ∀ (s s' : σ) (vs : Array Value) (a' : Act) (A0 A : World), w.heap.size + 1 < A0.heap.size → I s A0 → Fr (fun b => T b ∨ b = w.heap.size + 1) A0 A → Y s s' vs A0 A → It s' A → AS vs a' A →
      body.wpIn (Fence.wide.inRound (w.heap.size + 1)) 0 P (roundEnd w.heap.size It I Ix s' A) a' A)
    (hdone : ∀ (s : σ) (W : World), E s W → I s W → W.heap[w.heap.size]? = some (.deferred (some [])) → Q .normal { a with defers := { target := .collected w.heap.size, args := #[] } :: a.defers } W)
    (hstop : ∀ (c : Code) (s : σ) (W : World), Ix c s W → W.heap[w.heap.size]? = some (.deferred (some [])) → c.wpIn Fence.wide 0 P Q { a with defers := { target := .collected w.heap.size, args := #[] } :: a.defers } W) :
    (Code.rangeFunc g ps assign body).wpIn Fence.wide 0 P Q a w := by
  refine wpIn_rangeFunc ?_
  intro fn hfn
  rw [show Fence.wide.round = none from rfl]
  obtain ⟨rec, hrec⟩ : ∃ rec : LoopState → Option Code → Loop, rec = fun st pe => { state := st, pending := pe, fn, tmps := a.tmps, params := ps, assign, body, defers := w.heap.size } := ⟨_, rfl⟩
  obtain ⟨W1, hW1⟩ : ∃ W1, (w.alloc (.deferred (some []))).alloc (.loop (rec .ready none)) = W1 := ⟨_, rfl⟩
  have hL1 : W1.heap[w.heap.size + 1]? = some (.loop (rec .ready none)) := by
    rw [← hW1]; have := World.alloc_heap_new (w.alloc (.deferred (some []))) (.loop (rec .ready none)); rwa [World.size_alloc] at this
  have hK1 : W1.heap[w.heap.size]? = some (.deferred (some [])) := by
    rw [← hW1]; exact (Below.heap_alloc _ _ _ (by simp)).trans (World.alloc_heap_new w _)
  have hb1 : Below w.heap.size w W1 := by
    rw [← hW1]; exact ((Below.refl _ w).alloc (Nat.le_refl _) _).alloc (by simp) _
  have hI1 : I s0 W1 := hI _ _ _ h0 (Fr.ofBelowAll hb1 (Nat.le_refl _))
  refine ⟨w.heap.size + 1, [{ target := .collected w.heap.size, args := #[] }], W1, { target := .fn (.func gf) lb, args := #[.func (.yield (w.heap.size + 1)) #[] #[]] }, W1, gf,
    #[.func (.yield (w.heap.size + 1)) #[] #[]] ++ lb, W1, ?_, ?_, ?_, ?_, fun h => by simp [Fence.wide] at h, ?_⟩
  · rw [← hW1, hrec]; exact run_enterLoop_outer _ _ _ _ _
  · simp only [resolve, hg]
    simp [go_sem]
  · intro f' _; trivial
  · simp [invoke, go_sem, eg]
  · refine (hseq (w.heap.size + 1)
      (fun s W => I s W ∧ W.heap[w.heap.size + 1]? = some (.loop (rec .ready none)) ∧ W.heap[w.heap.size]? = some (.deferred (some [])))
      (fun s W => ∃ c, Ix c s W ∧ W.heap[w.heap.size + 1]? = some (.loop (rec .done (some c))) ∧ W.heap[w.heap.size]? = some (.deferred (some [])))
      W1 hb1 (by rw [← hW1]; simp) ?_ ?_ ⟨hI1, hL1, hK1⟩).mono ?_
    · rintro s A B ⟨h1, h2, h3⟩ hf
      have hl := (Array.getElem?_eq_some_iff.1 h2).1
      exact ⟨hI _ _ _ h1 (hf.mono (fun k _ h => .inl h)), (hf.block _ hl (fun h => by have := hT _ h; omega)).trans h2, (hf.block _ (by omega) (fun h => by have := hT _ h; omega)).trans h3⟩
    · -- one round
      rintro s s' vs W0 W ⟨hi, hl0, hk0⟩ hf0 hYs hIt1
      have hlt0 : w.heap.size + 1 < W0.heap.size := (Array.getElem?_eq_some_iff.1 hl0).1
      have hl := (hf0.block _ hlt0 (fun h => by have := hT _ h; omega)).trans hl0
      have hk := (hf0.block _ (by omega : w.heap.size < W0.heap.size) (fun h => by have := hT _ h; omega)).trans hk0
      have hlt : w.heap.size + 1 < W.heap.size := (Array.getElem?_eq_some_iff.1 hl).1
      have hy := run_yield (P := P) (args := vs) hl (by rw [hrec]; exact hps _ _ _ _ _ hYs)
      rw [hrec] at hy
      refine ⟨fn, _, assign, body, hy, roundIn_of_wpIn hfn (hassign _ _ _ vs _ W _ hYs hlt (fun aA WA hA hbA => ⟨_, run_beginRound ((hbA.block _ hlt).trans hl) (by rw [hrec]), ?_⟩))⟩
      have hlA := (hbA.block _ hlt).trans hl
      have hkA := (hbA.block _ (by omega : w.heap.size < W.heap.size)).trans hk
      have hltA : w.heap.size + 1 < WA.heap.size := Nat.lt_of_lt_of_le hlt hbA.size
      have hl2 : (WA.putObj (w.heap.size + 1) (.loop { rec .ready none with state := .busy })).heap[w.heap.size + 1]? = some (.loop { rec .ready none with state := .busy }) := World.putObj_heap_same hltA
      have hk2 : (WA.putObj (w.heap.size + 1) (.loop { rec .ready none with state := .busy })).heap[w.heap.size]? = some (.deferred (some [])) := (World.putObj_heap_other (by omega)).trans hkA
      have hfb : ∀ (X : World) (o : Obj), Fr (fun b => b = w.heap.size + 1) X (X.putObj (w.heap.size + 1) o) := fun X o => Fr.putObj X _ o rfl
      refine wpIn_mono (hbody s s' vs aA W0 _ hlt0 hi ((hf0.mono (fun k _ h => .inl h)).trans ((Fr.ofBelowAll hbA (Nat.le_refl _)).trans ((hfb _ _).mono (fun k _ h => .inr h)))) (hY _ _ _ _ _ _ hYs hlt0 ((Fr.ofBelowAll hbA (Nat.le_refl _)).trans (hfb _ _))) (hIt _ _ _ hIt1 ((Fr.ofBelowAll hbA (Nat.le_refl _)).trans (hfb _ _))) (hAS _ _ _ _ hA (hfb _ _))) ?_
      have fin : ∀ (jump : Option Code) (W3 : World), Rec w.heap.size (WA.putObj (w.heap.size + 1) (.loop { rec .ready none with state := .busy })) W3 →
          (Instr.endRound (w.heap.size + 1) jump).run P W3 = .ok (.bool jump.isNone) (W3.putObj (w.heap.size + 1) (.loop (rec (if jump.isNone then .ready else .done) jump))) ∧
          (W3.putObj (w.heap.size + 1) (.loop (rec (if jump.isNone then .ready else .done) jump))).heap[w.heap.size + 1]? = some (.loop (rec (if jump.isNone then .ready else .done) jump)) ∧
          (W3.putObj (w.heap.size + 1) (.loop (rec (if jump.isNone then .ready else .done) jump))).heap[w.heap.size]? = some (.deferred (some [])) := fun jump W3 hk3 => by
        have hl3 := hk3.2.2.trans hl2
        have := run_endRound (P := P) jump hl3
        rw [hrec] at this ⊢
        exact ⟨this, World.putObj_heap_same (Array.getElem?_eq_some_iff.1 hl3).1, (World.putObj_heap_other (by omega)).trans (hk3.2.1.trans hk2)⟩
      rintro e a3 W3 hp
      cases e with
      | normal =>
        obtain ⟨hk3, hi3, hit3⟩ := hp
        obtain ⟨hr, hl4, hk4⟩ := fin none W3 hk3
        exact ⟨_, _, hr, .inl ⟨rfl, ⟨hI _ _ _ hi3 ((hfb _ _).mono (fun k _ h => .inr h)), hl4, hk4⟩, hIt _ _ _ hit3 (hfb _ _), by have := hk3.1; have h2 := hbA.size; simp at this ⊢; omega⟩⟩
      | ret =>
        obtain ⟨hk3, hi3⟩ := hp
        obtain ⟨hr, hl4, hk4⟩ := fin (some .ret) W3 hk3
        exact ⟨_, _, hr, .inr ⟨rfl, .ret, hIx _ _ _ _ hi3 (hfb _ _), hl4, hk4⟩⟩
      | exit id =>
        obtain ⟨hk3, hi3⟩ := hp
        obtain ⟨hr, hl4, hk4⟩ := fin (some (.exit id)) W3 hk3
        exact ⟨_, _, hr, .inr ⟨rfl, .exit id, hIx _ _ _ _ hi3 (hfb _ _), hl4, hk4⟩⟩
      | goto t =>
        obtain ⟨hk3, hi3⟩ := hp
        obtain ⟨hr, hl4, hk4⟩ := fin (some (.goto t)) W3 hk3
        exact ⟨_, _, hr, .inr ⟨rfl, .goto t, hIx _ _ _ _ hi3 (hfb _ _), hl4, hk4⟩⟩
      | panic ch => exact hp.elim
      | outgrown => exact hp.elim
    · -- behind the iterator
      have hfb : ∀ (X : World) (o : Obj), Fr (fun b => b = w.heap.size + 1) X (X.putObj (w.heap.size + 1) o) := fun X o => Fr.putObj X _ o rfl
      rintro e W2 ⟨⟨v, rfl⟩, (⟨s, hS, hi, hl, hk⟩ | ⟨s, c, hi, hl, hk⟩)⟩
      · exact ⟨none, _, by have := run_endLoop (P := P) hl (by rw [hrec]; simp); rw [hrec] at this; exact this, hdone s _ (hE _ _ _ hS (hfb _ _)) (hI _ _ _ hi ((hfb _ _).mono (fun k _ h => .inr h))) ((World.putObj_heap_other (by omega)).trans hk)⟩
      · exact ⟨some c, _, by have := run_endLoop (P := P) hl (by rw [hrec]; simp); rw [hrec] at this; exact this, hstop c s _ (hIx _ _ _ _ hi (hfb _ _)) ((World.putObj_heap_other (by omega)).trans hk)⟩
end Go.Proofs.YtmenchnjajpkmaaGreatDoor.Iter
end

section
namespace Go.Proofs.YtmenchnjajpkmaaGreatDoor.WtIt
open Go Go.RowKit Mem Codec CodecW CodecR Iter Arr Ops Wr
set_option linter.unusedVariables false

theorem dig_rest (r : Rd) : (Rd.dig r).1.rest.length ≤ r.rest.length := by
  unfold Rd.dig Rd.raw
  dsimp only
  rw [if_neg (by omega)]
  exact (Rd.take_len r _).1
theorem two_vals {vs : Array Value} (h : vs.size = 2) : ∃ a b, vs = #[a, b] := ⟨vs[0], vs[1], by
  apply Array.ext
  · simp [h]
  · intro i h1 h2
    simp only [List.size_toArray, List.length_cons, List.length_nil] at h2
    match i, h2 with
    | 0, _ => rfl
    | 1, _ => rfl⟩
/-- all, or none -/
def lst {α : Type} (p : List α × Rd) : List α := if p.2.e ≠ 0 then [] else p.1
theorem lst_len {α : Type} (one : Rd → Rd × α) : ∀ (n : Nat) (r : Rd), (items one n r).1.length ≤ n
  | 0, r => by simp [items]
  | n + 1, r => by
    unfold items
    split
    · simp
    · have := lst_len one n (one r).1
      simp only [List.length_cons]
      omega
def digs (l : List (List UInt8)) : List (List Value) := l.map (·.map byt)
theorem digs_snoc (l : List (List UInt8)) (x : List UInt8) : digs (l ++ [x]) = digs l ++ [x.map byt] := by simp [digs]
theorem digs_len (l : List (List UInt8)) : (digs l).length = l.length := by simp [digs]
theorem byts_inj : ∀ {d e : List UInt8}, d.map byt = e.map byt → d = e
  | [], [], _ => rfl
  | [], _ :: _, h => by cases h
  | _ :: _, [], h => by cases h
  | x :: d, y :: e, h => by
    simp only [List.map_cons, List.cons.injEq, Value.int.injEq, true_and] at h
    rw [byts_inj h.2, show x = y from UInt8.toNat_inj.1 (by omega)]
theorem arr1 {w : World} {g : Nat} {l : List Value} {e : TypeId} {k : Nat} (h : Blk w g l e) (hl : l.length = k) : Arr k Any w (.slice (some ⟨g, 0, none⟩) 1 1) [l] :=
  ⟨some ⟨g, 0, none⟩, 1, rfl, ⟨by simp, by unfold maxLen; omega, by simp⟩, by simpa using hl, .inr ⟨g, 0, rfl, trivial, fun i hi => by
    obtain rfl : i = 0 := by simpa using hi
    simpa using blk_range h⟩⟩
end Go.Proofs.YtmenchnjajpkmaaGreatDoor.WtIt
end

section
namespace Go.Proofs.YtmenchnjajpkmaaGreatDoor.WtIt
open Go Go.RowKit Mem Codec CodecW CodecR Iter Arr Ops Wr
set_option linter.unusedVariables false

theorem room_small (r : Rd) (most : Int) (h : most ≤ 65536) : (r.room most).2 ≤ 65536 := by
  unfold Rd.room Rd.var
  dsimp only
  repeat' split
  all_goals (first | exact Nat.zero_le _ | (dsimp only at *; omega))
/-- a list of keys, read -/
def Rd.keys (r : Rd) (most : Int) : Rd × List (List UInt8) := ((items Rd.dig (r.room most).2 (r.room most).1).2, lst (items Rd.dig (r.room most).2 (r.room most).1))
theorem kind_rest (r : Rd) (lo hi : Int) : (Wr.Rd.kind r lo hi).1.rest.length ≤ r.rest.length := by
  unfold Wr.Rd.kind Wr.Rd.must Rd.fail Rd.num
  dsimp only
  have h := (Rd.take_len r 1).1
  repeat' split
  all_goals exact h
/-- a federation, read: what is left, the number, the keys -/
def Rd.params (r : Rd) : Rd × Int × List (List UInt8) := ((Rd.keys (Wr.Rd.kind r 0 255).1 16).1, (Wr.Rd.kind r 0 255).2, (Rd.keys (Wr.Rd.kind r 0 255).1 16).2)
end Go.Proofs.YtmenchnjajpkmaaGreatDoor.WtIt
end

section
namespace Go.Proofs.YtmenchnjajpkmaaGreatDoor.WtIt
open Go Go.RowKit Mem Codec CodecW CodecR Iter Arr Ops Wr
set_option linter.unusedVariables false

/-- what is read of bytes: the number, the keys, the error -/
def gotP (l : List UInt8) : Int × List (List UInt8) × Int := if (Rd.params ⟨l, 0⟩).1.fin = 0 then ((Rd.params ⟨l, 0⟩).2.1, (Rd.params ⟨l, 0⟩).2.2, 0) else (0, [], 120)
theorem zeroR (w : World) : (zeroValue 106).run Tryz.prog w = .ok (.agg [.pointer none].toArray) w := by kernel_rfl
theorem one_two {x v : Value} (h1 : x.oneCell' = true) (h2 : v.oneCell' = true) : ∀ u ∈ [x, v], u.oneCell' = true := by
  intro u hu
  simp only [List.mem_cons, List.not_mem_nil, or_false] at hu
  rcases hu with rfl | rfl <;> assumption
theorem one_ptr (q : Nat) : ∀ u ∈ [Value.pointer (some ⟨q, 0, none⟩)], u.oneCell' = true := by
  intro u hu
  rw [List.mem_singleton.1 hu]; rfl
end Go.Proofs.YtmenchnjajpkmaaGreatDoor.WtIt
end
