/- Walks of the reference's reader: Raw, Said, Get, GetVar, GetText, End. Condition: the bytes are at most 2^47. Walks of the reference's GetText, End. Condition: the bytes are at most 2^47. A range over a function whose iterator writes blocks of its own: what the iterator promises, and the law for the caller. Program-independent; no condition. The plain words of SHA-256: words, rounds, the schedule. No condition. Walks of SHA-256's small functions. No condition. -/
import Derived.Test.YtmenchnjajpkmaaGreatDoorPrvb
import Derived.Laws.ResultCell
import Derived.Deep.RegionHeld3
import Derived.RangeFuncNested
import Derived.RangeFuncBound
import Derived.RangeFuncCalls
import Derived.RangeFuncLeaves
import Derived.Test.YtmenchnjajpkmaaGreatDoorPrva
import Derived.WalkKit
import Derived.Test.YtmenchnjajpkmaaGreatDoorProg
import Derived.BigRegion
import Derived.StillTailTactics
import Derived.RegionTactic
import Derived.Deep.Light
section
namespace Go.Proofs.YtmenchnjajpkmaaGreatDoor.CodecRef
open Go Go.RowKit Mem Codec CodecW CodecR CodecN

theorem results_row_tmp {P : Program} {fn : Func} {p u : Tmp} {ty : TypeId} (h : fn.results = #[.cell p ty, .tmp u]) (tmps : Array Value) (w : World) (g : Nat) (t : TypeId) (l : List Value) (d : TypeDesc)
    (hp : tmps.getD p undef = .pointer (some ⟨g, 0, none⟩)) (hB : Blk w g l t) (hu : P.underlying ty = some d) (hd : (match d with | .struct _ | .array _ _ => true | _ => false) = true) (hi : (P.info? ty).map (·.size) = some l.length) :
    (results fn tmps).run P w = .ok (.tuple #[.agg l.toArray, tmps.getD u undef]) w := by
  rw [results_cell_tmp h, hp]
  have ha : (asAddr (.pointer (some ⟨g, 0, none⟩))).run P w = .ok ⟨g, 0, none⟩ w := rfl
  rw [ha]
  simp only [Result.andThen_ok]
  rw [run_loadVar_row w g t ty l.toArray (0, 0) d hB hu hd (by simpa using hi)]
  rfl
theorem Blk.set3 {w : World} {b : Nat} {x y z : Value} {t : TypeId} (h : Blk w b [x, y, z] t) (x' y' z' : Value) : Blk (((w.setCell ⟨b, 0, none⟩ x').setCell ⟨b, 1, none⟩ y').setCell ⟨b, 2, none⟩ z') b [x', y', z'] t :=
  ((h.set 0 x').set 1 y').set 2 z'
/-- the reference's reader as a value -/
abbrev rv (a : Option Addr) (n c : Nat) (at' : Nat) (e : Int) : Value := .agg #[.slice a n c, .int .i64 (at' : Int), .int .i64 e]

set_option maxHeartbeats 4000000 in
set_option maxRecDepth 100000 in
theorem raw_calls (w : World) (a : Option Addr) (c : Nat) (B : List UInt8) (at' : Nat) (e : Int) (n : Int) (hB : Byt Any w (.slice a B.length c) B) (hat : at' ≤ B.length) (hl : B.length ≤ 140737488355328) (h1 : -9223372036854775808 ≤ n) (h2 : n < 9223372036854775808) :
    Calls Tryz.prog 102 #[rv a B.length c at' e, .int .i64 n] w fun x w' => ∃ v, x = .returned (.tuple #[rv a B.length c (B.length - (Rd.raw ⟨B.drop at', e⟩ n).1.rest.length) (Rd.raw ⟨B.drop at', e⟩ n).1.e, v]) ∧ Byt (fun k => w.heap.size ≤ k) w' v (Rd.raw ⟨B.drop at', e⟩ n).2 ∧ Below w.heap.size w w' := by
  have HB := Lib.hid hB
  clear hB
  have hbl : ∀ (W : World) (o1 o2 : Obj), W = (w.alloc o1).alloc o2 → Below w.heap.size w W := fun W o1 o2 h => by
    rw [h]; exact ((Below.refl _ _).alloc (Nat.le_refl _) _).alloc (by simp) _
  have hbk : ∀ (o1 : Obj) (l : List Value), Blk ((w.alloc o1).alloc (.cells l.toArray 121)) (w.heap.size + 1) l 121 := fun o1 l => by
    have := Blk.new (w.alloc o1) l.toArray 121 l rfl
    rwa [World.size_alloc] at this
  have HBL := Lib.hid hbl
  have HBK := Lib.hid hbk
  clear hbl hbk
  by_cases he : e = 0
  · subst he
    by_cases hn : n < 0
    · have hr : Rd.raw ⟨B.drop at', 0⟩ n = (⟨B.drop at', 112⟩, []) := by unfold Rd.raw; rw [if_pos hn]; rfl
      rw [hr]
      have hz : B.length - (B.drop at').length = at' := by simp; omega
      dsimp only
      rw [hz]
      have HZ := Lib.hid hz
      clear hr hz
      go_enter Tryz.func102, Tryz.ntmps102
      go_wp2
      exact bodyPost_ret (results_row_tmp Tryz.results102 _ _ (w.heap.size + 1) 121 [.slice a B.length c, .int .i64 at', .int .i64 112] _ rfl (HBK.out _ _) Tryz.underlying121 rfl (by kernel_rfl)) rfl ⟨.slice none 0 0, rfl, Byt.nil _ _, HBL.out _ _ _ rfl⟩
    · obtain ⟨m, rfl⟩ : ∃ m : Nat, n = (m : Int) := ⟨n.toNat, by omega⟩
      have hr0 : Rd.raw ⟨B.drop at', 0⟩ (m : Int) = Rd.take ⟨B.drop at', 0⟩ m := by unfold Rd.raw; rw [if_neg hn, Int.toNat_natCast]
      have hnz : ¬ ((m : Int) < 0) := by omega
      by_cases hs : B.length - at' < m
      · have hr : Rd.raw ⟨B.drop at', 0⟩ (m : Int) = (⟨B.drop at', 110⟩, []) := by
          rw [hr0]; unfold Rd.take; simp [hs]
        rw [hr]
        have hz : B.length - (B.drop at').length = at' := by simp; omega
        dsimp only
        rw [hz]
        clear hr hz hr0
        have hsz : (B.length : Int) - (at' : Int) < (m : Int) := by omega
        go_enter Tryz.func102, Tryz.ntmps102
        go_wp2
        exact bodyPost_ret (results_row_tmp Tryz.results102 _ _ (w.heap.size + 1) 121 [.slice a B.length c, .int .i64 at', .int .i64 110] _ rfl (HBK.out _ _) Tryz.underlying121 rfl (by kernel_rfl)) rfl ⟨.slice none 0 0, rfl, Byt.nil _ _, HBL.out _ _ _ rfl⟩
      · have hr : Rd.raw ⟨B.drop at', 0⟩ (m : Int) = (⟨(B.drop at').drop m, 0⟩, (B.drop at').take m) := by
          rw [hr0]; unfold Rd.take; simp [hs]
        rw [hr]
        have hz : B.length - ((B.drop at').drop m).length = at' + m := by simp; omega
        have htk : (B.drop at').take m = (B.take (at' + m)).drop at' := by rw [List.take_drop]
        dsimp only
        rw [hz, htk]
        clear hr hz hr0 htk
        have hsz : ¬ ((B.length : Int) - (at' : Int) < (m : Int)) := by omega
        have hb2 : Below w.heap.size w ((w.alloc (.cells #[.slice a B.length c, .int .i64 at', .int .i64 0] 121)).alloc (.cells #[.slice none 0 0, .int .i64 0, .int .i64 0] 121)) := HBL.out _ _ _ rfl
        have hk1 : Blk ((w.alloc (.cells #[.slice a B.length c, .int .i64 at', .int .i64 0] 121)).alloc (.cells #[.slice none 0 0, .int .i64 0, .int .i64 0] 121)) w.heap.size [.slice a B.length c, .int .i64 at', .int .i64 0] 121 := (Blk.new w _ _ _ rfl).alloc _
        have hk2 := HBK.out (.cells #[.slice a B.length c, .int .i64 at', .int .i64 0] 121) [.slice none 0 0, .int .i64 0, .int .i64 0]
        obtain ⟨sa, scap, hs1, _, _, hs4⟩ := run_slice_byt elemB (HB.out.below hb2) at' (at' + m) (by omega) (by omega)
        rw [Nat.add_sub_cancel_left] at hs4
        have hs5 : ∀ (kl kh : IntKind) (w' : World), (Instr.sliceAt 25 (.slice a B.length c) (some (.int kl (at' : Int))) (some (.int kh ((at' : Int) + (m : Int)))) none).run Tryz.prog w' = .ok (.slice sa m scap) w' := fun kl kh w' => by
          have := hs1 kl kh w'
          rwa [Nat.add_sub_cancel_left, Int.natCast_add] at this
        have hlp : ((B.take (at' + m)).drop at').length = m := by simp; omega
        have HS := Lib.hid hs4
        have HK1 := Lib.hid hk1
        have HK2 := Lib.hid hk2
        have HB2 := Lib.hid hb2
        have hsw : ((w.alloc (.cells #[.slice a B.length c, .int .i64 at', .int .i64 0] 121)).alloc (.cells #[.slice none 0 0, .int .i64 0, .int .i64 0] 121)).heap.size = w.heap.size + 2 := by simp
        clear hs1 hs4 hk1 hk2 hb2
        go_enter Tryz.func102, Tryz.ntmps102
        go_upto_region 10 with fail
        generalize ((w.alloc (.cells #[.slice a B.length c, .int .i64 at', .int .i64 0] 121)).alloc (.cells #[.slice none 0 0, .int .i64 0, .int .i64 0] 121)) = W at *
        have c0 := HK1.out.cell (i := 0) rfl
        have c1 := HK1.out.cell (i := 1) rfl
        go_wp2_with (at_builtin; refine wpList_append_byt _ rfl (.tmp 28) (.tmp 37) 25 rfl W.heap.size 5 elemB _ [] rfl (OwnB.nil _ _ _) (.slice sa m scap) ((B.take (at' + m)).drop at') rfl HS.out (by simp; omega) (Nat.le_refl _) ?_)
        intro va vc w3 o1 o2 o3
        have hb3 : Below W.heap.size W w3 := (Below.refl _ _).grown o2 (Nat.le_refl _) (fun k hk => by cases hk)
        have hs3 := hb3.size
        have hk1 := HK1.out.below hb3
        have hk2 := HK2.out.below hb3
        have HB3 := Lib.hid (HB2.out.trans (hb3.mono (by omega)))
        have HV := Lib.hid o1
        have c0 := hk1.cell (i := 0) rfl
        have c1 := hk1.cell (i := 1) rfl
        have c2 := hk1.cell (i := 2) rfl
        have d0 := hk2.cell (i := 0) rfl
        have d1 := hk2.cell (i := 1) rfl
        have d2 := hk2.cell (i := 2) rfl
        have f0 := hk1.free
        have f1 := hk2.free
        have HK2 := Lib.hid hk2
        clear hk1 hk2 hb3 o1 o2 o3 hs5
        go_wp2
        have hfin := Blk.set3 (HK2.out.other (a := ⟨w.heap.size, 1, none⟩) (by show w.heap.size ≠ w.heap.size + 1; omega) (.int .i64 ((at' : Int) + (m : Int)))) (.slice a B.length c) (.int .i64 ((at' : Int) + (m : Int))) (.int .i64 0)
        have hown := (((HV.out.set1 (a := ⟨w.heap.size, 1, none⟩) (by show w.heap.size < w.heap.size + 2; omega) (.int .i64 ((at' : Int) + (m : Int)))).set1 (a := ⟨w.heap.size + 1, 0, none⟩) (by show w.heap.size + 1 < w.heap.size + 2; omega) (.slice a B.length c)).set1 (a := ⟨w.heap.size + 1, 1, none⟩) (by show w.heap.size + 1 < w.heap.size + 2; omega) (.int .i64 ((at' : Int) + (m : Int)))).set1 (a := ⟨w.heap.size + 1, 2, none⟩) (by show w.heap.size + 1 < w.heap.size + 2; omega) (.int .i64 0)
        have hbel := (((HB3.out.setCell (p := ⟨w.heap.size, 1, none⟩) (Nat.le_refl _) (.int .i64 ((at' : Int) + (m : Int)))).setCell (p := ⟨w.heap.size + 1, 0, none⟩) (Nat.le_succ _) (.slice a B.length c)).setCell (p := ⟨w.heap.size + 1, 1, none⟩) (Nat.le_succ _) (.int .i64 ((at' : Int) + (m : Int)))).setCell (p := ⟨w.heap.size + 1, 2, none⟩) (Nat.le_succ _) (.int .i64 0)
        refine bodyPost_ret (results_row_tmp Tryz.results102 _ _ (w.heap.size + 1) 121 _ _ rfl hfin Tryz.underlying121 rfl (by kernel_rfl)) rfl ⟨_, rfl, ?_, hbel⟩
        have := hown.byt.mono (E := fun k => w.heap.size ≤ k) (fun k _ h => by have := h.2; omega)
        simpa using this
  · have hne : (e != 0) = true := by simpa using he
    have hr : Rd.raw ⟨B.drop at', e⟩ n = (⟨B.drop at', e⟩, []) := by
      unfold Rd.raw
      split
      · unfold Rd.fail; rw [if_neg he]
      · unfold Rd.take; rw [if_pos he]
    rw [hr]
    have hz : B.length - (B.drop at').length = at' := by simp; omega
    dsimp only
    rw [hz]
    clear hr hz
    go_enter Tryz.func102, Tryz.ntmps102
    go_wp2
    exact bodyPost_ret (results_row_tmp Tryz.results102 _ _ (w.heap.size + 1) 121 [.slice a B.length c, .int .i64 at', .int .i64 e] _ rfl (HBK.out _ _) Tryz.underlying121 rfl (by kernel_rfl)) rfl ⟨.slice none 0 0, rfl, Byt.nil _ _, HBL.out _ _ _ rfl⟩
theorem said_step2 (y : Nat) (c : UInt8) (_ : y < 18446744073709551616) : IntKind.u64.wrap (IntKind.u64.wrap (256 * (y : Int)) + IntKind.u64.wrap (c.toNat : Int)) = (((256 * y + c.toNat) % 18446744073709551616 : Nat) : Int) := by
  rw [IntKind.wrap_u64, IntKind.wrap_u64, IntKind.wrap_u64]; omega
set_option maxHeartbeats 4000000 in
theorem said_calls (D : Nat → Prop) (w : World) (v : Value) (l : List UInt8) (hB : Byt D w v l) :
    Calls Tryz.prog 86 #[v] w fun e w' => e = .returned (.int .u64 (said l : Nat)) ∧ w = w' := by
  obtain ⟨a, c, rfl, hk, hx⟩ := id hB
  have HX := Lib.hid hx
  clear hB hx
  go_enter Tryz.func86, Tryz.ntmps86
  go_wp2
  go_loop [3, 4] (fun x i => ∃ k : Nat, k ≤ l.length ∧ i = .int .i64 k ∧ x = .int .u64 (said (l.take k) : Nat)) (fun _ i => l.length - (intOf i).toNat)
  case atStart => exact ⟨0, by omega, rfl, rfl⟩
  case round =>
    obtain ⟨k, hk2, rfl, rfl⟩ := hrel
    by_cases hlt : k < l.length
    · obtain ⟨b, off, rfl, _, hly⟩ := HX.out.resolve_left (by rintro rfl; simp at hlt)
      have c0 := hly k hlt
      have hsn : said (l.take (k + 1)) = (256 * said (l.take k) + (l[k]'hlt).toNat) % 18446744073709551616 := by
        rw [List.take_add_one, List.getElem?_eq_getElem hlt]; exact said_snoc _ _
      have hsl := said_lt (l.take k)
      have HSN := Lib.hid hsn
      clear hly hsn
      generalize said (l.take k) = y at *
      generalize l[k] = cc at *
      have HST := Lib.hid (said_step2 y cc hsl)
      have hkm : k + 1 ≤ 9223372036854775807 := by
        have h1 := hk.1
        have h2 := hk.2.1
        unfold maxLen at h2
        omega
      go_wp2
      go_round
      case rel => exact ⟨k + 1, by omega, by go_num, by rw [HSN.out, ← HST.out]⟩
      case measure => simp [intOf]; omega
    · obtain rfl : k = l.length := by omega
      go_wp2
      go_ret
      exact ⟨rfl, rfl⟩
theorem Rd.take_suf (r : Rd) (n : Nat) : ∃ k, (r.take n).1.rest = r.rest.drop k := by
  unfold Rd.take
  split
  · exact ⟨0, by simp⟩
  · split
    · exact ⟨0, by simp⟩
    · exact ⟨n, rfl⟩
theorem suf_at {B l : List UInt8} {at' : Nat} (h : ∃ k, l = (B.drop at').drop k) (_ : at' ≤ B.length) : l = B.drop (B.length - l.length) ∧ B.length - l.length ≤ B.length ∧ at' ≤ B.length - l.length := by
  obtain ⟨k, rfl⟩ := h
  refine ⟨?_, Nat.sub_le _ _, by simp; omega⟩
  rw [List.drop_drop]
  by_cases hk : at' + k ≤ B.length
  · rw [show B.length - (B.drop (at' + k)).length = at' + k by simp; omega]
  · rw [List.drop_eq_nil_of_le (by omega)]; simp
set_option maxHeartbeats 4000000 in
set_option maxRecDepth 100000 in
theorem get_calls (w : World) (a : Option Addr) (c : Nat) (B : List UInt8) (at' : Nat) (e : Int) (k : Nat) (hB : Byt Any w (.slice a B.length c) B) (hat : at' ≤ B.length) (hl : B.length ≤ 140737488355328) (hk : k ≤ 8) :
    Calls Tryz.prog 103 #[rv a B.length c at' e, .int .i64 k] w fun x w' => x = .returned (.tuple #[rv a B.length c (B.length - (Rd.num ⟨B.drop at', e⟩ k).1.rest.length) (Rd.num ⟨B.drop at', e⟩ k).1.e, .int .u64 ((Rd.num ⟨B.drop at', e⟩ k).2 : Int)]) ∧ Below w.heap.size w w' := by
  have hr : Rd.raw ⟨B.drop at', e⟩ (k : Int) = Rd.take ⟨B.drop at', e⟩ k := by unfold Rd.raw; rw [if_neg (by omega), Int.toNat_natCast]
  have hb2 : Below w.heap.size w ((w.alloc (.cells #[.slice a B.length c, .int .i64 at', .int .i64 e] 121)).alloc (.cells #[.slice none 0 0, .int .i64 0, .int .i64 0] 121)) := ((Below.refl _ _).alloc (Nat.le_refl _) _).alloc (by simp) _
  have hk1 : Blk ((w.alloc (.cells #[.slice a B.length c, .int .i64 at', .int .i64 e] 121)).alloc (.cells #[.slice none 0 0, .int .i64 0, .int .i64 0] 121)) w.heap.size [.slice a B.length c, .int .i64 at', .int .i64 e] 121 := (Blk.new w _ _ _ rfl).alloc _
  have hk2 : Blk ((w.alloc (.cells #[.slice a B.length c, .int .i64 at', .int .i64 e] 121)).alloc (.cells #[.slice none 0 0, .int .i64 0, .int .i64 0] 121)) (w.heap.size + 1) [.slice none 0 0, .int .i64 0, .int .i64 0] 121 := by
    have := Blk.new (w.alloc (.cells #[.slice a B.length c, .int .i64 at', .int .i64 e] 121)) #[.slice none 0 0, .int .i64 0, .int .i64 0] 121 [.slice none 0 0, .int .i64 0, .int .i64 0] rfl
    rwa [World.size_alloc] at this
  have hsw : ((w.alloc (.cells #[.slice a B.length c, .int .i64 at', .int .i64 e] 121)).alloc (.cells #[.slice none 0 0, .int .i64 0, .int .i64 0] 121)).heap.size = w.heap.size + 2 := by simp
  have HB := Lib.hid (hB.below hb2)
  clear hB
  go_enter Tryz.func103, Tryz.ntmps103
  go_upto_region 1 with fail
  generalize ((w.alloc (.cells #[.slice a B.length c, .int .i64 at', .int .i64 e] 121)).alloc (.cells #[.slice none 0 0, .int .i64 0, .int .i64 0] 121)) = W at *
  have c0 := hk1.cell (i := 0) rfl
  have c1 := hk1.cell (i := 1) rfl
  have c2 := hk1.cell (i := 2) rfl
  have HK1 := Lib.hid hk1
  have HK2 := Lib.hid hk2
  have HB2 := Lib.hid hb2
  clear hk1 hk2 hb2
  go_wp2_with fail
  refine (raw_calls W a c B at' e k HB.out hat hl (by omega) (by omega)).mono ?_
  rintro x w3 ⟨v, rfl, g1, g2⟩
  rw [hr] at g1 ⊢
  have hnum : Rd.num ⟨B.drop at', e⟩ k = ((Rd.take ⟨B.drop at', e⟩ k).1, said (Rd.take ⟨B.drop at', e⟩ k).2) := rfl
  have HN := Lib.hid hnum
  clear hnum hr
  generalize Rd.take ⟨B.drop at', e⟩ k = y at *
  obtain ⟨⟨l, e2⟩, got⟩ := y
  dsimp only at g1 ⊢
  have hk1 := HK1.out.below g2
  have hk2 := HK2.out.below g2
  have HG := Lib.hid g1
  have HB3 := Lib.hid (HB2.out.trans (g2.mono (by omega)))
  have c0 := hk1.cell (i := 0) rfl
  have c1 := hk1.cell (i := 1) rfl
  have c2 := hk1.cell (i := 2) rfl
  have d0 := hk2.cell (i := 0) rfl
  have d1 := hk2.cell (i := 1) rfl
  have d2 := hk2.cell (i := 2) rfl
  have f0 := hk1.free
  have f1 := hk2.free
  have hs3 := g2.size
  have HK1 := Lib.hid hk1
  have HK2 := Lib.hid hk2
  obtain ⟨ga, gc, rfl, _⟩ := id g1
  obtain ⟨z, hz⟩ : ∃ z, B.length - l.length = z := ⟨_, rfl⟩
  rw [hz]
  have HZ := Lib.hid hz
  clear hk1 hk2 g1 g2 hz
  go_upto_region 2 with fail
  have hk14 := Blk.set3 HK1.out (.slice a B.length c) (.int .i64 (z : Int)) (.int .i64 e2)
  have hk24 := ((HK2.out.other (a := ⟨w.heap.size, 0, none⟩) (by show w.heap.size ≠ w.heap.size + 1; omega) (.slice a B.length c)).other (a := ⟨w.heap.size, 1, none⟩) (by show w.heap.size ≠ w.heap.size + 1; omega) (.int .i64 (z : Int))).other (a := ⟨w.heap.size, 2, none⟩) (by show w.heap.size ≠ w.heap.size + 1; omega) (.int .i64 e2)
  have hf4 : Fr (fun k => k = w.heap.size) w3 (((w3.setCell ⟨w.heap.size, 0, none⟩ (.slice a B.length c)).setCell ⟨w.heap.size, 1, none⟩ (.int .i64 (z : Int))).setCell ⟨w.heap.size, 2, none⟩ (.int .i64 e2)) := (((Fr.refl (fun k => k = w.heap.size) w3).setCell (p := ⟨w.heap.size, 0, none⟩) (.inr rfl) _).setCell (p := ⟨w.heap.size, 1, none⟩) (.inr rfl) _).setCell (p := ⟨w.heap.size, 2, none⟩) (.inr rfl) _
  have HB4 := Lib.hid (HB3.out.trans (hf4.below (Nat.le_trans (by omega) hs3) (fun k h => by omega)))
  have hg4 := HG.out.fr hf4 (fun k _ h1 h2 => by omega)
  have hs4 := hf4.size
  generalize (((w3.setCell ⟨w.heap.size, 0, none⟩ (.slice a B.length c)).setCell ⟨w.heap.size, 1, none⟩ (.int .i64 (z : Int))).setCell ⟨w.heap.size, 2, none⟩ (.int .i64 e2)) = w4 at *
  have c0 := hk14.cell (i := 0) rfl
  have c1 := hk14.cell (i := 1) rfl
  have c2 := hk14.cell (i := 2) rfl
  have d0 := hk24.cell (i := 0) rfl
  have d1 := hk24.cell (i := 1) rfl
  have d2 := hk24.cell (i := 2) rfl
  have f1 := hk24.free
  have HK24 := Lib.hid hk24
  have hsd := said_calls _ w4.drew _ got hg4.drew
  have HSD := Lib.hid hsd
  clear hk14 hk24 hf4 hg4 hsd f0 HK1 HK2 HG
  go_region_law (go_simp; go_at_call 86; refine HSD.out.mono ?_; rintro x wz ⟨rfl, rfl⟩)
  all_goals go_wp2
  all_goals
    rw [HN.out]
    dsimp only
    rw [HZ.out]
    exact bodyPost_ret (results_row_tmp Tryz.results103 _ _ (w.heap.size + 1) 121 _ _ rfl (Blk.set3 HK24.out (.slice a B.length c) (.int .i64 (z : Int)) (.int .i64 e2)).drew Tryz.underlying121 rfl (by kernel_rfl)) rfl
      ⟨rfl, (((HB4.out.setCell (p := ⟨w.heap.size + 1, 0, none⟩) (Nat.le_succ _) (.slice a B.length c)).setCell (p := ⟨w.heap.size + 1, 1, none⟩) (Nat.le_succ _) (.int .i64 (z : Int))).setCell (p := ⟨w.heap.size + 1, 2, none⟩) (Nat.le_succ _) (.int .i64 e2)).drew⟩
theorem Rd.num_suf (r : Rd) (n : Nat) : ∃ k, (r.num n).1.rest = r.rest.drop k := Rd.take_suf r n
/-- the two blocks that a reference's reading function makes, and the world behind them -/
theorem two_blk (w : World) (l : List Value) : Blk ((w.alloc (.cells l.toArray 121)).alloc (.cells #[.slice none 0 0, .int .i64 0, .int .i64 0] 121)) w.heap.size l 121 ∧
    Blk ((w.alloc (.cells l.toArray 121)).alloc (.cells #[.slice none 0 0, .int .i64 0, .int .i64 0] 121)) (w.heap.size + 1) [.slice none 0 0, .int .i64 0, .int .i64 0] 121 ∧
    Below w.heap.size w ((w.alloc (.cells l.toArray 121)).alloc (.cells #[.slice none 0 0, .int .i64 0, .int .i64 0] 121)) ∧
    ((w.alloc (.cells l.toArray 121)).alloc (.cells #[.slice none 0 0, .int .i64 0, .int .i64 0] 121)).heap.size = w.heap.size + 2 := by
  refine ⟨(Blk.new w _ _ _ rfl).alloc _, ?_, ((Below.refl _ _).alloc (Nat.le_refl _) _).alloc (by simp) _, by simp⟩
  have := Blk.new (w.alloc (.cells l.toArray 121)) #[.slice none 0 0, .int .i64 0, .int .i64 0] 121 [.slice none 0 0, .int .i64 0, .int .i64 0] rfl
  rwa [World.size_alloc] at this
/-- what GetVar keeps: its reader's block, its result's, the new reader's -/
def GV (w : World) (a : Option Addr) (c : Nat) (B : List UInt8) (at' : Nat) (e : Int) (p : Nat) (s : Rd) (wx : World) : Prop :=
  Blk wx w.heap.size [.slice a B.length c, .int .i64 (at' : Int), .int .i64 e] 121 ∧ Blk wx (w.heap.size + 1) [.slice none 0 0, .int .i64 0, .int .i64 0] 121 ∧
    Blk wx p [.slice a B.length c, .int .i64 ((B.length - s.rest.length : Nat) : Int), .int .i64 s.e] 121 ∧ Below w.heap.size w wx ∧ w.heap.size + 1 < p

theorem GV.below {w : World} {a : Option Addr} {c : Nat} {B : List UInt8} {at' : Nat} {e : Int} {p : Nat} {s : Rd} {wx wy : World} (h : GV w a c B at' e p s wx) (hb : Below wx.heap.size wx wy) : GV w a c B at' e p s wy :=
  ⟨h.1.below hb, h.2.1.below hb, h.2.2.1.below hb, h.2.2.2.1.trans (hb.mono h.2.2.2.1.size), h.2.2.2.2⟩
theorem GV.set {w : World} {a : Option Addr} {c : Nat} {B : List UInt8} {at' : Nat} {e : Int} {p : Nat} {s : Rd} {wx : World} (h : GV w a c B at' e p s wx) (s2 : Rd) :
    GV w a c B at' e p s2 (((wx.setCell ⟨p, 0, none⟩ (.slice a B.length c)).setCell ⟨p, 1, none⟩ (.int .i64 ((B.length - s2.rest.length : Nat) : Int))).setCell ⟨p, 2, none⟩ (.int .i64 s2.e)) := by
  obtain ⟨h1, h2, h3, h4, h5⟩ := h
  refine ⟨?_, ?_, Blk.set3 h3 _ _ _, ?_, h5⟩
  · exact ((h1.other (a := ⟨p, 0, none⟩) (by show p ≠ w.heap.size; omega) _).other (a := ⟨p, 1, none⟩) (by show p ≠ w.heap.size; omega) _).other (a := ⟨p, 2, none⟩) (by show p ≠ w.heap.size; omega) _
  · exact ((h2.other (a := ⟨p, 0, none⟩) (by show p ≠ w.heap.size + 1; omega) _).other (a := ⟨p, 1, none⟩) (by show p ≠ w.heap.size + 1; omega) _).other (a := ⟨p, 2, none⟩) (by show p ≠ w.heap.size + 1; omega) _
  · exact ((h4.setCell (p := ⟨p, 0, none⟩) (by show w.heap.size ≤ p; omega) _).setCell (p := ⟨p, 1, none⟩) (by show w.heap.size ≤ p; omega) _).setCell (p := ⟨p, 2, none⟩) (by show w.heap.size ≤ p; omega) _
theorem GV.ret {w : World} {a : Option Addr} {c : Nat} {B : List UInt8} {at' : Nat} {e : Int} {p : Nat} {s : Rd} {wx : World} (h : GV w a c B at' e p s wx) (ee : Int) :
    Blk ((((wx.setCell ⟨w.heap.size, 2, none⟩ (.int .i64 ee)).setCell ⟨w.heap.size + 1, 0, none⟩ (.slice a B.length c)).setCell ⟨w.heap.size + 1, 1, none⟩ (.int .i64 (at' : Int))).setCell ⟨w.heap.size + 1, 2, none⟩ (.int .i64 ee)) (w.heap.size + 1) [.slice a B.length c, .int .i64 (at' : Int), .int .i64 ee] 121 ∧
    Below w.heap.size w ((((wx.setCell ⟨w.heap.size, 2, none⟩ (.int .i64 ee)).setCell ⟨w.heap.size + 1, 0, none⟩ (.slice a B.length c)).setCell ⟨w.heap.size + 1, 1, none⟩ (.int .i64 (at' : Int))).setCell ⟨w.heap.size + 1, 2, none⟩ (.int .i64 ee)) :=
  ⟨Blk.set3 (h.2.1.other (a := ⟨w.heap.size, 2, none⟩) (by show w.heap.size ≠ w.heap.size + 1; omega) _) _ _ _, (((h.2.2.2.1.setCell (p := ⟨w.heap.size, 2, none⟩) (Nat.le_refl _) _).setCell (p := ⟨w.heap.size + 1, 0, none⟩) (Nat.le_succ _) _).setCell (p := ⟨w.heap.size + 1, 1, none⟩) (Nat.le_succ _) _).setCell (p := ⟨w.heap.size + 1, 2, none⟩) (Nat.le_succ _) _⟩
theorem GV.ok {w : World} {a : Option Addr} {c : Nat} {B : List UInt8} {at' : Nat} {e : Int} {p : Nat} {s : Rd} {wx : World} (h : GV w a c B at' e p s wx) (z ee : Int) :
    Blk (((wx.setCell ⟨w.heap.size + 1, 0, none⟩ (.slice a B.length c)).setCell ⟨w.heap.size + 1, 1, none⟩ (.int .i64 z)).setCell ⟨w.heap.size + 1, 2, none⟩ (.int .i64 ee)) (w.heap.size + 1) [.slice a B.length c, .int .i64 z, .int .i64 ee] 121 ∧
    Below w.heap.size w (((wx.setCell ⟨w.heap.size + 1, 0, none⟩ (.slice a B.length c)).setCell ⟨w.heap.size + 1, 1, none⟩ (.int .i64 z)).setCell ⟨w.heap.size + 1, 2, none⟩ (.int .i64 ee)) :=
  ⟨Blk.set3 h.2.1 _ _ _, ((h.2.2.2.1.setCell (p := ⟨w.heap.size + 1, 0, none⟩) (Nat.le_succ _) _).setCell (p := ⟨w.heap.size + 1, 1, none⟩) (Nat.le_succ _) _).setCell (p := ⟨w.heap.size + 1, 2, none⟩) (Nat.le_succ _) _⟩
set_option maxHeartbeats 4000000 in
set_option maxRecDepth 100000 in
theorem getvar_calls (w : World) (a : Option Addr) (c : Nat) (B : List UInt8) (at' : Nat) (e : Int) (most : Nat) (neg : Bool) (hB : Byt Any w (.slice a B.length c) B) (hat : at' ≤ B.length) (hl : B.length ≤ 140737488355328) (_ : most < 18446744073709551616) :
    Calls Tryz.prog 88 #[rv a B.length c at' e, .int .u64 most, .bool neg] w fun x w' => x = .returned (.tuple #[rv a B.length c (B.length - (Rd.rvar ⟨B.drop at', e⟩ most neg).1.rest.length) (Rd.rvar ⟨B.drop at', e⟩ most neg).1.e, .int .u64 ((Rd.rvar ⟨B.drop at', e⟩ most neg).2 : Int)]) ∧ Below w.heap.size w w' := by
  obtain ⟨hk1, hk2, hb2, hsw⟩ := two_blk w [.slice a B.length c, .int .i64 (at' : Int), .int .i64 e]
  have HB0 := Lib.hid hB
  clear hB
  go_enter Tryz.func88, Tryz.ntmps88
  go_upto_region 1 with fail
  generalize ((w.alloc (.cells [.slice a B.length c, .int .i64 (at' : Int), .int .i64 e].toArray 121)).alloc (.cells #[.slice none 0 0, .int .i64 0, .int .i64 0] 121)) = W at *
  have c0 := hk1.cell (i := 0) rfl
  have c1 := hk1.cell (i := 1) rfl
  have c2 := hk1.cell (i := 2) rfl
  have HK1 := Lib.hid hk1
  have HK2 := Lib.hid hk2
  have HB2 := Lib.hid hb2
  clear hk1 hk2 hb2
  go_wp2_with fail
  refine (get_calls W a c B at' e 1 (HB0.out.below HB2.out) hat hl (by omega)).mono ?_
  rintro x w3 ⟨rfl, g2⟩
  obtain ⟨y, hy⟩ : ∃ y, Rd.num ⟨B.drop at', e⟩ 1 = y := ⟨_, rfl⟩
  have hsuf := Rd.num_suf ⟨B.drop at', e⟩ 1
  have hnz := @Rd.num_zero ⟨B.drop at', e⟩ 1
  have hc1 := num1_lt ⟨B.drop at', e⟩
  rw [hy] at hsuf hnz hc1 ⊢
  obtain ⟨s1, cc⟩ := y
  dsimp only at hsuf hnz hc1 ⊢
  have HY := Lib.hid hy
  have hsa := suf_at hsuf hat
  have HSA := Lib.hid hsa
  have HNZ := Lib.hid hnz
  have hs3 := g2.size
  have HG := Lib.hid (show GV w a c B at' e w3.heap.size s1 (w3.alloc (.cells [.slice a B.length c, .int .i64 ((B.length - s1.rest.length : Nat) : Int), .int .i64 s1.e].toArray 121)) from
    ⟨(HK1.out.below g2).alloc _, (HK2.out.below g2).alloc _, Blk.new w3 _ _ _ rfl, (HB2.out.trans (g2.mono (by omega))).alloc (by omega) _, by omega⟩)
  obtain ⟨z1, hz1⟩ : ∃ z1, B.length - s1.rest.length = z1 := ⟨_, rfl⟩
  rw [hz1] at HG ⊢
  have HZ1 := Lib.hid hz1
  clear hy hsuf hnz hsa hz1 g2 c0 c1 c2
  go_upto_region 3 with fail
  generalize (w3.alloc (.cells [.slice a B.length c, .int .i64 (z1 : Int), .int .i64 s1.e].toArray 121)) = w4 at *
  generalize w3.heap.size = p at *
  go_cut [24] (fun b wx => b = .bool (decide (253 ≤ cc)) ∧ wx = w4)
  case first =>
    have k8 := HG.out.2.2.1.cell (i := 2) rfl
    by_cases hc : 253 ≤ cc
    · have he1 : s1.e = 0 := HNZ.out (by omega)
      rw [he1] at k8
      have hci : (253 : Int) ≤ (cc : Int) := by omega
      go_wp2_with fail
      go_meet
      case rel => exact ⟨by rw [decide_eq_true hc], rfl⟩
    · by_cases he1 : s1.e = 0
      · rw [he1] at k8
        have hci : ¬ ((253 : Int) ≤ (cc : Int)) := by omega
        go_wp2_with fail
        go_meet
        case rel => exact ⟨by rw [decide_eq_false hc], rfl⟩
      · have hci : (s1.e == 0) = false := by simpa using he1
        go_wp2_with fail
        go_meet
        case rel => exact ⟨by rw [decide_eq_false hc], rfl⟩
  case rest =>
    obtain ⟨rfl, rfl⟩ := hcut
    have HEQ := Lib.hid (show (⟨B.drop z1, s1.e⟩ : Rd) = s1 by rw [← HZ1.out, ← HSA.out.1])
    go_upto_if 24 with fail
    go_cut [10] (fun x wx => ∃ (s : Rd) (nn least : Nat), x = .int .u64 nn ∧ s1.more cc = (s, nn, least) ∧ nn < 18446744073709551616 ∧ (∃ k, s.rest = s1.rest.drop k) ∧ GV w a c B at' e p s wx)
    case first =>
      by_cases h253 : cc = 253
      · subst h253
        obtain ⟨x0, x1, x2, x3, x4⟩ := HG.out
        rw [HZ1.out] at x2
        have d0 := x2.cell (i := 0) rfl
        have d1 := x2.cell (i := 1) rfl
        have d2 := x2.cell (i := 2) rfl
        have HX3 := Lib.hid x3
        clear x0 x1 x2 x3
        go_wp2_with fail
        refine (get_calls wc a c B z1 s1.e 2 (HB0.out.below HX3.out) (by have := HSA.out.2.1; have := HZ1.out; omega) hl (by omega)).mono ?_
        rintro x w6 ⟨rfl, g2⟩
        rw [HEQ.out]
        have HG6 := Lib.hid (HG.out.below g2)
        have hsuf := Rd.num_suf s1 2
        have HSUF := Lib.hid hsuf
        have hnl := num_lt s1 2
        have HM := Lib.hid (show s1.more 253 = ((s1.num 2).1, (s1.num 2).2, 253) from rfl)
        obtain ⟨⟨s2, n2⟩, hy2⟩ : ∃ y, s1.num 2 = y := ⟨_, rfl⟩
        rw [hy2] at hnl HSUF HM ⊢
        dsimp only at hnl ⊢
        have d0 := HG6.out.2.2.1.cell (i := 0) rfl
        have d1 := HG6.out.2.2.1.cell (i := 1) rfl
        have d2 := HG6.out.2.2.1.cell (i := 2) rfl
        have f8 := HG6.out.2.2.1.free
        have HG7 := Lib.hid (HG6.out.set s2)
        obtain ⟨z2, hz2⟩ : ∃ z2, B.length - s2.rest.length = z2 := ⟨_, rfl⟩
        rw [hz2] at HG7 ⊢
        clear g2 hsuf hy2 hz2
        go_wp2_with fail
        go_meet
        case rel => exact ⟨s2, n2, 253, rfl, HM.out, hnl, HSUF.out, HG7.out⟩
      by_cases h254 : cc = 254
      · subst h254
        obtain ⟨x0, x1, x2, x3, x4⟩ := HG.out
        rw [HZ1.out] at x2
        have d0 := x2.cell (i := 0) rfl
        have d1 := x2.cell (i := 1) rfl
        have d2 := x2.cell (i := 2) rfl
        have HX3 := Lib.hid x3
        clear x0 x1 x2 x3
        go_wp2_with fail
        refine (get_calls wc a c B z1 s1.e 4 (HB0.out.below HX3.out) (by have := HSA.out.2.1; have := HZ1.out; omega) hl (by omega)).mono ?_
        rintro x w6 ⟨rfl, g2⟩
        rw [HEQ.out]
        have HG6 := Lib.hid (HG.out.below g2)
        have hsuf := Rd.num_suf s1 4
        have HSUF := Lib.hid hsuf
        have hnl := num_lt s1 4
        have HM := Lib.hid (show s1.more 254 = ((s1.num 4).1, (s1.num 4).2, 65536) from rfl)
        obtain ⟨⟨s2, n2⟩, hy2⟩ : ∃ y, s1.num 4 = y := ⟨_, rfl⟩
        rw [hy2] at hnl HSUF HM ⊢
        dsimp only at hnl ⊢
        have d0 := HG6.out.2.2.1.cell (i := 0) rfl
        have d1 := HG6.out.2.2.1.cell (i := 1) rfl
        have d2 := HG6.out.2.2.1.cell (i := 2) rfl
        have f8 := HG6.out.2.2.1.free
        have HG7 := Lib.hid (HG6.out.set s2)
        obtain ⟨z2, hz2⟩ : ∃ z2, B.length - s2.rest.length = z2 := ⟨_, rfl⟩
        rw [hz2] at HG7 ⊢
        clear g2 hsuf hy2 hz2
        go_wp2_with fail
        go_meet
        case rel => exact ⟨s2, n2, 65536, rfl, HM.out, hnl, HSUF.out, HG7.out⟩
      by_cases h255 : cc = 255
      · subst h255
        obtain ⟨x0, x1, x2, x3, x4⟩ := HG.out
        rw [HZ1.out] at x2
        have d0 := x2.cell (i := 0) rfl
        have d1 := x2.cell (i := 1) rfl
        have d2 := x2.cell (i := 2) rfl
        have HX3 := Lib.hid x3
        clear x0 x1 x2 x3
        go_wp2_with fail
        refine (get_calls wc a c B z1 s1.e 8 (HB0.out.below HX3.out) (by have := HSA.out.2.1; have := HZ1.out; omega) hl (by omega)).mono ?_
        rintro x w6 ⟨rfl, g2⟩
        rw [HEQ.out]
        have HG6 := Lib.hid (HG.out.below g2)
        have hsuf := Rd.num_suf s1 8
        have HSUF := Lib.hid hsuf
        have hnl := num_lt s1 8
        have HM := Lib.hid (show s1.more 255 = ((s1.num 8).1, (s1.num 8).2, 4294967296) from rfl)
        obtain ⟨⟨s2, n2⟩, hy2⟩ : ∃ y, s1.num 8 = y := ⟨_, rfl⟩
        rw [hy2] at hnl HSUF HM ⊢
        dsimp only at hnl ⊢
        have d0 := HG6.out.2.2.1.cell (i := 0) rfl
        have d1 := HG6.out.2.2.1.cell (i := 1) rfl
        have d2 := HG6.out.2.2.1.cell (i := 2) rfl
        have f8 := HG6.out.2.2.1.free
        have HG7 := Lib.hid (HG6.out.set s2)
        obtain ⟨z2, hz2⟩ : ∃ z2, B.length - s2.rest.length = z2 := ⟨_, rfl⟩
        rw [hz2] at HG7 ⊢
        clear g2 hsuf hy2 hz2
        go_wp2_with fail
        go_meet
        case rel => exact ⟨s2, n2, 4294967296, rfl, HM.out, hnl, HSUF.out, HG7.out⟩
      have hd : decide (253 ≤ cc) = false := decide_eq_false (by omega)
      have HM := Lib.hid (show s1.more cc = (s1, cc, 0) by unfold Rd.more; rw [if_neg h253, if_neg h254, if_neg h255])
      go_wp2_with fail
      go_meet
      case rel => exact ⟨s1, cc, 0, rfl, HM.out, by omega, ⟨0, by simp⟩, HG.out⟩
    case rest =>
      obtain ⟨s, nn, least, rfl, hmm, hnn, hsf, hg⟩ := hcut
      have hst := suf_at (B := B) (l := s.rest) (at' := z1) (by obtain ⟨k, hk⟩ := hsf; exact ⟨k, by rw [hk, HSA.out.1, HZ1.out]⟩) (by have := HSA.out.2.1; have := HZ1.out; omega)
      have hrv : Rd.rvar ⟨B.drop at', e⟩ most neg = if s.e ≠ 0 then (⟨B.drop at', s.e⟩, 0) else if nn < least then (⟨B.drop at', 111⟩, 0) else if neg = true ∨ most < nn then (⟨B.drop at', 112⟩, 0) else (s, nn) := by
        unfold Rd.rvar
        rw [HY.out]
        dsimp only
        rw [hmm]
      have hlen : s.e = 0 → ((vlen nn ≠ (B.drop at').length - s.rest.length) = (nn < least)) := fun h => by
        have := @Rd.more_len_eq ⟨B.drop at', e⟩
        rw [HY.out] at this
        dsimp only at this
        rw [hmm] at this
        exact this h
      have hz0 : B.length - (B.drop at').length = at' := by simp; omega
      have HRV := Lib.hid hrv
      have HLEN := Lib.hid hlen
      have HZ0 := Lib.hid hz0
      have HG := Lib.hid hg
      have hzs : at' ≤ B.length - s.rest.length := by have h1 := HSA.out.2.2; have h2 := hst.2.2; have h3 := HZ1.out; omega
      have hzl : B.length - s.rest.length ≤ B.length := Nat.sub_le _ _
      clear hmm hsf hg hrv hlen hz0 hst
      obtain ⟨x0, x1, x2, x3, x4⟩ := HG.out
      obtain ⟨z2, hz2⟩ : ∃ z2, B.length - s.rest.length = z2 := ⟨_, rfl⟩
      rw [hz2] at x2 hzs hzl
      have HZ2 := Lib.hid hz2
      have hsw := x3.size
      have c0 := x0.cell (i := 0) rfl
      have c1 := x0.cell (i := 1) rfl
      have c2 := x0.cell (i := 2) rfl
      have d0 := x1.cell (i := 0) rfl
      have d1 := x1.cell (i := 1) rfl
      have d2 := x1.cell (i := 2) rfl
      have k1 := x2.cell (i := 1) rfl
      have k2 := x2.cell (i := 2) rfl
      have f0 := x0.free
      have f1 := x1.free
      have X1 := Lib.hid x1
      have X3 := Lib.hid x3
      clear x0 x1 x2 x3 hz2
      by_cases hse : s.e = 0
      · rw [hse] at k2
        have hvl : ((var nn).length : Int) = (vlen nn : Int) := by rw [var_length]
        have hln := HLEN.out hse
        have hne : ((vlen nn : Int) != (z2 : Int) - (at' : Int)) = decide (nn < least) := by
          have h1 : (B.drop at').length - s.rest.length = z2 - at' := by
            have h1 := HZ2.out; have h2 := HZ0.out
            simp at h2 ⊢; omega
          rw [h1] at hln
          rw [Bool.eq_iff_iff, bne_iff_ne, decide_eq_true_iff, ← hln]
          omega
        have HNE := Lib.hid hne
        have hbd : Below wc.heap.size wc wc.drew := (Below.refl _ wc).drew
        have k1d : wc.drew.cell? ⟨p, 1, none⟩ = some (.int .i64 (z2 : Int)) := k1
        have c1d : wc.drew.cell? ⟨w.heap.size, 1, none⟩ = some (.int .i64 (at' : Int)) := c1
        have hva : ∀ wx : World, wx.cell? ⟨p, 1, none⟩ = some (.int .i64 (z2 : Int)) → wx.cell? ⟨w.heap.size, 1, none⟩ = some (.int .i64 (at' : Int)) → Below wc.heap.size wc wx → Calls Tryz.prog 83 #[.int .u64 nn] wx fun x w' => ∃ va vc, x = .returned (.slice va (vlen nn) vc) ∧ w'.cell? ⟨p, 1, none⟩ = some (.int .i64 (z2 : Int)) ∧ w'.cell? ⟨w.heap.size, 1, none⟩ = some (.int .i64 (at' : Int)) ∧ Below wc.heap.size wc w' := fun wx h1 h2 h3 =>
          (ref_var_calls wx nn hnn).mono fun x w' h => by
            obtain ⟨v, rfl, g1, g2⟩ := h
            obtain ⟨va, vc, rfl, _⟩ := id g1.byt
            refine ⟨va, vc, by rw [var_length], ?_, ?_, h3.trans (g2.mono h3.size)⟩
            · exact (World.cell?_of_block (w := wx) (g2.block p (World.block_lt_of_cell? wx _ h1))).trans h1
            · exact (World.cell?_of_block (w := wx) (g2.block w.heap.size (World.block_lt_of_cell? wx _ h2))).trans h2
        have HVA := Lib.hid hva
        clear hva hvl hln hne
        go_upto_region 13 with fail
        go_cut [50] (fun b wx => b = .bool (decide (nn < least)) ∧ Below wc.heap.size wc wx)
        case first =>
          go_region_held3 (fun w' => w'.cell? ⟨p, 1, none⟩ = some (.int .i64 (z2 : Int)) ∧ w'.cell? ⟨w.heap.size, 1, none⟩ = some (.int .i64 (at' : Int)) ∧ Below wc.heap.size wc w')
            (first | exact ⟨by assumption, by assumption, by assumption⟩)
            (first | (go_at_call 83; refine (HVA.out _ (by assumption) (by assumption) (by assumption)).mono ?_; rintro x wv ⟨va, vc, rfl, q1, q2, q3⟩))
          all_goals go_wp2_with fail
          all_goals go_meet
          case rel => exact ⟨by rw [← HNE.out, show IntKind.i64.wrap ((z2 : Int) - (at' : Int)) = (z2 : Int) - (at' : Int) from by rw [IntKind.wrap_i64]; omega], q3⟩
        case rest =>
          obtain ⟨rfl, hbx⟩ := hcut
          have HG2 := Lib.hid (HG.out.below hbx)
          obtain ⟨x0, x1, x2, x3, x4⟩ := HG2.out
          rw [HZ2.out, hse] at x2
          have c0 := x0.cell (i := 0) rfl
          have c1 := x0.cell (i := 1) rfl
          have c2 := x0.cell (i := 2) rfl
          have d0 := x1.cell (i := 0) rfl
          have d1 := x1.cell (i := 1) rfl
          have d2 := x1.cell (i := 2) rfl
          have k0 := x2.cell (i := 0) rfl
          have k1 := x2.cell (i := 1) rfl
          have k2 := x2.cell (i := 2) rfl
          have f0 := x0.free
          have f1 := x1.free
          clear x0 x1 x2 x3 hbx
          by_cases hlt : nn < least
          · have hd : decide (nn < least) = true := decide_eq_true hlt
            have HR := Lib.hid (show Rd.rvar ⟨B.drop at', e⟩ most neg = (⟨B.drop at', 111⟩, 0) by rw [HRV.out, if_neg (by simpa using hse), if_pos hlt])
            go_wp2
            rw [HR.out]
            dsimp only
            rw [HZ0.out]
            obtain ⟨r1, r2⟩ := HG2.out.ret 111
            exact bodyPost_ret (results_row_tmp Tryz.results88 _ _ (w.heap.size + 1) 121 _ _ rfl r1 Tryz.underlying121 rfl (by kernel_rfl)) rfl ⟨rfl, r2⟩
          · have hd : decide (nn < least) = false := decide_eq_false hlt
            by_cases hlm : neg = true ∨ most < nn
            · have HR := Lib.hid (show Rd.rvar ⟨B.drop at', e⟩ most neg = (⟨B.drop at', 112⟩, 0) by rw [HRV.out, if_neg (by simpa using hse), if_neg hlt, if_pos hlm])
              obtain ⟨r1, r2⟩ := HG2.out.ret 112
              have R1 := Lib.hid r1
              have R2 := Lib.hid r2
              clear r1 r2
              cases neg with
              | true =>
                go_wp2
                rw [HR.out]
                dsimp only
                rw [HZ0.out]
                have r1 := R1.out
                have r2 := R2.out
                exact bodyPost_ret (results_row_tmp Tryz.results88 _ _ (w.heap.size + 1) 121 _ _ rfl r1 Tryz.underlying121 rfl (by kernel_rfl)) rfl ⟨rfl, r2⟩
              | false =>
                have hmz : (most : Int) < (nn : Int) := by
                  rcases hlm with h | h
                  · cases h
                  · omega
                go_wp2
                rw [HR.out]
                dsimp only
                rw [HZ0.out]
                have r1 := R1.out
                have r2 := R2.out
                exact bodyPost_ret (results_row_tmp Tryz.results88 _ _ (w.heap.size + 1) 121 _ _ rfl r1 Tryz.underlying121 rfl (by kernel_rfl)) rfl ⟨rfl, r2⟩
            · have HR := Lib.hid (show Rd.rvar ⟨B.drop at', e⟩ most neg = (s, nn) by rw [HRV.out, if_neg (by simpa using hse), if_neg hlt, if_neg hlm])
              obtain rfl : neg = false := by cases neg <;> simp at hlm ⊢
              have hmz : ¬ ((most : Int) < (nn : Int)) := by intro h; exact hlm (.inr (by omega))
              obtain ⟨r1, r2⟩ := HG2.out.ok (z2 : Int) 0
              have R1 := Lib.hid r1
              have R2 := Lib.hid r2
              clear r1 r2
              go_wp2
              rw [HR.out]
              dsimp only
              rw [HZ2.out, hse]
              have r1 := R1.out
              have r2 := R2.out
              exact bodyPost_ret (results_row_tmp Tryz.results88 _ _ (w.heap.size + 1) 121 _ _ rfl r1 Tryz.underlying121 rfl (by kernel_rfl)) rfl ⟨rfl, r2⟩
      · have hse2 : (s.e != 0) = true := by simpa using hse
        have HR := Lib.hid (show Rd.rvar ⟨B.drop at', e⟩ most neg = (⟨B.drop at', s.e⟩, 0) by rw [HRV.out, if_pos hse])
        go_wp2
        rw [HR.out]
        dsimp only
        rw [HZ0.out]
        obtain ⟨r1, r2⟩ := HG.out.ret s.e
        exact bodyPost_ret (results_row_tmp Tryz.results88 _ _ (w.heap.size + 1) 121 _ _ rfl r1 Tryz.underlying121 rfl (by kernel_rfl)) rfl ⟨rfl, r2⟩
end Go.Proofs.YtmenchnjajpkmaaGreatDoor.CodecRef
end

section
namespace Go.Proofs.YtmenchnjajpkmaaGreatDoor.CodecRef
open Go Go.RowKit Mem Codec CodecW CodecR CodecN

theorem end_calls (w : World) (a : Option Addr) (c : Nat) (B : List UInt8) (at' : Nat) (e : Int) (hat : at' ≤ B.length) :
    Calls Tryz.prog 66 #[rv a B.length c at' e] w fun x w' => x = .returned (.int .i64 (Rd.fin ⟨B.drop at', e⟩)) ∧ Below w.heap.size w w' := by
  have hbl : Below w.heap.size w (w.alloc (.cells #[.slice a B.length c, .int .i64 (at' : Int), .int .i64 e] 121)) := (Below.refl _ _).alloc (Nat.le_refl _) _
  have HBL := Lib.hid hbl
  clear hbl
  by_cases he : e = 0
  · subst he
    by_cases hl : at' < B.length
    · have ht : Rd.fin ⟨B.drop at', 0⟩ = 113 := by unfold Rd.fin; rw [if_pos ⟨rfl, by simp; omega⟩]
      rw [ht]
      have hz : (at' : Int) < (B.length : Int) := by omega
      go_enter Tryz.func66, Tryz.ntmps66
      go_wp2
      go_ret
      exact ⟨rfl, HBL.out⟩
    · have ht : Rd.fin ⟨B.drop at', 0⟩ = 0 := by unfold Rd.fin; rw [if_neg (fun h => hl (by have := h.2; simp at this; omega))]
      rw [ht]
      have hz : ¬ ((at' : Int) < (B.length : Int)) := by omega
      go_enter Tryz.func66, Tryz.ntmps66
      go_wp2
      go_ret
      exact ⟨rfl, HBL.out⟩
  · have ht : Rd.fin ⟨B.drop at', e⟩ = e := by unfold Rd.fin; rw [if_neg (fun h => he h.1)]
    rw [ht]
    have hb : (e == 0) = false := by simpa using he
    go_enter Tryz.func66, Tryz.ntmps66
    go_wp2
    go_ret
    exact ⟨rfl, HBL.out⟩
theorem Rd.more_suf (s : Rd) (c : Nat) : ∃ k, (s.more c).1.rest = s.rest.drop k := by
  unfold Rd.more
  split
  · exact Rd.num_suf s 2
  · split
    · exact Rd.num_suf s 4
    · split
      · exact Rd.num_suf s 8
      · exact ⟨0, by simp⟩
theorem Rd.var_suf (r : Rd) (most : Nat) : ∃ k, (r.var most).1.rest = r.rest.drop k := by
  unfold Rd.var
  dsimp only
  split
  · exact ⟨0, by simp⟩
  · split
    · exact ⟨0, by simp⟩
    · split
      · exact ⟨0, by simp⟩
      · obtain ⟨k, hk⟩ := Rd.more_suf (r.num 1).1 (r.num 1).2
        obtain ⟨j, hj⟩ := Rd.num_suf r 1
        exact ⟨j + k, by rw [hk, hj, List.drop_drop]⟩
theorem Rd.room_suf (r : Rd) (most : Int) : ∃ k, (r.room most).1.rest = r.rest.drop k := by
  unfold Rd.room
  dsimp only
  split
  · exact ⟨0, by simp⟩
  · exact Rd.var_suf r _
end Go.Proofs.YtmenchnjajpkmaaGreatDoor.CodecRef
end

section
namespace Go.Proofs.YtmenchnjajpkmaaGreatDoor.Iter
open Go Go.RowKit Mem

/-- the iterator's word: it goes from state to state; T: the blocks that it turns; It: what it needs of memory; Y: what it yields; E: where it ends -/
def SeqC {σ : Type} (P : Program) (gf : Nat) (lb : Array Value) (T : Nat → Prop) (It : σ → World → Prop) (Y : σ → σ → Array Value → World → World → Prop) (E : σ → World → Prop) (s0 : σ) (w : World) : Prop :=
  ∀ (l : Nat) (J Jx : σ → World → Prop) (W : World), Below w.heap.size w W → w.heap.size + 2 ≤ W.heap.size →
    (∀ s A B, J s A → Fr T A B → J s B) →
    (∀ s s' vs A0 A, J s A0 → Fr T A0 A → Y s s' vs A0 A → It s' A → YieldAt Fence.wide 0 P l vs A fun e B => (e = .returned (.bool true) ∧ J s' B ∧ It s' B ∧ A.heap.size ≤ B.heap.size) ∨ (e = .returned (.bool false) ∧ Jx s' B)) →
    J s0 W →
    CallsIn Fence.wide 0 P gf (#[.func (.yield l) #[] #[]] ++ lb) W fun e B => (∃ v, e = .returned v) ∧ ((∃ s, E s B ∧ J s B) ∨ (∃ s, Jx s B))

/-- what a round leaves of the loop's record and of the block for its deferred calls -/
def Rec (D : Nat) (A B : World) : Prop := A.heap.size ≤ B.heap.size ∧ B.heap[D]? = A.heap[D]? ∧ B.heap[D + 1]? = A.heap[D + 1]?
theorem Rec.refl (D : Nat) (A : World) : Rec D A A := ⟨Nat.le_refl _, rfl, rfl⟩
theorem Rec.fr {D : Nat} {A B : World} {S : Nat → Prop} (h : Fr S A B) (hd : D + 1 < A.heap.size) (h1 : ¬ S D) (h2 : ¬ S (D + 1)) : Rec D A B :=
  ⟨h.size, h.block D (by omega) h1, h.block (D + 1) hd h2⟩
theorem Rec.trans {D : Nat} {A B C : World} (h : Rec D A B) (k : Rec D B C) : Rec D A C := ⟨Nat.le_trans h.1 k.1, k.2.1.trans h.2.1, k.2.2.trans h.2.2⟩
/-- how the body of a round may be left -/
def roundEnd {σ : Type} (D : Nat) (It : σ → World → Prop) (I : σ → World → Prop) (Ix : Code → σ → World → Prop) (s : σ) (A : World) : Exit → Act → World → Prop
  | .normal, _, B => Rec D A B ∧ I s B ∧ It s B
  | .ret, _, B => Rec D A B ∧ Ix .ret s B
  | .exit id, _, B => Rec D A B ∧ Ix (.exit id) s B
  | .goto t, _, B => Rec D A B ∧ Ix (.goto t) s B
  | .panic _, _, _ => False
  | .outgrown, _, _ => False
theorem Fr.putObj {S : Nat → Prop} (W : World) (r : Nat) (o : Obj) (h : S r) : Fr S W (W.putObj r o) :=
  ⟨rfl, rfl, rfl, by simp, fun k _ hn => World.putObj_heap_other (fun e => hn (e ▸ h))⟩

theorem rangeSeq {σ : Type} {P : Program} {g : Operand} {ps : Array Tmp} {assign body : Code} {Q : Exit → Act → World → Prop} {a : Act} {w : World} {gf : Nat} {lb : Array Value}
    (hg : a.eval g = .func (.func gf) #[] lb) (eg : ∀ args w, (callFunc gf args).run P w = .ok (.enter gf args) w)
    {T : Nat → Prop} {It : σ → World → Prop} {Y : σ → σ → Array Value → World → World → Prop} {E : σ → World → Prop} {s0 : σ} (hseq : SeqC P gf lb T It Y E s0 w)
    (hT : ∀ k, T k → k < w.heap.size)
    (hIt : ∀ s A B, It s A → Fr (fun b => b = w.heap.size + 1) A B → It s B)
    (hY : ∀ s s' vs A0 A B, Y s s' vs A0 A → w.heap.size + 1 < A0.heap.size → Fr (fun b => b = w.heap.size + 1) A B → Y s s' vs A0 B)
    (hE : ∀ s A B, E s A → Fr (fun b => b = w.heap.size + 1) A B → E s B)
    (hps : ∀ s s' vs A0 A, Y s s' vs A0 A → vs.size = ps.size)
    (I : σ → World → Prop) (Ix : Code → σ → World → Prop)
    (hI : ∀ s A B, I s A → Fr (fun b => T b ∨ b = w.heap.size + 1) A B → I s B)
    (hIx : ∀ c s A B, Ix c s A → Fr (fun b => b = w.heap.size + 1) A B → Ix c s B)
    (h0 : I s0 w) (a₁ : Array Value → Act)
    (hassign : ∀ (l : Nat) (vs : Array Value) (W : World) (K : Act → World → Prop), vs.size = ps.size → K (a₁ vs) W →
      assign.wpIn (Fence.wide.inRound l) 0 P (Exit.then K (fun _ _ _ => False)) { tmps := (ps.zip vs).foldl (fun t (p, v) => t.setIfInBounds p v) a.tmps, defers := [] } W)
    (hbody : ∀ (s s' : σ) (vs : Array Value) (A0 A : World), w.heap.size + 1 < A0.heap.size → I s A0 → Fr (fun b => T b ∨ b = w.heap.size + 1) A0 A → Y s s' vs A0 A → It s' A →
      body.wpIn (Fence.wide.inRound (w.heap.size + 1)) 0 P (roundEnd w.heap.size It I Ix s' A) (a₁ vs) A)
    (hdone : ∀ (s : σ) (W : World), E s W → I s W → W.heap[w.heap.size]? = some (.deferred (some [])) → Q .normal { a with defers := { target := .collected w.heap.size, args := #[] } :: a.defers } W)
    (hstop : ∀ (c : Code) (s : σ) (W : World), Ix c s W → W.heap[w.heap.size]? = some (.deferred (some [])) → c.wpIn Fence.wide 0 P Q { a with defers := { target := .collected w.heap.size, args := #[] } :: a.defers } W) :
    (Code.rangeFunc g ps assign body).wpIn Fence.wide 0 P Q a w := by
  refine wpIn_rangeFunc ?_
  intro fn hfn
  rw [show Fence.wide.round = none from rfl]
  obtain ⟨rec, hrec⟩ : ∃ rec : LoopState → Option Code → Loop, rec = fun st pe => { state := st, pending := pe, fn, tmps := a.tmps, params := ps, assign, body, defers := w.heap.size } := ⟨_, rfl⟩
  obtain ⟨W1, hW1⟩ : ∃ W1, (w.alloc (.deferred (some []))).alloc (.loop (rec .ready none)) = W1 := ⟨_, rfl⟩
  have hL1 : W1.heap[w.heap.size + 1]? = some (.loop (rec .ready none)) := by
    rw [← hW1]; have := World.alloc_heap_new (w.alloc (.deferred (some []))) (.loop (rec .ready none)); rwa [World.size_alloc] at this
  have hK1 : W1.heap[w.heap.size]? = some (.deferred (some [])) := by
    rw [← hW1]; exact (Below.heap_alloc _ _ _ (by simp)).trans (World.alloc_heap_new w _)
  have hb1 : Below w.heap.size w W1 := by
    rw [← hW1]; exact ((Below.refl _ w).alloc (Nat.le_refl _) _).alloc (by simp) _
  have hI1 : I s0 W1 := hI _ _ _ h0 (Fr.ofBelowAll hb1 (Nat.le_refl _))
  refine ⟨w.heap.size + 1, [{ target := .collected w.heap.size, args := #[] }], W1, { target := .fn (.func gf) lb, args := #[.func (.yield (w.heap.size + 1)) #[] #[]] }, W1, gf,
    #[.func (.yield (w.heap.size + 1)) #[] #[]] ++ lb, W1, ?_, ?_, ?_, ?_, fun h => by simp [Fence.wide] at h, ?_⟩
  · rw [← hW1, hrec]; exact run_enterLoop_outer _ _ _ _ _
  · simp only [resolve, hg]
    simp [go_sem]
  · intro f' _; trivial
  · simp [invoke, go_sem, eg]
  · refine (hseq (w.heap.size + 1)
      (fun s W => I s W ∧ W.heap[w.heap.size + 1]? = some (.loop (rec .ready none)) ∧ W.heap[w.heap.size]? = some (.deferred (some [])))
      (fun s W => ∃ c, Ix c s W ∧ W.heap[w.heap.size + 1]? = some (.loop (rec .done (some c))) ∧ W.heap[w.heap.size]? = some (.deferred (some [])))
      W1 hb1 (by rw [← hW1]; simp) ?_ ?_ ⟨hI1, hL1, hK1⟩).mono ?_
    · rintro s A B ⟨h1, h2, h3⟩ hf
      have hl := (Array.getElem?_eq_some_iff.1 h2).1
      exact ⟨hI _ _ _ h1 (hf.mono (fun k _ h => .inl h)), (hf.block _ hl (fun h => by have := hT _ h; omega)).trans h2, (hf.block _ (by omega) (fun h => by have := hT _ h; omega)).trans h3⟩
    · -- one round
      rintro s s' vs W0 W ⟨hi, hl0, hk0⟩ hf0 hYs hIt1
      have hlt0 : w.heap.size + 1 < W0.heap.size := (Array.getElem?_eq_some_iff.1 hl0).1
      have hl := (hf0.block _ hlt0 (fun h => by have := hT _ h; omega)).trans hl0
      have hk := (hf0.block _ (by omega : w.heap.size < W0.heap.size) (fun h => by have := hT _ h; omega)).trans hk0
      have hlt : w.heap.size + 1 < W.heap.size := (Array.getElem?_eq_some_iff.1 hl).1
      have hy := run_yield (P := P) (args := vs) hl (by rw [hrec]; exact hps _ _ _ _ _ hYs)
      rw [hrec] at hy
      refine ⟨fn, _, assign, body, hy, roundIn_of_wpIn hfn (hassign _ vs W _ (hps _ _ _ _ _ hYs) ⟨_, run_beginRound hl (by rw [hrec]), ?_⟩)⟩
      have hl2 : (W.putObj (w.heap.size + 1) (.loop { rec .ready none with state := .busy })).heap[w.heap.size + 1]? = some (.loop { rec .ready none with state := .busy }) := World.putObj_heap_same hlt
      have hk2 : (W.putObj (w.heap.size + 1) (.loop { rec .ready none with state := .busy })).heap[w.heap.size]? = some (.deferred (some [])) := (World.putObj_heap_other (by omega)).trans hk
      have hfb : ∀ (X : World) (o : Obj), Fr (fun b => b = w.heap.size + 1) X (X.putObj (w.heap.size + 1) o) := fun X o => Fr.putObj X _ o rfl
      refine wpIn_mono (hbody s s' vs W0 _ hlt0 hi ((hf0.mono (fun k _ h => .inl h)).trans ((hfb _ _).mono (fun k _ h => .inr h))) (hY _ _ _ _ _ _ hYs hlt0 (hfb _ _)) (hIt _ _ _ hIt1 (hfb _ _))) ?_
      have fin : ∀ (jump : Option Code) (W3 : World), Rec w.heap.size (W.putObj (w.heap.size + 1) (.loop { rec .ready none with state := .busy })) W3 →
          (Instr.endRound (w.heap.size + 1) jump).run P W3 = .ok (.bool jump.isNone) (W3.putObj (w.heap.size + 1) (.loop (rec (if jump.isNone then .ready else .done) jump))) ∧
          (W3.putObj (w.heap.size + 1) (.loop (rec (if jump.isNone then .ready else .done) jump))).heap[w.heap.size + 1]? = some (.loop (rec (if jump.isNone then .ready else .done) jump)) ∧
          (W3.putObj (w.heap.size + 1) (.loop (rec (if jump.isNone then .ready else .done) jump))).heap[w.heap.size]? = some (.deferred (some [])) := fun jump W3 hk3 => by
        have hl3 := hk3.2.2.trans hl2
        have := run_endRound (P := P) jump hl3
        rw [hrec] at this ⊢
        exact ⟨this, World.putObj_heap_same (Array.getElem?_eq_some_iff.1 hl3).1, (World.putObj_heap_other (by omega)).trans (hk3.2.1.trans hk2)⟩
      rintro e a3 W3 hp
      cases e with
      | normal =>
        obtain ⟨hk3, hi3, hit3⟩ := hp
        obtain ⟨hr, hl4, hk4⟩ := fin none W3 hk3
        exact ⟨_, _, hr, .inl ⟨rfl, ⟨hI _ _ _ hi3 ((hfb _ _).mono (fun k _ h => .inr h)), hl4, hk4⟩, hIt _ _ _ hit3 (hfb _ _), by have := hk3.1; simpa using this⟩⟩
      | ret =>
        obtain ⟨hk3, hi3⟩ := hp
        obtain ⟨hr, hl4, hk4⟩ := fin (some .ret) W3 hk3
        exact ⟨_, _, hr, .inr ⟨rfl, .ret, hIx _ _ _ _ hi3 (hfb _ _), hl4, hk4⟩⟩
      | exit id =>
        obtain ⟨hk3, hi3⟩ := hp
        obtain ⟨hr, hl4, hk4⟩ := fin (some (.exit id)) W3 hk3
        exact ⟨_, _, hr, .inr ⟨rfl, .exit id, hIx _ _ _ _ hi3 (hfb _ _), hl4, hk4⟩⟩
      | goto t =>
        obtain ⟨hk3, hi3⟩ := hp
        obtain ⟨hr, hl4, hk4⟩ := fin (some (.goto t)) W3 hk3
        exact ⟨_, _, hr, .inr ⟨rfl, .goto t, hIx _ _ _ _ hi3 (hfb _ _), hl4, hk4⟩⟩
      | panic ch => exact hp.elim
      | outgrown => exact hp.elim
    · -- behind the iterator
      have hfb : ∀ (X : World) (o : Obj), Fr (fun b => b = w.heap.size + 1) X (X.putObj (w.heap.size + 1) o) := fun X o => Fr.putObj X _ o rfl
      rintro e W2 ⟨⟨v, rfl⟩, (⟨s, hS, hi, hl, hk⟩ | ⟨s, c, hi, hl, hk⟩)⟩
      · exact ⟨none, _, by have := run_endLoop (P := P) hl (by rw [hrec]; simp); rw [hrec] at this; exact this, hdone s _ (hE _ _ _ hS (hfb _ _)) (hI _ _ _ hi ((hfb _ _).mono (fun k _ h => .inr h))) ((World.putObj_heap_other (by omega)).trans hk)⟩
      · exact ⟨some c, _, by have := run_endLoop (P := P) hl (by rw [hrec]; simp); rw [hrec] at this; exact this, hstop c s _ (hIx _ _ _ _ hi (hfb _ _)) ((World.putObj_heap_other (by omega)).trans hk)⟩
end Go.Proofs.YtmenchnjajpkmaaGreatDoor.Iter
end

section
namespace Go.Proofs.YtmenchnjajpkmaaGreatDoor.Sha
open Go

abbrev W := BitVec 32
/-- a word, turned right by n (1 to 31) -/
def rotr (x : W) (n : Nat) : W := (x <<< (32 - n)) ||| (x >>> n)
def word (x : W) : Value := .int .u32 (x.toNat : Int)

structure St where
  a : W
  b : W
  c : W
  d : W
  e : W
  f : W
  g : W
  h : W

def St.l (s : St) : List W := [s.a, s.b, s.c, s.d, s.e, s.f, s.g, s.h]
def ini : St := ⟨0x6a09e667#32, 0xbb67ae85#32, 0x3c6ef372#32, 0xa54ff53a#32, 0x510e527f#32, 0x9b05688c#32, 0x1f83d9ab#32, 0x5be0cd19#32⟩

def table : List Nat := [1116352408, 1899447441, 3049323471, 3921009573, 961987163, 1508970993, 2453635748, 2870763221, 3624381080, 310598401, 607225278, 1426881987, 1925078388, 2162078206, 2614888103, 3248222580, 3835390401, 4022224774, 264347078, 604807628, 770255983, 1249150122, 1555081692, 1996064986, 2554220882, 2821834349, 2952996808, 3210313671, 3336571891, 3584528711, 113926993, 338241895, 666307205, 773529912, 1294757372, 1396182291, 1695183700, 1986661051, 2177026350, 2456956037, 2730485921, 2820302411, 3259730800, 3345764771, 3516065817, 3600352804, 4094571909, 275423344, 430227734, 506948616, 659060556, 883997877, 958139571, 1322822218, 1537002063, 1747873779, 1955562222, 2024104815, 2227730452, 2361852424, 2428436474, 2756734187, 3204031479, 3329325298]
def K (t : Nat) : W := BitVec.ofNat 32 (table.getD t 0)

def sig0 (x : W) : W := (rotr x 7 ^^^ rotr x 18) ^^^ (x >>> 3)
def sig1 (x : W) : W := (rotr x 17 ^^^ rotr x 19) ^^^ (x >>> 10)
def Sig1 (x : W) : W := (rotr x 6 ^^^ rotr x 11) ^^^ rotr x 25
def Sig0 (x : W) : W := (rotr x 2 ^^^ rotr x 13) ^^^ rotr x 22
def ch (e f g : W) : W := (e &&& f) ^^^ (~~~e &&& g)
def maj (a b c : W) : W := ((a &&& b) ^^^ (a &&& c)) ^^^ (b &&& c)
def wx (s : St) (k w : W) : W := ((s.h + Sig1 s.e) + ch s.e s.f s.g + k) + w
def wy (s : St) : W := Sig0 s.a + maj s.a s.b s.c
def rnd (s : St) (k w : W) : St := ⟨wx s k w + wy s, s.a, s.b, s.c, s.d + wx s k w, s.e, s.f, s.g⟩

/-- four bytes as a word -/
def be (x y z u : UInt8) : W := (((BitVec.ofNat 32 x.toNat <<< 24) ||| (BitVec.ofNat 32 y.toNat <<< 16)) ||| (BitVec.ofNat 32 z.toNat <<< 8)) ||| BitVec.ofNat 32 u.toNat
/-- the word t of a piece -/
def first (p : List UInt8) (t : Nat) : W := be (p.getD (4 * t) 0) (p.getD (4 * t + 1) 0) (p.getD (4 * t + 2) 0) (p.getD (4 * t + 3) 0)
/-- the schedule: its first n words -/
def sched (p : List UInt8) : Nat → List W
  | 0 => []
  | t + 1 =>
    let l := sched p t
    l ++ [if t < 16 then first p t else ((l.getD (t - 16) 0 + sig0 (l.getD (t - 15) 0)) + l.getD (t - 7) 0) + sig1 (l.getD (t - 2) 0)]
theorem sched_length (p : List UInt8) : ∀ n, (sched p n).length = n
  | 0 => rfl
  | t + 1 => by simp [sched, sched_length p t]
/-- word t of the schedule -/
def wd (p : List UInt8) (t : Nat) : W := (sched p (t + 1)).getD t 0
theorem sched_getD (p : List UInt8) (n : Nat) : ∀ t, t < n → (sched p n).getD t 0 = wd p t := by
  induction n with
  | zero => intro t h; omega
  | succ n ih =>
    intro t h
    by_cases e : t = n
    · subst e; rfl
    · have h2 := ih t (by omega)
      have hl := sched_length p n
      simp only [sched, List.getD_eq_getElem?_getD]
      rw [List.getElem?_append_left (by omega)]
      simpa [List.getD_eq_getElem?_getD] using h2
theorem wd_low (p : List UInt8) (t : Nat) (h : t < 16) : wd p t = first p t := by
  have hl := sched_length p t
  simp [wd, sched, List.getD_eq_getElem?_getD, hl, h]
theorem wd_high (p : List UInt8) (t : Nat) (h : 16 ≤ t) : wd p t = ((wd p (t - 16) + sig0 (wd p (t - 15))) + wd p (t - 7)) + sig1 (wd p (t - 2)) := by
  have hl := sched_length p t
  have e : wd p t = (((sched p t).getD (t - 16) 0 + sig0 ((sched p t).getD (t - 15) 0)) + (sched p t).getD (t - 7) 0) + sig1 ((sched p t).getD (t - 2) 0) := by
    simp [wd, sched, List.getD_eq_getElem?_getD, hl, show ¬ t < 16 from by omega]
  rw [e, sched_getD _ _ _ (by omega), sched_getD _ _ _ (by omega), sched_getD _ _ _ (by omega), sched_getD _ _ _ (by omega)]

def rounds (p : List UInt8) (s : St) : Nat → St
  | 0 => s
  | t + 1 => rnd (rounds p s t) (K t) (wd p t)
def St.add (s r : St) : St := ⟨s.a + r.a, s.b + r.b, s.c + r.c, s.d + r.d, s.e + r.e, s.f + r.f, s.g + r.g, s.h + r.h⟩
/-- a state behind one more piece -/
def mixed (s : St) (p : List UInt8) : St := s.add (rounds p s 64)

/-- the state behind all whole pieces -/
def feed (s : St) (l : List UInt8) : St := if l.length < 64 then s else feed (mixed s (l.take 64)) (l.drop 64)
termination_by l.length
decreasing_by simp; omega
/-- what is left of a text behind its whole pieces -/
def left (l : List UInt8) : List UInt8 := if l.length < 64 then l else left (l.drop 64)
termination_by l.length
decreasing_by simp; omega
theorem feed_short (s : St) (l : List UInt8) (h : l.length < 64) : feed s l = s := by rw [feed, if_pos h]
theorem feed_long (s : St) (l : List UInt8) (h : 64 ≤ l.length) : feed s l = feed (mixed s (l.take 64)) (l.drop 64) := by rw [feed, if_neg (by omega)]
theorem left_short (l : List UInt8) (h : l.length < 64) : left l = l := by rw [left, if_pos h]
theorem left_long (l : List UInt8) (h : 64 ≤ l.length) : left l = left (l.drop 64) := by rw [left, if_neg (by omega)]
theorem left_length : ∀ (n : Nat) (l : List UInt8), l.length = n → (left l).length = n % 64 := by
  intro n
  induction n using Nat.strongRecOn with
  | ind n ih =>
    intro l hl
    by_cases h : l.length < 64
    · rw [left_short l h]; omega
    · rw [left_long l (by omega), ih (n - 64) (by omega) (l.drop 64) (by simp; omega)]; omega
theorem left_lt (l : List UInt8) : (left l).length < 64 := by rw [left_length _ l rfl]; omega
theorem feed_append (n : Nat) : ∀ (s : St) (a b : List UInt8), a.length = n → feed s (a ++ b) = feed (feed s a) (left a ++ b) ∧ left (a ++ b) = left (left a ++ b) := by
  induction n using Nat.strongRecOn with
  | ind n ih =>
    intro s a b hn
    by_cases h : a.length < 64
    · rw [feed_short s a h, left_short a h]; exact ⟨rfl, rfl⟩
    · have hab : 64 ≤ (a ++ b).length := by simp; omega
      rw [feed_long s (a ++ b) hab, left_long (a ++ b) hab, feed_long s a (by omega), left_long a (by omega)]
      rw [List.take_append_of_le_length (by omega), List.drop_append_of_le_length (by omega)]
      exact ih (n - 64) (by omega) _ _ _ (by simp; omega)
theorem feed_app (s : St) (a b : List UInt8) : feed s (a ++ b) = feed (feed s a) (left a ++ b) := (feed_append _ s a b rfl).1
theorem left_app (a b : List UInt8) : left (a ++ b) = left (left a ++ b) := (feed_append _ ini a b rfl).2

/-- a number's eight bytes -/
def be8 (v : Nat) : List UInt8 := (List.range 8).map fun i => UInt8.ofNat (v / 2 ^ (56 - 8 * i))
def padTail (n : Nat) : List UInt8 := 128 :: (List.replicate ((119 - n % 64) % 64) 0 ++ be8 (8 * n % 18446744073709551616))
/-- a word's four bytes -/
def be4 (x : W) : List UInt8 := (List.range 4).map fun k => UInt8.ofNat (x.toNat / 2 ^ (24 - 8 * k))
def out (s : St) : List UInt8 := s.l.flatMap be4
/-- the digest of a text -/
def sha (l : List UInt8) : List UInt8 := out (feed ini (l ++ padTail l.length))
theorem out_length (s : St) : (out s).length = 32 := rfl
theorem be8_length (v : Nat) : (be8 v).length = 8 := rfl
theorem sha_length (l : List UInt8) : (sha l).length = 32 := rfl
theorem padTail_length (n : Nat) : (n + (padTail n).length) % 64 = 0 := by
  have : (padTail n).length = 1 + ((119 - n % 64) % 64 + 8) := by simp [padTail, be8_length]; omega
  omega
/-- the digest by way of what is left -/
theorem sha_left (l : List UInt8) : sha l = out (feed (feed ini l) (left l ++ padTail l.length)) := by unfold sha; rw [feed_app]
end Go.Proofs.YtmenchnjajpkmaaGreatDoor.Sha
end

section
namespace Go.Proofs.YtmenchnjajpkmaaGreatDoor.ShaW
open Go Go.RowKit Mem Sha

theorem shl_int (x : W) (m : Nat) : (x.toNat : Int) * 2 ^ m % 4294967296 = ((x <<< m).toNat : Int) := by
  rw [BitVec.toNat_shiftLeft, Nat.shiftLeft_eq]
  rw [Int.natCast_emod, Int.natCast_mul, Int.natCast_pow]; rfl
theorem shr_int (x : W) (m : Nat) : (x.toNat : Int) / 2 ^ m = ((x >>> m).toNat : Int) := by
  rw [BitVec.toNat_ushiftRight, Nat.shiftRight_eq_div_pow, Int.natCast_ediv, Int.natCast_pow]; rfl
theorem or_int (x y : W) : bits .or .u32 (x.toNat : Int) (y.toNat : Int) = ((x ||| y).toNat : Int) := by
  rw [u32_or_nat _ _ x.isLt y.isLt, BitVec.toNat_or]
theorem and_int (x y : W) : bits .and .u32 (x.toNat : Int) (y.toNat : Int) = ((x &&& y).toNat : Int) := by
  rw [u32_and_nat _ _ x.isLt y.isLt, BitVec.toNat_and]
theorem xor_int (x y : W) : bits .xor .u32 (x.toNat : Int) (y.toNat : Int) = ((x ^^^ y).toNat : Int) := by
  rw [u32_xor_nat _ _ x.isLt y.isLt, BitVec.toNat_xor]
theorem add_int (x y : W) : ((x.toNat : Int) + (y.toNat : Int)) % 4294967296 = ((x + y).toNat : Int) := by
  rw [BitVec.toNat_add, Int.natCast_emod, Int.natCast_add]; rfl

theorem neg_and31 (n : Nat) (h1 : 1 ≤ n) (h2 : n ≤ 31) : bits .and .u64 (IntKind.u64.wrap (-(n : Int))) 31 = ((32 - n : Nat) : Int) := by
  have e : IntKind.u64.wrap (-(n : Int)) = ((18446744073709551616 - n : Nat) : Int) := by
    rw [show IntKind.u64.wrap (-(n : Int)) = (-(n : Int)) % 18446744073709551616 from by simp [IntKind.wrap, IntKind.bits, IntKind.signed]]
    omega
  rw [e]
  show bits .and .u64 _ ((31 : Nat) : Int) = _
  rw [u64_and_nat _ _ (by omega) (by omega), show (31 : Nat) = 2 ^ 5 - 1 from rfl, Nat.and_two_pow_sub_one_eq_mod]
  omega

theorem rotl (x : W) (k : Int) (w : World) (h1 : 1 ≤ k) (h2 : k ≤ 31) :
    Calls Tryz.prog 111 #[.int .u32 (x.toNat : Int), .int .i64 (-k)] w fun e w' => e = .returned (.int .u32 ((rotr x k.toNat).toNat : Int)) ∧ w = w' := by
  have hx := x.isLt
  obtain ⟨n, rfl⟩ := Int.eq_ofNat_of_zero_le (by omega : 0 ≤ k)
  have hm := neg_and31 n (by omega) (by omega)
  have hn1 : 32 - n ≤ 31 := by omega
  go_enter Tryz.func111, Tryz.ntmps111
  go_wp2
  go_ret
  exact ⟨ret_int (by rw [shl_int, shr_int, or_int, show 32 - (32 - n) = n from by omega]; rfl), rfl⟩

theorem turn (x : W) (k : Int) (w : World) (h1 : 1 ≤ k) (h2 : k ≤ 31) :
    Calls Tryz.prog 100 #[.int .u32 (x.toNat : Int), .int .i64 k] w fun e w' => e = .returned (.int .u32 ((rotr x k.toNat).toNat : Int)) ∧ w = w' := by
  go_enter Tryz.func100, Tryz.ntmps100
  go_wp2_with fail
  refine (rotl x k w h1 h2).mono ?_
  rintro e w' ⟨rfl, rfl⟩
  go_wp2
  go_ret
  exact ⟨rfl, rfl⟩


theorem shr3_int (x : W) : (x.toNat : Int) / (8 : Int) = ((x >>> 3).toNat : Int) := shr_int x 3
theorem shr10_int (x : W) : (x.toNat : Int) / (1024 : Int) = ((x >>> 10).toNat : Int) := shr_int x 10
theorem sum4_int (a b c d : W) : ((a.toNat : Int) + (b.toNat : Int) + (c.toNat : Int) + (d.toNat : Int)) % 4294967296 = (((a + b) + c + d).toNat : Int) := by
  simp only [BitVec.toNat_add]; omega
theorem sched_int (a x b y : W) : ((a.toNat : Int) + bits .xor .u32 (bits .xor .u32 ((rotr x 7).toNat : Int) ((rotr x 18).toNat : Int)) ((x.toNat : Int) / 8) + (b.toNat : Int) +
    bits .xor .u32 (bits .xor .u32 ((rotr y 17).toNat : Int) ((rotr y 19).toNat : Int)) ((y.toNat : Int) / 1024)) % 4294967296 = ((a + sig0 x + b + sig1 y).toNat : Int) := by
  rw [shr3_int, shr10_int, xor_int, xor_int, xor_int, xor_int, sum4_int]; rfl

theorem not_int (v : W) : bits .xor .u32 IntKind.u32.max (v.toNat : Int) = ((~~~v).toNat : Int) := by
  have h := v.isLt
  show bits .xor .u32 ((4294967295 : Nat) : Int) (v.toNat : Int) = _
  rw [u32_xor_nat _ _ (by omega) h]
  rw [show (4294967295 : Nat) = (BitVec.allOnes 32).toNat from rfl, ← BitVec.toNat_xor, BitVec.allOnes_xor]

/-- the table, as a value -/
def tabL : List Value := table.map fun (n : Nat) => .int .u32 (n : Int)
def tabV : Array Value := tabL.toArray
/-- a world whose block g holds the table -/
def TabB (w : World) (g : Nat) : Prop := ∃ t fr, w.heap[g]? = some (.cells tabV t fr)
theorem TabB.fr {S : Nat → Prop} {w w' : World} {g : Nat} (h : TabB w g) (hf : Fr S w w') (hn : ¬ S g) : TabB w' g := by
  obtain ⟨t, fr, h⟩ := h
  exact ⟨t, fr, (hf.block g (Array.getElem?_eq_some_iff.1 h).1 hn).trans h⟩
theorem TabB.below {w w' : World} {g : Nat} (h : TabB w g) (hf : Below w.heap.size w w') : TabB w' g := by
  obtain ⟨t, fr, h⟩ := h
  exact ⟨t, fr, (hf.block g (Array.getElem?_eq_some_iff.1 h).1).trans h⟩
theorem tab_at (t : Nat) (h : t < 64) : tabV[t]? = some (.int .u32 ((K t).toNat : Int)) := by
  have : ∀ t, t < 64 → table[t]? = some (K t).toNat := by decide +kernel
  have h2 := this t h
  simp [tabV, tabL, h2]

theorem index_tab (t : Nat) (h : t < 64) (w : World) : (Instr.index 147 (.agg tabV) (.int .i64 (t : Int))).run Tryz.prog w = .ok (.int .u32 ((K t).toNat : Int)) w := by
  have hs := tab_at t h
  have e : (((t : Nat) : Int)).toNat = t := by omega
  have h0 : (0 : Int) ≤ (t : Int) := by omega
  simp [Instr.index, go_sem, hs, h0, e]
  intro h2; omega

theorem turn_still (x : W) (k : Int) (w : World) (h1 : 1 ≤ k) (h2 : k ≤ 31) :
    Calls Tryz.prog 100 #[.int .u32 (x.toNat : Int), .int .i64 k] w fun e w' => e = .returned (.int .u32 ((rotr x k.toNat).toNat : Int)) ∧ w' = w :=
  (turn x k w h1 h2).mono fun _ _ h => ⟨h.1, h.2.symm⟩

theorem be_int (x y z u : UInt8) : bits .or .u32 (bits .or .u32 (bits .or .u32 ((x.toNat : Int) * 16777216) ((y.toNat : Int) * 65536)) ((z.toNat : Int) * 256)) (u.toNat : Int) = ((be x y z u).toNat : Int) := by
  have hx := x.toNat_lt
  have hy := y.toNat_lt
  have hz := z.toNat_lt
  have hu := u.toNat_lt
  have sh : ∀ (c : UInt8) (m : Nat), m ≤ 24 → (c.toNat : Int) * 2 ^ m = ((BitVec.ofNat 32 c.toNat <<< m).toNat : Int) := by
    intro c m hm
    have hc := c.toNat_lt
    rw [← shl_int]
    have e : (BitVec.ofNat 32 c.toNat).toNat = c.toNat := by rw [BitVec.toNat_ofNat]; omega
    have e2 : (c.toNat : Int) * 2 ^ m = ((c.toNat * 2 ^ m : Nat) : Int) := by rw [Int.natCast_mul, Int.natCast_pow]; rfl
    rw [e, e2]
    have h2 : 2 ^ m ≤ 2 ^ 24 := Nat.pow_le_pow_right (by omega) hm
    have h3 : c.toNat * 2 ^ m ≤ 255 * 2 ^ 24 := Nat.mul_le_mul (by omega) h2
    omega
  have a1 := sh x 24 (by omega)
  have a2 := sh y 16 (by omega)
  have a3 := sh z 8 (by omega)
  have a4 : (u.toNat : Int) = ((BitVec.ofNat 32 u.toNat).toNat : Int) := by rw [BitVec.toNat_ofNat]; omega
  rw [show ((2 : Int) ^ 24) = 16777216 from rfl] at a1
  rw [show ((2 : Int) ^ 16) = 65536 from rfl] at a2
  rw [show ((2 : Int) ^ 8) = 256 from rfl] at a3
  rw [a1, a2, a3, a4, or_int, or_int, or_int]; rfl

/-- the first loop's relation -/
def MixRel (s : St) (l : List UInt8) (B : Nat) (w wr : World) (t : Nat) : Prop :=
  Below B w wr ∧ wr.heap.size = B + 3 ∧ Blk wr B (s.l.map word) 141 ∧ Blk wr (B + 1) (List.replicate 8 (.int .u32 0)) 141 ∧
    Blk wr (B + 1 + 1) ((sched l t).map word ++ List.replicate (64 - t) (.int .u32 0)) 147
theorem mix_start (s : St) (l : List UInt8) (w : World) :
    MixRel s l w.heap.size w (((w.alloc (.cells (s.l.map word).toArray 141)).alloc (.cells (List.replicate 8 (.int .u32 0)).toArray 141)).alloc (.cells (List.replicate 64 (.int .u32 0)).toArray 147)) 0 := by
  refine ⟨?_, by simp, ?_, ?_, ?_⟩
  · exact (((Below.refl _ _).alloc (Nat.le_refl _) _).alloc (by simp) _).alloc (by simp; omega) _
  · exact ((Blk.new w _ _ (s.l.map word) rfl).alloc _).alloc _
  · have := (Blk.new (w.alloc (.cells (s.l.map word).toArray 141)) (List.replicate 8 (.int .u32 0)).toArray 141 _ rfl)
    simp only [World.size_alloc] at this
    exact this.alloc _
  · have := (Blk.new ((w.alloc (.cells (s.l.map word).toArray 141)).alloc (.cells (List.replicate 8 (.int .u32 0)).toArray 141)) (List.replicate 64 (.int .u32 0)).toArray 147 _ rfl)
    simp only [World.size_alloc] at this
    exact this
theorem sched_succ (l : List UInt8) (t : Nat) : sched l (t + 1) = sched l t ++ [wd l t] := by
  have hl := sched_length l t
  conv => rhs; rw [wd, sched, List.getD_eq_getElem?_getD, List.getElem?_append_right (by omega)]
  simp [sched, hl]
theorem MixRel.drew {s : St} {l : List UInt8} {B : Nat} {w wr : World} {t : Nat} (h : MixRel s l B w wr t) : MixRel s l B w wr.drew t := ⟨h.1.drew, h.2⟩
theorem MixRel.drewN {s : St} {l : List UInt8} {B : Nat} {w wr : World} {t : Nat} (h : MixRel s l B w wr t) (n : Nat) : MixRel s l B w (wr.drewN n) t := ⟨below_drewN h.1 n, h.2⟩
theorem mix_step {s : St} {l : List UInt8} {B : Nat} {w wr : World} {t : Nat} (ht : t < 64) (h : MixRel s l B w wr t) :
    MixRel s l B w (wr.setCell ⟨B + 1 + 1, t, none⟩ (.int .u32 ((wd l t).toNat : Int))) (t + 1) := by
  obtain ⟨h1, h2, h3, h4, h5⟩ := h
  refine ⟨h1.setCell (by show B ≤ B + 1 + 1; omega) _, by simpa using h2, h3.other (by show B + 1 + 1 ≠ B; omega) _, h4.other (by show B + 1 + 1 ≠ B + 1; omega) _, ?_⟩
  have := h5.set t (.int .u32 ((wd l t).toNat : Int))
  have hl := sched_length l t
  rw [List.set_append_right _ _ (by simp [hl])] at this
  rw [sched_succ, List.map_append, List.append_assoc]
  have e : (List.replicate (64 - t) (Value.int .u32 0)).set (t - ((sched l t).map word).length) (.int .u32 ((wd l t).toNat : Int)) = List.map word [wd l t] ++ List.replicate (64 - (t + 1)) (.int .u32 0) := by
    rw [List.length_map, hl, Nat.sub_self]
    obtain ⟨m, hm⟩ : ∃ m, 64 - t = m + 1 := ⟨63 - t, by omega⟩
    rw [hm, show 64 - (t + 1) = m from by omega]
    rfl
  rw [e] at this
  exact this
theorem mix_cell {s : St} {l : List UInt8} {B : Nat} {w wr : World} {t : Nat} (h : MixRel s l B w wr t) (j : Nat) (hj : j < t) : wr.cell? ⟨B + 1 + 1, j, none⟩ = some (.int .u32 ((wd l j).toNat : Int)) := by
  refine h.2.2.2.2.cell ?_
  have hl := sched_length l t
  rw [List.getElem?_append_left (by simp [hl]; omega)]
  have := sched_getD l t j hj
  rw [List.getD_eq_getElem?_getD, List.getElem?_eq_getElem (by omega)] at this
  simp [hl, hj]
  rw [← this]; rfl
theorem mix_old {s : St} {l : List UInt8} {B : Nat} {w wr : World} {t : Nat} (h : MixRel s l B w wr t) (ht : t < 64) : wr.cell? ⟨B + 1 + 1, t, none⟩ = some (.int .u32 0) := by
  refine h.2.2.2.2.cell ?_
  rw [List.getElem?_append_right (by simp [sched_length])]
  simp [sched_length, List.getElem?_replicate]; omega

/-- the second loop's relation -/
def RndRel (s : St) (l : List UInt8) (B R : Nat) (w wr : World) (t : Nat) : Prop :=
  Below B w wr ∧ wr.heap.size = R + 1 ∧ B + 3 = R ∧ Blk wr B (s.l.map word) 141 ∧ Blk wr (B + 1) (List.replicate 8 (.int .u32 0)) 141 ∧
    Blk wr (B + 1 + 1) ((sched l 64).map word) 147 ∧ Blk wr R ((rounds l s t).l.map word) 141
theorem rnd_start {s : St} {l : List UInt8} {B : Nat} {w wr : World} (h : MixRel s l B w wr 64) : RndRel s l B wr.heap.size w (wr.alloc (.cells (s.l.map word).toArray 141)) 0 := by
  obtain ⟨h1, h2, h3, h4, h5⟩ := h
  refine ⟨h1.alloc (by omega) _, by simp, h2.symm, h3.alloc _, h4.alloc _, ?_, Blk.new _ _ _ _ rfl⟩
  have h5 : Blk wr (B + 1 + 1) ((sched l 64).map word ++ []) 147 := h5
  rw [List.append_nil] at h5
  exact h5.alloc _
theorem RndRel.drewN {s : St} {l : List UInt8} {B R : Nat} {w wr : World} {t : Nat} (h : RndRel s l B R w wr t) (n : Nat) : RndRel s l B R w (wr.drewN n) t := ⟨below_drewN h.1 n, h.2⟩
theorem rnd_step {s : St} {l : List UInt8} {B R : Nat} {w wr : World} {t : Nat} (h : RndRel s l B R w wr t) {a b c d e f g i : W} (hr : rnd (rounds l s t) (K t) (wd l t) = ⟨a, b, c, d, e, f, g, i⟩) :
    RndRel s l B R w ((((((((wr.setCell ⟨R, 0, none⟩ (word a)).setCell ⟨R, 1, none⟩ (word b)).setCell ⟨R, 2, none⟩ (word c)).setCell ⟨R, 3, none⟩ (word d)).setCell ⟨R, 4, none⟩ (word e)).setCell ⟨R, 5, none⟩ (word f)).setCell ⟨R, 6, none⟩ (word g)).setCell ⟨R, 7, none⟩ (word i)) (t + 1) := by
  obtain ⟨h1, h2, h3, h4, h5, h6, h7⟩ := h
  have ne0 : R ≠ B := by omega
  have ne1 : R ≠ B + 1 := by omega
  have ne2 : R ≠ B + 1 + 1 := by omega
  have le : B ≤ R := by omega
  refine ⟨(((((((h1.setCell le _).setCell le _).setCell le _).setCell le _).setCell le _).setCell le _).setCell le _).setCell le _, by simpa using h2, h3,
    (((((((h4.other ne0 _).other ne0 _).other ne0 _).other ne0 _).other ne0 _).other ne0 _).other ne0 _).other ne0 _,
    (((((((h5.other ne1 _).other ne1 _).other ne1 _).other ne1 _).other ne1 _).other ne1 _).other ne1 _).other ne1 _,
    (((((((h6.other ne2 _).other ne2 _).other ne2 _).other ne2 _).other ne2 _).other ne2 _).other ne2 _).other ne2 _, ?_⟩
  have := (((((((h7.set 0 (word a)).set 1 (word b)).set 2 (word c)).set 3 (word d)).set 4 (word e)).set 5 (word f)).set 6 (word g)).set 7 (word i)
  have e1 : rounds l s (t + 1) = ⟨a, b, c, d, e, f, g, i⟩ := hr
  rw [e1]
  exact this
theorem sum5_int (a b c d e : W) : ((a.toNat : Int) + (b.toNat : Int) + (c.toNat : Int) + (d.toNat : Int) + (e.toNat : Int)) % 4294967296 = ((((a + b) + c) + d + e).toNat : Int) := by
  simp only [BitVec.toNat_add]; omega
theorem wx_int (s : St) (k w : W) : ((s.h.toNat : Int) + bits .xor .u32 (bits .xor .u32 ((rotr s.e 6).toNat : Int) ((rotr s.e 11).toNat : Int)) ((rotr s.e 25).toNat : Int) +
    bits .xor .u32 (bits .and .u32 (s.e.toNat : Int) (s.f.toNat : Int)) (bits .and .u32 (bits .xor .u32 IntKind.u32.max (s.e.toNat : Int)) (s.g.toNat : Int)) + (k.toNat : Int) + (w.toNat : Int)) % 4294967296 = ((wx s k w).toNat : Int) := by
  rw [not_int, and_int, and_int, xor_int, xor_int, xor_int, sum5_int]; rfl
theorem wy_int (x : W) (s : St) : ((x.toNat : Int) + (bits .xor .u32 (bits .xor .u32 ((rotr s.a 2).toNat : Int) ((rotr s.a 13).toNat : Int)) ((rotr s.a 22).toNat : Int) +
    bits .xor .u32 (bits .xor .u32 (bits .and .u32 (s.a.toNat : Int) (s.b.toNat : Int)) (bits .and .u32 (s.a.toNat : Int) (s.c.toNat : Int))) (bits .and .u32 (s.b.toNat : Int) (s.c.toNat : Int)))) % 4294967296 = ((x + wy s).toNat : Int) := by
  rw [and_int, and_int, and_int, xor_int, xor_int, xor_int, xor_int]
  show ((x.toNat : Int) + (((Sig0 s.a).toNat : Int) + ((maj s.a s.b s.c).toNat : Int))) % 4294967296 = _
  unfold wy
  simp only [BitVec.toNat_add]; omega
theorem mixed_eq (s : St) (l : List UInt8) (r : St) (h : rounds l s 64 = r) : mixed s l = s.add r := by subst h; rfl
/-- the third loop's list: the first t words are summed -/
def part (s r : St) (t : Nat) : List W := (s.add r).l.take t ++ s.l.drop t
def SumRel (s r : St) (B R : Nat) (w wr : World) (t : Nat) : Prop :=
  Below B w wr ∧ wr.heap.size = R + 1 ∧ B + 3 = R ∧ Blk wr B ((part s r t).map word) 141 ∧ Blk wr (B + 1) (List.replicate 8 (.int .u32 0)) 141 ∧ Blk wr R (r.l.map word) 141
theorem sum_start {s : St} {l : List UInt8} {B R : Nat} {w wr : World} {t : Nat} (h : RndRel s l B R w wr t) : SumRel s (rounds l s t) B R w wr 0 := by
  obtain ⟨h1, h2, h3, h4, h5, h6, h7⟩ := h
  exact ⟨h1, h2, h3, h4, h5, h7⟩
theorem part_cell (s r : St) (t : Nat) (h : t < 8) : ((part s r t).map word)[t]? = some (word (s.l.getD t 0)) := by
  match t, h with
  | 0, _ | 1, _ | 2, _ | 3, _ | 4, _ | 5, _ | 6, _ | 7, _ => rfl
  | j + 8, h => omega
theorem r_cell (r : St) (t : Nat) (h : t < 8) : (r.l.map word)[t]? = some (word (r.l.getD t 0)) := by
  match t, h with
  | 0, _ | 1, _ | 2, _ | 3, _ | 4, _ | 5, _ | 6, _ | 7, _ => rfl
  | j + 8, h => omega
theorem part_set (s r : St) (t : Nat) (h : t < 8) : ((part s r t).map word).set t (word (s.l.getD t 0 + r.l.getD t 0)) = (part s r (t + 1)).map word := by
  match t, h with
  | 0, _ | 1, _ | 2, _ | 3, _ | 4, _ | 5, _ | 6, _ | 7, _ => rfl
  | j + 8, h => omega
theorem sum_step {s r : St} {B R : Nat} {w wr : World} {t : Nat} (ht : t < 8) (h : SumRel s r B R w wr t) :
    SumRel s r B R w (wr.setCell ⟨B, t, none⟩ (.int .u32 (((s.l.getD t 0 + r.l.getD t 0)).toNat : Int))) (t + 1) := by
  obtain ⟨h1, h2, h3, h4, h5, h7⟩ := h
  refine ⟨h1.setCell (Nat.le_refl _) _, by simpa using h2, h3, ?_, h5.other (by show B ≠ B + 1; omega) _, h7.other (by show B ≠ R; omega) _⟩
  rw [← part_set s r t ht]
  exact h4.set _ _
theorem SumRel.drew {s r : St} {B R : Nat} {w wr : World} {t : Nat} (h : SumRel s r B R w wr t) : SumRel s r B R w wr.drew t := ⟨h.1.drew, h.2⟩
theorem sched_cell {l : List UInt8} {b : Nat} {wr : World} {e : TypeId} (h : Blk wr b ((sched l 64).map word) e) (j : Nat) (hj : j < 64) : wr.cell? ⟨b, j, none⟩ = some (.int .u32 ((wd l j).toNat : Int)) := by
  refine h.cell ?_
  have hl := sched_length l 64
  have := sched_getD l 64 j hj
  rw [List.getD_eq_getElem?_getD, List.getElem?_eq_getElem (by omega)] at this
  simp [hl, hj]
  rw [← this]; rfl
theorem St.cells {s : St} {w : World} {b : Nat} {e : TypeId} (h : Blk w b (s.l.map word) e) :
    w.cell? ⟨b, 0, none⟩ = some (.int .u32 (s.a.toNat : Int)) ∧ w.cell? ⟨b, 1, none⟩ = some (.int .u32 (s.b.toNat : Int)) ∧ w.cell? ⟨b, 2, none⟩ = some (.int .u32 (s.c.toNat : Int)) ∧ w.cell? ⟨b, 3, none⟩ = some (.int .u32 (s.d.toNat : Int)) ∧
    w.cell? ⟨b, 4, none⟩ = some (.int .u32 (s.e.toNat : Int)) ∧ w.cell? ⟨b, 5, none⟩ = some (.int .u32 (s.f.toNat : Int)) ∧ w.cell? ⟨b, 6, none⟩ = some (.int .u32 (s.g.toNat : Int)) ∧ w.cell? ⟨b, 7, none⟩ = some (.int .u32 (s.h.toNat : Int)) :=
  ⟨h.cell rfl, h.cell rfl, h.cell rfl, h.cell rfl, h.cell rfl, h.cell rfl, h.cell rfl, h.cell rfl⟩

set_option maxHeartbeats 2000000 in
set_option maxRecDepth 100000 in
theorem mixed_calls (s : St) (v : Value) (l : List UInt8) (w : World) {D : Nat → Prop} (hB : Byt D w v l) (hl : l.length = 64) (hT : TabB w 1) :
    Calls Tryz.prog 77 #[.agg (s.l.map word).toArray, v] w fun e w' => e = .returned (.agg ((mixed s l).l.map word).toArray) ∧ Below w.heap.size w w' := by
  obtain ⟨a, c, rfl, hk, hby⟩ := hB
  obtain ⟨b, off, rfl, _, hc⟩ := hby.resolve_left (by intro e; subst e; simp at hl)
  have hl1 : 64 ≤ l.length := by omega
  have hl2 : l.length ≤ 64 := by omega
  have hlt : b < w.heap.size := hc.lt (by intro e; subst e; simp at hl)
  clear hl hby
  go_enter Tryz.func77, Tryz.ntmps77
  go_wp2
  go_loopw [6, 7, 8, 15] (fun _ _ _ i wr => ∃ t : Nat, t ≤ 64 ∧ i = .int .i64 t ∧ MixRel s l w.heap.size w wr t) (fun _ _ _ i _ => 64 - (intOf i).toNat)
  case atStart => exact ⟨0, by omega, rfl, mix_start s l w⟩
  case round =>
    obtain ⟨t, ht, rfl, hM⟩ := hrel
    by_cases h64 : t < 64
    · have hold := mix_old hM h64
      have hfz := hM.2.2.2.2.free t
      have HS := Lib.hid (mix_step h64 hM)
      by_cases h16 : t < 16
      · have hb := hM.1
        have c0 := (hc.fr (Fr.ofBelow hb) (by omega)) (4 * t) (by omega)
        have c1 := (hc.fr (Fr.ofBelow hb) (by omega)) (4 * t + 1) (by omega)
        have c2 := (hc.fr (Fr.ofBelow hb) (by omega)) (4 * t + 2) (by omega)
        have c3 := (hc.fr (Fr.ofBelow hb) (by omega)) (4 * t + 3) (by omega)
        have hw : wd l t = be (l[4 * t]'(by omega)) (l[4 * t + 1]'(by omega)) (l[4 * t + 2]'(by omega)) (l[4 * t + 3]'(by omega)) := by
          rw [wd_low l t h16]
          simp [first, List.getD_eq_getElem?_getD, show 4 * t < l.length from by omega, show 4 * t + 1 < l.length from by omega, show 4 * t + 2 < l.length from by omega, show 4 * t + 3 < l.length from by omega]
        rw [hw] at HS
        have hx0 := (l[4 * t]'(by omega)).toNat_lt
        have hx1 := (l[4 * t + 1]'(by omega)).toNat_lt
        have hx2 := (l[4 * t + 2]'(by omega)).toNat_lt
        have hx3 := (l[4 * t + 3]'(by omega)).toNat_lt
        clear hb hw hM hT
        go_wp2
        go_region
        go_wp2
        go_roundw
        case rel =>
          refine ⟨t + 1, by omega, by go_num, ?_⟩
          rw [be_int]
          exact HS.out.drew
        case measure => simp [intOf]; omega
      · have c1 := mix_cell hM (t - 15) (by omega)
        have c3 := mix_cell hM (t - 2) (by omega)
        have HM := Lib.hid hM
        clear hM hT hold hfz HS
        go_wp2
        go_quiet (fail)
        go_wp2
        have HM := HM.out.drewN nq
        clear c1 c3
        generalize wr.drewN nq = wr at *
        have c0 := mix_cell HM (t - 16) (by omega)
        have c2 := mix_cell HM (t - 7) (by omega)
        have hold := mix_old HM h64
        have hfz := HM.2.2.2.2.free t
        have HS := Lib.hid (mix_step h64 HM)
        rw [wd_high l t (by omega)] at HS
        have e1 : IntKind.i64.wrap ((t : Int) - 16) = ((t - 16 : Nat) : Int) := by rw [IntWalk.i64_in _ (by omega)]; omega
        have e2 : IntKind.i64.wrap ((t : Int) - 7) = ((t - 7 : Nat) : Int) := by rw [IntWalk.i64_in _ (by omega)]; omega
        have e3 : ((t - 16 : Nat) : Int) < 64 := by omega
        have e4 : ((t - 7 : Nat) : Int) < 64 := by omega
        have e5 : (t : Int) < 64 := by omega
        clear HM
        refine wp_region_still_tail 29 (by kernel_rfl) (by kernel_rfl) ?_
        change wpStill _ _ wr.drew _ _ _
        simp only [List.take_succ_cons, List.take_zero, List.drop_succ_cons, List.drop_zero]
        repeat (first | still_step | still_call (turn_still _ _ _ (by omega) (by omega)))
        refine wpStill_nil ?_
        go_wp2
        go_roundw
        case rel =>
          refine ⟨t + 1, by omega, by go_num, ?_⟩
          rw [sched_int]
          exact HS.out.drew
        case measure => simp [intOf]; omega
    · obtain rfl : t = 64 := by omega
      obtain ⟨g0, g1, g2, g3, g4, g5, g6, g7⟩ := St.cells hM.2.2.1
      have hTr := hT.fr (Fr.ofBelow hM.1) (by have := hT.choose_spec.choose_spec; have := (Array.getElem?_eq_some_iff.1 this).1; omega)
      obtain ⟨tt, tfr, hTb⟩ := hTr
      have HM := Lib.hid hM
      have HT := Lib.hid hTb
      have hglt : 1 < wr.heap.size := (Array.getElem?_eq_some_iff.1 hTb).1
      clear hM hT hTb
      go_wp2_with (with_reducible refine wpList_load_row rfl _ _ rfl 1 rfl tt tabV tfr _ ((Below.heap_alloc _ _ _ hglt).trans HT.out) Tryz.underlying147 rfl (by kernel_rfl) ?_)
      have HR := Lib.hid (rnd_start HM.out)
      clear HM HT g0 g1 g2 g3 g4 g5 g6 g7 hglt
      generalize wr.heap.size = R at *
      go_loopw [10, 11, 12, 13, 95] (fun _ _ _ _ i wq => ∃ t : Nat, t ≤ 64 ∧ i = .int .i64 t ∧ RndRel s l w.heap.size R w wq t) (fun _ _ _ _ i _ => 64 - (intOf i).toNat)
      case atStart => exact ⟨0, by omega, rfl, HR.out⟩
      case round =>
        obtain ⟨t, ht, rfl, hM⟩ := hrel
        by_cases h64 : t < 64
        · obtain ⟨g0, g1, g2, g3, g4, g5, g6, g7⟩ := St.cells hM.2.2.2.2.2.2
          have hfz := hM.2.2.2.2.2.2.free
          have hw := sched_cell hM.2.2.2.2.2.1 t h64
          have hix := fun w => index_tab t h64 w
          have HM := Lib.hid hM
          clear hM
          go_wp2
          go_quiet ((go_at_call 100; exact Calls.quiet_of_same (turn_still _ _ _ (by omega) (by omega))))
          go_wp2
          rw [wx_int]
          have hM := HM.out.drewN nq
          clear HM g0 g1 g2 g3 g4 g5 g6 g7 hfz hw
          generalize wr.drewN nq = wr at *
          obtain ⟨g0, g1, g2, g3, g4, g5, g6, g7⟩ := St.cells hM.2.2.2.2.2.2
          have HM := Lib.hid hM
          clear hM
          go_wp2
          go_quiet ((go_at_call 100; exact Calls.quiet_of_same (turn_still _ _ _ (by omega) (by omega))))
          have hM := HM.out.drewN nq
          clear HM g0 g1 g2 g3 g4 g5 g6 g7
          generalize wr.drewN nq = wr at *
          obtain ⟨g0, g1, g2, g3, g4, g5, g6, g7⟩ := St.cells hM.2.2.2.2.2.2
          have hfz := hM.2.2.2.2.2.2.free
          have HM := Lib.hid hM
          clear hM
          go_wp2
          go_roundw
          case rel =>
            refine ⟨t + 1, by omega, by go_num, ?_⟩
            have := rnd_step HM.out rfl
            rw [wy_int, add_int]
            exact this
          case measure => simp [intOf]; omega
        · obtain rfl : t = 64 := by omega
          have HM := Lib.hid (sum_start hM)
          clear hM HR
          generalize hr : rounds l s 64 = r at *
          have HRD := Lib.hid (mixed_eq s l r hr)
          clear hr
          go_wp2
          go_loopw [14, 182] (fun _ i wq => ∃ t : Nat, t ≤ 8 ∧ i = .int .i64 t ∧ SumRel s r w.heap.size R w wq t) (fun _ i _ => 8 - (intOf i).toNat)
          case atStart => exact ⟨0, by omega, rfl, HM.out⟩
          case round =>
            obtain ⟨t, ht, rfl, hM⟩ := hrel
            by_cases h8 : t < 8
            · have c1 := hM.2.2.2.1.cell (part_cell s r t h8)
              have c2 := hM.2.2.2.2.2.cell (r_cell r t h8)
              have hfz := hM.2.2.2.1.free t
              have HS := Lib.hid (sum_step h8 hM)
              unfold word at c1 c2
              clear hM HM
              go_wp2
              go_region
              go_wp2
              go_roundw
              case rel =>
                refine ⟨t + 1, by omega, by go_num, ?_⟩
                rw [add_int]
                exact HS.out.drew
              case measure => simp [intOf]; omega
            · obtain rfl : t = 8 := by omega
              obtain ⟨g0, g1, g2, g3, g4, g5, g6, g7⟩ := St.cells (s := s.add r) hM.2.2.2.1
              have o0 := hM.2.2.2.2.1.cell (i := 0) rfl
              have o1 := hM.2.2.2.2.1.cell (i := 1) rfl
              have o2 := hM.2.2.2.2.1.cell (i := 2) rfl
              have o3 := hM.2.2.2.2.1.cell (i := 3) rfl
              have o4 := hM.2.2.2.2.1.cell (i := 4) rfl
              have o5 := hM.2.2.2.2.1.cell (i := 5) rfl
              have o6 := hM.2.2.2.2.1.cell (i := 6) rfl
              have o7 := hM.2.2.2.2.1.cell (i := 7) rfl
              have hfz := hM.2.2.2.2.1.free
              have HB := Lib.hid hM.1
              clear hM HM
              go_wp2
              refine bodyPost_ret (v := .agg ((s.add r).l.map word).toArray) (by simp [results, Tryz.results77, go_sem, o0, o1, o2, o3, o4, o5, o6, o7, St.l, word]) rfl ?_
              refine ⟨congrArg (fun z : St => Ending.returned (.agg (z.l.map word).toArray)) HRD.out.symm, ?_⟩
              iterate 8 (refine Below.setCell ?_ (by show w.heap.size ≤ w.heap.size + 1; omega) _)
              exact HB.out
end Go.Proofs.YtmenchnjajpkmaaGreatDoor.ShaW
end
