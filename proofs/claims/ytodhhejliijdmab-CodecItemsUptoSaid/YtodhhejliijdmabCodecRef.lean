/- Walks of the reference's reader: Raw, Said, Get, GetVar, GetText, End. Condition: the bytes are at most 2^47. -/
import Derived.Test.YtodhhejliijdmabCodecN
import Derived.Test.YtodhhejliijdmabCodecBack
import Derived.Laws.ResultCell
import Derived.Deep.RegionHeld3
namespace Go.Proofs.Ytodhhejliijdmab.CodecRef
open Go Go.RowKit Mem Codec CodecW CodecR CodecL CodecN

theorem results_row_tmp {P : Program} {fn : Func} {p u : Tmp} {ty : TypeId} (h : fn.results = #[.cell p ty, .tmp u]) (tmps : Array Value) (w : World) (g : Nat) (t : TypeId) (l : List Value) (d : TypeDesc)
    (hp : tmps.getD p undef = .pointer (some ⟨g, 0, none⟩)) (hB : Blk w g l t) (hu : P.underlying ty = some d) (hd : (match d with | .struct _ | .array _ _ => true | _ => false) = true) (hi : (P.info? ty).map (·.size) = some l.length) :
    (results fn tmps).run P w = .ok (.tuple #[.agg l.toArray, tmps.getD u undef]) w := by
  rw [results_cell_tmp h, hp]
  have ha : (asAddr (.pointer (some ⟨g, 0, none⟩))).run P w = .ok ⟨g, 0, none⟩ w := rfl
  rw [ha]
  simp only [Result.andThen_ok]
  rw [run_loadVar_row w g t ty l.toArray (0, 0) d hB hu hd (by simpa using hi)]
  rfl
theorem Blk.set3 {w : World} {b : Nat} {x y z : Value} {t : TypeId} (h : Blk w b [x, y, z] t) (x' y' z' : Value) : Blk (((w.setCell ⟨b, 0, none⟩ x').setCell ⟨b, 1, none⟩ y').setCell ⟨b, 2, none⟩ z') b [x', y', z'] t :=
  ((h.set 0 x').set 1 y').set 2 z'
/-- the reference's reader as a value -/
abbrev rv (a : Option Addr) (n c : Nat) (at' : Nat) (e : Int) : Value := .agg #[.slice a n c, .int .i64 (at' : Int), .int .i64 e]

set_option maxHeartbeats 4000000 in
set_option maxRecDepth 100000 in
theorem raw_calls (w : World) (a : Option Addr) (c : Nat) (B : List UInt8) (at' : Nat) (e : Int) (n : Int) (hB : Byt Any w (.slice a B.length c) B) (hat : at' ≤ B.length) (hl : B.length ≤ 140737488355328) (h1 : -9223372036854775808 ≤ n) (h2 : n < 9223372036854775808) :
    Calls Try.prog 49 #[rv a B.length c at' e, .int .i64 n] w fun x w' => ∃ v, x = .returned (.tuple #[rv a B.length c (B.length - (Rd.raw ⟨B.drop at', e⟩ n).1.rest.length) (Rd.raw ⟨B.drop at', e⟩ n).1.e, v]) ∧ Byt (fun k => w.heap.size ≤ k) w' v (Rd.raw ⟨B.drop at', e⟩ n).2 ∧ Below w.heap.size w w' := by
  have HB := Lib.hid hB
  clear hB
  have hbl : ∀ (W : World) (o1 o2 : Obj), W = (w.alloc o1).alloc o2 → Below w.heap.size w W := fun W o1 o2 h => by
    rw [h]; exact ((Below.refl _ _).alloc (Nat.le_refl _) _).alloc (by simp) _
  have hbk : ∀ (o1 : Obj) (l : List Value), Blk ((w.alloc o1).alloc (.cells l.toArray 44)) (w.heap.size + 1) l 44 := fun o1 l => by
    have := Blk.new (w.alloc o1) l.toArray 44 l rfl
    rwa [World.size_alloc] at this
  have HBL := Lib.hid hbl
  have HBK := Lib.hid hbk
  clear hbl hbk
  by_cases he : e = 0
  · subst he
    by_cases hn : n < 0
    · have hr : Rd.raw ⟨B.drop at', 0⟩ n = (⟨B.drop at', 112⟩, []) := by unfold Rd.raw; rw [if_pos hn]; rfl
      rw [hr]
      have hz : B.length - (B.drop at').length = at' := by simp; omega
      dsimp only
      rw [hz]
      have HZ := Lib.hid hz
      clear hr hz
      go_enter Try.func49, Try.ntmps49
      go_wp2
      exact bodyPost_ret (results_row_tmp Try.results49 _ _ (w.heap.size + 1) 44 [.slice a B.length c, .int .i64 at', .int .i64 112] _ rfl (HBK.out _ _) Try.underlying44 rfl (by kernel_rfl)) rfl ⟨.slice none 0 0, rfl, Byt.nil _ _, HBL.out _ _ _ rfl⟩
    · obtain ⟨m, rfl⟩ : ∃ m : Nat, n = (m : Int) := ⟨n.toNat, by omega⟩
      have hr0 : Rd.raw ⟨B.drop at', 0⟩ (m : Int) = Rd.take ⟨B.drop at', 0⟩ m := by unfold Rd.raw; rw [if_neg hn, Int.toNat_natCast]
      have hnz : ¬ ((m : Int) < 0) := by omega
      by_cases hs : B.length - at' < m
      · have hr : Rd.raw ⟨B.drop at', 0⟩ (m : Int) = (⟨B.drop at', 110⟩, []) := by
          rw [hr0]; unfold Rd.take; simp [hs]
        rw [hr]
        have hz : B.length - (B.drop at').length = at' := by simp; omega
        dsimp only
        rw [hz]
        clear hr hz hr0
        have hsz : (B.length : Int) - (at' : Int) < (m : Int) := by omega
        go_enter Try.func49, Try.ntmps49
        go_wp2
        exact bodyPost_ret (results_row_tmp Try.results49 _ _ (w.heap.size + 1) 44 [.slice a B.length c, .int .i64 at', .int .i64 110] _ rfl (HBK.out _ _) Try.underlying44 rfl (by kernel_rfl)) rfl ⟨.slice none 0 0, rfl, Byt.nil _ _, HBL.out _ _ _ rfl⟩
      · have hr : Rd.raw ⟨B.drop at', 0⟩ (m : Int) = (⟨(B.drop at').drop m, 0⟩, (B.drop at').take m) := by
          rw [hr0]; unfold Rd.take; simp [hs]
        rw [hr]
        have hz : B.length - ((B.drop at').drop m).length = at' + m := by simp; omega
        have htk : (B.drop at').take m = (B.take (at' + m)).drop at' := by rw [List.take_drop]
        dsimp only
        rw [hz, htk]
        clear hr hz hr0 htk
        have hsz : ¬ ((B.length : Int) - (at' : Int) < (m : Int)) := by omega
        have hb2 : Below w.heap.size w ((w.alloc (.cells #[.slice a B.length c, .int .i64 at', .int .i64 0] 44)).alloc (.cells #[.slice none 0 0, .int .i64 0, .int .i64 0] 44)) := HBL.out _ _ _ rfl
        have hk1 : Blk ((w.alloc (.cells #[.slice a B.length c, .int .i64 at', .int .i64 0] 44)).alloc (.cells #[.slice none 0 0, .int .i64 0, .int .i64 0] 44)) w.heap.size [.slice a B.length c, .int .i64 at', .int .i64 0] 44 := (Blk.new w _ _ _ rfl).alloc _
        have hk2 := HBK.out (.cells #[.slice a B.length c, .int .i64 at', .int .i64 0] 44) [.slice none 0 0, .int .i64 0, .int .i64 0]
        obtain ⟨sa, scap, hs1, _, _, hs4⟩ := run_slice_byt elemB (HB.out.below hb2) at' (at' + m) (by omega) (by omega)
        rw [Nat.add_sub_cancel_left] at hs4
        have hs5 : ∀ (kl kh : IntKind) (w' : World), (Instr.sliceAt 22 (.slice a B.length c) (some (.int kl (at' : Int))) (some (.int kh ((at' : Int) + (m : Int)))) none).run Try.prog w' = .ok (.slice sa m scap) w' := fun kl kh w' => by
          have := hs1 kl kh w'
          rwa [Nat.add_sub_cancel_left, Int.natCast_add] at this
        have hlp : ((B.take (at' + m)).drop at').length = m := by simp; omega
        have HS := Lib.hid hs4
        have HK1 := Lib.hid hk1
        have HK2 := Lib.hid hk2
        have HB2 := Lib.hid hb2
        have hsw : ((w.alloc (.cells #[.slice a B.length c, .int .i64 at', .int .i64 0] 44)).alloc (.cells #[.slice none 0 0, .int .i64 0, .int .i64 0] 44)).heap.size = w.heap.size + 2 := by simp
        clear hs1 hs4 hk1 hk2 hb2
        go_enter Try.func49, Try.ntmps49
        go_upto_region 10 with fail
        generalize ((w.alloc (.cells #[.slice a B.length c, .int .i64 at', .int .i64 0] 44)).alloc (.cells #[.slice none 0 0, .int .i64 0, .int .i64 0] 44)) = W at *
        have c0 := HK1.out.cell (i := 0) rfl
        have c1 := HK1.out.cell (i := 1) rfl
        go_wp2_with (at_builtin; refine wpList_append_byt _ rfl (.tmp 28) (.tmp 37) 22 rfl W.heap.size 5 elemB _ [] rfl (OwnB.nil _ _ _) (.slice sa m scap) ((B.take (at' + m)).drop at') rfl HS.out (by simp; omega) (Nat.le_refl _) ?_)
        intro va vc w3 o1 o2 o3
        have hb3 : Below W.heap.size W w3 := (Below.refl _ _).grown o2 (Nat.le_refl _) (fun k hk => by cases hk)
        have hs3 := hb3.size
        have hk1 := HK1.out.below hb3
        have hk2 := HK2.out.below hb3
        have HB3 := Lib.hid (HB2.out.trans (hb3.mono (by omega)))
        have HV := Lib.hid o1
        have c0 := hk1.cell (i := 0) rfl
        have c1 := hk1.cell (i := 1) rfl
        have c2 := hk1.cell (i := 2) rfl
        have d0 := hk2.cell (i := 0) rfl
        have d1 := hk2.cell (i := 1) rfl
        have d2 := hk2.cell (i := 2) rfl
        have f0 := hk1.free
        have f1 := hk2.free
        have HK2 := Lib.hid hk2
        clear hk1 hk2 hb3 o1 o2 o3 hs5
        go_wp2
        have hfin := Blk.set3 (HK2.out.other (a := ⟨w.heap.size, 1, none⟩) (by show w.heap.size ≠ w.heap.size + 1; omega) (.int .i64 ((at' : Int) + (m : Int)))) (.slice a B.length c) (.int .i64 ((at' : Int) + (m : Int))) (.int .i64 0)
        have hown := (((HV.out.set1 (a := ⟨w.heap.size, 1, none⟩) (by show w.heap.size < w.heap.size + 2; omega) (.int .i64 ((at' : Int) + (m : Int)))).set1 (a := ⟨w.heap.size + 1, 0, none⟩) (by show w.heap.size + 1 < w.heap.size + 2; omega) (.slice a B.length c)).set1 (a := ⟨w.heap.size + 1, 1, none⟩) (by show w.heap.size + 1 < w.heap.size + 2; omega) (.int .i64 ((at' : Int) + (m : Int)))).set1 (a := ⟨w.heap.size + 1, 2, none⟩) (by show w.heap.size + 1 < w.heap.size + 2; omega) (.int .i64 0)
        have hbel := (((HB3.out.setCell (p := ⟨w.heap.size, 1, none⟩) (Nat.le_refl _) (.int .i64 ((at' : Int) + (m : Int)))).setCell (p := ⟨w.heap.size + 1, 0, none⟩) (Nat.le_succ _) (.slice a B.length c)).setCell (p := ⟨w.heap.size + 1, 1, none⟩) (Nat.le_succ _) (.int .i64 ((at' : Int) + (m : Int)))).setCell (p := ⟨w.heap.size + 1, 2, none⟩) (Nat.le_succ _) (.int .i64 0)
        refine bodyPost_ret (results_row_tmp Try.results49 _ _ (w.heap.size + 1) 44 _ _ rfl hfin Try.underlying44 rfl (by kernel_rfl)) rfl ⟨_, rfl, ?_, hbel⟩
        have := hown.byt.mono (E := fun k => w.heap.size ≤ k) (fun k _ h => by have := h.2; omega)
        simpa using this
  · have hne : (e != 0) = true := by simpa using he
    have hr : Rd.raw ⟨B.drop at', e⟩ n = (⟨B.drop at', e⟩, []) := by
      unfold Rd.raw
      split
      · unfold Rd.fail; rw [if_neg he]
      · unfold Rd.take; rw [if_pos he]
    rw [hr]
    have hz : B.length - (B.drop at').length = at' := by simp; omega
    dsimp only
    rw [hz]
    clear hr hz
    go_enter Try.func49, Try.ntmps49
    go_wp2
    exact bodyPost_ret (results_row_tmp Try.results49 _ _ (w.heap.size + 1) 44 [.slice a B.length c, .int .i64 at', .int .i64 e] _ rfl (HBK.out _ _) Try.underlying44 rfl (by kernel_rfl)) rfl ⟨.slice none 0 0, rfl, Byt.nil _ _, HBL.out _ _ _ rfl⟩
theorem said_step2 (y : Nat) (c : UInt8) (_ : y < 18446744073709551616) : IntKind.u64.wrap (IntKind.u64.wrap (256 * (y : Int)) + IntKind.u64.wrap (c.toNat : Int)) = (((256 * y + c.toNat) % 18446744073709551616 : Nat) : Int) := by
  rw [IntKind.wrap_u64, IntKind.wrap_u64, IntKind.wrap_u64]; omega
set_option maxHeartbeats 4000000 in
theorem said_calls (D : Nat → Prop) (w : World) (v : Value) (l : List UInt8) (hB : Byt D w v l) :
    Calls Try.prog 56 #[v] w fun e w' => e = .returned (.int .u64 (said l : Nat)) ∧ w = w' := by
  obtain ⟨a, c, rfl, hk, hx⟩ := id hB
  have HX := Lib.hid hx
  clear hB hx
  go_enter Try.func56, Try.ntmps56
  go_wp2
  go_loop [3, 4] (fun x i => ∃ k : Nat, k ≤ l.length ∧ i = .int .i64 k ∧ x = .int .u64 (said (l.take k) : Nat)) (fun _ i => l.length - (intOf i).toNat)
  case atStart => exact ⟨0, by omega, rfl, rfl⟩
  case round =>
    obtain ⟨k, hk2, rfl, rfl⟩ := hrel
    by_cases hlt : k < l.length
    · obtain ⟨b, off, rfl, _, hly⟩ := HX.out.resolve_left (by rintro rfl; simp at hlt)
      have c0 := hly k hlt
      have hsn : said (l.take (k + 1)) = (256 * said (l.take k) + (l[k]'hlt).toNat) % 18446744073709551616 := by
        rw [List.take_add_one, List.getElem?_eq_getElem hlt]; exact said_snoc _ _
      have hsl := said_lt (l.take k)
      have HSN := Lib.hid hsn
      clear hly hsn
      generalize said (l.take k) = y at *
      generalize l[k] = cc at *
      have HST := Lib.hid (said_step2 y cc hsl)
      have hkm : k + 1 ≤ 9223372036854775807 := by
        have h1 := hk.1
        have h2 := hk.2.1
        unfold maxLen at h2
        omega
      go_wp2
      go_round
      case rel => exact ⟨k + 1, by omega, by go_num, by rw [HSN.out, ← HST.out]⟩
      case measure => simp [intOf]; omega
    · obtain rfl : k = l.length := by omega
      go_wp2
      go_ret
      exact ⟨rfl, rfl⟩
theorem Rd.take_suf (r : Rd) (n : Nat) : ∃ k, (r.take n).1.rest = r.rest.drop k := by
  unfold Rd.take
  split
  · exact ⟨0, by simp⟩
  · split
    · exact ⟨0, by simp⟩
    · exact ⟨n, rfl⟩
theorem suf_at {B l : List UInt8} {at' : Nat} (h : ∃ k, l = (B.drop at').drop k) (_ : at' ≤ B.length) : l = B.drop (B.length - l.length) ∧ B.length - l.length ≤ B.length ∧ at' ≤ B.length - l.length := by
  obtain ⟨k, rfl⟩ := h
  refine ⟨?_, Nat.sub_le _ _, by simp; omega⟩
  rw [List.drop_drop]
  by_cases hk : at' + k ≤ B.length
  · rw [show B.length - (B.drop (at' + k)).length = at' + k by simp; omega]
  · rw [List.drop_eq_nil_of_le (by omega)]; simp
set_option maxHeartbeats 4000000 in
set_option maxRecDepth 100000 in
theorem get_calls (w : World) (a : Option Addr) (c : Nat) (B : List UInt8) (at' : Nat) (e : Int) (k : Nat) (hB : Byt Any w (.slice a B.length c) B) (hat : at' ≤ B.length) (hl : B.length ≤ 140737488355328) (hk : k ≤ 8) :
    Calls Try.prog 45 #[rv a B.length c at' e, .int .i64 k] w fun x w' => x = .returned (.tuple #[rv a B.length c (B.length - (Rd.num ⟨B.drop at', e⟩ k).1.rest.length) (Rd.num ⟨B.drop at', e⟩ k).1.e, .int .u64 ((Rd.num ⟨B.drop at', e⟩ k).2 : Int)]) ∧ Below w.heap.size w w' := by
  have hr : Rd.raw ⟨B.drop at', e⟩ (k : Int) = Rd.take ⟨B.drop at', e⟩ k := by unfold Rd.raw; rw [if_neg (by omega), Int.toNat_natCast]
  have hb2 : Below w.heap.size w ((w.alloc (.cells #[.slice a B.length c, .int .i64 at', .int .i64 e] 44)).alloc (.cells #[.slice none 0 0, .int .i64 0, .int .i64 0] 44)) := ((Below.refl _ _).alloc (Nat.le_refl _) _).alloc (by simp) _
  have hk1 : Blk ((w.alloc (.cells #[.slice a B.length c, .int .i64 at', .int .i64 e] 44)).alloc (.cells #[.slice none 0 0, .int .i64 0, .int .i64 0] 44)) w.heap.size [.slice a B.length c, .int .i64 at', .int .i64 e] 44 := (Blk.new w _ _ _ rfl).alloc _
  have hk2 : Blk ((w.alloc (.cells #[.slice a B.length c, .int .i64 at', .int .i64 e] 44)).alloc (.cells #[.slice none 0 0, .int .i64 0, .int .i64 0] 44)) (w.heap.size + 1) [.slice none 0 0, .int .i64 0, .int .i64 0] 44 := by
    have := Blk.new (w.alloc (.cells #[.slice a B.length c, .int .i64 at', .int .i64 e] 44)) #[.slice none 0 0, .int .i64 0, .int .i64 0] 44 [.slice none 0 0, .int .i64 0, .int .i64 0] rfl
    rwa [World.size_alloc] at this
  have hsw : ((w.alloc (.cells #[.slice a B.length c, .int .i64 at', .int .i64 e] 44)).alloc (.cells #[.slice none 0 0, .int .i64 0, .int .i64 0] 44)).heap.size = w.heap.size + 2 := by simp
  have HB := Lib.hid (hB.below hb2)
  clear hB
  go_enter Try.func45, Try.ntmps45
  go_upto_region 1 with fail
  generalize ((w.alloc (.cells #[.slice a B.length c, .int .i64 at', .int .i64 e] 44)).alloc (.cells #[.slice none 0 0, .int .i64 0, .int .i64 0] 44)) = W at *
  have c0 := hk1.cell (i := 0) rfl
  have c1 := hk1.cell (i := 1) rfl
  have c2 := hk1.cell (i := 2) rfl
  have HK1 := Lib.hid hk1
  have HK2 := Lib.hid hk2
  have HB2 := Lib.hid hb2
  clear hk1 hk2 hb2
  go_wp2_with fail
  refine (raw_calls W a c B at' e k HB.out hat hl (by omega) (by omega)).mono ?_
  rintro x w3 ⟨v, rfl, g1, g2⟩
  rw [hr] at g1 ⊢
  have hnum : Rd.num ⟨B.drop at', e⟩ k = ((Rd.take ⟨B.drop at', e⟩ k).1, said (Rd.take ⟨B.drop at', e⟩ k).2) := rfl
  have HN := Lib.hid hnum
  clear hnum hr
  generalize Rd.take ⟨B.drop at', e⟩ k = y at *
  obtain ⟨⟨l, e2⟩, got⟩ := y
  dsimp only at g1 ⊢
  have hk1 := HK1.out.below g2
  have hk2 := HK2.out.below g2
  have HG := Lib.hid g1
  have HB3 := Lib.hid (HB2.out.trans (g2.mono (by omega)))
  have c0 := hk1.cell (i := 0) rfl
  have c1 := hk1.cell (i := 1) rfl
  have c2 := hk1.cell (i := 2) rfl
  have d0 := hk2.cell (i := 0) rfl
  have d1 := hk2.cell (i := 1) rfl
  have d2 := hk2.cell (i := 2) rfl
  have f0 := hk1.free
  have f1 := hk2.free
  have hs3 := g2.size
  have HK1 := Lib.hid hk1
  have HK2 := Lib.hid hk2
  obtain ⟨ga, gc, rfl, _⟩ := id g1
  obtain ⟨z, hz⟩ : ∃ z, B.length - l.length = z := ⟨_, rfl⟩
  rw [hz]
  have HZ := Lib.hid hz
  clear hk1 hk2 g1 g2 hz
  go_upto_region 2 with fail
  have hk14 := Blk.set3 HK1.out (.slice a B.length c) (.int .i64 (z : Int)) (.int .i64 e2)
  have hk24 := ((HK2.out.other (a := ⟨w.heap.size, 0, none⟩) (by show w.heap.size ≠ w.heap.size + 1; omega) (.slice a B.length c)).other (a := ⟨w.heap.size, 1, none⟩) (by show w.heap.size ≠ w.heap.size + 1; omega) (.int .i64 (z : Int))).other (a := ⟨w.heap.size, 2, none⟩) (by show w.heap.size ≠ w.heap.size + 1; omega) (.int .i64 e2)
  have hf4 : Fr (fun k => k = w.heap.size) w3 (((w3.setCell ⟨w.heap.size, 0, none⟩ (.slice a B.length c)).setCell ⟨w.heap.size, 1, none⟩ (.int .i64 (z : Int))).setCell ⟨w.heap.size, 2, none⟩ (.int .i64 e2)) := (((Fr.refl (fun k => k = w.heap.size) w3).setCell (p := ⟨w.heap.size, 0, none⟩) (.inr rfl) _).setCell (p := ⟨w.heap.size, 1, none⟩) (.inr rfl) _).setCell (p := ⟨w.heap.size, 2, none⟩) (.inr rfl) _
  have HB4 := Lib.hid (HB3.out.trans (hf4.below (Nat.le_trans (by omega) hs3) (fun k h => by omega)))
  have hg4 := HG.out.fr hf4 (fun k _ h1 h2 => by omega)
  have hs4 := hf4.size
  generalize (((w3.setCell ⟨w.heap.size, 0, none⟩ (.slice a B.length c)).setCell ⟨w.heap.size, 1, none⟩ (.int .i64 (z : Int))).setCell ⟨w.heap.size, 2, none⟩ (.int .i64 e2)) = w4 at *
  have c0 := hk14.cell (i := 0) rfl
  have c1 := hk14.cell (i := 1) rfl
  have c2 := hk14.cell (i := 2) rfl
  have d0 := hk24.cell (i := 0) rfl
  have d1 := hk24.cell (i := 1) rfl
  have d2 := hk24.cell (i := 2) rfl
  have f1 := hk24.free
  have HK24 := Lib.hid hk24
  have hsd := said_calls _ w4.drew _ got hg4.drew
  have HSD := Lib.hid hsd
  clear hk14 hk24 hf4 hg4 hsd f0 HK1 HK2 HG
  go_region_law (go_simp; go_at_call 56; refine HSD.out.mono ?_; rintro x wz ⟨rfl, rfl⟩)
  all_goals go_wp2
  all_goals
    rw [HN.out]
    dsimp only
    rw [HZ.out]
    exact bodyPost_ret (results_row_tmp Try.results45 _ _ (w.heap.size + 1) 44 _ _ rfl (Blk.set3 HK24.out (.slice a B.length c) (.int .i64 (z : Int)) (.int .i64 e2)).drew Try.underlying44 rfl (by kernel_rfl)) rfl
      ⟨rfl, (((HB4.out.setCell (p := ⟨w.heap.size + 1, 0, none⟩) (Nat.le_succ _) (.slice a B.length c)).setCell (p := ⟨w.heap.size + 1, 1, none⟩) (Nat.le_succ _) (.int .i64 (z : Int))).setCell (p := ⟨w.heap.size + 1, 2, none⟩) (Nat.le_succ _) (.int .i64 e2)).drew⟩
theorem Rd.num_suf (r : Rd) (n : Nat) : ∃ k, (r.num n).1.rest = r.rest.drop k := Rd.take_suf r n
/-- the two blocks that a reference's reading function makes, and the world behind them -/
theorem two_blk (w : World) (l : List Value) : Blk ((w.alloc (.cells l.toArray 44)).alloc (.cells #[.slice none 0 0, .int .i64 0, .int .i64 0] 44)) w.heap.size l 44 ∧
    Blk ((w.alloc (.cells l.toArray 44)).alloc (.cells #[.slice none 0 0, .int .i64 0, .int .i64 0] 44)) (w.heap.size + 1) [.slice none 0 0, .int .i64 0, .int .i64 0] 44 ∧
    Below w.heap.size w ((w.alloc (.cells l.toArray 44)).alloc (.cells #[.slice none 0 0, .int .i64 0, .int .i64 0] 44)) ∧
    ((w.alloc (.cells l.toArray 44)).alloc (.cells #[.slice none 0 0, .int .i64 0, .int .i64 0] 44)).heap.size = w.heap.size + 2 := by
  refine ⟨(Blk.new w _ _ _ rfl).alloc _, ?_, ((Below.refl _ _).alloc (Nat.le_refl _) _).alloc (by simp) _, by simp⟩
  have := Blk.new (w.alloc (.cells l.toArray 44)) #[.slice none 0 0, .int .i64 0, .int .i64 0] 44 [.slice none 0 0, .int .i64 0, .int .i64 0] rfl
  rwa [World.size_alloc] at this
/-- what GetVar keeps: its reader's block, its result's, the new reader's -/
def GV (w : World) (a : Option Addr) (c : Nat) (B : List UInt8) (at' : Nat) (e : Int) (p : Nat) (s : Rd) (wx : World) : Prop :=
  Blk wx w.heap.size [.slice a B.length c, .int .i64 (at' : Int), .int .i64 e] 44 ∧ Blk wx (w.heap.size + 1) [.slice none 0 0, .int .i64 0, .int .i64 0] 44 ∧
    Blk wx p [.slice a B.length c, .int .i64 ((B.length - s.rest.length : Nat) : Int), .int .i64 s.e] 44 ∧ Below w.heap.size w wx ∧ w.heap.size + 1 < p

theorem GV.below {w : World} {a : Option Addr} {c : Nat} {B : List UInt8} {at' : Nat} {e : Int} {p : Nat} {s : Rd} {wx wy : World} (h : GV w a c B at' e p s wx) (hb : Below wx.heap.size wx wy) : GV w a c B at' e p s wy :=
  ⟨h.1.below hb, h.2.1.below hb, h.2.2.1.below hb, h.2.2.2.1.trans (hb.mono h.2.2.2.1.size), h.2.2.2.2⟩
theorem GV.set {w : World} {a : Option Addr} {c : Nat} {B : List UInt8} {at' : Nat} {e : Int} {p : Nat} {s : Rd} {wx : World} (h : GV w a c B at' e p s wx) (s2 : Rd) :
    GV w a c B at' e p s2 (((wx.setCell ⟨p, 0, none⟩ (.slice a B.length c)).setCell ⟨p, 1, none⟩ (.int .i64 ((B.length - s2.rest.length : Nat) : Int))).setCell ⟨p, 2, none⟩ (.int .i64 s2.e)) := by
  obtain ⟨h1, h2, h3, h4, h5⟩ := h
  refine ⟨?_, ?_, Blk.set3 h3 _ _ _, ?_, h5⟩
  · exact ((h1.other (a := ⟨p, 0, none⟩) (by show p ≠ w.heap.size; omega) _).other (a := ⟨p, 1, none⟩) (by show p ≠ w.heap.size; omega) _).other (a := ⟨p, 2, none⟩) (by show p ≠ w.heap.size; omega) _
  · exact ((h2.other (a := ⟨p, 0, none⟩) (by show p ≠ w.heap.size + 1; omega) _).other (a := ⟨p, 1, none⟩) (by show p ≠ w.heap.size + 1; omega) _).other (a := ⟨p, 2, none⟩) (by show p ≠ w.heap.size + 1; omega) _
  · exact ((h4.setCell (p := ⟨p, 0, none⟩) (by show w.heap.size ≤ p; omega) _).setCell (p := ⟨p, 1, none⟩) (by show w.heap.size ≤ p; omega) _).setCell (p := ⟨p, 2, none⟩) (by show w.heap.size ≤ p; omega) _
theorem GV.ret {w : World} {a : Option Addr} {c : Nat} {B : List UInt8} {at' : Nat} {e : Int} {p : Nat} {s : Rd} {wx : World} (h : GV w a c B at' e p s wx) (ee : Int) :
    Blk ((((wx.setCell ⟨w.heap.size, 2, none⟩ (.int .i64 ee)).setCell ⟨w.heap.size + 1, 0, none⟩ (.slice a B.length c)).setCell ⟨w.heap.size + 1, 1, none⟩ (.int .i64 (at' : Int))).setCell ⟨w.heap.size + 1, 2, none⟩ (.int .i64 ee)) (w.heap.size + 1) [.slice a B.length c, .int .i64 (at' : Int), .int .i64 ee] 44 ∧
    Below w.heap.size w ((((wx.setCell ⟨w.heap.size, 2, none⟩ (.int .i64 ee)).setCell ⟨w.heap.size + 1, 0, none⟩ (.slice a B.length c)).setCell ⟨w.heap.size + 1, 1, none⟩ (.int .i64 (at' : Int))).setCell ⟨w.heap.size + 1, 2, none⟩ (.int .i64 ee)) :=
  ⟨Blk.set3 (h.2.1.other (a := ⟨w.heap.size, 2, none⟩) (by show w.heap.size ≠ w.heap.size + 1; omega) _) _ _ _, (((h.2.2.2.1.setCell (p := ⟨w.heap.size, 2, none⟩) (Nat.le_refl _) _).setCell (p := ⟨w.heap.size + 1, 0, none⟩) (Nat.le_succ _) _).setCell (p := ⟨w.heap.size + 1, 1, none⟩) (Nat.le_succ _) _).setCell (p := ⟨w.heap.size + 1, 2, none⟩) (Nat.le_succ _) _⟩
theorem GV.ok {w : World} {a : Option Addr} {c : Nat} {B : List UInt8} {at' : Nat} {e : Int} {p : Nat} {s : Rd} {wx : World} (h : GV w a c B at' e p s wx) (z ee : Int) :
    Blk (((wx.setCell ⟨w.heap.size + 1, 0, none⟩ (.slice a B.length c)).setCell ⟨w.heap.size + 1, 1, none⟩ (.int .i64 z)).setCell ⟨w.heap.size + 1, 2, none⟩ (.int .i64 ee)) (w.heap.size + 1) [.slice a B.length c, .int .i64 z, .int .i64 ee] 44 ∧
    Below w.heap.size w (((wx.setCell ⟨w.heap.size + 1, 0, none⟩ (.slice a B.length c)).setCell ⟨w.heap.size + 1, 1, none⟩ (.int .i64 z)).setCell ⟨w.heap.size + 1, 2, none⟩ (.int .i64 ee)) :=
  ⟨Blk.set3 h.2.1 _ _ _, ((h.2.2.2.1.setCell (p := ⟨w.heap.size + 1, 0, none⟩) (Nat.le_succ _) _).setCell (p := ⟨w.heap.size + 1, 1, none⟩) (Nat.le_succ _) _).setCell (p := ⟨w.heap.size + 1, 2, none⟩) (Nat.le_succ _) _⟩
set_option maxHeartbeats 4000000 in
set_option maxRecDepth 100000 in
theorem getvar_calls (w : World) (a : Option Addr) (c : Nat) (B : List UInt8) (at' : Nat) (e : Int) (most : Nat) (neg : Bool) (hB : Byt Any w (.slice a B.length c) B) (hat : at' ≤ B.length) (hl : B.length ≤ 140737488355328) (_ : most < 18446744073709551616) :
    Calls Try.prog 48 #[rv a B.length c at' e, .int .u64 most, .bool neg] w fun x w' => x = .returned (.tuple #[rv a B.length c (B.length - (Rd.rvar ⟨B.drop at', e⟩ most neg).1.rest.length) (Rd.rvar ⟨B.drop at', e⟩ most neg).1.e, .int .u64 ((Rd.rvar ⟨B.drop at', e⟩ most neg).2 : Int)]) ∧ Below w.heap.size w w' := by
  obtain ⟨hk1, hk2, hb2, hsw⟩ := two_blk w [.slice a B.length c, .int .i64 (at' : Int), .int .i64 e]
  have HB0 := Lib.hid hB
  clear hB
  go_enter Try.func48, Try.ntmps48
  go_upto_region 1 with fail
  generalize ((w.alloc (.cells [.slice a B.length c, .int .i64 (at' : Int), .int .i64 e].toArray 44)).alloc (.cells #[.slice none 0 0, .int .i64 0, .int .i64 0] 44)) = W at *
  have c0 := hk1.cell (i := 0) rfl
  have c1 := hk1.cell (i := 1) rfl
  have c2 := hk1.cell (i := 2) rfl
  have HK1 := Lib.hid hk1
  have HK2 := Lib.hid hk2
  have HB2 := Lib.hid hb2
  clear hk1 hk2 hb2
  go_wp2_with fail
  refine (get_calls W a c B at' e 1 (HB0.out.below HB2.out) hat hl (by omega)).mono ?_
  rintro x w3 ⟨rfl, g2⟩
  obtain ⟨y, hy⟩ : ∃ y, Rd.num ⟨B.drop at', e⟩ 1 = y := ⟨_, rfl⟩
  have hsuf := Rd.num_suf ⟨B.drop at', e⟩ 1
  have hnz := @Rd.num_zero ⟨B.drop at', e⟩ 1
  have hc1 := num1_lt ⟨B.drop at', e⟩
  rw [hy] at hsuf hnz hc1 ⊢
  obtain ⟨s1, cc⟩ := y
  dsimp only at hsuf hnz hc1 ⊢
  have HY := Lib.hid hy
  have hsa := suf_at hsuf hat
  have HSA := Lib.hid hsa
  have HNZ := Lib.hid hnz
  have hs3 := g2.size
  have HG := Lib.hid (show GV w a c B at' e w3.heap.size s1 (w3.alloc (.cells [.slice a B.length c, .int .i64 ((B.length - s1.rest.length : Nat) : Int), .int .i64 s1.e].toArray 44)) from
    ⟨(HK1.out.below g2).alloc _, (HK2.out.below g2).alloc _, Blk.new w3 _ _ _ rfl, (HB2.out.trans (g2.mono (by omega))).alloc (by omega) _, by omega⟩)
  obtain ⟨z1, hz1⟩ : ∃ z1, B.length - s1.rest.length = z1 := ⟨_, rfl⟩
  rw [hz1] at HG ⊢
  have HZ1 := Lib.hid hz1
  clear hy hsuf hnz hsa hz1 g2 c0 c1 c2
  go_upto_region 3 with fail
  generalize (w3.alloc (.cells [.slice a B.length c, .int .i64 (z1 : Int), .int .i64 s1.e].toArray 44)) = w4 at *
  generalize w3.heap.size = p at *
  go_cut [24] (fun b wx => b = .bool (decide (253 ≤ cc)) ∧ wx = w4)
  case first =>
    have k8 := HG.out.2.2.1.cell (i := 2) rfl
    by_cases hc : 253 ≤ cc
    · have he1 : s1.e = 0 := HNZ.out (by omega)
      rw [he1] at k8
      have hci : (253 : Int) ≤ (cc : Int) := by omega
      go_wp2_with fail
      go_meet
      case rel => exact ⟨by rw [decide_eq_true hc], rfl⟩
    · by_cases he1 : s1.e = 0
      · rw [he1] at k8
        have hci : ¬ ((253 : Int) ≤ (cc : Int)) := by omega
        go_wp2_with fail
        go_meet
        case rel => exact ⟨by rw [decide_eq_false hc], rfl⟩
      · have hci : (s1.e == 0) = false := by simpa using he1
        go_wp2_with fail
        go_meet
        case rel => exact ⟨by rw [decide_eq_false hc], rfl⟩
  case rest =>
    obtain ⟨rfl, rfl⟩ := hcut
    have HEQ := Lib.hid (show (⟨B.drop z1, s1.e⟩ : Rd) = s1 by rw [← HZ1.out, ← HSA.out.1])
    go_upto_if 24 with fail
    go_cut [10] (fun x wx => ∃ (s : Rd) (nn least : Nat), x = .int .u64 nn ∧ s1.more cc = (s, nn, least) ∧ nn < 18446744073709551616 ∧ (∃ k, s.rest = s1.rest.drop k) ∧ GV w a c B at' e p s wx)
    case first =>
      by_cases h253 : cc = 253
      · subst h253
        obtain ⟨x0, x1, x2, x3, x4⟩ := HG.out
        rw [HZ1.out] at x2
        have d0 := x2.cell (i := 0) rfl
        have d1 := x2.cell (i := 1) rfl
        have d2 := x2.cell (i := 2) rfl
        have HX3 := Lib.hid x3
        clear x0 x1 x2 x3
        go_wp2_with fail
        refine (get_calls wc a c B z1 s1.e 2 (HB0.out.below HX3.out) (by have := HSA.out.2.1; have := HZ1.out; omega) hl (by omega)).mono ?_
        rintro x w6 ⟨rfl, g2⟩
        rw [HEQ.out]
        have HG6 := Lib.hid (HG.out.below g2)
        have hsuf := Rd.num_suf s1 2
        have HSUF := Lib.hid hsuf
        have hnl := num_lt s1 2
        have HM := Lib.hid (show s1.more 253 = ((s1.num 2).1, (s1.num 2).2, 253) from rfl)
        obtain ⟨⟨s2, n2⟩, hy2⟩ : ∃ y, s1.num 2 = y := ⟨_, rfl⟩
        rw [hy2] at hnl HSUF HM ⊢
        dsimp only at hnl ⊢
        have d0 := HG6.out.2.2.1.cell (i := 0) rfl
        have d1 := HG6.out.2.2.1.cell (i := 1) rfl
        have d2 := HG6.out.2.2.1.cell (i := 2) rfl
        have f8 := HG6.out.2.2.1.free
        have HG7 := Lib.hid (HG6.out.set s2)
        obtain ⟨z2, hz2⟩ : ∃ z2, B.length - s2.rest.length = z2 := ⟨_, rfl⟩
        rw [hz2] at HG7 ⊢
        clear g2 hsuf hy2 hz2
        go_wp2_with fail
        go_meet
        case rel => exact ⟨s2, n2, 253, rfl, HM.out, hnl, HSUF.out, HG7.out⟩
      by_cases h254 : cc = 254
      · subst h254
        obtain ⟨x0, x1, x2, x3, x4⟩ := HG.out
        rw [HZ1.out] at x2
        have d0 := x2.cell (i := 0) rfl
        have d1 := x2.cell (i := 1) rfl
        have d2 := x2.cell (i := 2) rfl
        have HX3 := Lib.hid x3
        clear x0 x1 x2 x3
        go_wp2_with fail
        refine (get_calls wc a c B z1 s1.e 4 (HB0.out.below HX3.out) (by have := HSA.out.2.1; have := HZ1.out; omega) hl (by omega)).mono ?_
        rintro x w6 ⟨rfl, g2⟩
        rw [HEQ.out]
        have HG6 := Lib.hid (HG.out.below g2)
        have hsuf := Rd.num_suf s1 4
        have HSUF := Lib.hid hsuf
        have hnl := num_lt s1 4
        have HM := Lib.hid (show s1.more 254 = ((s1.num 4).1, (s1.num 4).2, 65536) from rfl)
        obtain ⟨⟨s2, n2⟩, hy2⟩ : ∃ y, s1.num 4 = y := ⟨_, rfl⟩
        rw [hy2] at hnl HSUF HM ⊢
        dsimp only at hnl ⊢
        have d0 := HG6.out.2.2.1.cell (i := 0) rfl
        have d1 := HG6.out.2.2.1.cell (i := 1) rfl
        have d2 := HG6.out.2.2.1.cell (i := 2) rfl
        have f8 := HG6.out.2.2.1.free
        have HG7 := Lib.hid (HG6.out.set s2)
        obtain ⟨z2, hz2⟩ : ∃ z2, B.length - s2.rest.length = z2 := ⟨_, rfl⟩
        rw [hz2] at HG7 ⊢
        clear g2 hsuf hy2 hz2
        go_wp2_with fail
        go_meet
        case rel => exact ⟨s2, n2, 65536, rfl, HM.out, hnl, HSUF.out, HG7.out⟩
      by_cases h255 : cc = 255
      · subst h255
        obtain ⟨x0, x1, x2, x3, x4⟩ := HG.out
        rw [HZ1.out] at x2
        have d0 := x2.cell (i := 0) rfl
        have d1 := x2.cell (i := 1) rfl
        have d2 := x2.cell (i := 2) rfl
        have HX3 := Lib.hid x3
        clear x0 x1 x2 x3
        go_wp2_with fail
        refine (get_calls wc a c B z1 s1.e 8 (HB0.out.below HX3.out) (by have := HSA.out.2.1; have := HZ1.out; omega) hl (by omega)).mono ?_
        rintro x w6 ⟨rfl, g2⟩
        rw [HEQ.out]
        have HG6 := Lib.hid (HG.out.below g2)
        have hsuf := Rd.num_suf s1 8
        have HSUF := Lib.hid hsuf
        have hnl := num_lt s1 8
        have HM := Lib.hid (show s1.more 255 = ((s1.num 8).1, (s1.num 8).2, 4294967296) from rfl)
        obtain ⟨⟨s2, n2⟩, hy2⟩ : ∃ y, s1.num 8 = y := ⟨_, rfl⟩
        rw [hy2] at hnl HSUF HM ⊢
        dsimp only at hnl ⊢
        have d0 := HG6.out.2.2.1.cell (i := 0) rfl
        have d1 := HG6.out.2.2.1.cell (i := 1) rfl
        have d2 := HG6.out.2.2.1.cell (i := 2) rfl
        have f8 := HG6.out.2.2.1.free
        have HG7 := Lib.hid (HG6.out.set s2)
        obtain ⟨z2, hz2⟩ : ∃ z2, B.length - s2.rest.length = z2 := ⟨_, rfl⟩
        rw [hz2] at HG7 ⊢
        clear g2 hsuf hy2 hz2
        go_wp2_with fail
        go_meet
        case rel => exact ⟨s2, n2, 4294967296, rfl, HM.out, hnl, HSUF.out, HG7.out⟩
      have hd : decide (253 ≤ cc) = false := decide_eq_false (by omega)
      have HM := Lib.hid (show s1.more cc = (s1, cc, 0) by unfold Rd.more; rw [if_neg h253, if_neg h254, if_neg h255])
      go_wp2_with fail
      go_meet
      case rel => exact ⟨s1, cc, 0, rfl, HM.out, by omega, ⟨0, by simp⟩, HG.out⟩
    case rest =>
      obtain ⟨s, nn, least, rfl, hmm, hnn, hsf, hg⟩ := hcut
      have hst := suf_at (B := B) (l := s.rest) (at' := z1) (by obtain ⟨k, hk⟩ := hsf; exact ⟨k, by rw [hk, HSA.out.1, HZ1.out]⟩) (by have := HSA.out.2.1; have := HZ1.out; omega)
      have hrv : Rd.rvar ⟨B.drop at', e⟩ most neg = if s.e ≠ 0 then (⟨B.drop at', s.e⟩, 0) else if nn < least then (⟨B.drop at', 111⟩, 0) else if neg = true ∨ most < nn then (⟨B.drop at', 112⟩, 0) else (s, nn) := by
        unfold Rd.rvar
        rw [HY.out]
        dsimp only
        rw [hmm]
      have hlen : s.e = 0 → ((vlen nn ≠ (B.drop at').length - s.rest.length) = (nn < least)) := fun h => by
        have := @Rd.more_len_eq ⟨B.drop at', e⟩
        rw [HY.out] at this
        dsimp only at this
        rw [hmm] at this
        exact this h
      have hz0 : B.length - (B.drop at').length = at' := by simp; omega
      have HRV := Lib.hid hrv
      have HLEN := Lib.hid hlen
      have HZ0 := Lib.hid hz0
      have HG := Lib.hid hg
      have hzs : at' ≤ B.length - s.rest.length := by have h1 := HSA.out.2.2; have h2 := hst.2.2; have h3 := HZ1.out; omega
      have hzl : B.length - s.rest.length ≤ B.length := Nat.sub_le _ _
      clear hmm hsf hg hrv hlen hz0 hst
      obtain ⟨x0, x1, x2, x3, x4⟩ := HG.out
      obtain ⟨z2, hz2⟩ : ∃ z2, B.length - s.rest.length = z2 := ⟨_, rfl⟩
      rw [hz2] at x2 hzs hzl
      have HZ2 := Lib.hid hz2
      have hsw := x3.size
      have c0 := x0.cell (i := 0) rfl
      have c1 := x0.cell (i := 1) rfl
      have c2 := x0.cell (i := 2) rfl
      have d0 := x1.cell (i := 0) rfl
      have d1 := x1.cell (i := 1) rfl
      have d2 := x1.cell (i := 2) rfl
      have k1 := x2.cell (i := 1) rfl
      have k2 := x2.cell (i := 2) rfl
      have f0 := x0.free
      have f1 := x1.free
      have X1 := Lib.hid x1
      have X3 := Lib.hid x3
      clear x0 x1 x2 x3 hz2
      by_cases hse : s.e = 0
      · rw [hse] at k2
        have hvl : ((var nn).length : Int) = (vlen nn : Int) := by rw [var_length]
        have hln := HLEN.out hse
        have hne : ((vlen nn : Int) != (z2 : Int) - (at' : Int)) = decide (nn < least) := by
          have h1 : (B.drop at').length - s.rest.length = z2 - at' := by
            have h1 := HZ2.out; have h2 := HZ0.out
            simp at h2 ⊢; omega
          rw [h1] at hln
          rw [Bool.eq_iff_iff, bne_iff_ne, decide_eq_true_iff, ← hln]
          omega
        have HNE := Lib.hid hne
        have hbd : Below wc.heap.size wc wc.drew := (Below.refl _ wc).drew
        have k1d : wc.drew.cell? ⟨p, 1, none⟩ = some (.int .i64 (z2 : Int)) := k1
        have c1d : wc.drew.cell? ⟨w.heap.size, 1, none⟩ = some (.int .i64 (at' : Int)) := c1
        have hva : ∀ wx : World, wx.cell? ⟨p, 1, none⟩ = some (.int .i64 (z2 : Int)) → wx.cell? ⟨w.heap.size, 1, none⟩ = some (.int .i64 (at' : Int)) → Below wc.heap.size wc wx → Calls Try.prog 28 #[.int .u64 nn] wx fun x w' => ∃ va vc, x = .returned (.slice va (vlen nn) vc) ∧ w'.cell? ⟨p, 1, none⟩ = some (.int .i64 (z2 : Int)) ∧ w'.cell? ⟨w.heap.size, 1, none⟩ = some (.int .i64 (at' : Int)) ∧ Below wc.heap.size wc w' := fun wx h1 h2 h3 =>
          (ref_var_calls wx nn hnn).mono fun x w' h => by
            obtain ⟨v, rfl, g1, g2⟩ := h
            obtain ⟨va, vc, rfl, _⟩ := id g1.byt
            refine ⟨va, vc, by rw [var_length], ?_, ?_, h3.trans (g2.mono h3.size)⟩
            · exact (World.cell?_of_block (w := wx) (g2.block p (World.block_lt_of_cell? wx _ h1))).trans h1
            · exact (World.cell?_of_block (w := wx) (g2.block w.heap.size (World.block_lt_of_cell? wx _ h2))).trans h2
        have HVA := Lib.hid hva
        clear hva hvl hln hne
        go_upto_region 13 with fail
        go_cut [50] (fun b wx => b = .bool (decide (nn < least)) ∧ Below wc.heap.size wc wx)
        case first =>
          go_region_held3 (fun w' => w'.cell? ⟨p, 1, none⟩ = some (.int .i64 (z2 : Int)) ∧ w'.cell? ⟨w.heap.size, 1, none⟩ = some (.int .i64 (at' : Int)) ∧ Below wc.heap.size wc w')
            (first | exact ⟨by assumption, by assumption, by assumption⟩)
            (first | (go_at_call 28; refine (HVA.out _ (by assumption) (by assumption) (by assumption)).mono ?_; rintro x wv ⟨va, vc, rfl, q1, q2, q3⟩))
          all_goals go_wp2_with fail
          all_goals go_meet
          case rel => exact ⟨by rw [← HNE.out, show IntKind.i64.wrap ((z2 : Int) - (at' : Int)) = (z2 : Int) - (at' : Int) from by rw [IntKind.wrap_i64]; omega], q3⟩
        case rest =>
          obtain ⟨rfl, hbx⟩ := hcut
          have HG2 := Lib.hid (HG.out.below hbx)
          obtain ⟨x0, x1, x2, x3, x4⟩ := HG2.out
          rw [HZ2.out, hse] at x2
          have c0 := x0.cell (i := 0) rfl
          have c1 := x0.cell (i := 1) rfl
          have c2 := x0.cell (i := 2) rfl
          have d0 := x1.cell (i := 0) rfl
          have d1 := x1.cell (i := 1) rfl
          have d2 := x1.cell (i := 2) rfl
          have k0 := x2.cell (i := 0) rfl
          have k1 := x2.cell (i := 1) rfl
          have k2 := x2.cell (i := 2) rfl
          have f0 := x0.free
          have f1 := x1.free
          clear x0 x1 x2 x3 hbx
          by_cases hlt : nn < least
          · have hd : decide (nn < least) = true := decide_eq_true hlt
            have HR := Lib.hid (show Rd.rvar ⟨B.drop at', e⟩ most neg = (⟨B.drop at', 111⟩, 0) by rw [HRV.out, if_neg (by simpa using hse), if_pos hlt])
            go_wp2
            rw [HR.out]
            dsimp only
            rw [HZ0.out]
            obtain ⟨r1, r2⟩ := HG2.out.ret 111
            exact bodyPost_ret (results_row_tmp Try.results48 _ _ (w.heap.size + 1) 44 _ _ rfl r1 Try.underlying44 rfl (by kernel_rfl)) rfl ⟨rfl, r2⟩
          · have hd : decide (nn < least) = false := decide_eq_false hlt
            by_cases hlm : neg = true ∨ most < nn
            · have HR := Lib.hid (show Rd.rvar ⟨B.drop at', e⟩ most neg = (⟨B.drop at', 112⟩, 0) by rw [HRV.out, if_neg (by simpa using hse), if_neg hlt, if_pos hlm])
              obtain ⟨r1, r2⟩ := HG2.out.ret 112
              have R1 := Lib.hid r1
              have R2 := Lib.hid r2
              clear r1 r2
              cases neg with
              | true =>
                go_wp2
                rw [HR.out]
                dsimp only
                rw [HZ0.out]
                have r1 := R1.out
                have r2 := R2.out
                exact bodyPost_ret (results_row_tmp Try.results48 _ _ (w.heap.size + 1) 44 _ _ rfl r1 Try.underlying44 rfl (by kernel_rfl)) rfl ⟨rfl, r2⟩
              | false =>
                have hmz : (most : Int) < (nn : Int) := by
                  rcases hlm with h | h
                  · cases h
                  · omega
                go_wp2
                rw [HR.out]
                dsimp only
                rw [HZ0.out]
                have r1 := R1.out
                have r2 := R2.out
                exact bodyPost_ret (results_row_tmp Try.results48 _ _ (w.heap.size + 1) 44 _ _ rfl r1 Try.underlying44 rfl (by kernel_rfl)) rfl ⟨rfl, r2⟩
            · have HR := Lib.hid (show Rd.rvar ⟨B.drop at', e⟩ most neg = (s, nn) by rw [HRV.out, if_neg (by simpa using hse), if_neg hlt, if_neg hlm])
              obtain rfl : neg = false := by cases neg <;> simp at hlm ⊢
              have hmz : ¬ ((most : Int) < (nn : Int)) := by intro h; exact hlm (.inr (by omega))
              obtain ⟨r1, r2⟩ := HG2.out.ok (z2 : Int) 0
              have R1 := Lib.hid r1
              have R2 := Lib.hid r2
              clear r1 r2
              go_wp2
              rw [HR.out]
              dsimp only
              rw [HZ2.out, hse]
              have r1 := R1.out
              have r2 := R2.out
              exact bodyPost_ret (results_row_tmp Try.results48 _ _ (w.heap.size + 1) 44 _ _ rfl r1 Try.underlying44 rfl (by kernel_rfl)) rfl ⟨rfl, r2⟩
      · have hse2 : (s.e != 0) = true := by simpa using hse
        have HR := Lib.hid (show Rd.rvar ⟨B.drop at', e⟩ most neg = (⟨B.drop at', s.e⟩, 0) by rw [HRV.out, if_pos hse])
        go_wp2
        rw [HR.out]
        dsimp only
        rw [HZ0.out]
        obtain ⟨r1, r2⟩ := HG.out.ret s.e
        exact bodyPost_ret (results_row_tmp Try.results48 _ _ (w.heap.size + 1) 44 _ _ rfl r1 Try.underlying44 rfl (by kernel_rfl)) rfl ⟨rfl, r2⟩
end Go.Proofs.Ytodhhejliijdmab.CodecRef
