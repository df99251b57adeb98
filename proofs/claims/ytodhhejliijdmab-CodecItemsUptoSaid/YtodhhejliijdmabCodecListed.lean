/- Walk of the law's listed: what a list of texts is, by the document. Condition: the bytes are at most 2^40. -/
import Derived.Test.YtodhhejliijdmabCodecItems
import Derived.Test.YtodhhejliijdmabCodecRef2
namespace Go.Proofs.Ytodhhejliijdmab.CodecListed
open Go Go.RowKit Mem Codec CodecW CodecR CodecL CodecN CodecRef CodecIt Row
set_option linter.unusedVariables false

theorem results_tmp_cell {fn : Func} {p u : Tmp} {ty : TypeId} (h : fn.results = #[.tmp u, .cell p ty]) (tmps : Array Value) (P : Program) (w : World) :
    (results fn tmps).run P w =
      ((asAddr (tmps.getD p undef)).run P w).andThen fun a w₁ => ((loadVar ty a).run P w₁).andThen fun v w₂ => .ok (.tuple #[tmps.getD u undef, v]) w₂ := by
  simp only [results, h]
  simp [Sem.run_bind, Result.andThen]
theorem text_suf (r : Rd) (n : Int) : ∃ k, (r.text n).1.rest = r.rest.drop k := by
  unfold Rd.text
  dsimp only
  split
  · obtain ⟨k, hk⟩ := Rd.take_suf ⟨r.rest, 110⟩ (r.room n).2
    exact ⟨k, hk⟩
  · obtain ⟨k, hk⟩ := Rd.take_suf (r.room n).1 (r.room n).2
    obtain ⟨j, hj⟩ := Rd.room_suf r n
    exact ⟨j + k, by rw [hk, hj, List.drop_drop]⟩
theorem results_tmp_row {P : Program} {fn : Func} {p u : Tmp} {ty : TypeId} (h : fn.results = #[.tmp u, .cell p ty]) (tmps : Array Value) (w : World) (g : Nat) (t : TypeId) (l : List Value) (d : TypeDesc)
    (hp : tmps.getD p undef = .pointer (some ⟨g, 0, none⟩)) (hB : Blk w g l t) (hu : P.underlying ty = some d) (hd : (match d with | .struct _ | .array _ _ => true | _ => false) = true) (hi : (P.info? ty).map (·.size) = some l.length) :
    (results fn tmps).run P w = .ok (.tuple #[tmps.getD u undef, .agg l.toArray]) w := by
  rw [results_tmp_cell h, hp]
  have ha : (asAddr (.pointer (some ⟨g, 0, none⟩))).run P w = .ok ⟨g, 0, none⟩ w := rfl
  rw [ha]
  simp only [Result.andThen_ok]
  rw [run_loadVar_row w g t ty l.toArray (0, 0) d hB hu hd (by simpa using hi)]
  rfl
theorem room_none (r : Rd) (most : Int) (h : (r.room most).1.e ≠ 0) : (r.room most).2 = 0 := by
  have hv : (r.var most.toNat).1.e ≠ 0 → (r.var most.toNat).2 = 0 := by
    unfold Rd.var
    dsimp only
    split
    · intro _; rfl
    · split
      · intro _; rfl
      · split
        · intro _; rfl
        · rename_i h1 _ _; intro h; exact absurd (by simpa using h1) h
  unfold Rd.room at *
  dsimp only at *
  split at h
  · rename_i h1; rw [if_pos h1]
  · rename_i h1; rw [if_neg h1]; exact hv h
theorem Texts.drew {base : Nat} {e : TypeId} {w : World} {v : Value} {ls : List (List UInt8)} (h : Texts base e w v ls) : Texts base e w.drew v ls := h
/-- what a round of the reference's loop keeps -/
def LL (n : Nat) (r1 : Rd) (B : List UInt8) (pre : List (List UInt8)) (z : Nat) (e : Int) (k : Nat) : Prop :=
  z ≤ B.length ∧ k ≤ n ∧ ((At one n r1 (pre, ⟨B.drop z, e⟩) ∧ k = pre.length ∧ (e = 0 ∨ n = 0)) ∨ (items one n r1 = (pre, ⟨B.drop z, e⟩) ∧ e ≠ 0))
theorem LL.done {n : Nat} {r1 : Rd} {B : List UInt8} {pre : List (List UInt8)} {z : Nat} {e : Int} {k : Nat} (h : LL n r1 B pre z e k) (hk : ¬ (k < n ∧ e = 0)) : items one n r1 = (pre, ⟨B.drop z, e⟩) := by
  obtain ⟨_, hkn, h | h⟩ := h
  · obtain ⟨h1, h2, h3⟩ := h
    exact At.all one h1 (fun hlt => hk ⟨by omega, by omega⟩)
  · exact h.1
/-- what the reference's loop keeps of memory -/
def LW (w : World) (p : Nat) (a : Option Addr) (c : Nat) (B : List UInt8) (v : Value) (pre : List (List UInt8)) (z : Nat) (e : Int) (wx : World) : Prop :=
  Blk wx p [.slice a B.length c, .int .i64 (z : Int), .int .i64 e] 44 ∧ Texts (p + 1) 22 wx v pre ∧ Below w.heap.size w wx ∧ Blk wx w.heap.size [.slice none 0 0, .int .i64 0, .int .i64 0] 44 ∧ w.heap.size < p

set_option maxHeartbeats 4000000 in
set_option maxRecDepth 100000 in
theorem listed_calls (w : World) (a : Option Addr) (c : Nat) (B : List UInt8) (most : Int) (hB : Byt Any w (.slice a B.length c) B) (hl : B.length ≤ 1099511627776) (h1 : -9223372036854775808 ≤ most) (h2 : most < 9223372036854775808) :
    Calls Try.prog 30 #[.slice a B.length c, .int .i64 most] w fun x w' => ∃ v z, x = .returned (.tuple #[v, rv a B.length c z (items one (Rd.room ⟨B, 0⟩ most).2 (Rd.room ⟨B, 0⟩ most).1).2.e]) ∧ z + (items one (Rd.room ⟨B, 0⟩ most).2 (Rd.room ⟨B, 0⟩ most).1).2.rest.length = B.length ∧
      Texts w.heap.size 22 w' v (items one (Rd.room ⟨B, 0⟩ most).2 (Rd.room ⟨B, 0⟩ most).1).1 ∧ Below w.heap.size w w' := by
  obtain ⟨m2, hm2, hm3⟩ : ∃ m2 : Nat, IntKind.u64.wrap most = (m2 : Int) ∧ m2 < 18446744073709551616 := ⟨(IntKind.u64.wrap most).toNat, by rw [IntKind.wrap_u64]; omega, by rw [IntKind.wrap_u64]; omega⟩
  have HRV := Lib.hid (Rd.rvar_room ⟨B, 0⟩ most m2 (fun h => by rw [← hm2, IntKind.wrap_u64]; omega))
  have hrl := room_le ⟨B, 0⟩ most h2
  have hsf := suf_at (at' := 0) (by have := Rd.room_suf ⟨B, 0⟩ most; simpa using this) (Nat.zero_le B.length)
  have HNN := Lib.hid (room_none ⟨B, 0⟩ most)
  have hlr := Rd.room_len ⟨B, 0⟩ most
  dsimp only at hlr
  have HB0 := Lib.hid hB
  have ha0 := Blk.new w #[.slice none 0 0, .int .i64 0, .int .i64 0] 44 _ rfl
  have hb0 : Below w.heap.size w (w.alloc (.cells #[.slice none 0 0, .int .i64 0, .int .i64 0] 44)) := (Below.refl _ _).alloc (Nat.le_refl _) _
  have hs0 : w.heap.size + 1 = (w.alloc (.cells #[.slice none 0 0, .int .i64 0, .int .i64 0] 44)).heap.size := by simp
  clear hB
  go_enter Try.func30, Try.ntmps30
  go_upto_region 1 with fail
  generalize (w.alloc (.cells #[.slice none 0 0, .int .i64 0, .int .i64 0] 44)) = W at *
  have HA0 := Lib.hid ha0
  have HBL := Lib.hid hb0
  clear ha0 hb0
  go_wp2_with fail
  refine (getvar_calls W a c B 0 0 m2 (decide (most < 0)) (HB0.out.below HBL.out) (Nat.zero_le _) (by omega) hm3).mono ?_
  rintro x w3 ⟨rfl, g2⟩
  rw [List.drop_zero, HRV.out]
  obtain ⟨⟨s, nn⟩, hy⟩ : ∃ y, Rd.room ⟨B, 0⟩ most = y := ⟨_, rfl⟩
  rw [hy] at hsf hrl HNN hlr ⊢
  dsimp only at hsf hrl HNN hlr ⊢
  have hs3 := g2.size
  obtain ⟨l1, e1⟩ := s
  dsimp only at hsf HNN hlr ⊢
  obtain ⟨z1, hz1⟩ : ∃ z1, B.length - l1.length = z1 := ⟨_, rfl⟩
  rw [hz1] at hsf ⊢
  obtain ⟨hsf1, hsf2, _⟩ := hsf
  have HLL := Lib.hid (show LL nn ⟨l1, e1⟩ B [] z1 e1 0 from ⟨hsf2, Nat.zero_le _, .inl ⟨by rw [← hsf1]; exact At.start one nn _, rfl, by by_cases he : e1 = 0; exact .inl he; exact .inr (HNN.out he)⟩⟩)
  have HLW := Lib.hid (show LW w w3.heap.size a c B (.slice none 0 0) [] z1 e1 (w3.alloc (.cells [.slice a B.length c, .int .i64 (z1 : Int), .int .i64 e1].toArray 44)) from
    ⟨Blk.new w3 _ _ _ rfl, Texts.nil _ _ _, (HBL.out.trans (g2.mono (by omega))).alloc (by omega) _, (HA0.out.below g2).alloc _, by omega⟩)
  have hsw : w.heap.size < w3.heap.size := by omega
  have HY := Lib.hid hy
  clear hy g2 hm2 hs0 HNN HBL HA0 HRV hsf1 hz1
  go_upto_region 2 with fail
  generalize (w3.alloc (.cells [.slice a B.length c, .int .i64 (z1 : Int), .int .i64 e1].toArray 44)) = w4 at *
  generalize w3.heap.size = p at *
  go_wp2
  go_loopw [8, 9] (fun v i wx => ∃ (pre : List (List UInt8)) (z : Nat) (e : Int) (k : Nat), i = .int .u64 (k : Int) ∧ LL nn ⟨l1, e1⟩ B pre z e k ∧ LW w p a c B v pre z e wx) (fun _ i _ => nn - (intOf i).toNat)
  case atStart => exact ⟨[], z1, e1, 0, rfl, HLL.out, HLW.out⟩
  case round =>
    obtain ⟨pre, z, e, k, rfl, hL, hk, ht, hbel, hk0, hp⟩ := hrel
    have hz := hL.1
    have hkn := hL.2.1
    have hsx := hbel.size
    have hpx := hk.lt
    have k0 := hk.cell (i := 0) rfl
    have k1 := hk.cell (i := 1) rfl
    have k2 := hk.cell (i := 2) rfl
    have f0 := hk.free
    have HL := Lib.hid hL
    have HK := Lib.hid hk
    have HT := Lib.hid ht
    have HB := Lib.hid hbel
    have HK0 := Lib.hid hk0
    clear hL hk ht hbel hk0 HLL HLW
    by_cases hc : k < nn ∧ e = 0
    · obtain ⟨hlt, rfl⟩ := hc
      have hat : At one nn ⟨l1, e1⟩ (pre, ⟨B.drop z, 0⟩) ∧ k = pre.length := by
        obtain ⟨_, _, h | h⟩ := HL.out
        · exact ⟨h.1, h.2.1⟩
        · exact absurd rfl h.2
      obtain ⟨hat, rfl⟩ := hat
      have hltI : (pre.length : Int) < (nn : Int) := by omega
      have hpl : pre.length ≤ 1099511627776 := Nat.le_trans (At.short hat) (by dsimp only; omega)
      have HAT := Lib.hid hat
      clear hat
      go_wp2_with fail
      refine (gettext_calls wr a c B z 0 9 (HB0.out.below HB.out) hz (by omega) (by omega) (by omega)).mono ?_
      rintro x w5 ⟨tv, rfl, gx, g2⟩
      obtain ⟨tva, tvc, rfl, _⟩ := id gx
      have hs5 := g2.size
      have hsf := suf_at (text_suf ⟨B.drop z, 0⟩ 9) hz
      have hone : one ⟨B.drop z, 0⟩ = Rd.text ⟨B.drop z, 0⟩ 9 := rfl
      obtain ⟨y, hy⟩ : ∃ y, Rd.text ⟨B.drop z, 0⟩ 9 = y := ⟨_, rfl⟩
      rw [hy] at hsf gx hone ⊢
      obtain ⟨⟨l2, e2⟩, tx⟩ := y
      dsimp only at hsf gx ⊢
      obtain ⟨z2, hz2⟩ : ∃ z2, B.length - l2.length = z2 := ⟨_, rfl⟩
      rw [hz2] at hsf ⊢
      obtain ⟨hsf1, hsf2, _⟩ := hsf
      have hal : Below w5.heap.size w5 (w5.alloc (.cells [.slice a B.length c, .int .i64 (z2 : Int), .int .i64 e2].toArray 44)) := (Below.refl _ _).alloc (Nat.le_refl _) _
      have hk6 := (HK.out.below g2).below hal
      have hk06 := (HK0.out.below g2).below hal
      have hn6 := Blk.new w5 #[.slice a B.length c, .int .i64 (z2 : Int), .int .i64 e2] 44 _ rfl
      have hb6 := HB.out.trans ((g2.trans (hal.mono hs5)).mono hsx)
      have hfb : Below wr.heap.size wr (w5.alloc (.cells [.slice a B.length c, .int .i64 (z2 : Int), .int .i64 e2].toArray 44)) := g2.trans (hal.mono hs5)
      have ht6 := HT.out.below hfb
      have gx6 := gx.below hal
      have hs6 : w5.heap.size + 1 = (w5.alloc (.cells [.slice a B.length c, .int .i64 (z2 : Int), .int .i64 e2].toArray 44)).heap.size := by simp
      have hlb : ∀ k, u8.ownBlock = some k → p + 1 ≤ k ∧ k < wr.heap.size := by
        obtain ⟨vals, o1, _⟩ := HT.out
        exact o1.lt
      have HO := Lib.hid hone
      have HS1 := Lib.hid hsf1
      have HLB := Lib.hid hlb
      have HB6 := Lib.hid hb6
      have HK06 := Lib.hid hk06
      have HT6 := Lib.hid ht6
      have HX6 := Lib.hid gx6
      clear hy hz2 hone hsf1 gx g2 hal hb6 hfb ht6 gx6 hk06 hlb k0 k1 k2 f0
      go_upto_region 7 with fail
      generalize (w5.alloc (.cells [.slice a B.length c, .int .i64 (z2 : Int), .int .i64 e2].toArray 44)) = w6 at *
      have m0 := hn6.cell (i := 0) rfl
      have m1 := hn6.cell (i := 1) rfl
      have m2 := hn6.cell (i := 2) rfl
      have k0 := hk6.cell (i := 0) rfl
      have k1 := hk6.cell (i := 1) rfl
      have k2 := hk6.cell (i := 2) rfl
      have f0 := hk6.free
      have hfs : Fr (fun k => k = p) w6 (((w6.setCell ⟨p, 0, none⟩ (.slice a B.length c)).setCell ⟨p, 1, none⟩ (.int .i64 (z2 : Int))).setCell ⟨p, 2, none⟩ (.int .i64 e2)) := (((Fr.refl (fun k => k = p) w6).setCell (p := ⟨p, 0, none⟩) (.inr rfl) _).setCell (p := ⟨p, 1, none⟩) (.inr rfl) _).setCell (p := ⟨p, 2, none⟩) (.inr rfl) _
      have hk7 := Blk.set3 hk6 (.slice a B.length c) (.int .i64 (z2 : Int)) (.int .i64 e2)
      have hs7 := hfs.size
      have HK7 := Lib.hid hk7
      have HFS := Lib.hid hfs
      clear hk6 hn6 hk7 hfs
      go_upto_region 8 with fail
      generalize (((w6.setCell ⟨p, 0, none⟩ (.slice a B.length c)).setCell ⟨p, 1, none⟩ (.int .i64 (z2 : Int))).setCell ⟨p, 2, none⟩ (.int .i64 e2)) = w7 at *
      have HB7 := Lib.hid (HB6.out.trans (HFS.out.below (B := w.heap.size) (by omega) (fun k h => by omega)))
      have HK07 := Lib.hid (HK06.out.fr HFS.out (by omega))
      have HX7 := Lib.hid (HX6.out.fr HFS.out (fun k _ h1 h2 => by omega))
      have HT7 := Lib.hid (HT6.out.fr HFS.out (fun k _ h1 h2 => by omega))
      clear m0 m1 m2 k0 k1 k2 f0 HFS HB6 HK06 HX6 HT6
      have k2 := HK7.out.cell (i := 2) rfl
      by_cases he2 : e2 = 0
      · subst he2
        have HL2 := Lib.hid (show LL nn ⟨l1, e1⟩ B (pre ++ [tx]) z2 0 (pre.length + 1) from ⟨hsf2, by omega, .inl ⟨by
          have := At.next one HAT.out hlt (by rw [HO.out])
          rw [HO.out, HS1.out] at this
          exact this, by simp, .inl rfl⟩⟩)
        obtain ⟨vals, o1, o2⟩ := HT7.out
        obtain ⟨va, vc, rfl, _⟩ := o1.form
        have O1 := Lib.hid o1
        have O2 := Lib.hid o2
        have hal : Below w7.heap.size w7 (w7.alloc (.cells #[.slice tva tx.length tvc] 22)) := (Below.refl _ _).alloc (Nat.le_refl _) _
        have HAL := Lib.hid hal
        clear o1 o2 hal
        go_wp2_with (at_builtin; refine wpList_append_val _ rfl (.tmp 41) (.tmp 43) 51 rfl (p + 1) 22 elemBB _ pre.length vals rfl (O1.out.below HAL.out) ⟨w7.heap.size, 0, none⟩ 1 1 [.slice tva tx.length tvc] rfl rfl (cell_one_new _ _ _) (by simp [Value.oneCell']) (by unfold maxLen; omega) (by omega) (by simp; omega) ?_; intro a' cap' w8 q1 q2 q3)
        have hq2 : Fr (fun k => (Value.slice va pre.length vc).ownBlock = some k) w7 w8 := ((Fr.refl _ w7).alloc _).trans (Fr.ofGrown q2)
        have hlo := HLB.out
        have hF : ∀ k, ¬ (p + 1 ≤ k) → ¬ ((Value.slice va pre.length vc).ownBlock = some k) := fun k hk h => hk (hlo k h).1
        have HT8 := Lib.hid (Texts.append O1.out O2.out (HX7.out.mono (fun k _ h => ⟨by omega, fun e => by have := hlo k e; omega⟩)) HAL.out q1 q2 q3)
        have HLW8 := Lib.hid (show LW w p a c B (.slice a' (pre.length + 1) cap') (pre ++ [tx]) z2 0 w8 from ⟨HK7.out.fr hq2 (hF p (by omega)), HT8.out, HB7.out.trans (hq2.below (by omega) (fun k h => by have := hlo k h; omega)), HK07.out.fr hq2 (hF _ (by omega)), hsw⟩)
        clear q1 q2 q3 hq2 hlo hF k2
        go_wp2
        go_roundw
        case rel => exact ⟨_, z2, 0, pre.length + 1, by go_num, HL2.out, HLW8.out⟩
        case measure => simp [intOf]; omega
      · have he3 : (e2 == 0) = false := by simpa using he2
        have HL2 := Lib.hid (show LL nn ⟨l1, e1⟩ B pre z2 e2 (pre.length + 1) from ⟨hsf2, by omega, .inr ⟨by
          have := At.fails one HAT.out hlt (by rw [HO.out]; exact he2)
          rw [HO.out, HS1.out] at this
          exact this, he2⟩⟩)
        have HLW8 := Lib.hid (show LW w p a c B u8 pre z2 e2 w7 from ⟨HK7.out, HT7.out, HB7.out, HK07.out, hsw⟩)
        go_wp2
        go_roundw
        case rel => exact ⟨_, z2, e2, pre.length + 1, by go_num, HL2.out, HLW8.out⟩
        case measure => simp [intOf]; omega
    · have HD := Lib.hid (HL.out.done hc)
      have hk0 := HK0.out
      have d0 := hk0.cell (i := 0) rfl
      have d1 := hk0.cell (i := 1) rfl
      have d2 := hk0.cell (i := 2) rfl
      have g0 := hk0.free
      have hcz : (k < nn) = False ∨ (e == 0) = false := by
        by_cases he : e = 0
        · left; simp; omega
        · right; simpa using he
      clear hk0
      have fin : ∀ wz, wz = (((wr.setCell ⟨w.heap.size, 0, none⟩ (.slice a B.length c)).setCell ⟨w.heap.size, 1, none⟩ (.int .i64 (z : Int))).setCell ⟨w.heap.size, 2, none⟩ (.int .i64 e)) → Blk wz w.heap.size [.slice a B.length c, .int .i64 (z : Int), .int .i64 e] 44 ∧ Texts w.heap.size 22 wz u8 pre ∧ Below w.heap.size w wz := by
        rintro wz rfl
        have hfs : Fr (fun k => k = w.heap.size) wr (((wr.setCell ⟨w.heap.size, 0, none⟩ (.slice a B.length c)).setCell ⟨w.heap.size, 1, none⟩ (.int .i64 (z : Int))).setCell ⟨w.heap.size, 2, none⟩ (.int .i64 e)) := (((Fr.refl (fun k => k = w.heap.size) wr).setCell (p := ⟨w.heap.size, 0, none⟩) (.inr rfl) _).setCell (p := ⟨w.heap.size, 1, none⟩) (.inr rfl) _).setCell (p := ⟨w.heap.size, 2, none⟩) (.inr rfl) _
        exact ⟨Blk.set3 HK0.out _ _ _, (HT.out.fr hfs (fun k _ h e => by omega)).mono (by omega), HB.out.trans (hfs.below hsx (fun k h => by omega))⟩
      have FIN := Lib.hid fin
      clear fin
      have hz3 : z + (B.drop z).length = B.length := by simp; omega
      have HZ3 := Lib.hid hz3
      clear hz3
      rcases hcz with hcz | hcz
      · have hge : ¬ (k : Int) < (nn : Int) := by simp at hcz; omega
        clear hcz
        go_wp2
        go_region_law (fail)
        all_goals
          go_wp2
          obtain ⟨r1, r2, r3⟩ := FIN.out _ rfl
          rw [HY.out]
          dsimp only
          rw [HD.out]
          exact bodyPost_ret (results_tmp_row Try.results30 _ _ w.heap.size 44 _ _ rfl r1.drew Try.underlying44 rfl (by kernel_rfl)) rfl ⟨_, _, rfl, HZ3.out, Texts.drew r2, r3.drew⟩
      · by_cases hge : k < nn
        · have hgeI : (k : Int) < (nn : Int) := by omega
          go_wp2
          go_region_law (fail)
          all_goals
            go_wp2
            obtain ⟨r1, r2, r3⟩ := FIN.out _ rfl
            rw [HY.out]
            dsimp only
            rw [HD.out]
            exact bodyPost_ret (results_tmp_row Try.results30 _ _ w.heap.size 44 _ _ rfl r1.drew Try.underlying44 rfl (by kernel_rfl)) rfl ⟨_, _, rfl, HZ3.out, Texts.drew r2, r3.drew⟩
        · have hgeI : ¬ (k : Int) < (nn : Int) := by omega
          go_wp2
          go_region_law (fail)
          all_goals
            go_wp2
            obtain ⟨r1, r2, r3⟩ := FIN.out _ rfl
            rw [HY.out]
            dsimp only
            rw [HD.out]
            exact bodyPost_ret (results_tmp_row Try.results30 _ _ w.heap.size 44 _ _ rfl r1.drew Try.underlying44 rfl (by kernel_rfl)) rfl ⟨_, _, rfl, HZ3.out, Texts.drew r2, r3.drew⟩
end Go.Proofs.Ytodhhejliijdmab.CodecListed
