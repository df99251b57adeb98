/- ShaTagged: every Tagged is the reference's, however the texts are cut. Condition: the name, and the texts together, are of at most 2^40 bytes. -/
import Derived.Test.YtodhhejliijdmaaDoorShaTagged
import Derived.Test.YtodhhejliijdmaaDoorShaLaid
import Derived.Test.YtodhhejliijdmaaDoorQuiet
import Derived.Deep.RegionHeld3
namespace Go.Proofs.YtodhhejliijdmaaDoor.shaTagged
open Go Go.RowKit Mem Sha ShaW
set_option linter.unusedVariables false

theorem one_byts (w : World) (v : Value) (m : List UInt8) (h : Byt Any w v m) : Byts (w.alloc (.cells #[v] 22)) (.slice (some ⟨w.heap.size, 0, none⟩) 1 1) [m] := by
  refine ⟨_, 1, rfl, ⟨Nat.le_refl _, by unfold maxLen; omega, fun h => by cases h⟩, .inr ⟨w.heap.size, 0, rfl, fun i hi => ?_⟩⟩
  obtain rfl : i = 0 := by simp at hi; exact hi
  exact ⟨v, (Blk.new w #[v] 22 [v] rfl).cell rfl, h.below ((Below.refl _ w).alloc (Nat.le_refl _) _)⟩

theorem below_alloc_self {w0 w : World} (h : Below w0.heap.size w0 w) (o : Obj) : Below w0.heap.size w0 (w.alloc o) := h.alloc h.size o

set_option maxHeartbeats 4000000 in
set_option maxRecDepth 100000 in
theorem walk0 (w : World) (s : ByteArray) (va : Value) (ls : List (List UInt8)) (hA : Byts w va ls) (hs : s.size ≤ 1099511627776) (hl : (ls.map List.length).sum ≤ 1099511627776) (hn : ls.length ≤ 1099511627776)
    (hT : TabB w 1) (hR : TabB w 0) :
    Calls Tryd.prog 7 #[.string s, va] w fun e w' => e = .returned (.bool true) ∧ Below w.heap.size w w' := by
  obtain ⟨a1, a2, rfl, hka, _⟩ := id hA
  have HA := Lib.hid hA
  have HT := Lib.hid hT
  have HR := Lib.hid hR
  have HSUM := Lib.hid hl
  clear hA hT hR hl
  go_enter Tryd.func7, Tryd.ntmps7
  go_wp2
  go_loopw [5, 10] (fun v i wx => ∃ (n : Nat) (m : List UInt8), n ≤ ls.length ∧ i = .int .i64 n ∧ m = (ls.take n).flatten ∧ OwnB w.heap.size 5 wx v m ∧ Below w.heap.size w wx) (fun _ i _ => ls.length - (intOf i).toNat)
  case atStart => exact ⟨0, [], by omega, rfl, by simp, OwnB.nil _ _ _, Below.refl _ _⟩
  case round =>
    obtain ⟨n, m, hn1, rfl, hm, hV, hb⟩ := hrel
    obtain ⟨xa, xc, rfl, hxk, _⟩ := id hV.byt
    have hfl := flat_le ls n
    have hml : m.length ≤ 1099511627776 := by rw [hm]; have := HSUM.out; omega
    have HM := Lib.hid hm
    have HV := Lib.hid hV
    have HB := Lib.hid hb
    have hsw := hb.size
    clear hm hV hb hfl
    by_cases hlt : n < ls.length
    · obtain ⟨pb, po, pc, pe, rfl, hc3, hpB⟩ := HA.out.cell n hlt
      have hc : wr.cell? ⟨pb, po + n, none⟩ = some (.slice pc (ls[n]).length pe) := by
        rw [World.cell?_of_block (w := w) (HB.out.block pb (World.block_lt_of_cell? w _ hc3))]; exact hc3
      have HQB := Lib.hid (hpB.below HB.out)
      clear hc3 hpB
      have hX : (ls.take (n + 1)).flatten = m ++ ls[n] := by rw [HM.out, flat_succ ls n hlt]
      have hsum : (m ++ ls[n]).length ≤ 1099511627776 := by rw [← hX]; have := flat_le ls (n + 1); have := HSUM.out; omega
      have HX := Lib.hid hX
      rw [List.length_append] at hsum
      clear hX HM
      generalize ls[n] = p at *
      go_wp2_with (at_builtin; refine wpList_append_byt _ rfl (.tmp 13) (.tmp 17) 22 rfl w.heap.size 5 elemB _ m rfl HV.out _ p rfl HQB.out (by omega) hsw ?_)
      intro va3 vc3 w7 o1 o2 o3
      have HB7 := Lib.hid (HB.out.grown o2 hsw (fun k hk => (HV.out.lt k hk).1))
      have HV7 := Lib.hid o1
      clear o1 o2 o3 HV hc HQB HB
      have hlx : (m ++ p).length = m.length + p.length := List.length_append
      go_wp2
      go_roundw
      case rel => exact ⟨n + 1, m ++ p, by omega, by go_num, HX.out.symm, HV7.out, HB7.out⟩
      case measure => simp [intOf]; omega
    · obtain rfl : n = ls.length := by omega
      have hmf : m = ls.flatten := by rw [HM.out, List.take_length]
      have HX := Lib.hid (show tagged s ls = tagged s [m] by unfold tagged; rw [hmf]; simp)
      clear hmf HM
      go_wp2_with fail
      refine (tagged_calls wr s _ ls (HA.out.below HB.out) hs HSUM.out hn (HT.out.below HB.out)).mono ?_
      rintro e w2 ⟨rfl, hb⟩
      have HB2 := Lib.hid (HB.out.trans (hb.mono hsw))
      have HV2 := Lib.hid (HV.out.below hb)
      have HTL := Lib.hid (tagged_length s ls)
      clear hb HB HV
      have hq0 : (Op.equalIn 10000 24 (.agg ((tagged s ls).map byt).toArray) (.agg ((tagged s ls).map byt).toArray)).run Tryd.prog = fun w => .ok true w := by
        funext w; rw [run_equal_u8 (n := 32) Tryd.underlying24 (i := _) rfl (by kernel_rfl) Tryd.underlying5 w _ _ (tagged_length _ _) (tagged_length _ _)]; simp
      have HD := Lib.hid (new32 w2)
      have HONE := Lib.hid (one_cells (tagged s ls))
      have HIN := Lib.hid (show (Tryd.prog.info? 24).map (·.size) = some ((tagged s ls).map byt).length by rw [List.length_map, HTL.out]; kernel_rfl)
      go_upto_region 8 with (first | (with_reducible refine wpList_store_blk rfl _ _ _ rfl w2.heap.size ((tagged s ls).map byt) _ rfl _ rfl rfl HD.out HIN.out (by simp [HTL.out]) HONE.out ?_))
      obtain ⟨h3, hm3⟩ := made32 w2 (tagged s ls)
      have HB3 := Lib.hid (HB2.out.trans (hm3.mono HB2.out.size))
      have HV3 := Lib.hid (HV2.out.below hm3)
      have H3 := Lib.hid h3
      clear hm3 h3 HD HB2 HV2
      generalize (w2.alloc (.cells #[.int .u8 0, .int .u8 0, .int .u8 0, .int .u8 0, .int .u8 0, .int .u8 0, .int .u8 0, .int .u8 0, .int .u8 0, .int .u8 0, .int .u8 0, .int .u8 0, .int .u8 0, .int .u8 0, .int .u8 0, .int .u8 0, .int .u8 0, .int .u8 0, .int .u8 0, .int .u8 0, .int .u8 0, .int .u8 0, .int .u8 0, .int .u8 0, .int .u8 0, .int .u8 0, .int .u8 0, .int .u8 0, .int .u8 0, .int .u8 0, .int .u8 0, .int .u8 0] 24)).setRow w2.heap.size ((tagged s ls).map byt).toArray = w3 at *
      generalize w2.heap.size = g at *
      have hs3 := HB3.out.size
      have hui : Tryd.prog.underlying 24 = some (.array 32 5) := Tryd.underlying24
      have hra : w3.drew.rangeAt g 0 ((tagged s ls).map byt) := fun j v hv => by rw [Nat.zero_add]; exact H3.out.drew.cell hv
      have hbd : Below w3.heap.size w3 w3.drew := (Below.refl _ w3).drew
      have hin := HIN.out
      have hrb : ∀ wx wy : World, wx.rangeAt g 0 ((tagged s ls).map byt) → Below wx.heap.size wx wy → wy.rangeAt g 0 ((tagged s ls).map byt) := fun wx wy h hb j v hv => by
        have := h j v hv
        exact (World.cell?_of_block (w := wx) (hb.block g (World.block_lt_of_cell? wx _ this))).trans this
      have hX := HX.out
      obtain ⟨cs, hcs⟩ : ∃ cs, cs = (tagged s ls).map byt := ⟨_, rfl⟩
      have hA0 : ∀ wx : World, wx.rangeAt g 0 cs → Below w3.heap.size w3 wx → Calls Tryd.prog 10 #[] wx fun e w' => e = .returned (.bool true) ∧ w'.rangeAt g 0 cs ∧ Below w3.heap.size w3 w' := fun wx h1 h2 =>
        (alive_calls wx (HT.out.below (HB3.out.trans (h2.mono hs3)))).mono fun e w' h => ⟨h.1, by rw [hcs] at h1 ⊢; exact hrb wx w' h1 h.2, h2.trans (h.2.mono h2.size)⟩
      have hR0 : ∀ wx : World, wx.rangeAt g 0 cs → Below w3.heap.size w3 wx → Calls Tryd.prog 20 #[.string s, .slice a1 ls.length a2] wx fun e w' => e = .returned (.agg cs.toArray) ∧ w'.rangeAt g 0 cs ∧ Below w3.heap.size w3 w' := fun wx h1 h2 =>
        (ref_tagged_calls wx s _ ls (HA.out.below (HB3.out.trans (h2.mono hs3))) hs HSUM.out hn (HR.out.below (HB3.out.trans (h2.mono hs3)))).mono fun e w' h => ⟨by rw [hcs]; exact h.1, by rw [hcs] at h1 ⊢; exact hrb wx w' h1 h.2, h2.trans (h.2.mono h2.size)⟩
      have hP0 : ∀ wx : World, wx.rangeAt g 0 cs → Below w3.heap.size w3 wx → Calls Tryd.prog 19 #[.string s, .slice (some ⟨wx.heap.size, 0, none⟩) 1 1] (wx.alloc (.cells #[.slice xa m.length xc] 22)) fun e w' => e = .returned (.agg cs.toArray) ∧ w'.rangeAt g 0 cs ∧ Below w3.heap.size w3 w' := fun wx h1 h2 => by
        have hz : Below wx.heap.size wx (wx.alloc (.cells #[.slice xa m.length xc] 22)) := (Below.refl _ wx).alloc (Nat.le_refl _) _
        refine (tagged_calls _ s _ [m] (one_byts wx _ m (HV3.out.below h2).byt.any) hs (by simpa using hml) (by simp) ((HT.out.below (HB3.out.trans (h2.mono hs3))).below hz)).mono fun e w' h => ?_
        have hz2 : Below wx.heap.size wx w' := hz.trans (h.2.mono hz.size)
        exact ⟨by rw [hcs, hX]; exact h.1, by rw [hcs] at h1 ⊢; exact hrb wx w' h1 hz2, h2.trans (hz2.mono h2.size)⟩
      have HA0 := Lib.hid hA0
      have HR0 := Lib.hid hR0
      have HP0 := Lib.hid hP0
      have hq1 : ∀ w, (Op.equalIn 10000 24 (.agg cs.toArray) (.agg cs.toArray)).run Tryd.prog w = .ok true w := fun w => by rw [hcs]; exact congrFun hq0 w
      rw [← hcs] at hra hin ⊢
      clear hA0 hR0 hP0 hX HV3 H3 HX HONE HIN HTL hrb hq0
      clear hcs
      refine wp_region_held_drew (S := (fun w' => w'.rangeAt g 0 cs ∧ Below w3.heap.size w3 w')) (by kernel_rfl) ⟨hra, hbd⟩ (fun hHeld => ?_)
      refine wpAnyH_ready (rs := [0]) (by kernel_rfl) (by simp) ?_
      refine AllReadyH.cons rfl (fun K hK => ?_) AllReadyH.nil
      go_simp
      go_wp2_with (go_at_call 10; refine (HA0.out _ (by assumption) (by assumption)).mono ?_; rintro e w' ⟨rfl, hr, hb⟩)
      refine hK.out _ _ (by first | exact ⟨hr, hb⟩ | exact ⟨World.rangeAt_alloc hr _, below_alloc_self hb _⟩) (fun hHeld => ?_)
      clear hK
      refine wpAnyH_take (i := 1) (oi := ⟨_, _, _, _, _, _⟩) (v := ?_) rfl (by kernel_rfl) (by kernel_rfl) (by kernel_rfl) (fun _ _ _ h => h) (Or.inl ⟨by rfl, ?_⟩) (by assumption) ?_
      rotate_left
      · intro w hSw; go_simp; try (with_reducible rfl)
      try simp only [Act.put, List.setIfInBounds_toArray, List.set_cons_zero, List.set_cons_succ]
      refine wpAnyH_take (i := 2) (oi := ⟨_, _, _, _, _, _⟩) rfl (by kernel_rfl) (by kernel_rfl) (by kernel_rfl) (fun _ _ _ h => h) (yieldsIf_load_mid (by rfl) _ _ rfl g 0 rfl cs _ (fun _ h => h.1) hui rfl hin) (by assumption) ?_
      try simp only [Act.put, List.setIfInBounds_toArray, List.set_cons_zero, List.set_cons_succ]
      refine wpAnyH_take (i := 3) (oi := ⟨_, _, _, _, _, _⟩) (v := ?_) rfl (by kernel_rfl) (by kernel_rfl) (by kernel_rfl) (fun _ _ _ h => h) (Or.inl ⟨by rfl, ?_⟩) (by assumption) ?_
      rotate_left
      · intro w hSw; go_simp; try (with_reducible rfl)
      try simp only [Act.put, List.setIfInBounds_toArray, List.set_cons_zero, List.set_cons_succ]
      refine wpAnyH_take (i := 4) (oi := ⟨_, _, _, _, _, _⟩) (v := ?_) rfl (by kernel_rfl) (by kernel_rfl) (by kernel_rfl) (fun _ _ _ h => h) (Or.inl ⟨by rfl, ?_⟩) (by assumption) ?_
      rotate_left
      · intro w hSw; go_simp; try (with_reducible rfl)
      try simp only [Act.put, List.setIfInBounds_toArray, List.set_cons_zero, List.set_cons_succ]
      refine wpAnyH_ready (rs := [5]) (by kernel_rfl) (by simp) ?_
      refine AllReadyH.cons rfl (fun K hK => ?_) AllReadyH.nil
      go_simp
      go_wp2_with (go_at_call 20; refine (HR0.out _ (by assumption) (by assumption)).mono ?_; rintro e w' ⟨rfl, hr, hb⟩)
      refine hK.out _ _ (by first | exact ⟨hr, hb⟩ | exact ⟨World.rangeAt_alloc hr _, below_alloc_self hb _⟩) (fun hHeld => ?_)
      clear hK
      refine wpAnyH_take (i := 6) (oi := ⟨_, _, _, _, _, _⟩) (v := ?_) rfl (by kernel_rfl) (by kernel_rfl) (by kernel_rfl) (fun _ _ _ h => h) (Or.inl ⟨by rfl, ?_⟩) (by assumption) ?_
      rotate_left
      · intro w hSw; go_simp; try (with_reducible rfl)
      try simp only [Act.put, List.setIfInBounds_toArray, List.set_cons_zero, List.set_cons_succ]
      refine wpAnyH_take (i := 7) (oi := ⟨_, _, _, _, _, _⟩) (v := ?_) rfl (by kernel_rfl) (by kernel_rfl) (by kernel_rfl) (fun _ _ _ h => h) (Or.inl ⟨by rfl, ?_⟩) (by assumption) ?_
      rotate_left
      · intro w hSw; go_simp; try (with_reducible rfl)
      try simp only [Act.put, List.setIfInBounds_toArray, List.set_cons_zero, List.set_cons_succ]
      refine wpAnyH_take (i := 8) (oi := ⟨_, _, _, _, _, _⟩) (v := ?_) rfl (by kernel_rfl) (by kernel_rfl) (by kernel_rfl) (fun _ _ _ h => h) (Or.inl ⟨by rfl, ?_⟩) (by assumption) ?_
      rotate_left
      · intro w hSw; go_simp; try (with_reducible rfl)
      try simp only [Act.put, List.setIfInBounds_toArray, List.set_cons_zero, List.set_cons_succ]
      refine wpAnyH_take (i := 9) (oi := ⟨_, _, _, _, _, _⟩) rfl (by kernel_rfl) (by kernel_rfl) (by kernel_rfl) (fun _ _ _ h => h) (yieldsIf_load_mid (by rfl) _ _ rfl g 0 rfl cs _ (fun _ h => h.1) hui rfl hin) (by assumption) ?_
      try simp only [Act.put, List.setIfInBounds_toArray, List.set_cons_zero, List.set_cons_succ]
      refine wpAnyH_take (i := 10) (oi := ⟨_, _, _, _, _, _⟩) (v := ?_) rfl (by kernel_rfl) (by kernel_rfl) (by kernel_rfl) (fun _ _ _ h => h) (Or.inl ⟨by rfl, ?_⟩) (by assumption) ?_
      rotate_left
      · intro w hSw; go_simp; try (with_reducible rfl)
      try simp only [Act.put, List.setIfInBounds_toArray, List.set_cons_zero, List.set_cons_succ]
      refine wpAnyH_take (i := 11) (oi := ⟨_, _, _, _, _, _⟩) (v := ?_) rfl (by kernel_rfl) (by kernel_rfl) (by kernel_rfl) (fun _ _ _ h => h) (Or.inl ⟨by rfl, ?_⟩) (by assumption) ?_
      rotate_left
      · intro w hSw; go_simp; try (with_reducible rfl)
      try simp only [Act.put, List.setIfInBounds_toArray, List.set_cons_zero, List.set_cons_succ]
      refine wpAnyH_ready (rs := [12]) (by kernel_rfl) (by simp) ?_
      refine AllReadyH.cons rfl (fun K hK => ?_) AllReadyH.nil
      go_simp
      refine hK.out _ _ (by first | exact ⟨hr, hb⟩ | exact ⟨World.rangeAt_alloc hr _, below_alloc_self hb _⟩) (fun hHeld => ?_)
      clear hK
      refine wpAnyH_ready (rs := [13]) (by kernel_rfl) (by simp) ?_
      refine AllReadyH.cons rfl (fun K hK => ?_) AllReadyH.nil
      go_simp
      go_wp2_with (go_at_call 19; refine (HP0.out _ (by assumption) (by assumption)).mono ?_; rintro e w' ⟨rfl, hr, hb⟩)
      refine hK.out _ _ (by first | exact ⟨hr, hb⟩ | exact ⟨World.rangeAt_alloc hr _, below_alloc_self hb _⟩) (fun hHeld => ?_)
      clear hK
      refine wpAnyH_take (i := 14) (oi := ⟨_, _, _, _, _, _⟩) (v := ?_) rfl (by kernel_rfl) (by kernel_rfl) (by kernel_rfl) (fun _ _ _ h => h) (Or.inl ⟨by rfl, ?_⟩) (by assumption) ?_
      rotate_left
      · intro w hSw; go_simp; try (with_reducible rfl)
      try simp only [Act.put, List.setIfInBounds_toArray, List.set_cons_zero, List.set_cons_succ]
      refine wpAnyH_take (i := 15) (oi := ⟨_, _, _, _, _, _⟩) (v := ?_) rfl (by kernel_rfl) (by kernel_rfl) (by kernel_rfl) (fun _ _ _ h => h) (Or.inl ⟨by rfl, ?_⟩) (by assumption) ?_
      rotate_left
      · intro w hSw; go_simp; try (with_reducible rfl)
      try simp only [Act.put, List.setIfInBounds_toArray, List.set_cons_zero, List.set_cons_succ]
      refine wpAnyH_take (i := 16) (oi := ⟨_, _, _, _, _, _⟩) (v := ?_) rfl (by kernel_rfl) (by kernel_rfl) (by kernel_rfl) (fun _ _ _ h => h) (Or.inl ⟨by rfl, ?_⟩) (by assumption) ?_
      rotate_left
      · intro w hSw; go_simp; try (with_reducible rfl)
      try simp only [Act.put, List.setIfInBounds_toArray, List.set_cons_zero, List.set_cons_succ]
      refine wpAnyH_done (by kernel_rfl) ?_ _
      have HBF := Lib.hid (HB3.out.trans (hb.mono hs3))
      clear hq1 hin hra hui
      go_wp2
      go_ret
      exact ⟨rfl, HBF.out⟩
theorem walk (w : World) (s : ByteArray) (va : Value) (ls : List (List UInt8)) (hA : Byts w va ls) (hs : s.size ≤ 1099511627776) (hl : (ls.map List.length).sum ≤ 1099511627776) (hn : ls.length ≤ 1099511627776) (hL : laidMetH Tryd.prog Rows.shaTaggedUptoRow.laid w) :
    Calls Tryd.prog 7 #[.string s, va] w fun e w' => e = .returned (.bool true) ∧ Below w.heap.size w w' :=
  walk0 w s va ls hA hs hl hn (tab_sha hL (by kernel_rfl) (List.Mem.tail _ (List.Mem.head _))) (tab_ref hL (by kernel_rfl) (List.Mem.head _))
end Go.Proofs.YtodhhejliijdmaaDoor.shaTagged
