/- ShaPieces: in whatever pieces a text is written, each Sum is the digest of all so far. Condition: the pieces together are of at most 2^40 bytes. -/
import Derived.Test.YtodhhejliijdmaaDoorShaS
import Derived.Test.YtodhhejliijdmaaDoorShaF
import Derived.Test.YtodhhejliijdmaaDoorShaLaid
import Derived.Test.YtodhhejliijdmaaDoorQuiet
import Derived.Test.YtodhhejliijdmaaDoorRead2
namespace Go.Proofs.YtodhhejliijdmaaDoor.shaPieces
open Go Go.RowKit Mem Sha ShaW
set_option linter.unusedVariables false

theorem flat_le (ls : List (List UInt8)) (n : Nat) : ((ls.take n).flatten).length ≤ (ls.map List.length).sum := by
  rw [List.length_flatten]
  conv => rhs; rw [← List.take_append_drop n ls, List.map_append, List.sum_append]
  omega
theorem flat_succ (ls : List (List UInt8)) (n : Nat) (h : n < ls.length) : (ls.take (n + 1)).flatten = (ls.take n).flatten ++ ls[n] := by
  rw [List.take_add_one, List.getElem?_eq_getElem h, List.flatten_append]
  simp only [Option.toList_some, List.flatten_cons, List.flatten_nil, List.append_nil]
/-- a copy that is written over -/
def OwnRel (g g2 : Nat) (w3 : World) (xa : Option Addr) (n : Nat) (wx : World) : Prop :=
  Fr (fun k => g ≤ k ∧ k < g2) w3 wx ∧ (n = 0 ∨ ∃ b, xa = some ⟨b, 0, none⟩ ∧ g ≤ b ∧ b < g2 ∧ (∀ i, i < n → ∃ v, wx.cell? ⟨b, i, none⟩ = some v) ∧ ∀ i, wx.frozen? ⟨b, i, none⟩ = false)
theorem OwnRel.start {g g2 : Nat} {w2 w3 : World} {xa : Option Addr} {n c : Nat} {l : List UInt8} {S : Nat → Prop} (h : OwnB g 5 w2 (.slice xa n c) l) (hn : n = l.length) (hg : w2.heap.size = g2) (hf : Fr S w2 w3) (hS : ∀ k, g ≤ k → ¬ S k) : OwnRel g g2 w3 xa n w3 := by
  refine ⟨Fr.refl _ _, ?_⟩
  by_cases h0 : n = 0
  · exact .inl h0
  · right
    obtain ⟨b, cap, he, h1, h2, _, _, hl, hz⟩ := h.shape (by rintro rfl; simp at hn; exact h0 hn)
    cases he
    refine ⟨b, rfl, h1, by omega, fun i hi => ?_, fun i => ?_⟩
    · have := hl i hi
      rw [Nat.zero_add] at this
      exact ⟨_, hf.cell this (hS b h1)⟩
    · rw [hf.frozen h2 (hS b h1)]; exact hz i
theorem OwnRel.set {g g2 : Nat} {w3 wx : World} {b n i : Nat} (h : OwnRel g g2 w3 (some ⟨b, 0, none⟩) n wx) (h0 : i < n) (v : Value) : OwnRel g g2 w3 (some ⟨b, 0, none⟩) n (wx.setCell ⟨b, i, none⟩ v) := by
  obtain ⟨h1, h2⟩ := h
  rcases h2 with h2 | ⟨b', he, h3, h4, h5, h6⟩
  · omega
  · cases he
    refine ⟨h1.setCell (.inr ⟨h3, h4⟩) v, .inr ⟨b, rfl, h3, h4, fun j hj => ?_, fun j => ?_⟩⟩
    · obtain ⟨u, hu⟩ := h5 j hj
      obtain ⟨u2, hu2⟩ := h5 i h0
      by_cases e : j = i
      · subst e; exact ⟨_, World.cell?_setCell_same _ _ _ hu2⟩
      · exact ⟨u, by rw [World.cell?_setCell_other _ _ _ _ (by intro q; injection q; omega)]; exact hu⟩
    · rw [World.frozen?_setCell]; exact h6 j
/-- what the law keeps from piece to piece -/
def PRel (B : Nat) (w : World) (q : Nat) (v : Value) (m : List UInt8) (wx : World) : Prop :=
  ∃ S : Nat → Prop, HashIs S wx q m ∧ (∀ k, S k → B ≤ k) ∧ OwnB B 5 wx v m ∧ (∀ k, v.ownBlock = some k → ¬ S k) ∧ Below B w wx

set_option maxHeartbeats 4000000 in
set_option maxRecDepth 100000 in
theorem walk0 (w : World) (va : Value) (ls : List (List UInt8)) (hA : Byts w va ls) (hl : (ls.map List.length).sum ≤ 1099511627776) (hn : ls.length ≤ 1099511627776)
    (hT : TabB w 1) (hR : TabB w 0) :
    Calls Tryd.prog 4 #[va] w fun e w' => e = .returned (.bool true) ∧ Below w.heap.size w w' := by
  obtain ⟨a1, a2, rfl, hka, _⟩ := id hA
  have hg1 : 1 < w.heap.size := (Array.getElem?_eq_some_iff.1 hT.choose_spec.choose_spec).1
  have HA := Lib.hid hA
  have HT := Lib.hid hT
  have HR := Lib.hid hR
  have HSUM := Lib.hid hl
  clear hA hT hR hl
  go_enter Tryd.func4, Tryd.ntmps4
  go_wp2_with fail
  refine (new_calls w).mono ?_
  rintro e w1 ⟨q, rfl, hq, hH, hb1⟩
  have HH := Lib.hid hH
  have HB1 := Lib.hid hb1
  clear hH hb1
  go_wp2_with fail
  refine (alive_calls _ (HT.out.below HB1.out)).mono ?_
  rintro e w2 ⟨rfl, hb2⟩
  have HP := Lib.hid (show PRel w.heap.size w q (.slice none 0 0) [] w2 from ⟨(fun k => k = q), HashRaw.fr HH.out (Fr.ofBelow hb2) (fun k h1 _ h2 => by omega), (fun k hk => by omega), OwnB.nil _ _ _, (fun k hk => by cases hk), HB1.out.trans (hb2.mono HB1.out.size)⟩)
  clear hb2 HB1 HH
  go_wp2
  go_loopw [4, 17] (fun v i wx => ∃ (n : Nat) (m : List UInt8), n ≤ ls.length ∧ i = .int .i64 n ∧ m = (ls.take n).flatten ∧ PRel w.heap.size w q v m wx) (fun _ i _ => ls.length - (intOf i).toNat)
  case atStart => exact ⟨0, [], by omega, rfl, by simp, HP.out⟩
  case round =>
    obtain ⟨n, m, hn1, rfl, hm, hP⟩ := hrel
    obtain ⟨S, h1, h2, h3, h4, h5⟩ := hP
    obtain ⟨xa, xc, rfl, hxk, _⟩ := id h3.byt
    have hmn : m.length ≤ 1099511627776 := by rw [hm]; exact Nat.le_trans (flat_le ls n) HSUM.out
    have HM := Lib.hid hm
    have HH := Lib.hid h1
    have HS := Lib.hid h2
    have HV := Lib.hid h3
    have HVS := Lib.hid h4
    have HB := Lib.hid h5
    have hsz := h5.size
    clear hm h1 h2 h3 h4 h5 HP
    by_cases hlt : n < ls.length
    · obtain ⟨pb, po, pc, pe, rfl, hc, hpB⟩ := HA.out.cell n hlt
      have hpB0 := hpB
      have HPB := Lib.hid hpB0
      obtain ⟨_, _, hpe, hpk, _⟩ := id hpB0
      clear hpB hpB0
      have hX : (ls.take (n + 1)).flatten = m ++ ls[n] := by rw [HM.out]; exact flat_succ ls n hlt
      have hsum : (m ++ ls[n]).length ≤ 1099511627776 := by rw [← hX]; exact Nat.le_trans (flat_le ls (n + 1)) HSUM.out
      have HX := Lib.hid hX
      rw [List.length_append] at hsum
      clear hX hpe HM
      generalize ls[n] = p at *
      have hO : OwnB wr.heap.size 5 (wr.alloc (.cells #[] 5)) (.slice (some ⟨wr.heap.size, 0, none⟩) 0 0) [] := World.ownsRow_lit wr #[] 0 (Nat.le_refl _) (Nat.zero_le _) rfl
      have hz : Below wr.heap.size wr (wr.alloc (.cells #[] 5)) := (Below.refl _ _).alloc (Nat.le_refl _) _
      have hcB : ∀ wx, Below w.heap.size w wx → wx.cell? ⟨pb, po + n, none⟩ = some (.slice pc p.length pe) := fun wx hb => by
        rw [World.cell?_of_block (w := w) (hb.block pb (World.block_lt_of_cell? w _ hc))]; exact hc
      have HCB := Lib.hid hcB
      have hc1 := hcB _ (HB.out.alloc hsz (.cells #[] 5))
      clear hcB hc
      have HO := Lib.hid hO
      have HZ := Lib.hid hz
      clear hO hz
      go_wp2_with (at_builtin; refine wpList_append_byt _ rfl (.tmp 20) (.tmp 24) 22 rfl wr.heap.size 5 elemB _ [] rfl HO.out _ p rfl ((HPB.out.below HB.out).below HZ.out) (by simp; omega) (by simp) ?_)
      intro va1 vc1 w3 o1 o2 o3
      have hb3 : Below wr.heap.size wr w3 := HZ.out.grown o2 (by simp) (fun k hk => (HO.out.lt k hk).1)
      have hs3 : wr.heap.size ≤ w3.heap.size := hb3.size
      have HH3 := Lib.hid (show HashIs (fun k => S k ∧ k < wr.heap.size) w3 q m from (HashRaw.mono HH.out (fun k hk h => ⟨h, hk⟩)).fr (Fr.ofBelow hb3) (fun k h1 _ h2 => by omega))
      have HV3 := Lib.hid (HV.out.below hb3)
      have HB3 := Lib.hid (HB.out.trans (hb3.mono hsz))
      have HVL := Lib.hid (fun k hk => (HV.out.lt k hk).2)
      have HO3 := Lib.hid o1
      clear o1 o2 o3 HO HZ HH HV hb3 hc1
      go_wp2_with fail
      refine (write_calls (fun k => S k ∧ k < wr.heap.size) (fun k => wr.heap.size ≤ k) w3 q m _ p HH3.out (HO3.out.byt.mono (fun k _ h => h.2)) (fun k _ h1 h2 => by omega) (by omega) (HT.out.below HB3.out) (fun h => by have := HS.out _ h.1; omega)).mono ?_
      rintro e w4 ⟨rfl, hH4, hf4⟩
      have hs4 : w3.heap.size ≤ w4.heap.size := hf4.size
      have HH4 := Lib.hid hH4
      have HF4 := Lib.hid hf4
      have HOR := Lib.hid (OwnRel.start (g2 := w3.heap.size) HO3.out rfl rfl hf4 (fun k h1 h2 => by omega))
      clear hH4 hf4 HH3 HO3
      go_wp2
      go_loopw [31] (fun i wx => ∃ k : Nat, k ≤ p.length ∧ i = .int .i64 k ∧ OwnRel wr.heap.size w3.heap.size w4 va1 p.length wx) (fun i _ => p.length - (intOf i).toNat)
      case atStart => exact ⟨0, by omega, rfl, HOR.out⟩
      case round =>
        obtain ⟨k, hk, rfl, hR⟩ := hrel
        have HOW := Lib.hid hR
        by_cases hlk : k < p.length
        · obtain ⟨b, rfl, _, _, hcc, hzz⟩ := hR.2.resolve_left (by omega)
          obtain ⟨u, hu⟩ := hcc k hlk
          have hz := hzz k
          clear hcc hzz hR
          go_wp2
          go_roundw
          case rel => exact ⟨k + 1, by omega, by go_num, HOW.out.set hlk _⟩
          case measure => simp [intOf]; omega
        · obtain rfl : k = p.length := by omega
          have hF := hR.1
          have HH5 := Lib.hid (HashRaw.fr HH4.out hF (fun k _ h1 h2 => by
            rcases h1 with h1 | h1 <;> omega))
          have HV5 := Lib.hid ((HV3.out.fr HF4.out (fun k hk h => HVS.out k hk h.1)).fr hF (fun k hk h => by have := HVL.out k hk; omega))
          have hsr := hF.size
          obtain ⟨S5, hH5, hSB, hSV, hSL⟩ : ∃ S5 : Nat → Prop, HashIs S5 wr q (m ++ p) ∧ (∀ k, S5 k → w.heap.size ≤ k) ∧ (∀ k, (Value.slice xa m.length xc).ownBlock = some k → ¬ S5 k) ∧ ∀ k, S5 k → k < wr.heap.size := by
            refine ⟨_, HH5.out, fun k hk => ?_, fun k hk h => ?_, fun k hk => ?_⟩
            · rcases hk with hk | hk
              · exact HS.out k hk.1
              · omega
            · rcases h with h | h
              · exact HVS.out k hk h.1
              · have := HVL.out k hk; omega
            · rcases hk with hk | hk <;> omega
          have HB5 := Lib.hid (HB3.out.trans ((HF4.out.below (by omega) (fun k h => HS.out k h.1)).trans (hF.below (by omega) (fun k h => by omega))))
          clear HH4 HF4 HOR HOW hF HV3 HB3 hR HS HVS HVL HB HH5 hlk hk
          have HH5 := Lib.hid hH5
          have HSB := Lib.hid hSB
          have HSV := Lib.hid hSV
          have HSL := Lib.hid hSL
          have hc5 := HCB.out wr HB5.out
          have hsw := HB5.out.size
          clear hH5 hSB hSV hSL
          go_wp2_with (at_builtin; refine wpList_append_byt _ rfl (.tmp 38) (.tmp 42) 22 rfl w.heap.size 5 elemB _ m rfl HV5.out _ p rfl (HPB.out.below HB5.out) (by omega) hsw ?_)
          intro va2 vc2 w6 o1 o2 o3
          have HH6 := Lib.hid (HashRaw.fr HH5.out (Fr.ofGrown o2) (fun k _ h1 h2 => HSV.out k h2 h1))
          have HB6 := Lib.hid (HB5.out.grown o2 hsw (fun k hk => (HV5.out.lt k hk).1))
          have HV6 := Lib.hid o1
          have HSV6 := Lib.hid (show ∀ k, (Value.slice va2 (m.length + p.length) vc2).ownBlock = some k → ¬ S5 k from fun k hk h => by
            rcases o3 with o3 | o3
            · rw [o3] at hk; exact HSV.out k hk h
            · rw [o3] at hk; cases hk; have := HSL.out _ h; omega)
          clear o1 o2 o3 HH5 HV5 HSV hc5 hsw hsr
          have hlx : (m ++ p).length = m.length + p.length := List.length_append
          have hqx : (Op.equalIn 10000 24 (.agg ((sha (m ++ p)).map byt).toArray) (.agg ((sha (m ++ p)).map byt).toArray)).run Tryd.prog = fun w => .ok true w := by
            funext w; rw [run_equal_u8 (n := 32) Tryd.underlying24 (i := _) rfl (by kernel_rfl) Tryd.underlying5 w _ _ (sha_length _) (sha_length _)]; simp
          obtain ⟨X, hX⟩ : ∃ X, ((sha (m ++ p)).map byt).toArray = X := ⟨_, rfl⟩
          rw [hX] at hqx
          have hqx := fun w => congrFun hqx w
          have EX := Lib.hid hX
          clear hX
          go_wp2_with fail
          refine (sum_calls _ w6 q (m ++ p) HH6.out (by omega) (HT.out.below HB6.out)).mono ?_
          rintro e w7 ⟨he, hb⟩
          rw [EX.out] at he
          subst he
          have hsb := HB6.out.size
          have HB7 := Lib.hid (HB6.out.trans (hb.mono hsb))
          have HH7 := Lib.hid (HashRaw.fr HH6.out (Fr.ofBelow hb) (fun k hk _ h2 => by omega))
          have HV7 := Lib.hid (HV6.out.below hb)
          clear hb HB6 HH6 HV6
          go_wp2_with fail
          refine (ref_of_calls w7 _ _ (m ++ p) HV7.out.byt.any (by omega) (HR.out.below HB7.out)).mono ?_
          rintro e w8 ⟨he, hb⟩
          rw [EX.out] at he
          subst he
          have hsb := HB7.out.size
          have HB8 := Lib.hid (HB7.out.trans (hb.mono hsb))
          have HH8 := Lib.hid (HashRaw.fr HH7.out (Fr.ofBelow hb) (fun k hk _ h2 => by omega))
          have HV8 := Lib.hid (HV7.out.below hb)
          clear hb HB7 HH7 HV7
          go_wp2_with fail
          refine (len_calls _ w8 q (m ++ p) HH8.out).mono ?_
          rintro e w9 ⟨rfl, rfl⟩
          go_wp2
          go_roundw
          case rel => exact ⟨n + 1, m ++ p, by omega, by go_num, HX.out.symm, S5, HH8.out, HSB.out, HV8.out, HSV6.out, HB8.out⟩
          case measure => simp [intOf]; omega
    · obtain rfl : n = ls.length := by omega
      have hqx : (Op.equalIn 10000 24 (.agg ((sha m).map byt).toArray) (.agg ((sha m).map byt).toArray)).run Tryd.prog = fun w => .ok true w := by
        funext w; rw [run_equal_u8 (n := 32) Tryd.underlying24 (i := _) rfl (by kernel_rfl) Tryd.underlying5 w _ _ (sha_length _) (sha_length _)]; simp
      obtain ⟨X, hX⟩ : ∃ X, ((sha m).map byt).toArray = X := ⟨_, rfl⟩
      rw [hX] at hqx
      have hqx := fun w => congrFun hqx w
      have EX := Lib.hid hX
      clear hX
      go_wp2_with fail
      refine (sum_calls _ wr q m HH.out (by omega) (HT.out.below HB.out)).mono ?_
      rintro e w7 ⟨he, hb⟩
      rw [EX.out] at he
      subst he
      have HB7 := Lib.hid (HB.out.trans (hb.mono hsz))
      have HV7 := Lib.hid (HV.out.below hb)
      clear hb
      go_wp2_with fail
      refine (of_calls w7 _ _ m HV7.out.byt.any (by omega) (HT.out.below HB7.out)).mono ?_
      rintro e w8 ⟨he, hb⟩
      rw [EX.out] at he
      subst he
      have HB8 := Lib.hid (HB7.out.trans (hb.mono HB7.out.size))
      clear hb
      go_wp2
      go_ret
      exact ⟨rfl, HB8.out⟩
theorem walk (w : World) (va : Value) (ls : List (List UInt8)) (hA : Byts w va ls) (hl : (ls.map List.length).sum ≤ 1099511627776) (hn : ls.length ≤ 1099511627776) (hL : laidMetH Tryd.prog Rows.shaPiecesUptoRow.laid w) :
    Calls Tryd.prog 4 #[va] w fun e w' => e = .returned (.bool true) ∧ Below w.heap.size w w' :=
  walk0 w va ls hA hl hn (tab_sha hL (by kernel_rfl) (List.Mem.tail _ (List.Mem.head _))) (tab_ref hL (by kernel_rfl) (List.Mem.head _))
end Go.Proofs.YtodhhejliijdmaaDoor.shaPieces
