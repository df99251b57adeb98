/- ShaClones: a clone goes its own way. Condition: the three texts together are of at most 2^40 bytes. -/
import Derived.Test.YtodhhejliijdmaaDoorShaS
import Derived.Test.YtodhhejliijdmaaDoorShaClone
import Derived.Test.YtodhhejliijdmaaDoorShaL
import Derived.Test.YtodhhejliijdmaaDoorShaLaid
import Derived.Test.YtodhhejliijdmaaDoorQuiet
namespace Go.Proofs.YtodhhejliijdmaaDoor.shaClones
open Go Go.RowKit Mem Sha ShaW
set_option linter.unusedVariables false

def Rg (a b : Nat) : Nat → Prop := fun k => a ≤ k ∧ k < b
theorem HashRaw.below {S : Nat → Prop} {w w' : World} {h : Nat} {st : St} {rest : List UInt8} {n : Nat} (H : HashRaw S w h st rest n) (hb : Below w.heap.size w w') : HashRaw S w' h st rest n :=
  H.fr (Fr.ofBelow hb) (fun k h1 _ h2 => by omega)

set_option maxHeartbeats 4000000 in
set_option maxRecDepth 100000 in
theorem walk0 (w : World) (va vb vc : Value) (a b c : List UInt8) (hA : Byt Any w va a) (hB : Byt Any w vb b) (hC : Byt Any w vc c) (hl : a.length + b.length + c.length ≤ 1099511627776)
    (hT : TabB w 1) (hR : TabB w 0) :
    Calls Tryd.prog 5 #[va, vb, vc] w fun e w' => e = .returned (.bool true) ∧ Below w.heap.size w w' := by
  have hAl := hA.lt
  have hBl := hB.lt
  have hCl := hC.lt
  obtain ⟨a1, a2, rfl, hka, _⟩ := id hA
  obtain ⟨b1, b2, rfl, hkb, _⟩ := id hB
  obtain ⟨c1, c2, rfl, hkc, _⟩ := id hC
  have hg1 : 1 < w.heap.size := (Array.getElem?_eq_some_iff.1 hT.choose_spec.choose_spec).1
  have HA := Lib.hid hAl
  have HB := Lib.hid hBl
  have HC := Lib.hid hCl
  have HT := Lib.hid hT
  have HR := Lib.hid hR
  clear hA hB hC hAl hBl hCl hT hR
  go_enter Tryd.func5, Tryd.ntmps5
  go_wp2_with fail
  refine (new_calls w).mono ?_
  rintro e w1 ⟨q, rfl, hq, hH, hb1⟩
  have hq1 : q < w1.heap.size := hH.2.choose_spec.1.lt
  have HH := Lib.hid hH
  have HB1 := Lib.hid hb1
  clear hH hb1
  go_wp2_with fail
  refine (alive_calls _ (HT.out.below HB1.out)).mono ?_
  rintro e w2 ⟨rfl, hb2⟩
  have HH := Lib.hid (HashRaw.below HH.out hb2)
  have HB2 := Lib.hid (HB1.out.trans (hb2.mono HB1.out.size))
  have hs2 : w1.heap.size ≤ w2.heap.size := hb2.size
  clear hb2 HB1
  go_wp2_with fail
  refine (write_calls (fun k => k = q) (fun k => k < w.heap.size) w2 q [] _ a HH.out ((HA.out.mono (fun k _ h => h.1)).below HB2.out) (fun k _ h1 h2 => by omega) (by simp; omega) (HT.out.below HB2.out) (by omega)).mono ?_
  rintro e w3 ⟨rfl, hH3, hf3⟩
  have hs3 : w2.heap.size ≤ w3.heap.size := hf3.size
  have HH := Lib.hid (show HashIs (Rg w.heap.size w3.heap.size) w3 q a from hH3.mono (fun k hk h => ⟨by rcases h with h | h <;> omega, hk⟩))
  have HB3 := Lib.hid (HB2.out.trans (hf3.below (by omega) (fun k h => by omega)))
  clear hH3 hf3 HB2
  go_wp2_with fail
  refine (clone_calls _ w3 q a HH.out).mono ?_
  rintro e w4 ⟨k, rfl, hK, hb4⟩
  have hs4 : w3.heap.size ≤ w4.heap.size := hb4.size
  have HH := Lib.hid (HashRaw.below HH.out hb4)
  have HK := Lib.hid hK
  have HB4 := Lib.hid (HB3.out.trans (hb4.mono (by omega)))
  clear hK hb4 HB3
  go_wp2_with fail
  refine (write_calls (Rg w.heap.size w3.heap.size) (fun k => k < w.heap.size) w4 q a _ b HH.out ((HB.out.mono (fun k _ h => h.1)).below HB4.out) (fun k _ h1 h2 => by have := h2.1; omega) (by omega) (HT.out.below HB4.out) (fun h => by have := h.1; omega)).mono ?_
  rintro e w5 ⟨rfl, hH5, hf5⟩
  have hs5 : w4.heap.size ≤ w5.heap.size := hf5.size
  have HH := Lib.hid hH5
  have HK := Lib.hid (HashRaw.fr HK.out hf5 (fun j _ h1 h2 => by have := h2.2; omega))
  have HB5 := Lib.hid (HB4.out.trans (hf5.below (by omega) (fun k h => h.1)))
  clear hH5 hf5 HB4
  go_wp2_with fail
  refine (write_calls _ (fun k => k < w.heap.size) w5 k a _ c HK.out ((HC.out.mono (fun k _ h => h.1)).below HB5.out) (fun k _ h1 h2 => by have := h2.1; omega) (by omega) (HT.out.below HB5.out) (fun h => by have := h.1; omega)).mono ?_
  rintro e w6 ⟨rfl, hK6, hf6⟩
  have hs6 : w5.heap.size ≤ w6.heap.size := hf6.size
  have HK := Lib.hid hK6
  have HH := Lib.hid (HashRaw.fr HH.out hf6 (fun j _ h1 h2 => by
    rcases h1 with h1 | h1
    · have := h1.2; have := h2.1; omega
    · have := h1.1; have := h2.2; omega))
  have HB6 := Lib.hid (HB5.out.trans (hf6.below (by omega) (fun k h => by have := h.1; omega)))
  clear hK6 hf6 HB5
  have hO : OwnB w6.heap.size 5 (w6.alloc (.cells #[] 5)) (.slice (some ⟨w6.heap.size, 0, none⟩) 0 0) [] := World.ownsRow_lit w6 #[] 0 (Nat.le_refl _) (Nat.zero_le _) rfl
  have hz : Below w6.heap.size w6 (w6.alloc (.cells #[] 5)) := (Below.refl _ _).alloc (Nat.le_refl _) _
  have HO := Lib.hid hO
  have HZ := Lib.hid hz
  clear hO hz
  go_wp2_with (at_builtin; refine wpList_append_byt _ rfl (.tmp 31) (.tmp 32) 22 rfl w6.heap.size 5 elemB _ [] rfl HO.out _ a rfl ((HA.out.below HB6.out).below HZ.out) (by simp; omega) (by simp) ?_)
  intro va1 vc1 w7 o1 o2 o3
  have HZ7 := Lib.hid (HZ.out.grown o2 (by simp) (fun k hk => (HO.out.lt k hk).1))
  have HO7 := Lib.hid o1
  clear o1 o2 o3 HO HZ
  go_wp2_with (at_builtin; refine wpList_append_byt _ rfl (.tmp 33) (.tmp 34) 22 rfl w6.heap.size 5 elemB _ a rfl HO7.out _ b rfl ((HB.out.below HB6.out).below HZ7.out) (by omega) HZ7.out.size ?_)
  intro va2 vc2 w8 o1 o2 o3
  have HZ8 := Lib.hid (HZ7.out.grown o2 HZ7.out.size (fun k hk => (HO7.out.lt k hk).1))
  have HX := Lib.hid o1.byt
  clear o1 o2 o3 HO7 HZ7
  have hs8 : w6.heap.size ≤ w8.heap.size := HZ8.out.size
  have HH := Lib.hid (HashRaw.below HH.out HZ8.out)
  have HK := Lib.hid (HashRaw.below HK.out HZ8.out)
  have HB8 := Lib.hid (HB6.out.trans (HZ8.out.mono (by omega)))
  clear HZ8 HB6
  have hO : OwnB w8.heap.size 5 (w8.alloc (.cells #[] 5)) (.slice (some ⟨w8.heap.size, 0, none⟩) 0 0) [] := World.ownsRow_lit w8 #[] 0 (Nat.le_refl _) (Nat.zero_le _) rfl
  have hz : Below w8.heap.size w8 (w8.alloc (.cells #[] 5)) := (Below.refl _ _).alloc (Nat.le_refl _) _
  have HO := Lib.hid hO
  have HZ := Lib.hid hz
  clear hO hz
  go_wp2_with (at_builtin; refine wpList_append_byt _ rfl (.tmp 36) (.tmp 37) 22 rfl w8.heap.size 5 elemB _ [] rfl HO.out _ a rfl ((HA.out.below HB8.out).below HZ.out) (by simp; omega) (by simp) ?_)
  intro va3 vc3 w9 o1 o2 o3
  have HZ7 := Lib.hid (HZ.out.grown o2 (by simp) (fun k hk => (HO.out.lt k hk).1))
  have HO7 := Lib.hid o1
  clear o1 o2 o3 HO HZ
  go_wp2_with (at_builtin; refine wpList_append_byt _ rfl (.tmp 38) (.tmp 39) 22 rfl w8.heap.size 5 elemB _ a rfl HO7.out _ c rfl ((HC.out.below HB8.out).below HZ7.out) (by omega) HZ7.out.size ?_)
  intro va4 vc4 w10 o1 o2 o3
  have HZ8 := Lib.hid (HZ7.out.grown o2 HZ7.out.size (fun k hk => (HO7.out.lt k hk).1))
  have HY := Lib.hid o1.byt.any
  have HX := Lib.hid (HX.out.below HZ8.out).any
  clear o1 o2 o3 HO7 HZ7
  have hs10 : w8.heap.size ≤ w10.heap.size := HZ8.out.size
  have HH := Lib.hid (HashRaw.below HH.out HZ8.out)
  have HK := Lib.hid (HashRaw.below HK.out HZ8.out)
  have HB10 := Lib.hid (HB8.out.trans (HZ8.out.mono (by omega)))
  clear HZ8 HB8
  have hlx : (a ++ b).length = a.length + b.length := List.length_append
  have hly : (a ++ c).length = a.length + c.length := List.length_append
  have hqx : (Op.equalIn 10000 24 (.agg ((sha (a ++ b)).map byt).toArray) (.agg ((sha (a ++ b)).map byt).toArray)).run Tryd.prog = fun w => .ok true w := by
    funext w; rw [run_equal_u8 (n := 32) Tryd.underlying24 (i := _) rfl (by kernel_rfl) Tryd.underlying5 w _ _ (sha_length _) (sha_length _)]; simp
  have hqy : (Op.equalIn 10000 24 (.agg ((sha (a ++ c)).map byt).toArray) (.agg ((sha (a ++ c)).map byt).toArray)).run Tryd.prog = fun w => .ok true w := by
    funext w; rw [run_equal_u8 (n := 32) Tryd.underlying24 (i := _) rfl (by kernel_rfl) Tryd.underlying5 w _ _ (sha_length _) (sha_length _)]; simp
  obtain ⟨X, hX⟩ : ∃ X, ((sha (a ++ b)).map byt).toArray = X := ⟨_, rfl⟩
  obtain ⟨Y, hY⟩ : ∃ Y, ((sha (a ++ c)).map byt).toArray = Y := ⟨_, rfl⟩
  rw [hX] at hqx
  rw [hY] at hqy
  have hqx := fun w => congrFun hqx w
  have hqy := fun w => congrFun hqy w
  have EX := Lib.hid hX
  have EY := Lib.hid hY
  clear hX hY
  have HB1 := HB10
  have hsz : w.heap.size ≤ w10.heap.size := HB10.out.size
  go_wp2_with fail
  refine (sum_calls _ w10 q (a ++ b) HH.out (by omega) (HT.out.below HB1.out)).mono ?_
  rintro e w11 ⟨he, hb⟩
  rw [EX.out] at he
  subst he
  have HH := Lib.hid (HashRaw.below HH.out hb)
  have HK := Lib.hid (HashRaw.below HK.out hb)
  have HX := Lib.hid (HX.out.below hb)
  have HY := Lib.hid (HY.out.below hb)
  have HB1 := Lib.hid (HB1.out.trans (hb.mono hsz))
  have hsz : w.heap.size ≤ w11.heap.size := HB1.out.size
  clear hb
  go_wp2_with fail
  refine (ref_of_calls _ _ _ (a ++ b) HX.out (by omega) (HR.out.below HB1.out)).mono ?_
  rintro e w12 ⟨he, hb⟩
  rw [EX.out] at he
  subst he
  have HH := Lib.hid (HashRaw.below HH.out hb)
  have HK := Lib.hid (HashRaw.below HK.out hb)
  have HX := Lib.hid (HX.out.below hb)
  have HY := Lib.hid (HY.out.below hb)
  have HB1 := Lib.hid (HB1.out.trans (hb.mono hsz))
  have hsz : w.heap.size ≤ w12.heap.size := HB1.out.size
  clear hb
  go_wp2_with fail
  refine (sum_calls _ w12 k (a ++ c) HK.out (by omega) (HT.out.below HB1.out)).mono ?_
  rintro e w13 ⟨he, hb⟩
  rw [EY.out] at he
  subst he
  have HH := Lib.hid (HashRaw.below HH.out hb)
  have HK := Lib.hid (HashRaw.below HK.out hb)
  have HX := Lib.hid (HX.out.below hb)
  have HY := Lib.hid (HY.out.below hb)
  have HB1 := Lib.hid (HB1.out.trans (hb.mono hsz))
  have hsz : w.heap.size ≤ w13.heap.size := HB1.out.size
  clear hb
  go_wp2_with fail
  refine (ref_of_calls _ _ _ (a ++ c) HY.out (by omega) (HR.out.below HB1.out)).mono ?_
  rintro e w14 ⟨he, hb⟩
  rw [EY.out] at he
  subst he
  have HH := Lib.hid (HashRaw.below HH.out hb)
  have HK := Lib.hid (HashRaw.below HK.out hb)
  have HX := Lib.hid (HX.out.below hb)
  have HY := Lib.hid (HY.out.below hb)
  have HB1 := Lib.hid (HB1.out.trans (hb.mono hsz))
  have hsz : w.heap.size ≤ w14.heap.size := HB1.out.size
  clear hb
  go_wp2_with fail
  refine (len_calls _ w14 q (a ++ b) HH.out).mono ?_
  rintro e w15 ⟨rfl, rfl⟩
  go_wp2_with fail
  refine (len_calls _ _ k (a ++ c) HK.out).mono ?_
  rintro e w15 ⟨rfl, rfl⟩
  go_wp2
  go_ret
  exact ⟨ret_bool (by simp), HB1.out⟩
theorem walk (w : World) (va : Value) (a : List UInt8) (hA : Byt Any w va a) (_ : a.length ≤ 140737488351232) (vb : Value) (b : List UInt8) (hB : Byt Any w vb b) (_ : b.length ≤ 140737488351232) (vc : Value) (c : List UInt8) (hC : Byt Any w vc c) (_ : c.length ≤ 140737488351232)
    (hl : a.length + b.length + c.length ≤ 1099511627776) (hL : laidMetH Tryd.prog Rows.shaClonesUptoRow.laid w) :
    Calls Tryd.prog 5 #[va, vb, vc] w fun e w' => e = .returned (.bool true) ∧ Below w.heap.size w w' :=
  walk0 w va vb vc a b c hA hB hC hl (tab_sha hL (by kernel_rfl) (List.Mem.tail _ (List.Mem.head _))) (tab_ref hL (by kernel_rfl) (List.Mem.head _))
end Go.Proofs.YtodhhejliijdmaaDoor.shaClones
