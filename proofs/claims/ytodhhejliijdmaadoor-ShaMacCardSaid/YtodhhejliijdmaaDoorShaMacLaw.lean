/- ShaMac: for every key and text the program's Mac is the reference's. No condition. -/
import Derived.Test.YtodhhejliijdmaaDoorShaMac
import Derived.Test.YtodhhejliijdmaaDoorShaMacP
import Derived.Test.YtodhhejliijdmaaDoorShaLaid
import Derived.Test.YtodhhejliijdmaaDoorQuiet
namespace Go.Proofs.YtodhhejliijdmaaDoor.shaMac
open Go Go.RowKit Mem Sha ShaW
set_option linter.unusedVariables false

set_option maxHeartbeats 4000000 in
set_option maxRecDepth 100000 in
theorem walk0 (w : World) (va vb : Value) (a b : List UInt8) (hA : Byt Any w va a) (hB : Byt Any w vb b) (ha : a.length ≤ 140737488351232) (hb : b.length ≤ 140737488351232)
    (hT : TabB w 1) (hR : TabB w 0) :
    Calls Tryd.prog 8 #[va, vb] w fun e w' => e = .returned (.bool true) ∧ Below w.heap.size w w' := by
  obtain ⟨a1, a2, rfl, hka, _⟩ := id hA
  obtain ⟨b1, b2, rfl, hkb, _⟩ := id hB
  have HA := Lib.hid hA
  have HB := Lib.hid hB
  have HT := Lib.hid hT
  have HR := Lib.hid hR
  clear hA hB hT hR
  have hqx : (Op.equalIn 10000 24 (.agg ((mac a b).map byt).toArray) (.agg ((mac a b).map byt).toArray)).run Tryd.prog = fun w => .ok true w := by
    funext w; rw [run_equal_u8 (n := 32) Tryd.underlying24 (i := _) rfl (by kernel_rfl) Tryd.underlying5 w _ _ (mac_length _ _) (mac_length _ _)]; simp
  obtain ⟨X, hX⟩ : ∃ X, ((mac a b).map byt).toArray = X := ⟨_, rfl⟩
  rw [hX] at hqx
  have hqx := fun w => congrFun hqx w
  have EX := Lib.hid hX
  clear hX
  go_enter Tryd.func8, Tryd.ntmps8
  go_wp2_with fail
  refine (alive_calls w HT.out).mono ?_
  rintro e w1 ⟨rfl, hb1⟩
  have HB1 := Lib.hid hb1
  clear hb1
  go_wp2_with fail
  refine (mac_calls w1 _ _ a b (HA.out.below HB1.out) (HB.out.below HB1.out) ha hb (HT.out.below HB1.out)).mono ?_
  rintro e w2 ⟨he, hb2⟩
  rw [EX.out] at he
  subst he
  have HB2 := Lib.hid (HB1.out.trans (hb2.mono HB1.out.size))
  clear hb2 HB1
  go_wp2_with fail
  refine (ref_mac_calls w2 _ _ a b (HA.out.below HB2.out) (HB.out.below HB2.out) ha hb (HR.out.below HB2.out)).mono ?_
  rintro e w3 ⟨he, hb3⟩
  rw [EX.out] at he
  subst he
  have HB3 := Lib.hid (HB2.out.trans (hb3.mono HB2.out.size))
  clear hb3 HB2
  go_wp2
  go_ret
  exact ⟨rfl, HB3.out⟩
theorem walk (w : World) (va : Value) (a : List UInt8) (hA : Byt Any w va a) (ha : a.length ≤ 140737488351232) (vb : Value) (b : List UInt8) (hB : Byt Any w vb b) (hb : b.length ≤ 140737488351232) (hL : laidMetH Tryd.prog Rows.shaMacRow.laid w) :
    Calls Tryd.prog 8 #[va, vb] w fun e w' => e = .returned (.bool true) ∧ Below w.heap.size w w' :=
  walk0 w va vb a b hA hB ha hb (tab_sha hL (by kernel_rfl) (List.Mem.tail _ (List.Mem.head _))) (tab_ref hL (by kernel_rfl) (List.Mem.head _))
end Go.Proofs.YtodhhejliijdmaaDoor.shaMac
