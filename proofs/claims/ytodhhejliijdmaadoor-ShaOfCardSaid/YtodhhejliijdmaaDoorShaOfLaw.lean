/- ShaOf: for every text the program's digest is the reference's, and the text stays as it is. No condition. -/
import Derived.Test.YtodhhejliijdmaaDoorShaS
import Derived.Test.YtodhhejliijdmaaDoorShaL
import Derived.Test.YtodhhejliijdmaaDoorShaLaid
import Derived.Test.YtodhhejliijdmaaDoorQuiet
import Derived.BigQuiet
import Derived.RegionTactic
namespace Go.Proofs.YtodhhejliijdmaaDoor.shaOf
open Go Go.RowKit Mem Sha ShaW
set_option linter.unusedVariables false

set_option maxHeartbeats 4000000 in
set_option maxRecDepth 100000 in
theorem walk0 (w : World) (v : Value) (l : List UInt8) (hB : Byt Any w v l) (hl : l.length ≤ 140737488351232) (hT : TabB w 1) (hR : TabB w 0) :
    Calls Tryd.prog 3 #[v] w fun e w' => e = .returned (.bool true) ∧ Below w.heap.size w w' := by
  obtain ⟨a, c, rfl, hk, _⟩ := id hB
  have hb0 : Below w.heap.size w (w.alloc (.cells #[] 5)) := (Below.refl _ _).alloc (Nat.le_refl _) _
  have hO : OwnB w.heap.size 5 (w.alloc (.cells #[] 5)) (.slice (some ⟨w.heap.size, 0, none⟩) 0 0) [] := World.ownsRow_lit w #[] 0 (Nat.le_refl _) (Nat.zero_le _) rfl
  have HO := Lib.hid hO
  have HB0 := Lib.hid (hB.below hb0)
  have HBW := Lib.hid hb0
  have HT := Lib.hid hT
  have HR := Lib.hid hR
  have HBB := Lib.hid hB
  clear hO hB hb0 hT hR
  go_enter Tryd.func3, Tryd.ntmps3
  go_wp2_with (at_builtin; refine wpList_append_byt _ rfl (.tmp 5) (.tmp 6) 22 rfl w.heap.size 5 elemB _ [] rfl HO.out _ l rfl HB0.out (by simp; omega) (by simp) ?_)
  intro va vc w1 o1 o2 o3
  have hb1 : Below w.heap.size w w1 := HBW.out.grown o2 (by simp) (by intro k hk; cases hk; exact Nat.le_refl _)
  have HO1 := Lib.hid o1
  have HB1 := Lib.hid hb1
  clear o1 o2 o3 hb1 HO HBW HB0
  go_wp2_with fail
  refine (of_calls _ Any _ l HO1.out.byt.any (by omega) (HT.out.below HB1.out)).mono ?_
  rintro e w2 ⟨rfl, hb2⟩
  obtain ⟨h3, hm3⟩ := made32 w2 (sha l)
  have hb3 := HB1.out.trans ((hb2.trans (hm3.mono hb2.size)).mono HB1.out.size)
  have hO3 := (HO1.out.below hb2).below hm3
  have HD := Lib.hid (new32 w2)
  have HONE := Lib.hid (one_cells (sha l))
  have H3 := Lib.hid h3
  have HB3 := Lib.hid hb3
  have HO3 := Lib.hid hO3
  clear hb2 h3 hm3 hb3 hO3 HO1 HB1
  go_upto_region 3 with (first | (with_reducible refine wpList_store_blk rfl _ _ _ rfl w2.heap.size ((sha l).map byt) _ rfl _ rfl rfl HD.out (by kernel_rfl) (by simp [sha_length]) HONE.out ?_))
  clear HD HONE
  generalize ((w2.alloc (.cells #[.int .u8 0, .int .u8 0, .int .u8 0, .int .u8 0, .int .u8 0, .int .u8 0, .int .u8 0, .int .u8 0, .int .u8 0, .int .u8 0, .int .u8 0, .int .u8 0, .int .u8 0, .int .u8 0, .int .u8 0, .int .u8 0, .int .u8 0, .int .u8 0, .int .u8 0, .int .u8 0, .int .u8 0, .int .u8 0, .int .u8 0, .int .u8 0, .int .u8 0, .int .u8 0, .int .u8 0, .int .u8 0, .int .u8 0, .int .u8 0, .int .u8 0, .int .u8 0] 24)).setRow w2.heap.size ((sha l).map byt).toArray) = w3 at *
  generalize w2.heap.size = g at *
  have hT3 : ∀ x : Later w3.heap.size w3, TabB x.w 1 := fun x => (HT.out.below HB3.out).below x.h
  have hR3 : ∀ x : Later w3.heap.size w3, TabB x.w 0 := fun x => (HR.out.below HB3.out).below x.h
  have hL3 : ∀ x : Later w3.heap.size w3, Blk x.w g ((sha l).map byt) 24 := fun x => H3.out.below x.h
  have hC1 : ∀ x : Later w3.heap.size w3, (convert 22 9 (.slice va l.length vc)).run Tryd.prog x.w = .ok (.string (str l)) x.w := fun x => run_convert_byt (HO3.out.below x.h).byt Tryd.underlying22 Tryd.underlying5 Tryd.underlying9
  have hC2 : ∀ x : Later w3.heap.size w3, (convert 22 9 (.slice a l.length c)).run Tryd.prog x.w = .ok (.string (str l)) x.w := fun x => run_convert_byt (HBB.out.below (HB3.out.trans (x.h.mono HB3.out.size))) Tryd.underlying22 Tryd.underlying5 Tryd.underlying9
  have hR4 : ∀ x : Later w3.heap.size w3, Calls Tryd.prog 11 #[.slice a l.length c] x.w fun e w' => e = .returned (.agg ((sha l).map byt).toArray) ∧ ∃ y : Later w3.heap.size w3, w' = y.w := fun x =>
    (ref_of_calls x.w Any _ l (HBB.out.below (HB3.out.trans (x.h.mono HB3.out.size))) (by omega) (hR3 x)).mono fun e w' h => ⟨h.1, ⟨w', x.h.trans (h.2.mono x.h.size)⟩, rfl⟩
  have hA4 : ∀ x : Later w3.heap.size w3, Calls Tryd.prog 10 #[] x.w fun e w' => e = .returned (.bool true) ∧ ∃ y : Later w3.heap.size w3, w' = y.w := fun x =>
    (alive_calls x.w (hT3 x)).mono fun e w' h => ⟨h.1, ⟨w', x.h.trans (h.2.mono x.h.size)⟩, rfl⟩
  have hq : ∀ w, (Op.equalIn 10000 24 (.agg ((sha l).map byt).toArray) (.agg ((sha l).map byt).toArray)).run Tryd.prog w = .ok true w := fun w => by
    rw [run_equal_u8 (n := 32) Tryd.underlying24 (i := _) rfl (by kernel_rfl) Tryd.underlying5 w (sha l) (sha l) (sha_length l) (sha_length l)]; simp
  have HR4 := Lib.hid hR4
  have HA4 := Lib.hid hA4
  have HL3 := Lib.hid hL3
  clear hT3 hR3 hR4 hA4 hL3
  generalize hcs : ((sha l).map byt).toArray = cs at *
  refine wp_region_later w3.heap.size w3 (by kernel_rfl) (by kernel_rfl) (Below.refl _ w3) ?_
  change wpQuiet _ _ _ _ _ ⟨_, _⟩
  go_big_quiet_step (exact HA4.out _)
  go_big_quiet_step (fail)
  refine wpQuiet_row rfl _ _ rfl g ((sha l).map byt) rfl _ (fun w' hw' => by obtain ⟨x, rfl⟩ := hw'; exact HL3.out x) _ Tryd.underlying24 rfl (by kernel_rfl) cs hcs ?_
  simp only [Act.put, List.setIfInBounds_toArray, List.set_cons_zero, List.set_cons_succ]
  repeat (go_big_quiet_step (exact HR4.out _))
  refine wpQuiet_nil fun x => ?_
  clear hC1 hC2 hq
  have hb := HB3.out.trans (x.h.mono HB3.out.size)
  have HB := Lib.hid hb
  clear hb
  go_wp2
  go_ret
  exact ⟨ret_bool (by simp), HB.out⟩
theorem walk (w : World) (v : Value) (l : List UInt8) (hB : Byt Any w v l) (hl : l.length ≤ 140737488351232) (hL : laidMetH Tryd.prog Rows.shaOfRow.laid w) :
    Calls Tryd.prog 3 #[v] w fun e w' => e = .returned (.bool true) ∧ Below w.heap.size w w' :=
  walk0 w v l hB hl (tab_sha hL (by kernel_rfl) (List.Mem.tail _ (List.Mem.head _))) (tab_ref hL (by kernel_rfl) (List.Mem.head _))
end Go.Proofs.YtodhhejliijdmaaDoor.shaOf
