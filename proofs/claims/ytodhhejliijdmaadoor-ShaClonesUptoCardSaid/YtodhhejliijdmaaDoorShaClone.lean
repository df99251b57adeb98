/- The walk of SHA-256's Clone. No condition. -/
import Derived.Test.YtodhhejliijdmaaDoorShaC
import Derived.BigRegion
import Derived.RegionTactic
namespace Go.Proofs.YtodhhejliijdmaaDoor.ShaW
open Go Go.RowKit Mem Sha

theorem clone_end {w w2 : World} {l : List UInt8} {va : Option Addr} {vc : Nat} (o1 : OwnB w.heap.size 5 w2 (.slice va (left l).length vc) (left l)) (o2 : w.drew.grownBy w2 (Value.slice none 0 0).ownBlock) :
    HashIs (fun j => w.heap.size ≤ j ∧ j < (w2.alloc (.cells #[.int .u32 ((feed ini l).a.toNat : Int), .int .u32 ((feed ini l).b.toNat : Int), .int .u32 ((feed ini l).c.toNat : Int), .int .u32 ((feed ini l).d.toNat : Int), .int .u32 ((feed ini l).e.toNat : Int), .int .u32 ((feed ini l).f.toNat : Int), .int .u32 ((feed ini l).g.toNat : Int), .int .u32 ((feed ini l).h.toNat : Int), .slice va (left l).length vc, .int .i64 (l.length : Int)] 52)).heap.size)
      (w2.alloc (.cells #[.int .u32 ((feed ini l).a.toNat : Int), .int .u32 ((feed ini l).b.toNat : Int), .int .u32 ((feed ini l).c.toNat : Int), .int .u32 ((feed ini l).d.toNat : Int), .int .u32 ((feed ini l).e.toNat : Int), .int .u32 ((feed ini l).f.toNat : Int), .int .u32 ((feed ini l).g.toNat : Int), .int .u32 ((feed ini l).h.toNat : Int), .slice va (left l).length vc, .int .i64 (l.length : Int)] 52)) w2.heap.size l ∧
    Below w.heap.size w (w2.alloc (.cells #[.int .u32 ((feed ini l).a.toNat : Int), .int .u32 ((feed ini l).b.toNat : Int), .int .u32 ((feed ini l).c.toNat : Int), .int .u32 ((feed ini l).d.toNat : Int), .int .u32 ((feed ini l).e.toNat : Int), .int .u32 ((feed ini l).f.toNat : Int), .int .u32 ((feed ini l).g.toNat : Int), .int .u32 ((feed ini l).h.toNat : Int), .slice va (left l).length vc, .int .i64 (l.length : Int)] 52)) := by
  have hb : Below w.heap.size w w2 := (Below.refl _ w).drew.grown o2 (Nat.le_refl _) (fun k hk => by cases hk)
  refine ⟨⟨⟨hb.size, by simp⟩, _, Blk.new _ _ _ _ rfl, (o1.mono (Nat.zero_le _)).alloc _, fun k hk => ?_⟩, hb.alloc hb.size _⟩
  have := o1.lt k hk
  exact ⟨⟨this.1, by simp; omega⟩, by omega⟩

set_option maxHeartbeats 4000000 in
set_option maxRecDepth 100000 in
theorem clone_calls (S : Nat → Prop) (w : World) (q : Nat) (l : List UInt8) (H : HashIs S w q l) :
    Calls Tryd.prog 16 #[.pointer (some ⟨q, 0, none⟩)] w fun e w' => ∃ k, e = .returned (.pointer (some ⟨k, 0, none⟩)) ∧ HashIs (fun j => w.heap.size ≤ j ∧ j < w'.heap.size) w' k l ∧ Below w.heap.size w w' := by
  obtain ⟨ra, rc, hblk, hown, hown2, hS, hr8, hr9, hfz, hlt⟩ := H.opened
  obtain ⟨g0, g1, g2, g3, g4, g5, g6, g7⟩ := H.cells
  have HO := Lib.hid hown
  have HB := Lib.hid hblk
  have hll : (left l).length ≤ 63 := by have := left_lt l; omega
  clear hown hown2 hblk hfz H
  go_enter Tryd.func16, Tryd.ntmps16
  go_wp2
  go_region_law ((refine step_append_byt rfl (.const (.slice none 0 0)) (.tmp 10) 22 rfl w.heap.size 5 elemB _ [] (by simp [Act.eval]) (OwnB.nil _ _ _) _ _ (by simp [Act.eval]) HO.out.byt.drew (by simp; omega) (Nat.le_refl _) ?_; intro va vc w2 o1 o2 o3; rw [List.nil_append] at o1; simp only [List.length_nil, Nat.zero_add] at o1 ⊢; have P1 := Lib.hid o1; have P2 := Lib.hid o2; have hb2 := (HB.out.drew).fr (Fr.ofGrown o2) (fun e => by cases e); have c9 : w2.cell? ⟨q, 9, none⟩ = some (.int .i64 (l.length : Int)) := hb2.cell (i := 9) rfl; have c0 : w2.cell? ⟨q, 0, none⟩ = some (.int .u32 ((feed ini l).a.toNat : Int)) := hb2.cell (i := 0) rfl; have c1 : w2.cell? ⟨q, 1, none⟩ = some (.int .u32 ((feed ini l).b.toNat : Int)) := hb2.cell (i := 1) rfl; have c2 : w2.cell? ⟨q, 2, none⟩ = some (.int .u32 ((feed ini l).c.toNat : Int)) := hb2.cell (i := 2) rfl; have c3 : w2.cell? ⟨q, 3, none⟩ = some (.int .u32 ((feed ini l).d.toNat : Int)) := hb2.cell (i := 3) rfl; have c4 : w2.cell? ⟨q, 4, none⟩ = some (.int .u32 ((feed ini l).e.toNat : Int)) := hb2.cell (i := 4) rfl; have c5 : w2.cell? ⟨q, 5, none⟩ = some (.int .u32 ((feed ini l).f.toNat : Int)) := hb2.cell (i := 5) rfl; have c6 : w2.cell? ⟨q, 6, none⟩ = some (.int .u32 ((feed ini l).g.toNat : Int)) := hb2.cell (i := 6) rfl; have c7 : w2.cell? ⟨q, 7, none⟩ = some (.int .u32 ((feed ini l).h.toNat : Int)) := hb2.cell (i := 7) rfl; clear o1 o2 o3 hb2))
  all_goals
    clear g0 g1 g2 g3 g4 g5 g6 g7 c0 c1 c2 c3 c4 c5 c6 c7 c9 hr8 hr9
    go_wp2
    go_ret
    exact ⟨w2.heap.size, rfl, clone_end P1.out P2.out⟩
end Go.Proofs.YtodhhejliijdmaaDoor.ShaW
