/- What walks about digests use: a digest's cells, a text of the call's own beside them. No condition. -/
import Derived.Test.YtmenchnjajpkmaaDoorShaC
import Derived.Lib.SlBytesConst
namespace Go.Proofs.YtmenchnjajpkmaaDoor.ShaW
open Go Go.RowKit Mem Sha

theorem one_cells (l : List UInt8) : ∀ v ∈ l.map byt, v.oneCell' = true := by
  intro v hv; obtain ⟨c, _, rfl⟩ := List.mem_map.1 hv; rfl

theorem new32 (w : World) : Blk (w.alloc (.cells #[.int .u8 0, .int .u8 0, .int .u8 0, .int .u8 0, .int .u8 0, .int .u8 0, .int .u8 0, .int .u8 0, .int .u8 0, .int .u8 0, .int .u8 0, .int .u8 0, .int .u8 0, .int .u8 0, .int .u8 0, .int .u8 0, .int .u8 0, .int .u8 0, .int .u8 0, .int .u8 0, .int .u8 0, .int .u8 0, .int .u8 0, .int .u8 0, .int .u8 0, .int .u8 0, .int .u8 0, .int .u8 0, .int .u8 0, .int .u8 0, .int .u8 0, .int .u8 0] 24)) w.heap.size (List.replicate 32 (.int .u8 0)) 24 := Blk.new w _ _ _ rfl
theorem made32 (w : World) (m : List UInt8) : Blk ((w.alloc (.cells #[.int .u8 0, .int .u8 0, .int .u8 0, .int .u8 0, .int .u8 0, .int .u8 0, .int .u8 0, .int .u8 0, .int .u8 0, .int .u8 0, .int .u8 0, .int .u8 0, .int .u8 0, .int .u8 0, .int .u8 0, .int .u8 0, .int .u8 0, .int .u8 0, .int .u8 0, .int .u8 0, .int .u8 0, .int .u8 0, .int .u8 0, .int .u8 0, .int .u8 0, .int .u8 0, .int .u8 0, .int .u8 0, .int .u8 0, .int .u8 0, .int .u8 0, .int .u8 0] 24)).setRow w.heap.size (m.map byt).toArray) w.heap.size (m.map byt) 24 ∧ Below w.heap.size w ((w.alloc (.cells #[.int .u8 0, .int .u8 0, .int .u8 0, .int .u8 0, .int .u8 0, .int .u8 0, .int .u8 0, .int .u8 0, .int .u8 0, .int .u8 0, .int .u8 0, .int .u8 0, .int .u8 0, .int .u8 0, .int .u8 0, .int .u8 0, .int .u8 0, .int .u8 0, .int .u8 0, .int .u8 0, .int .u8 0, .int .u8 0, .int .u8 0, .int .u8 0, .int .u8 0, .int .u8 0, .int .u8 0, .int .u8 0, .int .u8 0, .int .u8 0, .int .u8 0, .int .u8 0] 24)).setRow w.heap.size (m.map byt).toArray) :=
  ⟨(new32 w).row _, below_setRow ((Below.refl _ _).alloc (Nat.le_refl _) _) (Nat.le_refl _) _⟩
/-- what the reference's Mac keeps: its result's block, the key's copy -/
def MacK (B : Nat) (w : World) (v : Value) (q : List UInt8) (wx : World) : Prop :=
  Below B w wx ∧ Blk wx B (List.replicate 32 (.int .u8 0)) 24 ∧ OwnB (B + 1) 5 wx v q ∧ B < wx.heap.size
theorem MacK.grows {B : Nat} {w w1 w2 : World} {q q2 : List UInt8} {v v2 : Value} (h : MacK B w v q w1) (o1 : OwnB (B + 1) 5 w2 v2 q2) (o2 : Fr (fun k => v.ownBlock = some k) w1 w2) : MacK B w v2 q2 w2 := by
  have hne : ∀ k, v.ownBlock = some k → B + 1 ≤ k := fun k hk => (h.2.2.1.lt k hk).1
  exact ⟨h.1.trans (o2.below (Nat.le_of_lt h.2.2.2) (fun k hk => by have := hne k hk; omega)), h.2.1.fr o2 (fun e => by have := hne B e; omega), o1, by have := o2.size; have := h.2.2.2; omega⟩

end Go.Proofs.YtmenchnjajpkmaaDoor.ShaW
