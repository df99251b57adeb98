/- The walk of Mac, the program's. Condition: the text and the key are of at most 2^47 - 4096 bytes. -/
import Derived.Test.YtodhhejliijdmaaDoorShaMac
import Derived.Test.YtodhhejliijdmaaDoorShaF
import Derived.Laws.CopyOwn
namespace Go.Proofs.YtodhhejliijdmaaDoor.ShaW
open Go Go.RowKit Mem Sha

theorem new64 (w : World) : Blk (w.alloc (.cells (Value.int .u8 0 :: Value.int .u8 0 :: Value.int .u8 0 :: Value.int .u8 0 :: Value.int .u8 0 :: Value.int .u8 0 :: Value.int .u8 0 :: Value.int .u8 0 :: Value.int .u8 0 :: Value.int .u8 0 :: Value.int .u8 0 :: Value.int .u8 0 :: Value.int .u8 0 :: Value.int .u8 0 :: Value.int .u8 0 :: Value.int .u8 0 :: Value.int .u8 0 :: Value.int .u8 0 :: Value.int .u8 0 :: Value.int .u8 0 :: Value.int .u8 0 :: Value.int .u8 0 :: Value.int .u8 0 :: Value.int .u8 0 :: Value.int .u8 0 :: Value.int .u8 0 :: Value.int .u8 0 :: Value.int .u8 0 :: Value.int .u8 0 :: Value.int .u8 0 :: Value.int .u8 0 :: Value.int .u8 0 :: Value.int .u8 0 :: Value.int .u8 0 :: Value.int .u8 0 :: Value.int .u8 0 :: Value.int .u8 0 :: Value.int .u8 0 :: Value.int .u8 0 :: Value.int .u8 0 :: Value.int .u8 0 :: Value.int .u8 0 :: Value.int .u8 0 :: Value.int .u8 0 :: Value.int .u8 0 :: Value.int .u8 0 :: Value.int .u8 0 :: Value.int .u8 0 :: Value.int .u8 0 :: Value.int .u8 0 :: Value.int .u8 0 :: Value.int .u8 0 :: Value.int .u8 0 :: Value.int .u8 0 :: Value.int .u8 0 :: Value.int .u8 0 :: Value.int .u8 0 :: Value.int .u8 0 :: Value.int .u8 0 :: Value.int .u8 0 :: Value.int .u8 0 :: Value.int .u8 0 :: Value.int .u8 0 :: Value.int .u8 0 :: []).toArray 57)) w.heap.size (List.replicate 64 (.int .u8 0)) 57 := Blk.new w _ _ _ rfl
theorem run_index_u8 {P : Program} {t e : TypeId} {n : Nat} (hu : P.underlying t = some (.array n e)) (he : P.underlying e = some (.int .u8)) (hi : (P.info? e).map (·.size) = some 1) (w : World) (l : List UInt8) (i : Nat) (h : i < n) (hl : l.length = n) :
    (Instr.index t (.agg (l.map byt).toArray) (.int .i64 (i : Int))).run P w = .ok (byt (l[i]'(by omega))) w := by
  obtain ⟨f, hf, hs⟩ : ∃ f, P.info? e = some f ∧ f.size = 1 := by
    cases hq : P.info? e with
    | none => simp [hq] at hi
    | some f => exact ⟨f, rfl, by simpa [hq] using hi⟩
  have hsz : (sizeOf e).run P w = .ok 1 w := by simp [sizeOf, typeInfo, hf, hs]
  unfold Instr.index
  simp [asIntOf, Sem.run_bind, run_underlying hu w, h, hsz, run_part_u8 he w l i (by omega)]
theorem splice_keyed (q : List UInt8) : splice (List.replicate 64 (Value.int .u8 0)) 0 (q.map byt) = (q ++ List.replicate (64 - q.length) 0).map byt := by
  have h0 : (0 : Nat) + (q.map byt).length = q.length := by simp
  unfold splice
  rw [h0, List.drop_replicate, List.take_zero, List.nil_append, List.map_append, List.map_replicate]
  rfl
theorem add_at (g j : Nat) : (⟨g, 0, none⟩ : Addr).add j = ⟨g, j, none⟩ := by
  unfold Addr.add
  split <;> simp_all
/-- what the program's Mac keeps: its result's block, the key's block -/
def MacP (B : Nat) (w : World) (key : List UInt8) (wx : World) : Prop :=
  Below B w wx ∧ Blk wx B (List.replicate 32 (.int .u8 0)) 24 ∧ Blk wx (B + 1) ((keyed key).map byt) 57 ∧ B + 1 < wx.heap.size

theorem MacP.below {B : Nat} {w wx wy : World} {key : List UInt8} (h : MacP B w key wx) (hb : Below wx.heap.size wx wy) : MacP B w key wy := by
  have := h.2.2.2
  exact ⟨h.1.trans (hb.mono (by omega)), h.2.1.below hb, h.2.2.1.below hb, by have := hb.size; omega⟩
theorem two64 (w : World) : Blk ((w.alloc (.cells (Value.int .u8 0 :: Value.int .u8 0 :: Value.int .u8 0 :: Value.int .u8 0 :: Value.int .u8 0 :: Value.int .u8 0 :: Value.int .u8 0 :: Value.int .u8 0 :: Value.int .u8 0 :: Value.int .u8 0 :: Value.int .u8 0 :: Value.int .u8 0 :: Value.int .u8 0 :: Value.int .u8 0 :: Value.int .u8 0 :: Value.int .u8 0 :: Value.int .u8 0 :: Value.int .u8 0 :: Value.int .u8 0 :: Value.int .u8 0 :: Value.int .u8 0 :: Value.int .u8 0 :: Value.int .u8 0 :: Value.int .u8 0 :: Value.int .u8 0 :: Value.int .u8 0 :: Value.int .u8 0 :: Value.int .u8 0 :: Value.int .u8 0 :: Value.int .u8 0 :: Value.int .u8 0 :: Value.int .u8 0 :: Value.int .u8 0 :: Value.int .u8 0 :: Value.int .u8 0 :: Value.int .u8 0 :: Value.int .u8 0 :: Value.int .u8 0 :: Value.int .u8 0 :: Value.int .u8 0 :: Value.int .u8 0 :: Value.int .u8 0 :: Value.int .u8 0 :: Value.int .u8 0 :: Value.int .u8 0 :: Value.int .u8 0 :: Value.int .u8 0 :: Value.int .u8 0 :: Value.int .u8 0 :: Value.int .u8 0 :: Value.int .u8 0 :: Value.int .u8 0 :: Value.int .u8 0 :: Value.int .u8 0 :: Value.int .u8 0 :: Value.int .u8 0 :: Value.int .u8 0 :: Value.int .u8 0 :: Value.int .u8 0 :: Value.int .u8 0 :: Value.int .u8 0 :: Value.int .u8 0 :: Value.int .u8 0 :: Value.int .u8 0 :: []).toArray 57)).alloc (.cells (Value.int .u8 0 :: Value.int .u8 0 :: Value.int .u8 0 :: Value.int .u8 0 :: Value.int .u8 0 :: Value.int .u8 0 :: Value.int .u8 0 :: Value.int .u8 0 :: Value.int .u8 0 :: Value.int .u8 0 :: Value.int .u8 0 :: Value.int .u8 0 :: Value.int .u8 0 :: Value.int .u8 0 :: Value.int .u8 0 :: Value.int .u8 0 :: Value.int .u8 0 :: Value.int .u8 0 :: Value.int .u8 0 :: Value.int .u8 0 :: Value.int .u8 0 :: Value.int .u8 0 :: Value.int .u8 0 :: Value.int .u8 0 :: Value.int .u8 0 :: Value.int .u8 0 :: Value.int .u8 0 :: Value.int .u8 0 :: Value.int .u8 0 :: Value.int .u8 0 :: Value.int .u8 0 :: Value.int .u8 0 :: Value.int .u8 0 :: Value.int .u8 0 :: Value.int .u8 0 :: Value.int .u8 0 :: Value.int .u8 0 :: Value.int .u8 0 :: Value.int .u8 0 :: Value.int .u8 0 :: Value.int .u8 0 :: Value.int .u8 0 :: Value.int .u8 0 :: Value.int .u8 0 :: Value.int .u8 0 :: Value.int .u8 0 :: Value.int .u8 0 :: Value.int .u8 0 :: Value.int .u8 0 :: Value.int .u8 0 :: Value.int .u8 0 :: Value.int .u8 0 :: Value.int .u8 0 :: Value.int .u8 0 :: Value.int .u8 0 :: Value.int .u8 0 :: Value.int .u8 0 :: Value.int .u8 0 :: Value.int .u8 0 :: Value.int .u8 0 :: Value.int .u8 0 :: Value.int .u8 0 :: Value.int .u8 0 :: Value.int .u8 0 :: []).toArray 57)) w.heap.size (List.replicate 64 (.int .u8 0)) 57 ∧ Blk ((w.alloc (.cells (Value.int .u8 0 :: Value.int .u8 0 :: Value.int .u8 0 :: Value.int .u8 0 :: Value.int .u8 0 :: Value.int .u8 0 :: Value.int .u8 0 :: Value.int .u8 0 :: Value.int .u8 0 :: Value.int .u8 0 :: Value.int .u8 0 :: Value.int .u8 0 :: Value.int .u8 0 :: Value.int .u8 0 :: Value.int .u8 0 :: Value.int .u8 0 :: Value.int .u8 0 :: Value.int .u8 0 :: Value.int .u8 0 :: Value.int .u8 0 :: Value.int .u8 0 :: Value.int .u8 0 :: Value.int .u8 0 :: Value.int .u8 0 :: Value.int .u8 0 :: Value.int .u8 0 :: Value.int .u8 0 :: Value.int .u8 0 :: Value.int .u8 0 :: Value.int .u8 0 :: Value.int .u8 0 :: Value.int .u8 0 :: Value.int .u8 0 :: Value.int .u8 0 :: Value.int .u8 0 :: Value.int .u8 0 :: Value.int .u8 0 :: Value.int .u8 0 :: Value.int .u8 0 :: Value.int .u8 0 :: Value.int .u8 0 :: Value.int .u8 0 :: Value.int .u8 0 :: Value.int .u8 0 :: Value.int .u8 0 :: Value.int .u8 0 :: Value.int .u8 0 :: Value.int .u8 0 :: Value.int .u8 0 :: Value.int .u8 0 :: Value.int .u8 0 :: Value.int .u8 0 :: Value.int .u8 0 :: Value.int .u8 0 :: Value.int .u8 0 :: Value.int .u8 0 :: Value.int .u8 0 :: Value.int .u8 0 :: Value.int .u8 0 :: Value.int .u8 0 :: Value.int .u8 0 :: Value.int .u8 0 :: Value.int .u8 0 :: Value.int .u8 0 :: []).toArray 57)).alloc (.cells (Value.int .u8 0 :: Value.int .u8 0 :: Value.int .u8 0 :: Value.int .u8 0 :: Value.int .u8 0 :: Value.int .u8 0 :: Value.int .u8 0 :: Value.int .u8 0 :: Value.int .u8 0 :: Value.int .u8 0 :: Value.int .u8 0 :: Value.int .u8 0 :: Value.int .u8 0 :: Value.int .u8 0 :: Value.int .u8 0 :: Value.int .u8 0 :: Value.int .u8 0 :: Value.int .u8 0 :: Value.int .u8 0 :: Value.int .u8 0 :: Value.int .u8 0 :: Value.int .u8 0 :: Value.int .u8 0 :: Value.int .u8 0 :: Value.int .u8 0 :: Value.int .u8 0 :: Value.int .u8 0 :: Value.int .u8 0 :: Value.int .u8 0 :: Value.int .u8 0 :: Value.int .u8 0 :: Value.int .u8 0 :: Value.int .u8 0 :: Value.int .u8 0 :: Value.int .u8 0 :: Value.int .u8 0 :: Value.int .u8 0 :: Value.int .u8 0 :: Value.int .u8 0 :: Value.int .u8 0 :: Value.int .u8 0 :: Value.int .u8 0 :: Value.int .u8 0 :: Value.int .u8 0 :: Value.int .u8 0 :: Value.int .u8 0 :: Value.int .u8 0 :: Value.int .u8 0 :: Value.int .u8 0 :: Value.int .u8 0 :: Value.int .u8 0 :: Value.int .u8 0 :: Value.int .u8 0 :: Value.int .u8 0 :: Value.int .u8 0 :: Value.int .u8 0 :: Value.int .u8 0 :: Value.int .u8 0 :: Value.int .u8 0 :: Value.int .u8 0 :: Value.int .u8 0 :: Value.int .u8 0 :: Value.int .u8 0 :: Value.int .u8 0 :: []).toArray 57)) (w.heap.size + 1) (List.replicate 64 (.int .u8 0)) 57 ∧
    Below w.heap.size w ((w.alloc (.cells (Value.int .u8 0 :: Value.int .u8 0 :: Value.int .u8 0 :: Value.int .u8 0 :: Value.int .u8 0 :: Value.int .u8 0 :: Value.int .u8 0 :: Value.int .u8 0 :: Value.int .u8 0 :: Value.int .u8 0 :: Value.int .u8 0 :: Value.int .u8 0 :: Value.int .u8 0 :: Value.int .u8 0 :: Value.int .u8 0 :: Value.int .u8 0 :: Value.int .u8 0 :: Value.int .u8 0 :: Value.int .u8 0 :: Value.int .u8 0 :: Value.int .u8 0 :: Value.int .u8 0 :: Value.int .u8 0 :: Value.int .u8 0 :: Value.int .u8 0 :: Value.int .u8 0 :: Value.int .u8 0 :: Value.int .u8 0 :: Value.int .u8 0 :: Value.int .u8 0 :: Value.int .u8 0 :: Value.int .u8 0 :: Value.int .u8 0 :: Value.int .u8 0 :: Value.int .u8 0 :: Value.int .u8 0 :: Value.int .u8 0 :: Value.int .u8 0 :: Value.int .u8 0 :: Value.int .u8 0 :: Value.int .u8 0 :: Value.int .u8 0 :: Value.int .u8 0 :: Value.int .u8 0 :: Value.int .u8 0 :: Value.int .u8 0 :: Value.int .u8 0 :: Value.int .u8 0 :: Value.int .u8 0 :: Value.int .u8 0 :: Value.int .u8 0 :: Value.int .u8 0 :: Value.int .u8 0 :: Value.int .u8 0 :: Value.int .u8 0 :: Value.int .u8 0 :: Value.int .u8 0 :: Value.int .u8 0 :: Value.int .u8 0 :: Value.int .u8 0 :: Value.int .u8 0 :: Value.int .u8 0 :: Value.int .u8 0 :: Value.int .u8 0 :: []).toArray 57)).alloc (.cells (Value.int .u8 0 :: Value.int .u8 0 :: Value.int .u8 0 :: Value.int .u8 0 :: Value.int .u8 0 :: Value.int .u8 0 :: Value.int .u8 0 :: Value.int .u8 0 :: Value.int .u8 0 :: Value.int .u8 0 :: Value.int .u8 0 :: Value.int .u8 0 :: Value.int .u8 0 :: Value.int .u8 0 :: Value.int .u8 0 :: Value.int .u8 0 :: Value.int .u8 0 :: Value.int .u8 0 :: Value.int .u8 0 :: Value.int .u8 0 :: Value.int .u8 0 :: Value.int .u8 0 :: Value.int .u8 0 :: Value.int .u8 0 :: Value.int .u8 0 :: Value.int .u8 0 :: Value.int .u8 0 :: Value.int .u8 0 :: Value.int .u8 0 :: Value.int .u8 0 :: Value.int .u8 0 :: Value.int .u8 0 :: Value.int .u8 0 :: Value.int .u8 0 :: Value.int .u8 0 :: Value.int .u8 0 :: Value.int .u8 0 :: Value.int .u8 0 :: Value.int .u8 0 :: Value.int .u8 0 :: Value.int .u8 0 :: Value.int .u8 0 :: Value.int .u8 0 :: Value.int .u8 0 :: Value.int .u8 0 :: Value.int .u8 0 :: Value.int .u8 0 :: Value.int .u8 0 :: Value.int .u8 0 :: Value.int .u8 0 :: Value.int .u8 0 :: Value.int .u8 0 :: Value.int .u8 0 :: Value.int .u8 0 :: Value.int .u8 0 :: Value.int .u8 0 :: Value.int .u8 0 :: Value.int .u8 0 :: Value.int .u8 0 :: Value.int .u8 0 :: Value.int .u8 0 :: Value.int .u8 0 :: Value.int .u8 0 :: Value.int .u8 0 :: []).toArray 57)) ∧ ((w.alloc (.cells (Value.int .u8 0 :: Value.int .u8 0 :: Value.int .u8 0 :: Value.int .u8 0 :: Value.int .u8 0 :: Value.int .u8 0 :: Value.int .u8 0 :: Value.int .u8 0 :: Value.int .u8 0 :: Value.int .u8 0 :: Value.int .u8 0 :: Value.int .u8 0 :: Value.int .u8 0 :: Value.int .u8 0 :: Value.int .u8 0 :: Value.int .u8 0 :: Value.int .u8 0 :: Value.int .u8 0 :: Value.int .u8 0 :: Value.int .u8 0 :: Value.int .u8 0 :: Value.int .u8 0 :: Value.int .u8 0 :: Value.int .u8 0 :: Value.int .u8 0 :: Value.int .u8 0 :: Value.int .u8 0 :: Value.int .u8 0 :: Value.int .u8 0 :: Value.int .u8 0 :: Value.int .u8 0 :: Value.int .u8 0 :: Value.int .u8 0 :: Value.int .u8 0 :: Value.int .u8 0 :: Value.int .u8 0 :: Value.int .u8 0 :: Value.int .u8 0 :: Value.int .u8 0 :: Value.int .u8 0 :: Value.int .u8 0 :: Value.int .u8 0 :: Value.int .u8 0 :: Value.int .u8 0 :: Value.int .u8 0 :: Value.int .u8 0 :: Value.int .u8 0 :: Value.int .u8 0 :: Value.int .u8 0 :: Value.int .u8 0 :: Value.int .u8 0 :: Value.int .u8 0 :: Value.int .u8 0 :: Value.int .u8 0 :: Value.int .u8 0 :: Value.int .u8 0 :: Value.int .u8 0 :: Value.int .u8 0 :: Value.int .u8 0 :: Value.int .u8 0 :: Value.int .u8 0 :: Value.int .u8 0 :: Value.int .u8 0 :: Value.int .u8 0 :: []).toArray 57)).alloc (.cells (Value.int .u8 0 :: Value.int .u8 0 :: Value.int .u8 0 :: Value.int .u8 0 :: Value.int .u8 0 :: Value.int .u8 0 :: Value.int .u8 0 :: Value.int .u8 0 :: Value.int .u8 0 :: Value.int .u8 0 :: Value.int .u8 0 :: Value.int .u8 0 :: Value.int .u8 0 :: Value.int .u8 0 :: Value.int .u8 0 :: Value.int .u8 0 :: Value.int .u8 0 :: Value.int .u8 0 :: Value.int .u8 0 :: Value.int .u8 0 :: Value.int .u8 0 :: Value.int .u8 0 :: Value.int .u8 0 :: Value.int .u8 0 :: Value.int .u8 0 :: Value.int .u8 0 :: Value.int .u8 0 :: Value.int .u8 0 :: Value.int .u8 0 :: Value.int .u8 0 :: Value.int .u8 0 :: Value.int .u8 0 :: Value.int .u8 0 :: Value.int .u8 0 :: Value.int .u8 0 :: Value.int .u8 0 :: Value.int .u8 0 :: Value.int .u8 0 :: Value.int .u8 0 :: Value.int .u8 0 :: Value.int .u8 0 :: Value.int .u8 0 :: Value.int .u8 0 :: Value.int .u8 0 :: Value.int .u8 0 :: Value.int .u8 0 :: Value.int .u8 0 :: Value.int .u8 0 :: Value.int .u8 0 :: Value.int .u8 0 :: Value.int .u8 0 :: Value.int .u8 0 :: Value.int .u8 0 :: Value.int .u8 0 :: Value.int .u8 0 :: Value.int .u8 0 :: Value.int .u8 0 :: Value.int .u8 0 :: Value.int .u8 0 :: Value.int .u8 0 :: Value.int .u8 0 :: Value.int .u8 0 :: Value.int .u8 0 :: Value.int .u8 0 :: []).toArray 57)).heap.size = w.heap.size + 2 := by
  have h1 := new64 w
  have h2 := new64 (w.alloc (.cells (Value.int .u8 0 :: Value.int .u8 0 :: Value.int .u8 0 :: Value.int .u8 0 :: Value.int .u8 0 :: Value.int .u8 0 :: Value.int .u8 0 :: Value.int .u8 0 :: Value.int .u8 0 :: Value.int .u8 0 :: Value.int .u8 0 :: Value.int .u8 0 :: Value.int .u8 0 :: Value.int .u8 0 :: Value.int .u8 0 :: Value.int .u8 0 :: Value.int .u8 0 :: Value.int .u8 0 :: Value.int .u8 0 :: Value.int .u8 0 :: Value.int .u8 0 :: Value.int .u8 0 :: Value.int .u8 0 :: Value.int .u8 0 :: Value.int .u8 0 :: Value.int .u8 0 :: Value.int .u8 0 :: Value.int .u8 0 :: Value.int .u8 0 :: Value.int .u8 0 :: Value.int .u8 0 :: Value.int .u8 0 :: Value.int .u8 0 :: Value.int .u8 0 :: Value.int .u8 0 :: Value.int .u8 0 :: Value.int .u8 0 :: Value.int .u8 0 :: Value.int .u8 0 :: Value.int .u8 0 :: Value.int .u8 0 :: Value.int .u8 0 :: Value.int .u8 0 :: Value.int .u8 0 :: Value.int .u8 0 :: Value.int .u8 0 :: Value.int .u8 0 :: Value.int .u8 0 :: Value.int .u8 0 :: Value.int .u8 0 :: Value.int .u8 0 :: Value.int .u8 0 :: Value.int .u8 0 :: Value.int .u8 0 :: Value.int .u8 0 :: Value.int .u8 0 :: Value.int .u8 0 :: Value.int .u8 0 :: Value.int .u8 0 :: Value.int .u8 0 :: Value.int .u8 0 :: Value.int .u8 0 :: Value.int .u8 0 :: Value.int .u8 0 :: []).toArray 57))
  have hs : (w.alloc (.cells (Value.int .u8 0 :: Value.int .u8 0 :: Value.int .u8 0 :: Value.int .u8 0 :: Value.int .u8 0 :: Value.int .u8 0 :: Value.int .u8 0 :: Value.int .u8 0 :: Value.int .u8 0 :: Value.int .u8 0 :: Value.int .u8 0 :: Value.int .u8 0 :: Value.int .u8 0 :: Value.int .u8 0 :: Value.int .u8 0 :: Value.int .u8 0 :: Value.int .u8 0 :: Value.int .u8 0 :: Value.int .u8 0 :: Value.int .u8 0 :: Value.int .u8 0 :: Value.int .u8 0 :: Value.int .u8 0 :: Value.int .u8 0 :: Value.int .u8 0 :: Value.int .u8 0 :: Value.int .u8 0 :: Value.int .u8 0 :: Value.int .u8 0 :: Value.int .u8 0 :: Value.int .u8 0 :: Value.int .u8 0 :: Value.int .u8 0 :: Value.int .u8 0 :: Value.int .u8 0 :: Value.int .u8 0 :: Value.int .u8 0 :: Value.int .u8 0 :: Value.int .u8 0 :: Value.int .u8 0 :: Value.int .u8 0 :: Value.int .u8 0 :: Value.int .u8 0 :: Value.int .u8 0 :: Value.int .u8 0 :: Value.int .u8 0 :: Value.int .u8 0 :: Value.int .u8 0 :: Value.int .u8 0 :: Value.int .u8 0 :: Value.int .u8 0 :: Value.int .u8 0 :: Value.int .u8 0 :: Value.int .u8 0 :: Value.int .u8 0 :: Value.int .u8 0 :: Value.int .u8 0 :: Value.int .u8 0 :: Value.int .u8 0 :: Value.int .u8 0 :: Value.int .u8 0 :: Value.int .u8 0 :: Value.int .u8 0 :: Value.int .u8 0 :: []).toArray 57)).heap.size = w.heap.size + 1 := by simp
  rw [hs] at h2
  exact ⟨h1.alloc _, h2, (((Below.refl _ _).alloc (Nat.le_refl _) _).alloc (by omega) _), by simp⟩
/-- behind k rounds: the two pads have their first k bytes -/
def PadP (B g : Nat) (w : World) (key : List UInt8) (k : Nat) (wx : World) : Prop :=
  MacP B w key wx ∧ Blk wx g (((padIn key).take k).map byt ++ List.replicate (64 - k) (.int .u8 0)) 57 ∧ Blk wx (g + 1) (((padOut key).take k).map byt ++ List.replicate (64 - k) (.int .u8 0)) 57 ∧ B + 1 < g ∧ g + 1 < wx.heap.size

theorem padIn_get {key : List UInt8} {k : Nat} (h : k < (keyed key).length) : (padIn key)[k]? = some ((keyed key)[k] ^^^ 0x36) := by
  unfold padIn
  rw [List.getElem?_map, List.getElem?_eq_getElem h]; rfl
theorem padOut_get {key : List UInt8} {k : Nat} (h : k < (keyed key).length) : (padOut key)[k]? = some ((keyed key)[k] ^^^ 0x5c) := by
  unfold padOut
  rw [List.getElem?_map, List.getElem?_eq_getElem h]; rfl
theorem pad_cell {w : World} {g k : Nat} {p : List UInt8} {t : TypeId} (hk : k < 64) (hp : p.length = 64) (h : Blk w g ((p.take k).map byt ++ List.replicate (64 - k) (.int .u8 0)) t) : w.cell? ⟨g, k, none⟩ = some (.int .u8 0) := by
  refine h.cell ?_
  rw [List.getElem?_append_right (by simp; omega)]
  simp [List.getElem?_replicate]; omega
theorem pad_set {w : World} {g k : Nat} {p : List UInt8} {c : UInt8} {t : TypeId} (hk : k < 64) (hp : p.length = 64) (hc : p[k]? = some c) (h : Blk w g ((p.take k).map byt ++ List.replicate (64 - k) (.int .u8 0)) t) :
    Blk (w.setCell ⟨g, k, none⟩ (byt c)) g ((p.take (k + 1)).map byt ++ List.replicate (64 - (k + 1)) (.int .u8 0)) t := by
  have := h.set k (byt c)
  rw [List.set_append_right _ _ (by simp; omega)] at this
  have ez : k - ((p.take k).map byt).length = 0 := by simp; omega
  rw [ez] at this
  obtain ⟨m, hm⟩ : ∃ m, 64 - k = m + 1 := ⟨63 - k, by omega⟩
  rw [hm, List.replicate_succ, List.set_cons_zero] at this
  rw [show 64 - (k + 1) = m from by omega, List.take_add_one, hc, List.map_append, List.append_assoc]
  exact this
theorem padIn_length (key : List UInt8) : (padIn key).length = 64 := by unfold padIn; rw [List.length_map, keyed_length]
theorem padOut_length (key : List UInt8) : (padOut key).length = 64 := by unfold padOut; rw [List.length_map, keyed_length]
theorem pad_cell_in {B g k : Nat} {w wx : World} {key : List UInt8} (hk : k < 64) (h : PadP B g w key k wx) : wx.cell? ⟨g, k, none⟩ = some (.int .u8 0) := pad_cell hk (padIn_length key) h.2.1
theorem pad_cell_out {B g k : Nat} {w wx : World} {key : List UInt8} (hk : k < 64) (h : PadP B g w key k wx) : wx.cell? ⟨g + 1, k, none⟩ = some (.int .u8 0) := pad_cell hk (padOut_length key) h.2.2.1
theorem pad_step {B g k : Nat} {w wx : World} {key : List UInt8} (hk : k < 64) (hl : (keyed key).length = 64) (h : PadP B g w key k wx) :
    PadP B g w key (k + 1) ((wx.setCell ⟨g, k, none⟩ (.int .u8 (((keyed key)[k]'(by omega) ^^^ 0x36).toNat : Int))).setCell ⟨g + 1, k, none⟩ (.int .u8 (((keyed key)[k]'(by omega) ^^^ 0x5c).toNat : Int))) := by
  obtain ⟨⟨h1, h2, h3, h4⟩, h5, h6, h7, h8⟩ := h
  refine ⟨⟨?_, ?_, ?_, by simp; omega⟩, ?_, ?_, h7, by simp; omega⟩
  · exact (h1.setCell (by show B ≤ g; omega) _).setCell (by show B ≤ g + 1; omega) _
  · exact (h2.other (by show g ≠ B; omega) _).other (by show g + 1 ≠ B; omega) _
  · exact (h3.other (by show g ≠ B + 1; omega) _).other (by show g + 1 ≠ B + 1; omega) _
  · exact (pad_set hk (padIn_length key) (padIn_get (by omega)) h5).other (by show g + 1 ≠ g; omega) _
  · exact pad_set hk (padOut_length key) (padOut_get (by omega)) (h6.other (by show g ≠ g + 1; omega) _)

set_option maxHeartbeats 4000000 in
set_option maxRecDepth 100000 in
theorem mac_calls (w : World) (vk vt : Value) (key text : List UInt8) (hK : Byt Any w vk key) (hX : Byt Any w vt text) (hk : key.length ≤ 140737488351232) (ht : text.length ≤ 140737488351232) (hT : TabB w 1) :
    Calls Tryd.prog 21 #[vk, vt] w fun e w' => e = .returned (.agg ((mac key text).map byt).toArray) ∧ Below w.heap.size w w' := by
  obtain ⟨a, c, rfl, hkk, hkx⟩ := id hK
  obtain ⟨a2, c2, rfl, hkx2, _⟩ := id hX
  have H0 := Lib.hid (new32 w)
  have HT := Lib.hid hT
  have HK := Lib.hid hK
  have HX := Lib.hid hX
  clear hK hX hT
  go_enter Tryd.func21, Tryd.ntmps21
  go_upto_region 1 with fail
  have HB0 := Lib.hid (show Below w.heap.size w (w.alloc (.cells #[.int .u8 0, .int .u8 0, .int .u8 0, .int .u8 0, .int .u8 0, .int .u8 0, .int .u8 0, .int .u8 0, .int .u8 0, .int .u8 0, .int .u8 0, .int .u8 0, .int .u8 0, .int .u8 0, .int .u8 0, .int .u8 0, .int .u8 0, .int .u8 0, .int .u8 0, .int .u8 0, .int .u8 0, .int .u8 0, .int .u8 0, .int .u8 0, .int .u8 0, .int .u8 0, .int .u8 0, .int .u8 0, .int .u8 0, .int .u8 0, .int .u8 0, .int .u8 0] 24)) from (Below.refl _ _).alloc (Nat.le_refl _) _)
  have hs0 : (w.alloc (.cells #[.int .u8 0, .int .u8 0, .int .u8 0, .int .u8 0, .int .u8 0, .int .u8 0, .int .u8 0, .int .u8 0, .int .u8 0, .int .u8 0, .int .u8 0, .int .u8 0, .int .u8 0, .int .u8 0, .int .u8 0, .int .u8 0, .int .u8 0, .int .u8 0, .int .u8 0, .int .u8 0, .int .u8 0, .int .u8 0, .int .u8 0, .int .u8 0, .int .u8 0, .int .u8 0, .int .u8 0, .int .u8 0, .int .u8 0, .int .u8 0, .int .u8 0, .int .u8 0] 24)).heap.size = w.heap.size + 1 := by simp
  generalize (w.alloc (.cells #[.int .u8 0, .int .u8 0, .int .u8 0, .int .u8 0, .int .u8 0, .int .u8 0, .int .u8 0, .int .u8 0, .int .u8 0, .int .u8 0, .int .u8 0, .int .u8 0, .int .u8 0, .int .u8 0, .int .u8 0, .int .u8 0, .int .u8 0, .int .u8 0, .int .u8 0, .int .u8 0, .int .u8 0, .int .u8 0, .int .u8 0, .int .u8 0, .int .u8 0, .int .u8 0, .int .u8 0, .int .u8 0, .int .u8 0, .int .u8 0, .int .u8 0, .int .u8 0] 24)) = w0 at *
  have H1 := Lib.hid (new64 w0)
  have H01 := Lib.hid (H0.out.alloc (.cells (Value.int .u8 0 :: Value.int .u8 0 :: Value.int .u8 0 :: Value.int .u8 0 :: Value.int .u8 0 :: Value.int .u8 0 :: Value.int .u8 0 :: Value.int .u8 0 :: Value.int .u8 0 :: Value.int .u8 0 :: Value.int .u8 0 :: Value.int .u8 0 :: Value.int .u8 0 :: Value.int .u8 0 :: Value.int .u8 0 :: Value.int .u8 0 :: Value.int .u8 0 :: Value.int .u8 0 :: Value.int .u8 0 :: Value.int .u8 0 :: Value.int .u8 0 :: Value.int .u8 0 :: Value.int .u8 0 :: Value.int .u8 0 :: Value.int .u8 0 :: Value.int .u8 0 :: Value.int .u8 0 :: Value.int .u8 0 :: Value.int .u8 0 :: Value.int .u8 0 :: Value.int .u8 0 :: Value.int .u8 0 :: Value.int .u8 0 :: Value.int .u8 0 :: Value.int .u8 0 :: Value.int .u8 0 :: Value.int .u8 0 :: Value.int .u8 0 :: Value.int .u8 0 :: Value.int .u8 0 :: Value.int .u8 0 :: Value.int .u8 0 :: Value.int .u8 0 :: Value.int .u8 0 :: Value.int .u8 0 :: Value.int .u8 0 :: Value.int .u8 0 :: Value.int .u8 0 :: Value.int .u8 0 :: Value.int .u8 0 :: Value.int .u8 0 :: Value.int .u8 0 :: Value.int .u8 0 :: Value.int .u8 0 :: Value.int .u8 0 :: Value.int .u8 0 :: Value.int .u8 0 :: Value.int .u8 0 :: Value.int .u8 0 :: Value.int .u8 0 :: Value.int .u8 0 :: Value.int .u8 0 :: Value.int .u8 0 :: Value.int .u8 0 :: []).toArray 57))
  have HB1 := Lib.hid (HB0.out.alloc (by omega) (.cells (Value.int .u8 0 :: Value.int .u8 0 :: Value.int .u8 0 :: Value.int .u8 0 :: Value.int .u8 0 :: Value.int .u8 0 :: Value.int .u8 0 :: Value.int .u8 0 :: Value.int .u8 0 :: Value.int .u8 0 :: Value.int .u8 0 :: Value.int .u8 0 :: Value.int .u8 0 :: Value.int .u8 0 :: Value.int .u8 0 :: Value.int .u8 0 :: Value.int .u8 0 :: Value.int .u8 0 :: Value.int .u8 0 :: Value.int .u8 0 :: Value.int .u8 0 :: Value.int .u8 0 :: Value.int .u8 0 :: Value.int .u8 0 :: Value.int .u8 0 :: Value.int .u8 0 :: Value.int .u8 0 :: Value.int .u8 0 :: Value.int .u8 0 :: Value.int .u8 0 :: Value.int .u8 0 :: Value.int .u8 0 :: Value.int .u8 0 :: Value.int .u8 0 :: Value.int .u8 0 :: Value.int .u8 0 :: Value.int .u8 0 :: Value.int .u8 0 :: Value.int .u8 0 :: Value.int .u8 0 :: Value.int .u8 0 :: Value.int .u8 0 :: Value.int .u8 0 :: Value.int .u8 0 :: Value.int .u8 0 :: Value.int .u8 0 :: Value.int .u8 0 :: Value.int .u8 0 :: Value.int .u8 0 :: Value.int .u8 0 :: Value.int .u8 0 :: Value.int .u8 0 :: Value.int .u8 0 :: Value.int .u8 0 :: Value.int .u8 0 :: Value.int .u8 0 :: Value.int .u8 0 :: Value.int .u8 0 :: Value.int .u8 0 :: Value.int .u8 0 :: Value.int .u8 0 :: Value.int .u8 0 :: Value.int .u8 0 :: Value.int .u8 0 :: []).toArray 57))
  rw [hs0] at H1
  have hs1 : (w0.alloc (.cells (Value.int .u8 0 :: Value.int .u8 0 :: Value.int .u8 0 :: Value.int .u8 0 :: Value.int .u8 0 :: Value.int .u8 0 :: Value.int .u8 0 :: Value.int .u8 0 :: Value.int .u8 0 :: Value.int .u8 0 :: Value.int .u8 0 :: Value.int .u8 0 :: Value.int .u8 0 :: Value.int .u8 0 :: Value.int .u8 0 :: Value.int .u8 0 :: Value.int .u8 0 :: Value.int .u8 0 :: Value.int .u8 0 :: Value.int .u8 0 :: Value.int .u8 0 :: Value.int .u8 0 :: Value.int .u8 0 :: Value.int .u8 0 :: Value.int .u8 0 :: Value.int .u8 0 :: Value.int .u8 0 :: Value.int .u8 0 :: Value.int .u8 0 :: Value.int .u8 0 :: Value.int .u8 0 :: Value.int .u8 0 :: Value.int .u8 0 :: Value.int .u8 0 :: Value.int .u8 0 :: Value.int .u8 0 :: Value.int .u8 0 :: Value.int .u8 0 :: Value.int .u8 0 :: Value.int .u8 0 :: Value.int .u8 0 :: Value.int .u8 0 :: Value.int .u8 0 :: Value.int .u8 0 :: Value.int .u8 0 :: Value.int .u8 0 :: Value.int .u8 0 :: Value.int .u8 0 :: Value.int .u8 0 :: Value.int .u8 0 :: Value.int .u8 0 :: Value.int .u8 0 :: Value.int .u8 0 :: Value.int .u8 0 :: Value.int .u8 0 :: Value.int .u8 0 :: Value.int .u8 0 :: Value.int .u8 0 :: Value.int .u8 0 :: Value.int .u8 0 :: Value.int .u8 0 :: Value.int .u8 0 :: Value.int .u8 0 :: Value.int .u8 0 :: []).toArray 57)).heap.size = w.heap.size + 2 := by simp [hs0]
  clear H0 HB0
  go_upto_region 2 with fail
  generalize (w0.alloc (.cells (Value.int .u8 0 :: Value.int .u8 0 :: Value.int .u8 0 :: Value.int .u8 0 :: Value.int .u8 0 :: Value.int .u8 0 :: Value.int .u8 0 :: Value.int .u8 0 :: Value.int .u8 0 :: Value.int .u8 0 :: Value.int .u8 0 :: Value.int .u8 0 :: Value.int .u8 0 :: Value.int .u8 0 :: Value.int .u8 0 :: Value.int .u8 0 :: Value.int .u8 0 :: Value.int .u8 0 :: Value.int .u8 0 :: Value.int .u8 0 :: Value.int .u8 0 :: Value.int .u8 0 :: Value.int .u8 0 :: Value.int .u8 0 :: Value.int .u8 0 :: Value.int .u8 0 :: Value.int .u8 0 :: Value.int .u8 0 :: Value.int .u8 0 :: Value.int .u8 0 :: Value.int .u8 0 :: Value.int .u8 0 :: Value.int .u8 0 :: Value.int .u8 0 :: Value.int .u8 0 :: Value.int .u8 0 :: Value.int .u8 0 :: Value.int .u8 0 :: Value.int .u8 0 :: Value.int .u8 0 :: Value.int .u8 0 :: Value.int .u8 0 :: Value.int .u8 0 :: Value.int .u8 0 :: Value.int .u8 0 :: Value.int .u8 0 :: Value.int .u8 0 :: Value.int .u8 0 :: Value.int .u8 0 :: Value.int .u8 0 :: Value.int .u8 0 :: Value.int .u8 0 :: Value.int .u8 0 :: Value.int .u8 0 :: Value.int .u8 0 :: Value.int .u8 0 :: Value.int .u8 0 :: Value.int .u8 0 :: Value.int .u8 0 :: Value.int .u8 0 :: Value.int .u8 0 :: Value.int .u8 0 :: Value.int .u8 0 :: Value.int .u8 0 :: []).toArray 57)) = w1 at *
  go_upto_if 15 with fail
  go_cut [] (fun wx => MacP w.heap.size w key wx)
  case first =>
    by_cases h64 : 64 < key.length
    · go_wp2_with fail
      refine (of_calls _ _ _ key (HK.out.below HB1.out) (by omega) (HT.out.below HB1.out)).mono ?_
      rintro e w2 ⟨rfl, hb2⟩
      have HB2 := Lib.hid (HB1.out.trans (hb2.mono (by omega)))
      have HD2 := Lib.hid (H01.out.below hb2)
      have HE2 := Lib.hid (H1.out.below hb2)
      have hs2 : w.heap.size + 2 ≤ w2.heap.size := by have := hb2.size; omega
      have HN := Lib.hid (new32 w2)
      have HONE := Lib.hid (one_cells (sha key))
      have hkd : keyed key = sha key ++ List.replicate (64 - (sha key).length) 0 := by unfold keyed; rw [if_pos h64]
      have HKD := Lib.hid hkd
      clear hb2 HB1 H01 H1 hkd
      go_upto_region 4 with (first | (with_reducible refine wpList_store_blk rfl _ _ _ rfl w2.heap.size ((sha key).map byt) _ rfl _ rfl rfl HN.out (by kernel_rfl) (by simp [sha_length]) HONE.out ?_))
      obtain ⟨h2, hm2⟩ := made32 w2 (sha key)
      have HB3 := Lib.hid (HB2.out.trans (hm2.mono (by omega)))
      have HD3 := Lib.hid (HD2.out.below hm2)
      have HE3 := Lib.hid (HE2.out.below hm2)
      have H3 := Lib.hid h2
      have hs3 := h2.lt
      clear hm2 h2 HN HB2 HD2 HE2
      generalize (w2.alloc (.cells #[.int .u8 0, .int .u8 0, .int .u8 0, .int .u8 0, .int .u8 0, .int .u8 0, .int .u8 0, .int .u8 0, .int .u8 0, .int .u8 0, .int .u8 0, .int .u8 0, .int .u8 0, .int .u8 0, .int .u8 0, .int .u8 0, .int .u8 0, .int .u8 0, .int .u8 0, .int .u8 0, .int .u8 0, .int .u8 0, .int .u8 0, .int .u8 0, .int .u8 0, .int .u8 0, .int .u8 0, .int .u8 0, .int .u8 0, .int .u8 0, .int .u8 0, .int .u8 0] 24)).setRow w2.heap.size ((sha key).map byt).toArray = w3 at *
      generalize w2.heap.size = g2 at *
      have HL := Lib.hid (sha_length key)
      have HC3 := Lib.hid (fun j v (h : ((sha key).map byt)[j]? = some v) => (H3.out.cell (i := j) h))
      generalize Value.agg ((sha key).map byt).toArray = xx at *
      simp only [Act.put]
      go_region_law (refine step_copy_splice rfl (.tmp 18) (.tmp 19) 22 22 rfl 5 Tryd.underlying22 (by kernel_rfl) (some ⟨w.heap.size + 1, 0, none⟩) (some ⟨g2, 0, none⟩) 64 64 32 32 rfl rfl (w.heap.size + 1) 0 (List.replicate 64 (.int .u8 0)) 57 HE3.out ((sha key).map byt) (by rw [List.length_map, HL.out]; rfl) (fun _ => ⟨rfl, _, rfl, fun j v h => by rw [add_at]; exact HC3.out j v h⟩) (by rw [List.length_map, HL.out]; simp) HONE.out (w.heap.size + 1) w3 (Below.refl _ _).drew (Nat.le_refl _) ?_; intro w4 hg4 hb4; have HG4 := Lib.hid hg4.out; have HB4 := Lib.hid hb4; clear hg4 hb4)
      all_goals go_wp2_with fail
      all_goals go_meet
      all_goals
        have hsp : Blk w4 (w.heap.size + 1) (splice (List.replicate 64 (.int .u8 0)) 0 ((sha key).map byt)) 57 := HG4.out
        rw [splice_keyed, ← HKD.out] at hsp
        exact ⟨HB3.out.trans (HB4.out.mono (by omega)), (HB4.out.block w.heap.size (by omega)).trans HD3.out, hsp, by have := HB4.out.size; omega⟩
    · have hkd : keyed key = key ++ List.replicate (64 - key.length) 0 := by unfold keyed; rw [if_neg h64]
      have HKD := Lib.hid hkd
      have HK1 := Lib.hid (HK.out.below HB1.out)
      have hone := one_cells key
      have HONE := Lib.hid hone
      have hcs : ∀ n, n = key.length → ∀ x, x = a → 0 < n → ∃ ad, x = some ad ∧ ∀ j v, (key.map byt)[j]? = some v → w1.cell? (ad.add j) = some v := by
        rintro n rfl x rfl hpos
        obtain ⟨a', c', he, _, hx⟩ := HK1.out
        cases he
        rcases hx with rfl | ⟨b, off, rfl, _, hl⟩
        · simp at hpos
        · refine ⟨_, rfl, fun j v hv => ?_⟩
          obtain ⟨hj, rfl⟩ := List.getElem?_eq_some_iff.1 hv
          rw [List.length_map] at hj
          rw [List.getElem_map]
          have := hl j hj
          unfold Addr.add
          split
          · rename_i h0; subst h0; exact this
          · exact this
      have HCS := Lib.hid hcs
      clear hone hkd hcs
      go_wp2_with (refine wpList_copy_splice rfl (.tmp 21) (.tmp 22) 22 22 rfl 5 Tryd.underlying22 (by kernel_rfl) (some ⟨w.heap.size + 1, 0, none⟩) a 64 64 key.length c rfl rfl (w.heap.size + 1) 0 (List.replicate 64 (.int .u8 0)) 57 H1.out (key.map byt) (by rw [List.length_map]; exact (Nat.min_eq_left (by omega)).symm) (fun h => ⟨rfl, HCS.out _ rfl _ rfl (by simpa using h)⟩) (by rw [List.length_map]; simp; omega) HONE.out (w.heap.size + 1) w1 (Below.refl _ _) (Nat.le_refl _) ?_)
      intro w4 hg4 hb4
      have HG4 := Lib.hid hg4.out
      have HB4 := Lib.hid hb4
      clear hg4 hb4
      go_wp2_with fail
      go_meet
      all_goals
        have hsp : Blk w4 (w.heap.size + 1) (splice (List.replicate 64 (.int .u8 0)) 0 (key.map byt)) 57 := HG4.out
        rw [splice_keyed, ← HKD.out] at hsp
        exact ⟨HB1.out.trans (HB4.out.mono (by omega)), (HB4.out.block w.heap.size (by omega)).trans H01.out, hsp, by have := HB4.out.size; omega⟩
  case rest =>
    have HM := Lib.hid hcut
    have hsz := hcut.2.2.2
    clear hcut
    go_upto_region 7 with fail
    have h6 := two64 wc
    generalize ((wc.alloc (.cells (Value.int .u8 0 :: Value.int .u8 0 :: Value.int .u8 0 :: Value.int .u8 0 :: Value.int .u8 0 :: Value.int .u8 0 :: Value.int .u8 0 :: Value.int .u8 0 :: Value.int .u8 0 :: Value.int .u8 0 :: Value.int .u8 0 :: Value.int .u8 0 :: Value.int .u8 0 :: Value.int .u8 0 :: Value.int .u8 0 :: Value.int .u8 0 :: Value.int .u8 0 :: Value.int .u8 0 :: Value.int .u8 0 :: Value.int .u8 0 :: Value.int .u8 0 :: Value.int .u8 0 :: Value.int .u8 0 :: Value.int .u8 0 :: Value.int .u8 0 :: Value.int .u8 0 :: Value.int .u8 0 :: Value.int .u8 0 :: Value.int .u8 0 :: Value.int .u8 0 :: Value.int .u8 0 :: Value.int .u8 0 :: Value.int .u8 0 :: Value.int .u8 0 :: Value.int .u8 0 :: Value.int .u8 0 :: Value.int .u8 0 :: Value.int .u8 0 :: Value.int .u8 0 :: Value.int .u8 0 :: Value.int .u8 0 :: Value.int .u8 0 :: Value.int .u8 0 :: Value.int .u8 0 :: Value.int .u8 0 :: Value.int .u8 0 :: Value.int .u8 0 :: Value.int .u8 0 :: Value.int .u8 0 :: Value.int .u8 0 :: Value.int .u8 0 :: Value.int .u8 0 :: Value.int .u8 0 :: Value.int .u8 0 :: Value.int .u8 0 :: Value.int .u8 0 :: Value.int .u8 0 :: Value.int .u8 0 :: Value.int .u8 0 :: Value.int .u8 0 :: Value.int .u8 0 :: Value.int .u8 0 :: Value.int .u8 0 :: Value.int .u8 0 :: []).toArray 57)).alloc (.cells (Value.int .u8 0 :: Value.int .u8 0 :: Value.int .u8 0 :: Value.int .u8 0 :: Value.int .u8 0 :: Value.int .u8 0 :: Value.int .u8 0 :: Value.int .u8 0 :: Value.int .u8 0 :: Value.int .u8 0 :: Value.int .u8 0 :: Value.int .u8 0 :: Value.int .u8 0 :: Value.int .u8 0 :: Value.int .u8 0 :: Value.int .u8 0 :: Value.int .u8 0 :: Value.int .u8 0 :: Value.int .u8 0 :: Value.int .u8 0 :: Value.int .u8 0 :: Value.int .u8 0 :: Value.int .u8 0 :: Value.int .u8 0 :: Value.int .u8 0 :: Value.int .u8 0 :: Value.int .u8 0 :: Value.int .u8 0 :: Value.int .u8 0 :: Value.int .u8 0 :: Value.int .u8 0 :: Value.int .u8 0 :: Value.int .u8 0 :: Value.int .u8 0 :: Value.int .u8 0 :: Value.int .u8 0 :: Value.int .u8 0 :: Value.int .u8 0 :: Value.int .u8 0 :: Value.int .u8 0 :: Value.int .u8 0 :: Value.int .u8 0 :: Value.int .u8 0 :: Value.int .u8 0 :: Value.int .u8 0 :: Value.int .u8 0 :: Value.int .u8 0 :: Value.int .u8 0 :: Value.int .u8 0 :: Value.int .u8 0 :: Value.int .u8 0 :: Value.int .u8 0 :: Value.int .u8 0 :: Value.int .u8 0 :: Value.int .u8 0 :: Value.int .u8 0 :: Value.int .u8 0 :: Value.int .u8 0 :: Value.int .u8 0 :: Value.int .u8 0 :: Value.int .u8 0 :: Value.int .u8 0 :: Value.int .u8 0 :: Value.int .u8 0 :: []).toArray 57)) = w6 at *
    obtain ⟨hi6, ho6, hb6, hs6⟩ := h6
    have HM6 := Lib.hid (HM.out.below hb6)
    generalize wc.heap.size = g at *
    have HP := Lib.hid (show PadP w.heap.size g w key 0 w6 from ⟨HM6.out, by simpa using hi6, by simpa using ho6, by omega, by omega⟩)
    have HKR := Lib.hid HM6.out.2.2.1
    have hkl := keyed_length key
    have HKL := Lib.hid hkl
    clear hi6 ho6 hb6 HM HM6 hkl
    obtain ⟨ks, hks⟩ : ∃ ks, ks = (keyed key).map byt := ⟨_, rfl⟩
    rw [← hks] at HKR
    have hkz : ks.length = 64 := by rw [hks, List.length_map, HKL.out]
    have HKS := Lib.hid hks
    have HIN := Lib.hid (show (Tryd.prog.info? 57).map (·.size) = some ks.length by rw [hkz]; kernel_rfl)
    clear hks
    go_wp2_with (first | (with_reducible refine wpList_load_blk rfl _ _ rfl (w.heap.size + 1) _ rfl HKR.out _ Tryd.underlying57 rfl HIN.out ?_))
    clear HKR HIN
    go_loopw [25] (fun i wx => ∃ k : Nat, k ≤ 64 ∧ i = .int .i64 k ∧ PadP w.heap.size g w key k wx) (fun i _ => 64 - (intOf i).toNat)
    case atStart => exact ⟨0, by omega, rfl, HP.out⟩
    case round =>
      obtain ⟨k, hk64, rfl, hR⟩ := hrel
      have HR := Lib.hid hR
      by_cases hlt : k < 64
      · have hix : ∀ w, (Instr.index 57 (.agg ks.toArray) (.int .i64 (k : Int))).run Tryd.prog w = .ok (.int .u8 (((keyed key)[k]'(by rw [HKL.out]; exact hlt)).toNat : Int)) w := fun w => by
          rw [HKS.out]; exact run_index_u8 (n := 64) Tryd.underlying57 Tryd.underlying5 (by kernel_rfl) w _ k hlt HKL.out
        have ci := pad_cell_in hlt hR
        have co := pad_cell_out hlt hR
        have fi := hR.2.1.free k
        have fo := hR.2.2.1.free k
        have hN := pad_step hlt HKL.out hR
        have HN := Lib.hid hN
        have hgk : (⟨g, k, none⟩ : Addr) ≠ ⟨g + 1, k, none⟩ := by intro e; injection e with e1; omega
        generalize ((keyed key)[k]'(by rw [HKL.out]; exact hlt)) = cc at *
        clear hR HR hN
        go_wp2
        go_roundw
        case rel => exact ⟨k + 1, by omega, by go_num, by rw [xor_in, xor_out]; exact HN.out⟩
        case measure => simp [intOf]; omega
      · obtain rfl : k = 64 := by omega
        obtain ⟨hM, hin, hout, _, hsg⟩ := hR
        rw [List.take_of_length_le (by rw [padIn_length]; omega), Nat.sub_self, List.replicate_zero, List.append_nil] at hin
        rw [List.take_of_length_le (by rw [padOut_length]; omega), Nat.sub_self, List.replicate_zero, List.append_nil] at hout
        have hgT : 1 < w.heap.size := (Array.getElem?_eq_some_iff.1 HT.out.choose_spec.choose_spec).1
        have HIN := Lib.hid hin
        have HOUT := Lib.hid hout
        have HM := Lib.hid hM
        have hwr : w.heap.size ≤ wr.heap.size := hM.1.size
        have HTR := Lib.hid (HT.out.below hM.1)
        have HXR := Lib.hid (HX.out.under hM.1 hwr)
        clear hM hin hout HP HT HX HK HKS hkz HKL hsz HR hlt hk64
        go_wp2_with fail
        refine (new_from wr).mono ?_
        rintro e w7 ⟨q, rfl, hH, hb⟩
        have HH := Lib.hid hH
        have HB7 := Lib.hid hb
        clear hH hb
        go_wp2_with fail
        refine (write_from wr.heap.size w7 q [] _ (padIn key) HH.out ((HIN.out.keep HB7.out (by omega)).byt (padIn_length key) (by unfold maxLen; omega) (by omega)) (by rw [padIn_length]; simp) (HTR.out.below HB7.out) (by omega)).mono ?_
        rintro e w8 ⟨rfl, hH, hb⟩
        rw [List.nil_append] at hH
        have HH := Lib.hid hH
        have HB8 := Lib.hid (HB7.out.trans hb)
        clear hH hb HB7
        go_wp2_with fail
        refine (write_from wr.heap.size w8 q _ _ text HH.out (HXR.out.keep HB8.out) (by rw [padIn_length]; omega) (HTR.out.below HB8.out) (by omega)).mono ?_
        rintro e w9 ⟨rfl, hH, hb⟩
        have HH := Lib.hid hH
        have HB9 := Lib.hid (HB8.out.trans hb)
        have hl9 : (padIn key ++ text).length ≤ 1125899906842624 := by rw [List.length_append, padIn_length]; omega
        clear hH hb HB8
        go_wp2_with fail
        refine (sum_calls _ w9 q _ HH.out.1 hl9 (HTR.out.below HB9.out)).mono ?_
        rintro e w10 ⟨rfl, hb⟩
        have HB10 := Lib.hid (HB9.out.trans (hb.mono HB9.out.size))
        have hdl : (sha (padIn key ++ text)).length = 32 := sha_length _
        have HE := Lib.hid (show mac key text = sha (padOut key ++ sha (padIn key ++ text)) from rfl)
        clear hb HB9 HH hl9
        generalize sha (padIn key ++ text) = dg at *
        have HN := Lib.hid (new32 w10)
        have HONE := Lib.hid (one_cells dg)
        go_upto_region 16 with (first | (with_reducible refine wpList_store_blk rfl _ _ _ rfl w10.heap.size (dg.map byt) _ rfl _ rfl rfl HN.out (by kernel_rfl) (by simp [hdl]) HONE.out ?_))
        obtain ⟨h11, hm11⟩ := made32 w10 dg
        have hs11 := h11.lt
        have HB11 := Lib.hid (HB10.out.trans (hm11.mono HB10.out.size))
        have H11 := Lib.hid h11
        have hg10 : wr.heap.size ≤ w10.heap.size := HB10.out.size
        clear hm11 h11 HN HB10
        generalize (w10.alloc (.cells #[.int .u8 0, .int .u8 0, .int .u8 0, .int .u8 0, .int .u8 0, .int .u8 0, .int .u8 0, .int .u8 0, .int .u8 0, .int .u8 0, .int .u8 0, .int .u8 0, .int .u8 0, .int .u8 0, .int .u8 0, .int .u8 0, .int .u8 0, .int .u8 0, .int .u8 0, .int .u8 0, .int .u8 0, .int .u8 0, .int .u8 0, .int .u8 0, .int .u8 0, .int .u8 0, .int .u8 0, .int .u8 0, .int .u8 0, .int .u8 0, .int .u8 0, .int .u8 0] 24)).setRow w10.heap.size (dg.map byt).toArray = w11 at *
        generalize w10.heap.size = gd at *
        generalize Value.agg (dg.map byt).toArray = xd at *
        go_wp2_with fail
        refine (new_from w11).mono ?_
        rintro e w12 ⟨q2, rfl, hH, hb⟩
        have HH := Lib.hid hH
        have HB12 := Lib.hid hb
        clear hH hb
        go_wp2_with fail
        refine (write_from w11.heap.size w12 q2 [] _ (padOut key) HH.out (((HOUT.out.keep HB11.out (by omega)).keep HB12.out (by omega)).byt (padOut_length key) (by unfold maxLen; omega) (by omega)) (by rw [padOut_length]; simp) ((HTR.out.below HB11.out).below HB12.out) (by omega)).mono ?_
        rintro e w13 ⟨rfl, hH, hb⟩
        rw [List.nil_append] at hH
        have HH := Lib.hid hH
        have HB13 := Lib.hid (HB12.out.trans hb)
        clear hH hb HB12
        go_wp2_with fail
        refine (write_from w11.heap.size w13 q2 _ _ dg HH.out ((H11.out.keep HB13.out (by omega)).byt hdl (by unfold maxLen; omega) (by omega)) (by rw [padOut_length]; omega) ((HTR.out.below HB11.out).below HB13.out) (by omega)).mono ?_
        rintro e w14 ⟨rfl, hH, hb⟩
        have HH := Lib.hid hH
        have HB14 := Lib.hid (HB13.out.trans hb)
        have hl9 : (padOut key ++ dg).length ≤ 1125899906842624 := by rw [List.length_append, padOut_length]; omega
        clear hH hb HB13
        go_wp2_with fail
        refine (sum_calls _ w14 q2 _ HH.out.1 hl9 ((HTR.out.below HB11.out).below HB14.out)).mono ?_
        rintro e w15 ⟨rfl, hb⟩
        have HB15 := Lib.hid (HB14.out.trans (hb.mono HB14.out.size))
        have hs2 := HB11.out.size
        have HBF := Lib.hid (HM.out.1.trans ((HB11.out.mono hwr).trans (HB15.out.mono (by omega))))
        have HDF := Lib.hid ((HM.out.2.1.keep HB11.out (by omega)).keep HB15.out (by omega))
        rw [← HE.out]
        clear hb HB14 HH hl9 HB15 HB11 HM HE
        have HML := Lib.hid (mac_length key text)
        have HONE := Lib.hid (one_cells (mac key text))
        go_wp2_with (with_reducible refine wpList_store_blk rfl _ _ _ rfl w.heap.size ((mac key text).map byt) _ rfl _ rfl rfl HDF.out (by kernel_rfl) (by simp [HML.out]) HONE.out ?_)
        exact bodyPost_ret (v := .agg ((mac key text).map byt).toArray) (results_cell_row Tryd.results21 _ _ w.heap.size 24 _ (0, 0) _ rfl (HDF.out.row _) Tryd.underlying24 rfl (by kernel_rfl)) rfl ⟨rfl, below_setRow HBF.out (Nat.le_refl _) _⟩
end Go.Proofs.YtodhhejliijdmaaDoor.ShaW
