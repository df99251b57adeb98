/- A string turned to bytes, as the words of Mem. Program-independent; no condition. -/
import Derived.Test.YtmenchnjajpkmaaDoorMem
import Derived.Lib.ConvBytes
namespace Go.Proofs.YtmenchnjajpkmaaDoor.Mem
open Go Go.RowKit
theorem below_bytes (w : World) (e : TypeId) (s : ByteArray) : Below w.heap.size w (Lib.bytesWorld w e s) := by
  refine ⟨?_, ?_, ?_, by rw [Lib.bytesWorld_size]; omega, fun k hk => Lib.bytesWorld_at_old w e s k hk⟩ <;>
    simp [Lib.bytesWorld, World.freeze, World.alloc, World.drew, -World.alloc_eq, -World.drew_eq]
theorem byt_bytes {D : Nat → Prop} (w : World) (e : TypeId) (s : ByteArray) (hs : s.size ≤ maxLen) (hd : D w.heap.size) : Byt D (Lib.bytesWorld w e s) (.slice (some ⟨w.heap.size, 0, none⟩) s.size (grownCap w s.size 0 e)) s.data.toList := by
  have hl : s.data.toList.length = s.size := by rw [Array.length_toList]; rfl
  refine ⟨_, _, by rw [hl], ⟨by rw [hl]; exact grownCap_ge _ _ _ _, grownCap_le_maxLen _ _ _ _ hs, fun h => by cases h⟩, .inr ⟨w.heap.size, 0, rfl, hd, fun i hi => ?_⟩⟩
  rw [Nat.zero_add, Lib.bytesWorld_cell w e s i (by omega)]
  rw [List.getD_eq_getElem?_getD, List.getElem?_eq_getElem hi]
  rfl
end Go.Proofs.YtmenchnjajpkmaaDoor.Mem
