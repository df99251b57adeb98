/- Walks of what the codec's laws use beside: same, alive. No condition. -/
import Derived.Test.YtjdohjoljobinaaCodecR
import Derived.Lib.SlBytesConst
namespace Go.Proofs.Ytjdohjoljobinaa.CodecL
open Go Go.RowKit Mem Codec CodecW CodecR

def Rg (a b : Nat) : Nat → Prop := fun k => a ≤ k ∧ k < b
theorem wrg {B : Nat} {w1 w2 : World} {q : Nat} {m m2 : List UInt8} (H : WriterIs (Plus (Rg B w1.heap.size) w1 w2) w2 q m) (hB : B ≤ w1.heap.size) (hm : m = m2) : WriterIs (Rg B w2.heap.size) w2 q m2 := by
  subst hm
  exact H.mono (fun k hk h => by
    rcases h with h | h
    · exact ⟨h.1, hk⟩
    · exact ⟨Nat.le_trans hB h.1, hk⟩)
theorem lit_byt (w : World) (l : List UInt8) (cs : Array Value) (f : Nat × Nat) (n : Nat) (hn : n = l.length) (hcs : cs = (l.map byt).toArray) (hm : l.length ≤ 1000000) : Byt (fun k => k = w.heap.size) (w.alloc (.cells cs 5 f)) (.slice (some ⟨w.heap.size, 0, none⟩) n n) l := by
  subst hcs
  exact Byt.newBlock w _ _ _ l n n hn ⟨by omega, by unfold maxLen; omega⟩ rfl (fun i hi => by simp [hi])
end Go.Proofs.Ytjdohjoljobinaa.CodecL
