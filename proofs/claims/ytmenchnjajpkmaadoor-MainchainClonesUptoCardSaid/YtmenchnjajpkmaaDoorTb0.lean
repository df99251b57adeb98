/- The two ids that begun names, reckoned: they are not the same. In plain Lean. -/
import Derived.Test.YtmenchnjajpkmaaDoorMhPure
import Derived.KernelRfl
namespace Go.Proofs.YtmenchnjajpkmaaDoor.Mh
open Go ShaW Mem Codec
def h5 : Hd := ⟨List.replicate 32 0, List.replicate 32 0, 5, 0⟩
def d5 : Dg := [46, 157, 23, 136, 147, 69, 242, 130, 86, 181, 228, 51, 92, 154, 107, 220, 189, 35, 53, 143, 65, 1, 97, 177, 218, 104, 224, 192, 11, 147, 232, 50]
theorem id5 : mainId h5 = d5 := by kernel_rfl
def h6 : Hd := ⟨d5, List.replicate 32 0, 6, 0⟩
def d6 : Dg := [147, 233, 65, 159, 132, 34, 234, 110, 202, 65, 30, 151, 61, 133, 75, 66, 156, 173, 216, 250, 148, 121, 234, 130, 28, 119, 25, 63, 40, 40, 239, 104]
theorem id6 : mainId h6 = d6 := by kernel_rfl
theorem ne56 : d5 ≠ d6 := by decide
theorem ok5 : h5.Ok := by simp [h5, Hd.Ok]
theorem ok6 : h6.Ok := by simp [h6, d5, Hd.Ok]
theorem add6 : addE [h5] h6 = 0 := by
  have e1 : find [h5] (mainId h6) = none := by
    rw [id6]
    have : (mainId h5 == d6) = false := by rw [id5]; decide
    simp [find, List.findIdx?, List.findIdx?.go, this]
  have e2 : find [h5] h6.prev = some 0 := by
    have : (mainId h5 == d5) = true := by rw [id5]; decide
    show find [h5] d5 = some 0
    simp [find, List.findIdx?, List.findIdx?.go, this]
  unfold addE
  rw [e1, e2]
  rfl
theorem trk5 : Trk [h5] := Trk.one ok5
theorem addL6 : addL [h5] h6 = [h5, h6] := by unfold addL; rw [if_pos add6]; rfl
theorem trk56 : Trk [h5, h6] := by rw [← addL6]; exact trk5.add ok6
theorem again6 : addE [h5, h6] h6 = 170 := by
  have e1 : find [h5, h6] (mainId h6) = some 1 := trk56.find (k := 1) (g := h6) rfl
  unfold addE
  rw [e1]
  rfl
theorem addL66 : addL [h5, h6] h6 = [h5, h6] := by unfold addL; rw [if_neg (by rw [again6]; decide)]
theorem best56 : best [h5, h6] = 1 := by decide
theorem depth56 : depth [h5, h6] d5 d6 = some 1 := by
  have h1 := trk56.depth_eq d5 (k := 1) (h := h6) rfl
  have h2 := trk56.depth_eq d5 (k := 0) (h := h5) rfl
  rw [id6, if_neg (Ne.symm ne56), if_neg (by decide)] at h1
  rw [id5, if_pos rfl] at h2
  rw [h1]
  show (depth [h5, h6] d5 d5).map _ = _
  rw [h2]
  rfl
end Go.Proofs.YtmenchnjajpkmaaDoor.Mh
