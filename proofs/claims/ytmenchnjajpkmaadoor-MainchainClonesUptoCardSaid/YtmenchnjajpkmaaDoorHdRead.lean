/- How headers of the main chain, and ids, read as arguments. No condition. -/
import Derived.Test.YtmenchnjajpkmaaDoorRdr
import Derived.Test.YtmenchnjajpkmaaDoorTr
namespace Go.Proofs.YtmenchnjajpkmaaDoor.Rdr
open Go Go.RowKit Mem Arr Read Mh Tr
set_option linter.unusedVariables false
instance : Inhabited Hd := ⟨⟨[], [], 0, 0⟩⟩
theorem rd_dg (W : World) : Rdr Tryd.prog W 24 (fun l : List UInt8 => l.map byt) (fun l => l.length = 32) (fun _ => True) (fun _ => 0) := rd_bytes Tryd.underlying24 Tryd.underlying5 (by kernel_rfl) (by kernel_rfl)
theorem rd_hd (W : World) : Rdr Tryd.prog W 32 Hd.cells Hd.Ok (fun _ => True) (fun _ => 0) :=
  (rd_struct (ts := [24, 24, 30, 30]) Tryd.underlying32 rfl (by kernel_rfl) (by kernel_rfl)
    (rds_cons (rd_dg W) (rds_cons (rd_dg W) (rds_cons (rd_u64 Tryd.underlying30) (rds_cons (rd_u64 Tryd.underlying30) rds_nil))))).conv
    (fun x => ⟨x.1, x.2.1, x.2.2.1, x.2.2.2.1⟩) (fun x _ => by simp [Hd.cells]) (fun x h => ⟨h.1, h.2.1, h.2.2.1, h.2.2.2.1⟩) (fun _ _ _ => trivial) (fun _ => Nat.zero_le _)
theorem rd_hds (W : World) : Rdr Tryd.prog W 22 (fun x : Value × List Hd => [x.1]) (fun x => Arr 66 Any W x.1 (rows x.2) ∧ ∀ h ∈ x.2, h.Ok) (fun x => x.2.length * 80 ≤ 140737488351232) (fun x => x.2.length) :=
  (rd_slice Tryd.underlying22 (rd_hd W) (by kernel_rfl) (by decide) (nb := 80) (by kernel_rfl)).conv (fun x => x) (fun x _ => rfl) (fun x h => h) (fun x _ h => h.1)
    (fun x => by
      have : ∀ l : List Hd, l.length ≤ (l.map fun y : Hd => max 0 1).sum := by
        intro l
        induction l with
        | nil => simp
        | cons h r ih => simp at ih ⊢; omega
      exact this x.2)
open Go.WideShapes Go.ChangeShapes in
/-- two ids, argument -/
theorem read_two {H : Type} {enc : TypeId × Value → H} {W : World} {v : Value} {d : DataW H} {ps : List MemPlace} {held spare} {base b0 : Nat}
    (hval : Value.okWide Tryd.prog W .any b0 37 v) (h : DataW.Trod enc Tryd.prog W base spare held 37 v d ps) :
    ∃ x y : List UInt8, v = .agg (x.map byt ++ y.map byt).toArray ∧ x.length = 32 ∧ y.length = 32 := by
  have ht := Tryd.underlying37
  simp only [Value.okWide, ht] at hval
  obtain ⟨cs, rfl, hsz, _⟩ := hval
  obtain ⟨x, rfl, ⟨hn, hx⟩, _⟩ := arg_agg (rd_array ht (rd_dg W) (k := 32) (by kernel_rfl) (by kernel_rfl)) h
  match x, hn with
  | [a, b], _ => exact ⟨a, b, by simp, (hx a (by simp)).1, (hx b (by simp)).1⟩
end Go.Proofs.YtmenchnjajpkmaaDoor.Rdr
