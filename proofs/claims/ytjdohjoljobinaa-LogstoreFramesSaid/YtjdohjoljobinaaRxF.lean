/- How a batch of changes reads as an argument. No condition. -/
import Derived.Test.YtjdohjoljobinaaRdX
import Derived.Test.YtjdohjoljobinaaFrA
namespace Go.Proofs.Ytjdohjoljobinaa.Rdr
open Go Go.RowKit Mem Arr Read Reps Fra
set_option linter.unusedVariables false

theorem rx_bs (W : World) : RdX Try.prog W 23 RBy (fun l => l.length ≤ 140737488351232) List.length := rx_by Try.underlying23 Try.underlying5 (by kernel_rfl) (by kernel_rfl)
theorem rx_ch (W : World) : RdX Try.prog W 70 RCh (fun c => c.2.1.length ≤ 140737488351232) (fun c => c.2.1.length) :=
  ⟨fun hd => by
    obtain ⟨x, h1, h2, h3, h4⟩ := (rd_struct (ts := [23, 23, 4]) Try.underlying70 rfl (by kernel_rfl) (by kernel_rfl)
      (rxs_cons (rx_bs W) (rxs_cons (rx_bs W) (rxs_one (rx_bool Try.underlying4))))).read hd
    exact ⟨x, h1, h2, fun hw => (h3 hw).2.1, by dsimp only at h4 ⊢; omega⟩⟩
set_option maxRecDepth 100000 in
theorem chs_arg {W : World} {H : Type} {enc : TypeId × Value → H} {u : Value} {d : DataW H} {ps : List MemPlace} {held spare} {base : Nat} (hu : u.cells.toList = [u]) (ht : DataW.Trod enc Try.prog W base spare held 22 u d ps) :
    ∃ l : List XCh, Sl 3 RCh Any W u l ∧ ((∀ n ∈ d.weights Try.prog 22, n ≤ reachBytes) → ∀ c ∈ l, c.2.1.length ≤ 140737488351232) ∧ (l.map fun c => max c.2.1.length 1).sum ≤ Rows.uptoBulk d := by
  obtain ⟨fuel, hf⟩ := ht
  rw [hu] at hf
  obtain ⟨x, h1, ⟨v, h2, h3⟩, h4, h5⟩ := (rx_sl Try.underlying22 (rx_ch W) (k := 3) (by kernel_rfl) (by decide) (nb := 56) (by kernel_rfl)).read hf
  rw [h2] at h1
  obtain rfl : u = v := by simpa using h1
  exact ⟨x.2, h3, fun hw => (h4 hw).2, h5⟩
end Go.Proofs.Ytjdohjoljobinaa.Rdr
