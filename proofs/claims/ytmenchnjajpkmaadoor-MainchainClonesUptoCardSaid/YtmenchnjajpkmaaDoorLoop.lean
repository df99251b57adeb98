/- A loop over a great frame: the slots that are forgotten are one function, not a letter each. Program-independent; no condition. -/
import Derived.WalkKit
namespace Go.Proofs.YtmenchnjajpkmaaDoor.Mem
open Go
theorem wp_loop_fr {P : Program} {c : Code} {Q : Exit → Act → World → Prop} (F : (Nat → Value) → Act) (R : Act → World → Prop) (μ : Act → Nat) {a : Act} {w : World} (ha : a = F (fun j => a.tmps.getD j undef)) (h0 : R a w)
    (round : ∀ u w, R (F u) w → c.wp P (Exit.then (fun a' w' => (R a' w' ∧ μ a' < μ (F u)) ∧ a' = F (fun j => a'.tmps.getD j undef)) Q) (F u) w) : (Code.loop c).wp P Q a w := by
  refine wp_loop (fun a w => R a w ∧ a = F (fun j => a.tmps.getD j undef)) (fun a _ => μ a) ⟨h0, ha⟩ ?_
  rintro a w ⟨hR, hF⟩
  have := round (fun j => a.tmps.getD j undef) w (by rw [← hF]; exact hR)
  rw [← hF] at this
  have e : (fun a' w' => (R a' w' ∧ a' = F (fun j => a'.tmps.getD j undef)) ∧ μ a' < μ a) = (fun a' w' => (R a' w' ∧ μ a' < μ a) ∧ a' = F (fun j => a'.tmps.getD j undef)) := by
    funext a' w'
    exact propext ⟨fun h => ⟨⟨h.1.1, h.2⟩, h.1.2⟩, fun h => ⟨⟨h.1.1, h.2⟩, h.1.2⟩⟩
  rw [e]
  exact this
end Go.Proofs.YtmenchnjajpkmaaDoor.Mem
