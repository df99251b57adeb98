/- What the second form's bulk says of arguments that are slices of bytes. No condition. -/
import Derived.Test.YtjdohjoljobinaaRows
namespace Go.Proofs.Ytjdohjoljobinaa.Bulk
open Go
variable {H : Type}
theorem one (d : DataW H) : 1 ≤ Rows.uptoBulk d := by
  cases d with
  | lit x => cases x <;> simp [Rows.uptoBulk]
  | _ => simp [Rows.uptoBulk]
theorem all : ∀ (l : List (DataW H)), l.length ≤ Rows.uptoBulkAll l
  | [] => by simp [Rows.uptoBulkAll]
  | d :: r => by
    have h1 := one d
    have h2 := all r
    simp only [Rows.uptoBulkAll, List.length_cons]
    omega
theorem bytes {d : DataW H} {l : List UInt8} (h : (d = .nil ∧ l = []) ∨ ∃ el sp, d = .slice el sp ∧ el.length = l.length) : l.length ≤ Rows.uptoBulk d := by
  rcases h with ⟨rfl, rfl⟩ | ⟨el, sp, rfl, hl⟩
  · simp
  · have := all el
    simp only [Rows.uptoBulk]
    omega
theorem three {d0 d1 d2 : DataW H} {gs : List (DataW H)} (h : Rows.uptoSmall H ([d0, d1, d2] ++ gs) = true) : Rows.uptoBulk d0 + Rows.uptoBulk d1 + Rows.uptoBulk d2 ≤ 1048576 := by
  have h := of_decide_eq_true h
  simp only [List.cons_append, List.nil_append, Rows.uptoBulkAll] at h
  omega
theorem two {d0 d1 : DataW H} {gs : List (DataW H)} (h : Rows.uptoSmall H ([d0, d1] ++ gs) = true) : Rows.uptoBulk d0 + Rows.uptoBulk d1 ≤ 1048576 := by
  have h := of_decide_eq_true h
  simp only [List.cons_append, List.nil_append, Rows.uptoBulkAll] at h
  omega
theorem single {d0 : DataW H} {gs : List (DataW H)} (h : Rows.uptoSmall H ([d0] ++ gs) = true) : Rows.uptoBulk d0 ≤ 1048576 := by
  have h := of_decide_eq_true h
  simp only [List.cons_append, List.nil_append, Rows.uptoBulkAll] at h
  omega
end Go.Proofs.Ytjdohjoljobinaa.Bulk
