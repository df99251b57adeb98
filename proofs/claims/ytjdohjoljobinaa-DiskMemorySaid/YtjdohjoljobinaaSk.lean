/- The names of a map's keys, sorted: the library's contracts in our words. Conditions: the map is not nil; at most 2^40 keys. -/
import Derived.Test.YtjdohjoljobinaaIterp
import Derived.Test.YtjdohjoljobinaaDxJ
namespace Go.Proofs.Ytjdohjoljobinaa.Dx
open Go Go.RowKit Mem Maps Ops Reps Go.Maps Go.Sort Go.Shelf
set_option linter.unusedVariables false

theorem sorts (m : Nat) : AnyZ.SortsIn Try.prog Try.sorted82_ren Fence.wide m :=
  ⟨fun blk off cap ss W hH hblk hsz => callsIn_wide.2 (AnyM.slices_Sort_string Try.sort102 blk off cap ss W hH hblk hsz),
   fun p cap W => callsIn_wide.2 (AnyM.slices_Sort_string_none Try.sort102 p cap W)⟩
theorem keys_calls (mb : Option Nat) (W : World) : Calls Try.prog 83 #[.map mb] W fun e w' => e = .returned (.func (.func 103) #[] #[.pointer (some ⟨W.heap.size, 0, none⟩)]) ∧ w' = W.alloc (.cells #[.map mb] 89) :=
  callsIn_wide.1 (AnyZ.keys_in Try.keys83 Fence.wide 5 trivial rfl mb W)
/-- the names, sorted -/
def leN (x y : Nm) : Bool := decide (x ≤ y)
def namesF (fs : List XF) : List Nm := (fs.map (·.1)).mergeSort leN
abbrev rdT : Value → Option (DataW Unit × List MemPlace) := fun _ => some (.lit (.bool true), [])
theorem ins_perm (x : Lit × DataW Unit) : ∀ l : List (Lit × DataW Unit), (DataW.insert x l).Perm (x :: l)
  | [] => .refl _
  | y :: r => by
    unfold DataW.insert
    split
    · exact .refl _
    · exact ((ins_perm x r).cons y).trans (.swap x y r)
theorem sort_perm : ∀ l : List (Lit × DataW Unit), (l.foldr DataW.insert []).Perm l
  | [] => .refl _
  | x :: r => (ins_perm x _).trans ((sort_perm r).cons x)
theorem keys_eq {D : Nat → Prop} {w : World} : ∀ {es : List MapEntry} {fs : List XF}, Files D w (es.map fun e => (e.key, e.val)) fs → (es.map fun e => strOf (WideElems.rg Try.prog 9 rdT e).1) = fs.map (·.1)
  | [], [], _ => rfl
  | e :: es, x :: fs, h => by
    cases h with
    | cons h1 h2 =>
      obtain ⟨e1, e2, _⟩ := h1
      have e1 : e.key = nmV x.1 := e1
      obtain ⟨kl, hk⟩ := key_str x.1 e2
      obtain ⟨y, hy1, hy2, _⟩ := Maps.keyOf_str Try.underlying9 hk
      have hy : x.1 = y := nmV_inj hy1
      have hr : WideElems.rg Try.prog 9 rdT e = (kl, .lit (.bool true)) := by simp [WideElems.rg, WideElems.rd, e1, hk]
      have ih := keys_eq h2
      rw [List.map_cons, List.map_cons, ih, hr, hy2, hy]
      rfl
set_option maxRecDepth 100000 in
theorem owns_of {w : World} {b : Nat} {l : List (Value × Value)} {fs : List XF} {D : Nat → Prop} (m : MapIs Try.prog 9 w b l) (f : Files D w l fs) (hn : fs.length ≤ 1099511627776) :
    ∃ D0 : DataW Unit, w.ownsMap Try.prog 9 rdT b l.length D0 ∧ Maps.size D0 = fs.length ∧ (strKeys D0).Perm (fs.map (·.1)) := by
  obtain ⟨es, clock, h1, h2, h3, h4⟩ := m
  have hlen : es.size = l.length := by rw [← h2]; simp
  have hlf : l.length = fs.length := f.length
  have hread : ∀ x ∈ es.toList, ∃ y, WideElems.rd Try.prog 9 rdT x = some y := by
    intro x hx
    obtain ⟨kl, hk⟩ := h4 (x.key, x.val) (by rw [← h2]; exact List.mem_map.2 ⟨x, hx, rfl⟩)
    exact ⟨(kl, .lit (.bool true)), by simp [WideElems.rd, hk]⟩
  have hper := (sort_perm (es.toList.map (WideElems.rg Try.prog 9 rdT)))
  refine ⟨.map ((es.toList.map (WideElems.rg Try.prog 9 rdT)).foldr DataW.insert []), ⟨es, clock, h1, ⟨by unfold maxLen; omega, h3, hread⟩, by omega, rfl⟩, ?_, ?_⟩
  · have h7 := hper.length_eq
    simp only [List.length_map] at h7
    have h9 : es.toList.length = es.size := by simp
    have h8 : ∀ es : List (Lit × DataW Unit), Maps.size (.map es) = es.length := fun _ => rfl
    rw [h8]; omega
  · have h5 := hper.map (fun p => strOf p.1)
    rw [List.map_map] at h5
    have h6 := keys_eq (es := es.toList) (fs := fs) (D := D) (w := w) (by rw [h2]; exact f)
    rw [← h6]
    exact h5
set_option maxHeartbeats 1000000 in
/-- the sorted keys of a map, as a new slice of strings -/
theorem sorted_calls {w : World} {b : Nat} {l : List (Value × Value)} {fs : List XF} {D : Nat → Prop} (m : MapIs Try.prog 9 w b l) (f : Files D w l fs) (hn : fs.length ≤ 1099511627776) :
    Calls Try.prog 82 #[.func (.func 103) #[] #[.pointer (some ⟨w.heap.size, 0, none⟩)]] (w.alloc (.cells #[.map (some b)] 89)) fun e w' =>
      ∃ v, e = .returned v ∧ w'.ownsRow w.heap.size 9 1 v (namesF fs).length ((namesF fs).map nmV) ∧ Below w.heap.size w w' := by
  obtain ⟨D0, hown, h1, h2⟩ := owns_of m f hn
  have hbl := hown.lt
  have hseq : SeqGives Fence.wide 2 Try.prog 103 #[.pointer (some ⟨w.heap.size, 0, none⟩)] encStr (fun ss => ss.Perm (strKeys D0)) (Maps.size D0) (w.alloc (.cells #[.map (some b)] 89)) :=
    AnyZ.keys_gives (ρ := Try.keys83_ren) { Try.keys83 with } Fence.wide _ trivial rfl (by omega) w.heap.size b l.length D0 _ (by simp) (by simp) (by
      obtain ⟨es, clock, hb, Ft, hs, hD⟩ := hown
      exact ⟨es, clock, (Below.heap_alloc _ _ b hbl).trans hb, Ft, hs, hD⟩)
  refine (callsIn_wide.1 (AnyZ.sorted_in Try.sorted82 Fence.wide 5 trivial trivial trivial trivial rfl (by omega) (sorts _) (enters_of Try.func102 (by kernel_rfl) rfl) 103 #[.pointer (some ⟨w.heap.size, 0, none⟩)] trivial (enters_of Try.func103 (by kernel_rfl) rfl) _ _ (by unfold maxLen; omega) (by omega) _ hseq)).mono ?_
  rintro e w' ⟨v, ss, rfl, hS, hrow, hnil, hb⟩
  have hmm := mergeSort_of_perm (hS.trans h2)
  refine ⟨v, rfl, ?_, ((Below.refl _ w).alloc (Nat.le_refl _) _).trans (hb.mono (by simp))⟩
  have hlen : (namesF fs).length = ss.length := by unfold namesF; rw [List.length_mergeSort, ← h2.length_eq, ← hS.length_eq]
  rw [hlen]
  have e1 : ss.mergeSort (fun x y => decide (x ≤ y)) = namesF fs := hmm
  rw [e1] at hrow
  exact ownsRow_base_a hrow (by simp)
end Go.Proofs.Ytjdohjoljobinaa.Dx
