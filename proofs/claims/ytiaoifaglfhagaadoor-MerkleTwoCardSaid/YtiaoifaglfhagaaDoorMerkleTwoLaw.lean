/- The walk of the law MerkleTwo. Condition: each list has less than 2^42 digests; the tables are laid. -/
import Derived.Test.YtiaoifaglfhagaaDoorMkQ
import Derived.Test.YtiaoifaglfhagaaDoorShaLaid
import Derived.Test.YtiaoifaglfhagaaDoorCards
namespace Go.Proofs.YtiaoifaglfhagaaDoor.merkleTwo
open Go Go.RowKit Mem Sha ShaW Mk Arr Row MkW
set_option linter.unusedVariables false

set_option maxHeartbeats 8000000 in
set_option maxRecDepth 100000 in
theorem walk0 (w : World) (va : Value) (as' : List Dg) (hA : Arr 32 Any w va (dcs as')) (hD : ∀ d ∈ as', d.length = 32) (vb : Value) (bs : List Dg) (hB : Arr 32 Any w vb (dcs bs)) (hE : ∀ d ∈ bs, d.length = 32) (hn : as'.length ≤ 4398046510976) (hm : bs.length ≤ 4398046510976)
    (hT : TabB w 1) (hR : TabB w 0) :
    Calls Tryd.prog 6 #[va, vb] w fun e w' => e = .returned (.bool true) ∧ Below w.heap.size w w' := by
  obtain ⟨a, c, rfl, hk1, hk2, hk3⟩ := hA.form
  obtain ⟨a2, c2, rfl, hj1, hj2, hj3⟩ := hB.form
  simp only [List.length_map] at hA hk1 hB hj1 ⊢
  have HA := Lib.hid (hA.mono (E := fun b => b < w.heap.size) (by omega) (fun b h _ => h))
  have HB := Lib.hid (hB.mono (E := fun b => b < w.heap.size) (by omega) (fun b h _ => h))
  have HD := Lib.hid hD
  have HE := Lib.hid hE
  have HT := Lib.hid hT
  have HR := Lib.hid hR
  have HTL := Lib.hid (show 1 < w.heap.size from (Array.getElem?_eq_some_iff.1 hT.choose_spec.choose_spec).1)
  have HRL := Lib.hid (show 0 < w.heap.size from (Array.getElem?_eq_some_iff.1 hR.choose_spec.choose_spec).1)
  clear hA hD hB hE hT hR
  go_enter Tryd.func6, Tryd.ntmps6
  by_cases h0 : as'.length = 0
  · have h0I : ((as'.length : Int) == 0) = true := by simp; exact List.length_eq_zero_iff.1 h0
    go_wp2_with fail
    refine (alive_calls _ HT.out HR.out).mono ?_
    rintro e w2 ⟨rfl, g⟩
    go_wp2
    go_ret
    exact ⟨rfl, g⟩
  have h0I : ((as'.length : Int) == 0) = false := by simp; intro h; exact h0 (by rw [h]; rfl)
  by_cases h1 : bs.length = 0
  · have h1I : ((bs.length : Int) == 0) = true := by simp; exact List.length_eq_zero_iff.1 h1
    go_wp2_with fail
    refine (alive_calls _ HT.out HR.out).mono ?_
    rintro e w2 ⟨rfl, g⟩
    go_wp2
    go_ret
    exact ⟨rfl, g⟩
  have h1I : ((bs.length : Int) == 0) = false := by simp; intro h; exact h1 (by rw [h]; rfl)
  have hsub : IntKind.i64.wrap ((as'.length : Int) - 1) = (as'.length : Int) - 1 := IntWalk.i64_in _ (by omega)
  have hand := and_pred as'.length (by omega) (by omega)
  by_cases h2 : as'.length &&& (as'.length - 1) = 0
  rotate_left
  · have h2I : ((((as'.length &&& (as'.length - 1) : Nat) : Int) != 0)) = true := by simp; exact h2
    go_wp2_with fail
    refine (alive_calls _ HT.out HR.out).mono ?_
    rintro e w2 ⟨rfl, g⟩
    go_wp2
    go_ret
    exact ⟨rfl, g⟩
  have h2I : ((((as'.length &&& (as'.length - 1) : Nat) : Int) != 0)) = false := by simp; exact h2
  by_cases h3 : as'.length < bs.length
  · have h3I : (as'.length : Int) < (bs.length : Int) := by omega
    go_wp2_with fail
    refine (alive_calls _ HT.out HR.out).mono ?_
    rintro e w2 ⟨rfl, g⟩
    go_wp2
    go_ret
    exact ⟨rfl, g⟩
  have h3I : ¬ (as'.length : Int) < (bs.length : Int) := by omega
  obtain ⟨k, hk⟩ := pow_of_and _ (by omega) h2
  have hk41 : as'.length ≤ 2199023255552 := by
    rcases Nat.lt_or_ge 41 k with h | h
    · have := Nat.pow_le_pow_right (n := 2) (by omega) (show 42 ≤ k from h)
      omega
    · have := Nat.pow_le_pow_right (n := 2) (by omega) h
      omega
  have HJ := Lib.hid (root_join as' bs k hk (by omega) (by omega) (by omega))
  have H1 := Lib.hid (dcs_one (ds := as'))
  have H2 := Lib.hid (dcs_one (ds := bs))
  have HO := Lib.hid (OwnA.nil 32 w.heap.size 25 w)
  clear hk
  go_wp2_with (at_builtin; refine wpList_append_arr _ rfl (.tmp 30) (.tmp 31) 22 rfl w.heap.size 25 elemD _ [] rfl HO.out _ (dcs as') rfl HA.out H1.out (by simp; unfold maxLen; omega) (by simp; omega) (Nat.le_refl _) as'.length (by simp) ?_)
  intro a5 c5 w5 q1 q2 q3
  have hf5 := Fr.ofGrown q2
  have A5 := Lib.hid (HA.out.fr (by omega) hf5 (fun b _ _ h => by cases h))
  have Y5 := Lib.hid (HB.out.fr (by omega) hf5 (fun b _ _ h => by cases h))
  have B5 := Lib.hid (hf5.below (B := w.heap.size) (Nat.le_refl _) (fun b h => by cases h))
  have T5 := Lib.hid (HT.out.fr hf5 (fun h => by cases h))
  have R5 := Lib.hid (HR.out.fr hf5 (fun h => by cases h))
  have O5 := Lib.hid (show OwnA 32 w.heap.size 25 w5 (.slice a5 as'.length c5) (dcs as') from q1)
  have hs5 := hf5.size
  clear q1 q2 q3 hf5
  go_wp2_with (at_builtin; refine wpList_append_arr _ rfl (.tmp 33) (.tmp 34) 22 rfl w.heap.size 25 elemD _ (dcs as') rfl O5.out _ (dcs bs) rfl Y5.out H2.out (by simp; unfold maxLen; omega) (by simp; omega) hs5 (as'.length + bs.length) (by simp) ?_)
  intro a6 c6 w6 q1 q2 q3
  have hlo := O5.out.lt
  have hf6 := Fr.ofGrown q2
  have A6 := Lib.hid (A5.out.fr (by omega) hf6 (fun b _ h1 h => by have := hlo _ h; omega)).any
  have Y6 := Lib.hid (Y5.out.fr (by omega) hf6 (fun b _ h1 h => by have := hlo _ h; omega)).any
  have B6 := Lib.hid (B5.out.trans (hf6.below (B := w.heap.size) hs5 (fun b h => (hlo _ h).1)))
  have T6 := Lib.hid (T5.out.fr hf6 (fun h => by have := hlo _ h; have := HTL.out; omega))
  have R6 := Lib.hid (R5.out.fr hf6 (fun h => by have := hlo _ h; have := HRL.out; omega))
  have Z6 := Lib.hid (show Arr 32 Any w6 (.slice a6 (as'.length + bs.length) c6) (dcs (as' ++ bs)) by rw [show dcs (as' ++ bs) = dcs as' ++ dcs bs by simp [dcs]]; exact q1.arr.any)
  clear q1 q2 q3 hf6 hlo
  go_wp2_with fail
  refine (alive_calls w6 T6.out R6.out).mono ?_
  rintro e w7 ⟨rfl, g⟩
  have A7 := Lib.hid (A6.out.below (by omega) g)
  have Y7 := Lib.hid (Y6.out.below (by omega) g)
  have Z7 := Lib.hid (Z6.out.below (by omega) g)
  have B7 := Lib.hid (B6.out.trans (g.mono B6.out.size))
  have T7 := Lib.hid (T6.out.below g)
  clear g
  go_wp2_with fail
  refine (root_calls _ w7 _ (as' ++ bs) rfl Z7.out (fun d hd => by rcases List.mem_append.1 hd with hd | hd; exact HD.out _ hd; exact HE.out _ hd) T7.out (by simp; omega)).mono ?_
  rintro e w8 ⟨rfl, g⟩
  have A8 := Lib.hid (A7.out.below (by omega) g)
  have Y8 := Lib.hid (Y7.out.below (by omega) g)
  have B8 := Lib.hid (B7.out.trans (g.mono B7.out.size))
  have T8 := Lib.hid (T7.out.below g)
  clear g
  rw [HJ.out]
  obtain ⟨ra, hra⟩ : ∃ x, root as' = x := ⟨_, rfl⟩
  obtain ⟨rb, hrb⟩ : ∃ x, root bs = x := ⟨_, rfl⟩
  have HRA := Lib.hid hra
  have HRB := Lib.hid hrb
  have HLA := Lib.hid (show ra.length = 32 by rw [← hra]; exact root_length _ _ rfl HD.out)
  have HLB := Lib.hid (show rb.length = 32 by rw [← hrb]; exact root_length _ _ rfl HE.out)
  rw [hra, hrb]
  obtain ⟨m, hm'⟩ : ∃ x, nodeD ra rb = x := ⟨_, rfl⟩
  have HM := Lib.hid hm'
  have HML := Lib.hid (show m.length = 32 by rw [← hm']; exact nodeD_length _ _)
  rw [hm']
  clear hra hrb hm'
  go_wp2_with fail
  refine (root_calls _ w8 _ as' rfl A8.out HD.out T8.out (by omega)).mono ?_
  rintro e w9 ⟨rfl, g⟩
  have Y9 := Lib.hid (Y8.out.below (by omega) g)
  have B9 := Lib.hid (B8.out.trans (g.mono B8.out.size))
  have T9 := Lib.hid (T8.out.below g)
  clear g
  rw [HRA.out]
  go_wp2_with fail
  refine (root_calls _ w9 _ bs rfl Y9.out HE.out T9.out (by omega)).mono ?_
  rintro e w10 ⟨rfl, g⟩
  have B10 := Lib.hid (B9.out.trans (g.mono B9.out.size))
  have T10 := Lib.hid (T9.out.below g)
  clear g
  rw [HRB.out]
  go_wp2_with fail
  refine (node_calls w10 ra rb HLA.out HLB.out T10.out).mono ?_
  rintro e w11 ⟨rfl, g⟩
  have B11 := Lib.hid (B10.out.trans (g.mono B10.out.size))
  clear g
  rw [HM.out]
  have hqm : ∀ w, (Op.equalIn 10000 25 (.agg (m.map byt).toArray) (.agg (m.map byt).toArray)).run Tryd.prog w = .ok true w := fun w => by
    have := run_equal_u8 Tryd.underlying25 (i := _) rfl (by kernel_rfl) Tryd.underlying5 w m m HML.out HML.out
    rwa [beq_self_eq_true] at this
  go_wp2
  go_ret
  exact ⟨rfl, B11.out⟩
theorem walk (w : World) (va : Value) (as' : List Dg) (hA : Arr 32 Any w va (dcs as')) (hD : ∀ d ∈ as', d.length = 32) (vb : Value) (bs : List Dg) (hB : Arr 32 Any w vb (dcs bs)) (hE : ∀ d ∈ bs, d.length = 32) (hn : as'.length ≤ 4398046510976) (hm : bs.length ≤ 4398046510976) (hL : laidMetH Tryd.prog Rows.merkleTwoRow.laid w) :
    Calls Tryd.prog 6 #[va, vb] w fun e w' => e = .returned (.bool true) ∧ Below w.heap.size w w' :=
  walk0 w va as' hA hD vb bs hB hE hn hm (tab_sha hL (by kernel_rfl) (List.Mem.tail _ (List.Mem.head _))) (tab_ref hL (by kernel_rfl) (List.Mem.head _))
end Go.Proofs.YtiaoifaglfhagaaDoor.merkleTwo
