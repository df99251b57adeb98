/- CodecPuts: a list is written as how many things it has, and each of them. Condition: the texts together are of at most 2^40 bytes. -/
import Derived.Test.YtodhhejliijdmabCodecN
namespace Go.Proofs.Ytodhhejliijdmab.codecPuts
open Go Go.RowKit Mem Codec CodecW CodecL CodecN
set_option linter.unusedVariables false

def texts (ls : List (List UInt8)) : List UInt8 := (ls.map text).flatten
theorem texts_le (ls : List (List UInt8)) : (texts ls).length ≤ (ls.map (fun b => b.length + 9)).sum := by
  unfold texts
  induction ls with
  | nil => simp
  | cons b r ih =>
    have := vlen_le b.length
    have h2 : (text b).length = vlen b.length + b.length := by unfold text; rw [List.length_append, var_length]
    simp only [List.map_cons, List.flatten_cons, List.length_append, List.sum_cons]
    omega
theorem texts_succ (ls : List (List UInt8)) (n : Nat) (h : n < ls.length) : texts (ls.take (n + 1)) = texts (ls.take n) ++ text ls[n] := by
  unfold texts
  rw [List.take_add_one, List.getElem?_eq_getElem h, List.map_append, List.flatten_append]
  simp
theorem sum_take (ls : List (List UInt8)) (f : List UInt8 → Nat) (n : Nat) : ((ls.take n).map f).sum ≤ (ls.map f).sum := by
  conv => rhs; rw [← List.take_append_drop n ls, List.map_append, List.sum_append]
  omega
theorem sum_at (ls : List (List UInt8)) (f : List UInt8 → Nat) (n : Nat) (h : n < ls.length) : ((ls.take n).map f).sum + f ls[n] ≤ (ls.map f).sum := by
  conv => rhs; rw [← List.take_append_drop n ls, List.map_append, List.sum_append, List.drop_eq_getElem_cons h, List.map_cons, List.sum_cons]
  omega

set_option maxHeartbeats 4000000 in
set_option maxRecDepth 100000 in
theorem ltext_calls (S D : Nat → Prop) (w : World) (q : Nat) (m : List UInt8) (v : Value) (b : List UInt8) (H : WriterIs S w q m) (hB : Byt D w v b) (hS : ∀ k, k < w.heap.size → D k → ¬ S k) (hlen : m.length + 9 + b.length ≤ 140737488355328) :
    Calls Try.prog 27 #[.pointer (some ⟨q, 0, none⟩), v] w fun e w' => e = .returned (.tuple #[]) ∧ WriterIs (Plus S w w') w' q (m ++ text b) ∧ Fr S w w' := by
  obtain ⟨va, vc, rfl, _⟩ := id hB
  go_enter Try.func27, Try.ntmps27
  go_wp2_with fail
  refine (text_calls S D w q m _ b H hB hS hlen).mono ?_
  rintro e w2 ⟨rfl, g1, g2⟩
  have G1 := Lib.hid g1
  have G2 := Lib.hid g2
  clear g1 g2 H hB hS
  go_wp2
  go_end0
  exact ⟨rfl, G1.out, G2.out⟩
set_option maxHeartbeats 4000000 in
set_option maxRecDepth 100000 in
theorem put_calls (w0 w : World) (S : Nat → Prop) (q : Nat) (va : Value) (ls : List (List UInt8)) (hA : Byts w0 va ls) (hb : Below w0.heap.size w0 w) (H : WriterIs S w q []) (hS : ∀ k, S k → w0.heap.size ≤ k) (hsum : (ls.map (fun b => b.length + 9)).sum ≤ 1099511627776) (hn : ls.length ≤ 1099511627776) :
    Calls Try.prog 26 #[.pointer (some ⟨q, 0, none⟩), va, .func (.func 27) #[] #[]] w fun e w' => e = .returned (.tuple #[]) ∧ WriterIs (Plus S w w') w' q (var ls.length ++ texts ls) ∧ Fr S w w' := by
  obtain ⟨a1, a2, rfl, hka, _⟩ := id hA
  have HA := Lib.hid hA
  have HB := Lib.hid hb
  have HS := Lib.hid hS
  have HSUM := Lib.hid hsum
  have H0 := Lib.hid H
  clear hA hb hS hsum H
  have hvl : (var ls.length).length ≤ 9 := by rw [var_length]; exact vlen_le _
  go_enter Try.func26, Try.ntmps26
  go_wp2_with fail
  refine (CodecW.var_calls S w q [] ls.length (by omega) H0.out (by simp)).mono ?_
  rintro e w1 ⟨rfl, g1, g2⟩
  rw [List.nil_append] at g1
  have HW := Lib.hid g1
  have HF := Lib.hid g2
  clear g1 g2 H0
  go_wp2
  go_loopw [15] (fun i wx => ∃ (n : Nat) (m : List UInt8), n ≤ ls.length ∧ i = .int .i64 n ∧ m = var ls.length ++ texts (ls.take n) ∧ WriterIs (Plus S w wx) wx q m ∧ Fr S w wx) (fun i _ => ls.length - (intOf i).toNat)
  case atStart => exact ⟨0, var ls.length, by omega, rfl, by simp [texts], HW.out, HF.out⟩
  case round =>
    obtain ⟨n, m, hn1, rfl, hm, hW, hF⟩ := hrel
    have HM := Lib.hid hm
    have HW2 := Lib.hid hW
    have HF2 := Lib.hid hF
    have hsz := hF.size
    clear hm hW hF
    by_cases hlt : n < ls.length
    · obtain ⟨pb, po, pc, pe, rfl, hc3, hpB⟩ := HA.out.cell n hlt
      have HBW := Lib.hid (HB.out.trans (HF2.out.below HB.out.size (fun k h => HS.out k h)))
      have hc : wr.cell? ⟨pb, po + n, none⟩ = some (.slice pc (ls[n]).length pe) := by
        rw [World.cell?_of_block (w := w0) (HBW.out.block pb (World.block_lt_of_cell? w0 _ hc3))]; exact hc3
      have HPB := Lib.hid (hpB.under HBW.out (Nat.le_refl _))
      have hX : var ls.length ++ texts (ls.take (n + 1)) = m ++ text ls[n] := by rw [HM.out, texts_succ ls n hlt, List.append_assoc]
      have hml : m.length + 9 + (ls[n]).length ≤ 1099511627776 + 9 := by
        rw [HM.out, List.length_append]
        have h1 := texts_le (ls.take n)
        have h2 := sum_at ls (fun b => b.length + 9) n hlt
        have := HSUM.out
        omega
      have HX := Lib.hid hX
      clear hX HM hc3 hpB
      generalize ls[n] = p at *
      have hdis : ∀ k, k < wr.heap.size → k < w0.heap.size → ¬ Plus S w wr k := fun k _ h1 h2 => by
        rcases h2 with h2 | h2
        · have := HS.out k h2; omega
        · have := HB.out.size; omega
      go_wp2_with fail
      refine (ltext_calls _ (fun k => k < w0.heap.size) wr q m _ p HW2.out HPB.out hdis (by omega)).mono ?_
      rintro e w7 ⟨rfl, g1, g2⟩
      have HW7 := Lib.hid (Plus.two g1 hsz g2.size)
      have HF7 := Lib.hid (Fr.two HF2.out g2)
      clear g1 g2 HW2 HF2 hc hdis HPB HBW
      go_wp2
      go_roundw
      case rel => exact ⟨n + 1, m ++ text p, by omega, by go_num, HX.out.symm, HW7.out, HF7.out⟩
      case measure => simp [intOf]; omega
    · obtain rfl : n = ls.length := by omega
      have hmm : var ls.length ++ texts ls = m := by rw [HM.out, List.take_length]
      have HMM := Lib.hid hmm
      clear hmm HM
      go_wp2
      go_end0
      exact ⟨rfl, by rw [HMM.out]; exact HW2.out, HF2.out⟩

set_option maxHeartbeats 4000000 in
set_option maxRecDepth 100000 in
theorem walk0 (w : World) (va : Value) (ls : List (List UInt8)) (hA : Byts w va ls) (hsum : (ls.map (fun b => b.length + 9)).sum ≤ 1099511627776) (hn : ls.length ≤ 1099511627776) :
    Calls Try.prog 7 #[va] w fun e w' => e = .returned (.bool true) ∧ Below w.heap.size w w' := by
  obtain ⟨a1, a2, rfl, hka, _⟩ := id hA
  have HA := Lib.hid hA
  have HSUM := Lib.hid hsum
  have hvl : (var ls.length).length ≤ 9 := by rw [var_length]; exact vlen_le _
  have htl : (texts ls).length ≤ 1099511627776 := Nat.le_trans (texts_le ls) hsum
  clear hA hsum
  go_enter Try.func7, Try.ntmps7
  go_wp2_with fail
  refine (CodecW.new_calls w).mono ?_
  rintro e w1 ⟨q, rfl, hq, hW, hb⟩
  have HB := Lib.hid hb
  have HW := Lib.hid hW
  have hs1 := hb.size
  clear hW hb
  go_wp2_with fail
  refine (alive_calls w1).mono ?_
  rintro e w2 ⟨rfl, g2⟩
  have hs2 := g2.size
  have hql := HW.out.lt
  have HW := Lib.hid (HW.out.below g2)
  have HB := Lib.hid (HB.out.trans (g2.mono (by omega)))
  clear g2
  go_wp2_with fail
  refine (put_calls w w2 _ q _ ls HA.out HB.out HW.out (fun k h => by omega) HSUM.out hn).mono ?_
  rintro e w3 ⟨rfl, g1, g2⟩
  have hs3 := g2.size
  have HW := Lib.hid (show WriterIs (Rg w.heap.size w3.heap.size) w3 q (var ls.length ++ texts ls) from g1.mono (fun k hk h => ⟨by rcases h with h | h <;> omega, hk⟩))
  have HB := Lib.hid (HB.out.trans (g2.below (by omega) (fun k h => by omega)))
  clear g1 g2
  go_wp2_with fail
  refine (ref_var_calls w3 ls.length (by omega)).mono ?_
  rintro e w4 ⟨v4, rfl, g1, g2⟩
  obtain ⟨x4, y4, rfl, _⟩ := id g1.byt
  have hs4 := g2.size
  have Hb0 := Lib.hid g2
  have HO := Lib.hid g1
  have HW := Lib.hid (HW.out.below g2)
  have HB := Lib.hid (HB.out.trans (g2.mono (by omega)))
  clear g1 g2
  go_wp2
  go_loopw [4, 23] (fun v i wx => ∃ (n : Nat) (m : List UInt8), n ≤ ls.length ∧ i = .int .i64 n ∧ m = var ls.length ++ texts (ls.take n) ∧ OwnB w3.heap.size 5 wx v m ∧ Below w3.heap.size w3 wx ∧ WriterIs (Rg w.heap.size w3.heap.size) wx q (var ls.length ++ texts ls) ∧ Below w.heap.size w wx) (fun _ i _ => ls.length - (intOf i).toNat)
  case atStart => exact ⟨0, var ls.length, by omega, rfl, by simp [texts], HO.out, Hb0.out, HW.out, HB.out⟩
  case round =>
    obtain ⟨n, m, hn1, rfl, hm, hO, hb, hW, hB⟩ := hrel
    obtain ⟨xa, xc, rfl, hxk, _⟩ := id hO.byt
    have HM := Lib.hid hm
    have HO2 := Lib.hid hO
    have Hb := Lib.hid hb
    have HW2 := Lib.hid hW
    have HB2 := Lib.hid hB
    have hsz := hb.size
    clear hm hO hb hW hB
    by_cases hlt : n < ls.length
    · obtain ⟨pb, po, pc, pe, rfl, hc3, hpB⟩ := HA.out.cell n hlt
      have hc : wr.cell? ⟨pb, po + n, none⟩ = some (.slice pc (ls[n]).length pe) := by
        rw [World.cell?_of_block (w := w) (HB2.out.block pb (World.block_lt_of_cell? w _ hc3))]; exact hc3
      have HPB := Lib.hid (hpB.below HB2.out)
      have hX : var ls.length ++ texts (ls.take (n + 1)) = m ++ text ls[n] := by rw [HM.out, texts_succ ls n hlt, List.append_assoc]
      have hml : m.length + 9 + (ls[n]).length ≤ 1099511627776 + 9 := by
        rw [HM.out, List.length_append]
        have h1 := texts_le (ls.take n)
        have h2 := sum_at ls (fun b => b.length + 9) n hlt
        have := HSUM.out
        omega
      have hpl : (text ls[n]).length ≤ 9 + (ls[n]).length := by
        have := vlen_le (ls[n]).length
        unfold text; rw [List.length_append, var_length]; omega
      have HX := Lib.hid hX
      clear hX HM hc3 hpB
      generalize ls[n] = p at *
      go_wp2_with fail
      refine (ref_text_calls wr _ _ p HPB.out (by omega)).mono ?_
      rintro e w7 ⟨v7, rfl, g1, g2⟩
      have hs7 := g2.size
      have HY := Lib.hid g1.byt.any
      have HO7 := Lib.hid (HO2.out.below g2)
      have Hb7 := Lib.hid (Hb.out.trans (g2.mono hsz))
      have HW7 := Lib.hid (HW2.out.below g2)
      have HB7 := Lib.hid (HB2.out.trans (g2.mono (by omega)))
      clear g1 g2 HO2 Hb HW2 HB2 hc HPB
      go_wp2_with (at_builtin; refine wpList_append_byt _ rfl (.tmp 27) (.tmp 29) 22 rfl w3.heap.size 5 elemB _ m rfl HO7.out _ (text p) rfl HY.out (by omega) (by omega) ?_)
      intro va2 vc2 w9 o1 o2 o3
      have HO9 := Lib.hid o1
      have Hb9 := Lib.hid (Hb7.out.grown o2 (by omega) (fun k hk => (HO7.out.lt k hk).1))
      have HW9 := Lib.hid (HW7.out.fr (Fr.ofGrown o2) (fun k _ h1 h2 => by have := h1.2; have := (HO7.out.lt k h2).1; omega))
      have HB9 := Lib.hid (HB7.out.grown o2 (by omega) (fun k hk => by have := (HO7.out.lt k hk).1; omega))
      clear o1 o2 o3 HO7 Hb7 HW7 HB7
      have hlx : (m ++ text p).length = m.length + (text p).length := List.length_append
      go_wp2
      go_roundw
      case rel => exact ⟨n + 1, m ++ text p, by omega, by go_num, HX.out.symm, HO9.out, Hb9.out, HW9.out, HB9.out⟩
      case measure => simp [intOf]; omega
    · obtain rfl : n = ls.length := by omega
      have hmm : m = var ls.length ++ texts ls := by rw [HM.out, List.take_length]
      have hlm : (var ls.length ++ texts ls).length ≤ 140737488355328 := by rw [List.length_append]; omega
      clear HM
      rw [← hmm] at hlm HW2
      clear hmm
      go_wp2_with fail
      refine (CodecR.bytes_calls _ wr q m HW2.out hlm).mono ?_
      rintro e w5 ⟨za, zc, rfl, g1, g2⟩
      have HO5 := Lib.hid g1
      have HV5 := Lib.hid (HO2.out.below g2)
      have HB5 := Lib.hid (HB2.out.trans (g2.mono (by omega)))
      clear g1 g2 HW2 HO2 HB2
      go_wp2_with fail
      refine (same_calls _ _ w5 _ _ m m HO5.out.byt HV5.out.byt).mono ?_
      rintro e wz ⟨rfl, rfl⟩
      rw [beq_self_eq_true]
      go_wp2
      go_ret
      exact ⟨rfl, HB5.out⟩
theorem nine (ls : List (List UInt8)) : (ls.map (fun b => b.length + 9)).sum = (ls.map List.length).sum + 9 * ls.length := by
  induction ls with
  | nil => simp
  | cons t r ih => simp only [List.map_cons, List.sum_cons, List.length_cons]; omega
theorem walk (w : World) (va : Value) (ls : List (List UInt8)) (hA : Byts w va ls) (hsum : (ls.map List.length).sum + 1 ≤ 1048576) (hn : ls.length + 1 ≤ 1048576) :
    Calls Try.prog 7 #[va] w fun e w' => e = .returned (.bool true) ∧ Below w.heap.size w w' :=
  walk0 w va ls hA (by rw [nine]; omega) (by omega)
end Go.Proofs.Ytodhhejliijdmab.codecPuts
