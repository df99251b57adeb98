/- The walk of the store's do at one change that puts a key into a store without pairs. No condition. -/
import Derived.Test.YtjdohjoljobinaaLsA
import Derived.Test.YtjdohjoljobinaaFrB
import Derived.Test.YtjdohjoljobinaaQuiet
import Derived.OrdersHeld
import Derived.Deep.RegionHeld
import Derived.Deep.MidRow
namespace Go.Proofs.Ytjdohjoljobinaa.Ls
open Go Go.RowKit Mem Maps Ops Reps Dk Fra
open Go.Maps (Keyed string_keyed)
set_option linter.unusedVariables false
set_option linter.unusedSimpArgs false

set_option maxHeartbeats 8000000 in
set_option maxRecDepth 100000 in
theorem do1_calls (w : World) (s q b mb size : Nat) (va : Value) (key val : List UInt8) (H0 : StIs w s q b mb LOG [] size) (hqb : q < w.heap.size ∧ b < w.heap.size) (hA : Sl 3 RCh (fun k => k ≠ mb) w va [(key, val, false)]) (hk : key.length ≤ maxLen) (hvl : val.length ≤ 140737488355328) :
    Calls Try.prog 76 #[.pointer (some ⟨s, 0, none⟩), va] w fun e w' => e = .returned (.tuple #[]) ∧ StIs w' s q b mb LOG [(key, val)] size ∧ Fr (fun k => k = mb) w w' := by
  obtain ⟨bb, ob, cap, cs, rfl, hbo, hrx, hmx⟩ := hA.at 0 (by simp)
  have hmx' : RCh (fun k => k ≠ mb) w cs (key, val, false) := hmx
  obtain ⟨k1, k2, v1, v2, rfl, hkb, hvb⟩ := chC hmx'
  dsimp only at hkb hvb hrx
  have H := Lib.hid H0
  have hlt := H0.lt
  obtain ⟨kl, hkl⟩ := key_str key hk
  have HKL := Lib.hid hkl
  have HRX := Lib.hid (show w.rangeAt bb ob [Value.slice k1 key.length k2, .slice v1 val.length v2, .bool false] from by simpa using hrx)
  have HKB := Lib.hid hkb
  have HVB := Lib.hid hvb
  have HSZ := Lib.hid (szC (cs := [Value.slice k1 key.length k2, .slice v1 val.length v2, .bool false]) rfl)
  have HON := Lib.hid (show ∀ v ∈ [Value.slice k1 key.length k2, .slice v1 val.length v2, .bool false], v.oneCell' = true from fun v hv => by
    simp only [List.mem_cons, List.not_mem_nil, or_false] at hv
    rcases hv with rfl | rfl | rfl <;> rfl)
  clear H0 hA hrx hmx hmx' hkb hvb hkl
  go_enter Try.func76, Try.ntmps76
  go_wp2
  go_loopw [8] (fun i wx => (i = .int .i64 0 ∧ wx = w) ∨ (i = .int .i64 1 ∧ StIs wx s q b mb LOG [(key, val)] size ∧ Fr (fun k => k = mb) w wx)) (fun i _ => 1 - (intOf i).toNat)
  case atStart => exact .inl ⟨rfl, rfl⟩
  case round =>
    rcases hrel with ⟨rfl, rfl⟩ | ⟨rfl, hS, hF⟩
    · go_upto_region 5 with (first
        | (with_reducible refine wpList_load_mid rfl _ _ rfl bb ob rfl [Value.slice k1 key.length k2, .slice v1 val.length v2, .bool false] _ HRX.out Try.underlying70 rfl HSZ.out ?_)
        | ((with_reducible refine wpList_alloc rfl _ rfl _ (zeroC _) (fun wa ka ca za => ?_)); have KA := Lib.hid ka; have CA := Lib.hid ca; clear ka ca)
        | ((with_reducible refine wpList_put rfl _ _ _ rfl wr.heap.size [Value.slice k1 key.length k2, .slice v1 val.length v2, .bool false] _ rfl rfl KA.out HSZ.out rfl HON.out (fun wb kb fb zb => ?_)); have KB := Lib.hid kb; have CB := Lib.hid (show Below wr.heap.size wr wb from CA.out.trans (fb.below CA.out.size (fun k hk => by have hk : k = wr.heap.size := hk; omega))); have c2 := kb.cell (i := 2) rfl; clear kb fb))
      have SB := Lib.hid (H.out.below CB.out)
      have hgm : ¬ wr.heap.size = mb := by omega
      have hbw : wr.heap.size ≤ wb.heap.size := CB.out.size
      have KEYB := Lib.hid (show Byt (fun k => k ≠ mb) wb (.slice k1 key.length k2) key from HKB.out.below CB.out)
      have VALB := Lib.hid (show Byt (fun k => k ≠ mb) wb (.slice v1 val.length v2) val from HVB.out.below CB.out)
      have MB := Lib.hid (show MapIs Try.prog 9 wb mb [] from by
        obtain ⟨l, m1, m2⟩ := SB.out.m
        cases m2
        exact m1)
      have HSTR := Lib.hid (show str key = ⟨key.toArray⟩ from rfl)
      have hsm : ¬ mb = s := fun e => SB.out.ne e.symm
      clear KA CA za c2
      refine wp_region_held_drew (S := (fun w' => Fr (fun k => k = mb) wb w')) (by kernel_rfl) (Fr.refl _ _).drew (fun hHeld => ?_)
      refine wpAnyH_take (i := 0) (oi := ⟨_, _, _, _, _, _⟩) (v := ?_) rfl (by kernel_rfl) (by kernel_rfl) (by kernel_rfl) (fun _ _ _ h => h) (Or.inl ⟨by rfl, ?_⟩) (by assumption) ?_
      rotate_left
      · intro w hSw; go_simp; try (with_reducible rfl)
      try simp only [Act.put, List.setIfInBounds_toArray, List.set_cons_zero, List.set_cons_succ]
      refine wpAnyH_take (i := 1) (oi := ⟨_, _, _, _, _, _⟩) (v := ?_) rfl (by kernel_rfl) (by kernel_rfl) (by kernel_rfl) (fun _ _ _ h => h) (Or.inl ⟨by rfl, ?_⟩) (by assumption) ?_
      rotate_left
      · intro w hSw; go_simp; try (with_reducible rfl)
      try simp only [Act.put, List.setIfInBounds_toArray, List.set_cons_zero, List.set_cons_succ]
      refine wpAnyH_take (i := 2) (oi := ⟨_, _, _, _, _, _⟩) (v := ?_) rfl (by kernel_rfl) (by kernel_rfl) (by kernel_rfl) (fun _ _ _ h => h) (Or.inl ⟨by rfl, ?_⟩) (by assumption) ?_
      rotate_left
      · intro w hSw; go_simp; try (with_reducible rfl)
      try simp only [Act.put, List.setIfInBounds_toArray, List.set_cons_zero, List.set_cons_succ]
      refine wpAnyH_take (i := 3) (oi := ⟨_, _, _, _, _, _⟩) (v := .map (some mb)) rfl (by kernel_rfl) (by kernel_rfl) (by kernel_rfl) (fun _ _ _ h => h) (Or.inl ⟨by rfl, fun w hSw => (by have c := (SB.out.k.fr hSw (fun e => SB.out.ne e)).cell (i := 2) rfl; go_simp; try (with_reducible rfl))⟩) (by assumption) ?_
      try simp only [Act.put, List.setIfInBounds_toArray, List.set_cons_zero, List.set_cons_succ]
      refine wpAnyH_take (i := 4) (oi := ⟨_, _, _, _, _, _⟩) (v := ?_) rfl (by kernel_rfl) (by kernel_rfl) (by kernel_rfl) (fun _ _ _ h => h) (Or.inl ⟨by rfl, ?_⟩) (by assumption) ?_
      rotate_left
      · intro w hSw; go_simp; try (with_reducible rfl)
      try simp only [Act.put, List.setIfInBounds_toArray, List.set_cons_zero, List.set_cons_succ]
      refine wpAnyH_take (i := 5) (oi := ⟨_, _, _, _, _, _⟩) (v := .slice k1 key.length k2) rfl (by kernel_rfl) (by kernel_rfl) (by kernel_rfl) (fun _ _ _ h => h) (Or.inl ⟨by rfl, fun w hSw => (by have c := (KB.out.fr hSw (fun e => hgm e)).cell (i := 0) rfl; go_simp; try (with_reducible rfl))⟩) (by assumption) ?_
      try simp only [Act.put, List.setIfInBounds_toArray, List.set_cons_zero, List.set_cons_succ]
      refine wpAnyH_take (i := 6) (oi := ⟨_, _, _, _, _, _⟩) (v := .string ⟨key.toArray⟩) rfl (by kernel_rfl) (by kernel_rfl) (by kernel_rfl) (fun _ _ _ h => h) (Or.inl ⟨by rfl, fun w hSw => (by have c := run_convert_byt (P := Try.prog) (KEYB.out.fr hSw (fun j _ h e => by have e : j = mb := e; omega)) Try.underlying23 Try.underlying5 Try.underlying9; rw [HSTR.out] at c; go_simp; try (with_reducible rfl))⟩) (by assumption) ?_
      try simp only [Act.put, List.setIfInBounds_toArray, List.set_cons_zero, List.set_cons_succ]
      refine wpAnyH_take (i := 7) (oi := ⟨_, _, _, _, _, _⟩) (v := ?_) rfl (by kernel_rfl) (by kernel_rfl) (by kernel_rfl) (fun _ _ _ h => h) (Or.inl ⟨by rfl, ?_⟩) (by assumption) ?_
      rotate_left
      · intro w hSw; go_simp; try (with_reducible rfl)
      try simp only [Act.put, List.setIfInBounds_toArray, List.set_cons_zero, List.set_cons_succ]
      refine wpAnyH_take (i := 8) (oi := ⟨_, _, _, _, _, _⟩) (v := .slice v1 val.length v2) rfl (by kernel_rfl) (by kernel_rfl) (by kernel_rfl) (fun _ _ _ h => h) (Or.inl ⟨by rfl, fun w hSw => (by have c := (KB.out.fr hSw (fun e => hgm e)).cell (i := 1) rfl; go_simp; try (with_reducible rfl))⟩) (by assumption) ?_
      try simp only [Act.put, List.setIfInBounds_toArray, List.set_cons_zero, List.set_cons_succ]
      refine wpAnyH_ready (rs := [9]) (by kernel_rfl) (by simp) ?_
      refine AllReadyH.cons (o := ⟨_, _, _, _, _, _⟩) rfl (fun K hK => ?_) AllReadyH.nil
      go_simp
      refine (CodecR.clone_calls _ _ _ val VALB.out.drew hvl).mono ?_
      rintro e wc ⟨xa, xc, rfl, o1, o2⟩
      have OC := Lib.hid o1
      have BC := Lib.hid ((below_drew (Below.refl wb.heap.size wb)).trans o2)
      clear o1 o2
      refine hK.out _ _ (by exact (Fr.ofBelowAll BC.out (Nat.le_refl _))) (fun hHeld => ?_)
      try simp only [Act.put, List.setIfInBounds_toArray, List.set_cons_zero, List.set_cons_succ]
      clear hK
      refine wpAnyH_ready (rs := [10]) (by kernel_rfl) (by simp) ?_
      refine AllReadyH.cons (o := ⟨_, _, _, _, _, _⟩) rfl (fun K hK => ?_) AllReadyH.nil
      rw [if_pos (by rfl)]
      have M4 := Lib.hid (MB.out.fr (Fr.ofBelow BC.out) (by have := SB.out.lt.2; omega))
      refine wp_set _ _ _ 122 (.inl rfl) 23 keyedS Try.underlying122 rfl M4.out (nmV key) (.slice xa val.length xc) kl rfl rfl HKL.out (.inr ⟨by simp, rfl⟩) (fun wd md fd => ?_)
      have MD := Lib.hid md
      have FD := Lib.hid fd
      clear md fd
      refine hK.out _ _ (by exact (Fr.ofBelowAll BC.out (Nat.le_refl _) : Fr (fun k => k = mb) wb wc).trans FD.out) (fun hHeld => ?_)
      try simp only [Act.put, List.setIfInBounds_toArray, List.set_cons_zero, List.set_cons_succ]
      clear hK
      refine wpAnyH_done (by kernel_rfl) ?_ _
      have hbc := BC.out.size
      have S5 := Lib.hid (show StIs wd s q b mb LOG [(key, val)] size from by
        have hf : Fr (fun k => k = mb) wb wd := (Fr.ofBelowAll BC.out (Nat.le_refl _) : Fr (fun k => k = mb) wb wc).trans FD.out
        refine ⟨SB.out.k.fr hf (fun e => SB.out.ne e), ⟨_, MD.out, .cons ⟨rfl, hk, (OC.out.fr FD.out (fun k h e => by have e : k = mb := e; have h5 : wb.heap.size ≤ k := (OC.out.lt k h).1; have : mb < wb.heap.size := SB.out.lt.2; omega)).byt.mono (fun k hk h => ?_)⟩ .nil⟩, SB.out.ne⟩
        have h2 : wb.heap.size ≤ k := h.2
        have := SB.out.lt
        exact ⟨by omega, by omega, by omega, by omega⟩)
      have F5 := Lib.hid (show Fr (fun k => k = mb) wr wd from (Fr.ofBelowAll CB.out (Nat.le_refl _)).trans ((Fr.ofBelowAll BC.out (Nat.le_refl _) : Fr (fun k => k = mb) wb wc).trans FD.out))
      go_wp2
      go_roundw
      case rel => exact .inr ⟨rfl, S5.out, F5.out⟩
      case measure => simp [intOf]
    · have HS := Lib.hid hS
      have HF := Lib.hid hF
      clear hS hF
      go_wp2
      go_end0
      exact ⟨rfl, HS.out, HF.out⟩
end Go.Proofs.Ytjdohjoljobinaa.Ls
