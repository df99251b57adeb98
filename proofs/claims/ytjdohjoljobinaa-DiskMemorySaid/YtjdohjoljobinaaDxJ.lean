/- The walks of the disk's Flip and Clone. Conditions: a name is a text; at most 2^46 bytes. -/
import Derived.Test.YtjdohjoljobinaaDxI
import Derived.Shelf.SlMaps.Clone
import Derived.RegionTactic
import Derived.ChangeAlike
namespace Go.Proofs.Ytjdohjoljobinaa.Dx
open Go Go.RowKit Mem Maps Ops Reps
open Go.Maps (Keyed string_keyed)
set_option linter.unusedVariables false
set_option linter.unusedSimpArgs false

def flipB (bs : List UInt8) (i k : Nat) : List UInt8 := bs.set i (bs.getD i 0 ^^^ UInt8.ofNat (2 ^ k))
def flipD (d : Disk) (n : Nm) (at_ bit : Int) : Disk × Bool :=
  if lookF d.fs n = none ∨ at_ < 0 ∨ ((bytesF d.fs n).length : Int) ≤ at_ ∨ bit < 0 ∨ 7 < bit then (d, false)
  else ({ d with fs := putF d.fs (n, flipB (bytesF d.fs n) at_.toNat bit.toNat, lastF d.fs n) }, true)
theorem flip_int (c : UInt8) (k : Nat) (hk : k < 8) : bits .xor .u8 (c.toNat : Int) (2 ^ k % 256) = ((c ^^^ UInt8.ofNat (2 ^ k)).toNat : Int) := by
  have h := c.toNat_lt
  have : ((2 : Int) ^ k % 256) = ((2 ^ k % 256 : Nat) : Int) := by
    rw [Int.natCast_emod, Int.natCast_pow]; rfl
  rw [this, u8_xor_nat _ _ h (by omega), UInt8.toNat_xor, UInt8.toNat_ofNat']
theorem flip_int2 (c : UInt8) (k : Nat) (hk : k < 8) : bits .xor .u8 (c.toNat : Int) (IntKind.u8.wrap (2 ^ k)) = ((c ^^^ UInt8.ofNat (2 ^ k)).toNat : Int) := by
  rw [← flip_int c k hk, IntKind.wrap_u8]
theorem used_same (fs : List XF) (n : Nm) (bs : List UInt8) (last : Nat) (h : bs.length = (bytesF fs n).length) : usedF (putF fs (n, bs, last)) = usedF fs := by
  have h1 := used_put fs (n, bs, last)
  have h2 := lenF_bytes fs n
  dsimp only at h1
  omega
def FlipT (D : Nat → Prop) (w : World) (q b : Nat) (d : Disk) (n : Nm) (at_ bit : Int) (e : Ending) (w' : World) : Prop := e = .returned (.bool (flipD d n at_ bit).2) ∧ DkIs D w' q b (flipD d n at_ bit).1 ∧ Fr (fun k => k = q ∨ k = b) w w'
set_option maxHeartbeats 16000000 in
set_option maxRecDepth 100000 in
theorem flip_calls (w : World) (q b : Nat) (d : Disk) (n : Nm) {D : Nat → Prop} (H0 : DkIs D w q b d) (hn : n.length ≤ maxLen) (hu : usedF d.fs ≤ 70368744177664) (at_ bit : Int)
    (ha1 : -9223372036854775808 ≤ at_) (ha2 : at_ ≤ 9223372036854775807) (hb1 : -9223372036854775808 ≤ bit) (hb2 : bit ≤ 9223372036854775807) :
    Calls Try.prog 64 #[.pointer (some ⟨q, 0, none⟩), nmV n, .int .i64 at_, .int .i64 bit] w (FlipT D w q b d n at_ bit) := by
  obtain ⟨kl, hkl⟩ := key_str n hn
  have HKL := Lib.hid hkl
  have H := Lib.hid H0
  have hne := H0.ne
  have hbq : ¬ b = q := fun e => hne e.symm
  obtain ⟨l, m1, fi⟩ := H0.m
  have M1 := Lib.hid m1
  obtain ⟨r, ov, olast, hr, hrv, hx1, hob, hx2, hx3⟩ := look_file n fi
  obtain ⟨oa, oc, rfl, _⟩ := id hob
  have c2 := H0.k.cell (i := 2) rfl
  have hlt := H0.lt
  have hle := len_le d.fs n
  have HR := Lib.hid hr
  obtain ⟨os, hos⟩ : ∃ x, bytesF d.fs n = x := ⟨_, rfl⟩
  have HOS := Lib.hid hos
  have hos2 : ((lookF d.fs n).map (·.1)).getD [] = os := hos
  rw [hos2] at hob hrv
  have hol : os.length ≤ 70368744177664 := by rw [← hos]; omega
  have HOL := Lib.hid (show lastF d.fs n = olast from hx2.symm)
  obtain ⟨is, his⟩ : ∃ x, (lookF d.fs n).isSome = x := ⟨_, rfl⟩
  have HIS := Lib.hid his
  have HRV := Lib.hid (show (if true = true then Value.tuple #[r.getD (.agg #[.slice none 0 0, .int .i64 0]), .bool r.isSome] else r.getD (.agg #[.slice none 0 0, .int .i64 0])) = .tuple #[.agg [Value.slice oa os.length oc, .int .i64 (olast : Int)].toArray, .bool is] from by rw [if_pos rfl, hrv, hx1, his]; rfl)
  have HOB := Lib.hid hob
  have HSZ := Lib.hid (fun v => file_size v olast)
  have HON := Lib.hid (file_one (.slice oa os.length oc) olast rfl)
  clear hkl m1 fi hr hrv hx1 hob hx2 hx3 hos hos2 his H0 hle
  unfold nmV
  go_enter Try.func64, Try.ntmps64
  go_upto_region 2 with (first
    | ((with_reducible refine wpList_look rfl _ _ 89 true rfl 94 keyedS Try.underlying89 (zeroFile _) rfl M1.out (nmV n) kl rfl HKL.out r HR.out ?_); rw [HRV.out])
    | ((with_reducible refine wpList_alloc rfl _ rfl _ (zeroFile _) (fun wa ka ca za => ?_)); have KA := Lib.hid ka; have CA := Lib.hid ca; clear ka ca)
    | ((with_reducible refine wpList_put rfl _ _ _ rfl w.heap.size [Value.slice oa os.length oc, .int .i64 (olast : Int)] _ rfl rfl KA.out (HSZ.out _) rfl HON.out (fun wb kb fb zb => ?_)); have KB := Lib.hid kb; have CB := Lib.hid (show Below w.heap.size w wb from CA.out.trans (fb.below CA.out.size (fun k hk => by have hk : k = w.heap.size := hk; omega))); clear kb fb))
  have HB := Lib.hid (H.out.below CB.out)
  have OB := Lib.hid (HOB.out.below CB.out)
  have FB := Lib.hid (show Fr (fun k => k = q ∨ k = b) w wb from Fr.ofBelowAll CB.out (Nat.le_refl _))
  have hsb : w.heap.size < wb.heap.size := by omega
  have c0 := KB.out.cell (i := 0) rfl
  clear KA CA za zb c2 HR HRV
  try simp only [Act.put, List.setIfInBounds_toArray, List.set_cons_zero, List.set_cons_succ]
  have no : (lookF d.fs n = none ∨ at_ < 0 ∨ ((os.length : Nat) : Int) ≤ at_ ∨ bit < 0 ∨ 7 < bit) → flipD d n at_ bit = (d, false) := fun h => by
    unfold flipD
    rw [HOS.out, if_pos h]
  have NO := Lib.hid no
  clear no
  have post : (lookF d.fs n = none ∨ at_ < 0 ∨ ((os.length : Nat) : Int) ≤ at_ ∨ bit < 0 ∨ 7 < bit) → ∀ e, e = .returned (.bool false) → FlipT D w q b d n at_ bit e wb := fun h e he => by
    unfold FlipT
    rw [NO.out h]
    exact ⟨he, HB.out, FB.out⟩
  have POST := Lib.hid post
  clear post NO
  rcases is with _ | _
  · have hp := Lib.hid (POST.out (.inl (by have := HIS.out; cases hlk : lookF d.fs n with | none => rfl | some x => rw [hlk] at this; cases this)))
    go_wp2
    go_ret
    exact hp.out _ rfl
  by_cases h1 : at_ < 0
  · have hp := Lib.hid (POST.out (.inr (.inl h1)))
    have h1d : decide (at_ < 0) = true := by simpa using h1
    go_wp2
    go_ret
    exact hp.out _ rfl
  have h1d : decide (at_ < 0) = false := by simpa using h1
  by_cases h2 : ((os.length : Nat) : Int) ≤ at_
  · have hp := Lib.hid (POST.out (.inr (.inr (.inl h2))))
    have h2d : decide (((os.length : Nat) : Int) ≤ at_) = true := by simpa using h2
    go_wp2
    go_ret
    exact hp.out _ rfl
  have h2d : decide (((os.length : Nat) : Int) ≤ at_) = false := by simpa using h2
  by_cases h3 : bit < 0
  · have hp := Lib.hid (POST.out (.inr (.inr (.inr (.inl h3)))))
    have h3d : decide (bit < 0) = true := by simpa using h3
    go_wp2
    go_ret
    exact hp.out _ rfl
  have h3d : decide (bit < 0) = false := by simpa using h3
  by_cases h4 : 7 < bit
  · have hp := Lib.hid (POST.out (.inr (.inr (.inr (.inr h4)))))
    have h4d : decide (7 < bit) = true := by simpa using h4
    go_wp2
    go_ret
    exact hp.out _ rfl
  have h4d : decide (7 < bit) = false := by simpa using h4
  clear POST
  obtain ⟨i, rfl⟩ := Int.eq_ofNat_of_zero_le (by omega : 0 ≤ at_)
  obtain ⟨k, rfl⟩ := Int.eq_ofNat_of_zero_le (by omega : 0 ≤ bit)
  have hil : i < os.length := by omega
  have hk8 : k < 8 := by omega
  have HX := Lib.hid (show flipD d n (i : Int) (k : Int) = ({ d with fs := putF d.fs (n, flipB os i k, olast) }, true) from by
    unfold flipD
    rw [HOS.out, HOL.out, if_neg]
    · rfl
    · have hs := HIS.out
      rintro (h | h | h | h | h)
      · rw [h] at hs; cases hs
      · omega
      · omega
      · omega
      · omega)
  go_wp2_with fail
  refine (CodecR.clone_calls _ wb _ os OB.out.any (by omega)).mono ?_
  rintro e wc ⟨xa, xc, rfl, o1, o2⟩
  have hwb : ¬ w.heap.size = b := by omega
  have hwq : ¬ w.heap.size = q := by omega
  have KC := Lib.hid (KB.out.below o2)
  have CC := Lib.hid (CB.out.trans (o2.mono (by omega)))
  have hsc := o2.size
  obtain ⟨g, cap, hveq, hg1, hg2, hcl, hcm, hly, hfz⟩ := o1.shape (by intro e; subst e; simp at hil)
  simp only [Value.slice.injEq] at hveq
  obtain ⟨rfl, _, rfl⟩ := hveq
  have LY := Lib.hid hly
  have FZ := Lib.hid hfz
  clear o1 o2 hly hfz HB OB FB c0 KB CB
  go_upto_region 5 with (with_reducible refine wpList_setc rfl _ _ _ rfl w.heap.size 0 rfl _ rfl rfl KC.out (by simp) (by kernel_rfl) (fun wd kd fd zd => ?_); have KD0 := Lib.hid kd; have FD := Lib.hid fd; clear kd fd)
  have hgw : ¬ g = w.heap.size := by omega
  have KD := Lib.hid (show Blk wd w.heap.size [.slice (some ⟨g, 0, none⟩) os.length xc, .int .i64 (olast : Int)] 94 from KD0.out)
  have LD := Lib.hid (LY.out.fr FD.out (fun e => hgw e))
  have FZD := Lib.hid (show wd.frozen? ⟨g, i, none⟩ = false from by rw [FD.out.frozen (p := ⟨g, i, none⟩) hg2 (fun e => hgw e)]; exact FZ.out i)
  have CD := Lib.hid (CC.out.trans (FD.out.below (by omega) (fun k2 hk2 => by have hk2 : k2 = w.heap.size := hk2; omega) : Below w.heap.size wc wd))
  have hszd : wd.heap.size = wc.heap.size := zd
  clear KC CC LY FZ KD0 zd
  have c0 := KD.out.cell (i := 0) rfl
  have hcell := LD.out i hil
  rw [Nat.zero_add] at hcell
  have hfr := FZD.out
  have hset := Lib.hid (LD.out.set i hil)
  clear FZD
  go_region
  rw [flip_int2 _ _ hk8]
  obtain ⟨x, hx⟩ : ∃ x, os[i]'hil ^^^ UInt8.ofNat (2 ^ k) = x := ⟨_, rfl⟩
  rw [hx]
  have hs := hset.out x
  rw [Nat.zero_add] at hs
  have C5 := Lib.hid ((CD.out.setCell (p := ⟨g, i, none⟩) (show w.heap.size ≤ g by omega) (.int .u8 (x.toNat : Int))).drew)
  have K5 := Lib.hid ((KD.out.other (a := ⟨g, i, none⟩) hgw (.int .u8 (x.toNat : Int))).drew)
  have HFB := Lib.hid (show os.set i x = flipB os i k from by unfold flipB; rw [← hx]; simp [List.getD_eq_getElem?_getD, List.getElem?_eq_getElem hil])
  have L5 := Lib.hid (hs.byt (D := D) (n := os.length) (cap := xc) (H.out.fresh g (by omega)) (by simp) (by simpa using hcl) hcm |>.drew)
  have hgz : g < ((wd.setCell ⟨g, i, none⟩ (.int .u8 (x.toNat : Int))).drew).heap.size := by simp [World.setCell]; omega
  clear hs hset hcell hfr c0 KD LD CD hx
  generalize (wd.setCell ⟨g, i, none⟩ (.int .u8 (x.toNat : Int))).drew = w6 at *
  have D6 := Lib.hid (H.out.below C5.out)
  have K6 := Lib.hid (show Blk w6 w.heap.size [.slice (some ⟨g, 0, none⟩) os.length xc, .int .i64 (olast : Int)] 94 from K5.out)
  obtain ⟨l6, m6, fi6⟩ := D6.out.m
  have M6 := Lib.hid m6
  obtain ⟨m, hm⟩ : ∃ m, flipB os i k = m := ⟨_, rfl⟩
  have hml : m.length = os.length := by rw [← hm]; simp [flipB]
  have HML := Lib.hid hml
  rw [hm] at HFB HX
  rw [HFB.out] at L5
  obtain ⟨l', hpa, hfi⟩ := put_at (n := n) (v := .slice (some ⟨g, 0, none⟩) os.length xc) (last := olast) hn L5.out fi6
  have HPA := Lib.hid hpa
  have HFI := Lib.hid hfi
  have HUS := Lib.hid (used_same d.fs n m olast (by rw [HML.out, HOS.out]))
  clear m6 fi6 hpa hfi hm hml K5
  have c2 := D6.out.k.cell (i := 2) rfl
  go_upto_region 6 with fail
  try simp only [Act.put, List.setIfInBounds_toArray, List.set_cons_zero, List.set_cons_succ]
  refine wp_region_held_drew (S := (fun w' => Fr (fun k => k = b) w6 w' ∧ w'.cell? ⟨q, 2, none⟩ = some (.map (some b)))) (by kernel_rfl) ⟨(Fr.refl _ _).drew, D6.out.k.cell (i := 2) rfl⟩ (fun hHeld => ?_)
  refine wpAnyH_take (i := 0) (oi := ⟨_, _, _, _, _, _⟩) (v := ?_) rfl (by kernel_rfl) (by kernel_rfl) (by kernel_rfl) (fun _ _ _ h => h) (Or.inl ⟨by rfl, ?_⟩) (by assumption) ?_
  rotate_left
  · intro w hSw; go_simp; try (with_reducible rfl)
  try simp only [Act.put, List.setIfInBounds_toArray, List.set_cons_zero, List.set_cons_succ]
  refine wpAnyH_take (i := 1) (oi := ⟨_, _, _, _, _, _⟩) (v := ?_) rfl (by kernel_rfl) (by kernel_rfl) (by kernel_rfl) (fun _ _ _ h => h) (Or.inl ⟨by rfl, ?_⟩) (by assumption) ?_
  rotate_left
  · intro w hSw; go_simp; try (with_reducible rfl)
  try simp only [Act.put, List.setIfInBounds_toArray, List.set_cons_zero, List.set_cons_succ]
  refine wpAnyH_take (i := 2) (oi := ⟨_, _, _, _, _, _⟩) (v := ?_) rfl (by kernel_rfl) (by kernel_rfl) (by kernel_rfl) (fun _ _ _ h => h) (Or.inl ⟨by rfl, ?_⟩) (by assumption) ?_
  rotate_left
  · intro w hSw; go_simp; try (with_reducible rfl)
  try simp only [Act.put, List.setIfInBounds_toArray, List.set_cons_zero, List.set_cons_succ]
  refine wpAnyH_take (i := 3) (oi := ⟨_, _, _, _, _, _⟩) (v := .map (some b)) rfl (by kernel_rfl) (by kernel_rfl) (by kernel_rfl) (fun _ _ _ h => h) (Or.inl ⟨by rfl, fun w hSw => (by have c := hSw.2; go_simp; try (with_reducible rfl))⟩) (by assumption) ?_
  try simp only [Act.put, List.setIfInBounds_toArray, List.set_cons_zero, List.set_cons_succ]
  refine wpAnyH_take (i := 4) (oi := ⟨_, _, _, _, _, _⟩) (v := ?_) rfl (by kernel_rfl) (by kernel_rfl) (by kernel_rfl) (fun _ _ _ h => h) (Or.inl ⟨by rfl, ?_⟩) (by assumption) ?_
  rotate_left
  · intro w hSw; go_simp; try (with_reducible rfl)
  try simp only [Act.put, List.setIfInBounds_toArray, List.set_cons_zero, List.set_cons_succ]
  refine wpAnyH_take (i := 5) (oi := ⟨_, _, _, _, _, _⟩) rfl (by kernel_rfl) (by kernel_rfl) (by kernel_rfl) (fun _ _ _ h => h) (yieldsIf_load_mid (by rfl) _ _ rfl w.heap.size 0 rfl [.slice (some ⟨g, 0, none⟩) os.length xc, .int .i64 (olast : Int)] _ (fun _ h => Ops.blk_range (K6.out.fr h.1 (fun e => hwb e))) Try.underlying94 rfl (HSZ.out _)) (by assumption) ?_
  try simp only [Act.put, List.setIfInBounds_toArray, List.set_cons_zero, List.set_cons_succ]
  refine wpAnyH_ready (rs := [6]) (by kernel_rfl) (by simp) ?_
  refine AllReadyH.cons (o := ⟨_, _, _, _, _, _⟩) rfl (fun K hK => ?_) AllReadyH.nil
  rw [if_pos (by rfl)]
  refine wp_set _ _ _ 89 (.inl rfl) 94 keyedS Try.underlying89 rfl M6.out (nmV n) (fileV (.slice (some ⟨g, 0, none⟩) os.length xc) olast) kl rfl rfl HKL.out HPA.out (fun w7 m7 f7 => ?_)
  have M7 := Lib.hid m7
  have F7 := Lib.hid (show Fr (fun k => k = b) w6 w7 from ((Fr.refl _ w6).drew).trans f7)
  have K7 := Lib.hid (D6.out.k.fr F7.out (fun e => hne e))
  refine hK.out _ _ (by exact ⟨F7.out, K7.out.cell (i := 2) rfl⟩) (fun hHeld => ?_)
  clear m7 f7
  try simp only [Act.put, List.setIfInBounds_toArray, List.set_cons_zero, List.set_cons_succ]
  clear hK
  refine wpAnyH_done (by kernel_rfl) ?_ _
  go_wp2
  go_ret
  unfold FlipT
  rw [HX.out]
  have F67 := F7.out
  refine ⟨rfl, ⟨?_, ⟨l', M7.out, HFI.out.fr F67 (fun k2 _ hk2 e => H.out.nd.2 ((show k2 = b from e) ▸ hk2))⟩, hne, H.out.nd, fun k2 hk2 => D6.out.fresh k2 (Nat.le_trans F67.size hk2)⟩, ?_⟩
  · have h7 := K7.out
    unfold diskC at h7 ⊢
    dsimp only
    rw [HUS.out]
    exact h7
  · exact (Fr.ofBelowAll C5.out (Nat.le_refl _) : Fr (fun k => k = q ∨ k = b) w w6).trans (F67.mono (fun k _ h => .inr h))
def CloneT (D : Nat → Prop) (w : World) (d : Disk) (e : Ending) (w' : World) : Prop := ∃ q b, e = .returned (.pointer (some ⟨q, 0, none⟩)) ∧ w.heap.size ≤ q ∧ w.heap.size ≤ b ∧ DkIs (fun k => D k ∧ k ≠ q ∧ k ≠ b) w' q b d ∧ Below w.heap.size w w'
set_option maxHeartbeats 4000000 in
set_option maxRecDepth 100000 in
theorem mapclone_calls (w : World) (b : Nat) (l : List (Value × Value)) (h : MapIs Try.prog 9 w b l) :
    Calls Try.prog 66 #[.map (some b)] w fun e w' => e = .returned (.map (some w.heap.size)) ∧ MapIs Try.prog 9 w' w.heap.size l ∧ Below w.heap.size w w' ∧ w.heap.size + 1 = w'.heap.size := by
  obtain ⟨es, clock, hb, hrest⟩ := _root_.id h
  have hq := fun w => run_eql_map_nil_sl (P := Try.prog) w 89 _ _ (some b) Try.underlying89
  have hex := run_maps_clone_sl (P := Try.prog) w 89 hb
  go_enter Try.func66, Try.ntmps66
  go_wp2
  rw [run_callFunc_extern Try.func95 (by kernel_rfl) (by kernel_rfl) (by kernel_rfl) (e := Extern.MapsClone.clone) (by kernel_rfl), hex]
  simp only [Result.andThen]
  rw [Oper.upon_value]
  go_wp2
  rw [run_typeAssert_map_sl _ 89 _ _ _ _ Try.underlying89]
  simp only [Result.andThen]
  rw [Oper.upon_value]
  go_wp2
  go_ret
  exact ⟨rfl, MapIs.clone h hb, (Below.refl _ _).alloc (Nat.le_refl _) _, by simp⟩
theorem zeroDisk (w : World) : (zeroValue 91).run Try.prog w = .ok (.agg [Value.int .i64 0, .int .i64 0, .map none, .int .i64 0, .int .i64 0, .bool false].toArray) w := by kernel_rfl
theorem disk_size (d : Disk) (b : Nat) : (Try.prog.info? 91).map (·.size) = some (diskC d b).length := by kernel_rfl
theorem disk_one (d : Disk) (b : Nat) : ∀ u ∈ diskC d b, u.oneCell' = true := fun u hu => by
  simp only [diskC, List.mem_cons, List.mem_nil_iff, or_false] at hu
  rcases hu with rfl | rfl | rfl | rfl | rfl | rfl <;> rfl
set_option maxHeartbeats 8000000 in
set_option maxRecDepth 100000 in
theorem clone_calls (w : World) (q b : Nat) (d : Disk) {D : Nat → Prop} (H0 : DkIs D w q b d) :
    Calls Try.prog 28 #[.pointer (some ⟨q, 0, none⟩)] w (CloneT D w d) := by
  have H := Lib.hid H0
  obtain ⟨l, m1, fi⟩ := H0.m
  have M1 := Lib.hid m1
  have FI := Lib.hid fi
  have hlt := H0.lt
  have HSZ := Lib.hid (disk_size d b)
  have HON := Lib.hid (disk_one d b)
  have HZ := Lib.hid zeroDisk
  obtain ⟨dc, hdc⟩ : ∃ x, diskC d b = x := ⟨_, rfl⟩
  have K0 := Lib.hid (show Blk w q dc 91 from by rw [← hdc]; exact H0.k)
  have HDC := Lib.hid hdc
  have HLN := Lib.hid (show 6 = dc.length from by rw [← hdc]; rfl)
  rw [hdc] at HSZ HON
  clear H0 m1 fi hdc
  go_enter Try.func28, Try.ntmps28
  go_upto_region 2 with (first
    | (with_reducible refine wpList_load_blk rfl _ _ rfl q dc rfl K0.out _ Try.underlying91 rfl HSZ.out ?_)
    | ((with_reducible refine wpList_alloc rfl _ rfl _ (HZ.out _) (fun wa ka ca za => ?_)); have KA := Lib.hid ka; have CA := Lib.hid ca; clear ka ca)
    | ((with_reducible refine wpList_put rfl _ _ _ rfl w.heap.size dc _ rfl rfl KA.out HSZ.out (by with_unfolding_all exact HLN.out) HON.out (fun wb kb fb zb => ?_)); have KB := Lib.hid kb; have CB := Lib.hid (show Below w.heap.size w wb from CA.out.trans (fb.below CA.out.size (fun k hk => by have hk : k = w.heap.size := hk; omega))); clear kb fb))
  have HB := Lib.hid (H.out.below CB.out)
  have MB := Lib.hid (M1.out.below CB.out)
  have hsb : w.heap.size < wb.heap.size := by omega
  have c2 := HB.out.k.cell (i := 2) rfl
  clear KA CA za zb
  go_wp2_with fail
  refine (mapclone_calls _ b l MB.out).mono ?_
  rintro e wc ⟨rfl, m2, g2, z2⟩
  have MC := Lib.hid m2
  have CC := Lib.hid (CB.out.trans (g2.mono (by omega)))
  have KC := Lib.hid (show Blk wc w.heap.size [.int .i64 d.room, .int .i64 (usedF d.fs : Int), .map (some b), .int .i64 d.steps, .int .i64 d.left, .bool d.dead] 91 from by have := KB.out.below g2; rw [← HDC.out] at this; exact this)
  have hz3 : wb.heap.size < wc.heap.size := by omega
  clear m2 g2 z2 c2 KB HB MB CB
  have hbw : wb.heap.size ≠ w.heap.size := by omega
  go_upto_region 3 with (with_reducible refine wpList_setc rfl _ _ _ rfl w.heap.size 2 rfl _ rfl rfl KC.out (by simp) (by kernel_rfl) (fun wd kd fd zd => ?_); have KD0 := Lib.hid kd; have FD := Lib.hid fd; clear kd fd)
  have CD := Lib.hid (CC.out.trans (FD.out.below (by omega) (fun k2 hk2 => by have hk2 : k2 = w.heap.size := hk2; omega) : Below w.heap.size wc wd))
  have hz4 : wc.heap.size ≤ wd.heap.size := FD.out.size
  go_wp2
  go_ret
  refine ⟨w.heap.size, wb.heap.size, rfl, Nat.le_refl _, by omega, ⟨?_, ⟨l, MC.out.fr FD.out (fun e => hbw e), ?_⟩, fun e => hbw e.symm, ⟨fun h => h.2.1 rfl, fun h => h.2.2 rfl⟩, fun k hk => ⟨H.out.fresh k (by omega), by omega, by omega⟩⟩, CD.out⟩
  · exact KD0.out
  · exact (FI.out.lt.fr (Fr.ofBelow CD.out) (fun k hk _ h => by omega)).mono (fun k _ h => ⟨h.2, by omega, by omega⟩)
end Go.Proofs.Ytjdohjoljobinaa.Dx
