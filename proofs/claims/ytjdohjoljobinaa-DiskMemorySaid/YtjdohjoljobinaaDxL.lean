/- The walk of the disk's Crash. Conditions: at most 2^20 files, at most 2^40 bytes; of no file more lasts than there is. -/
import Derived.Test.YtjdohjoljobinaaDxK
import Derived.Test.YtjdohjoljobinaaBridge
import Derived.Test.YtjdohjoljobinaaOpsIn
namespace Go.Proofs.Ytjdohjoljobinaa.Dx
open Go Go.RowKit Mem Maps Ops Reps Iter Row Bridge
open Go.Maps (Keyed string_keyed)
set_option linter.unusedVariables false
set_option linter.unusedSimpArgs false

section
variable {k : TypeId} {b : Nat} {l : List (Value × Value)} {F : Fence} {n : Nat} {P : Program} {w : World} {ops : Array Oper} {rest : List Oper} {o : Oper} {a : Act} {Q : Exit → Act → World → Prop}
theorem wpListIn_look (hg : o.guard = none) (m x : Operand) (t : TypeId) (ok : Bool) (hop : o.op = Op.lookup t m x ok) (e : TypeId) (K : Keyed P k) (ht : P.underlying t = some (.map k e)) {z : Value} (hz : (zeroValue e).run P w = .ok z w)
    (hm : a.eval m = .map (some b)) (h : MapIs P k w b l) (key : Value) (kl : Lit) (hx : a.eval x = key) (hk : keyOf P k key = some kl) (r : Option Value) (hr : AtKey l key r)
    (hK : wpListIn F n P ops Q rest (a.put o.dst (if ok = true then .tuple #[r.getD z, .bool r.isSome] else r.getD z)) w) : wpListIn F n P ops Q (o :: rest) a w :=
  wpListIn_plain hg fun K' hK' => wpIn_value (v := if ok = true then .tuple #[r.getD z, .bool r.isSome] else r.getD z) (w' := w) (by simp [Oper.about, hop]) (by rw [hop]; intro c h; cases h)
    (by simp [execOp, hop, hm, hx, run_look h K ht hz hk hr ok, Result.andThen]) (hK' _ _ hK)
end
/-- so many of a file's bytes survive -/
def cutK (len last : Nat) (k : Int) : Nat := last + min k.toNat (len - last)
def crashStep (fs : List XF) (acc : List XF × List Int) (n : Nm) : List XF × List Int :=
  (putF acc.1 (n, (bytesF fs n).take (cutK (bytesF fs n).length (lastF fs n) (acc.2.headD 0)), cutK (bytesF fs n).length (lastF fs n) (acc.2.headD 0)), acc.2.tail)
def crashAll (fs : List XF) (N : List Nm) (keep : List Int) : List XF × List Int := N.foldl (crashStep fs) ([], keep)
def crashD (d : Disk) (keep : List Int) : Disk := { newD d.room with fs := (crashAll d.fs (namesF d.fs) keep).1 }
def Ints (D : Nat → Prop) (w : World) (v : Value) (ks : List Int) : Prop := Arr.Arr 1 D w v (ks.map fun k => [Value.int .i64 k])
theorem crash_used (fs : List XF) : ∀ (N : List Nm) (acc : List XF × List Int), usedF (N.foldl (crashStep fs) acc).1 ≤ usedF acc.1 + N.length * usedF fs
  | [], acc => by simp
  | n :: N, acc => by
    have ih := crash_used fs N (crashStep fs acc n)
    have h1 : usedF (crashStep fs acc n).1 ≤ usedF acc.1 + usedF fs := by
      unfold crashStep
      have h2 := used_put acc.1 (n, (bytesF fs n).take (cutK (bytesF fs n).length (lastF fs n) (acc.2.headD 0)), cutK (bytesF fs n).length (lastF fs n) (acc.2.headD 0))
      have h3 := len_le fs n
      have h4 : ((bytesF fs n).take (cutK (bytesF fs n).length (lastF fs n) (acc.2.headD 0))).length ≤ (bytesF fs n).length := by simp [List.length_take]; omega
      dsimp only at h2 ⊢
      omega
    rw [List.foldl_cons, List.length_cons, Nat.add_mul, Nat.one_mul]
    omega
def CrashT (D : Nat → Prop) (w : World) (d : Disk) (keep : List Int) (e : Ending) (w' : World) : Prop := ∃ q b, e = .returned (.pointer (some ⟨q, 0, none⟩)) ∧ w.heap.size ≤ q ∧ w.heap.size ≤ b ∧ DkIs (fun k => D k ∧ k ≠ q ∧ k ≠ b) w' q b (crashD d keep) ∧ Below w.heap.size w w'
/-- a disk whose files' bytes lie in E -/
def Dk0 (E : Nat → Prop) (A : World) (p m : Nat) (d : Disk) : Prop := Blk A p (diskC d m) 91 ∧ ∃ l, MapIs Try.prog 9 A m l ∧ Files E A l d.fs
def cD (d : Disk) (N : List Nm) (keep : List Int) (k : Nat) : Disk := { newD d.room with fs := (crashAll d.fs (N.take k) keep).1 }
/-- what Crash keeps from round to round: s.1 names are done -/
def CI (w : World) (q p m g B : Nat) (d : Disk) (N : List Nm) (keep : List Int) (s : Nat × Value) (A : World) : Prop :=
  Dk0 (fun k => B ≤ k) A p m (cD d N keep s.1) ∧ Blk A w.heap.size [.pointer (some ⟨q, 0, none⟩)] 27 ∧ Blk A g [.pointer (some ⟨p, 0, none⟩)] 27 ∧
  (∃ a c, Blk A (w.heap.size + 1) [.slice a (crashAll d.fs (N.take s.1) keep).2.length c] 47 ∧ Ints (fun k => k < w.heap.size) A (.slice a (crashAll d.fs (N.take s.1) keep).2.length c) (crashAll d.fs (N.take s.1) keep).2) ∧ Below w.heap.size w A
theorem ci_fr {w : World} {q p m g B : Nat} {d : Disk} {N : List Nm} {keep : List Int} {s : Nat × Value} {A A' : World} (h : CI w q p m g (B + 1) d N keep s A) (hf : Fr (fun b => b = B) A A') (h0 : w.heap.size + 1 < B) (hp : p < B) (hm : m < B) (hg : g < B) : CI w q p m g (B + 1) d N keep s A' := by
  obtain ⟨⟨h1, l, h6, h7⟩, h8, h2, ⟨a, c, h3, h4⟩, h5⟩ := h
  exact ⟨⟨h1.fr hf (by omega), l, h6.fr hf (by omega), h7.fr hf (fun k _ hk e => by omega)⟩, h8.fr hf (by omega), h2.fr hf (by omega), ⟨a, c, h3.fr hf (by omega), h4.fr (by omega) hf (fun k _ hk e => by omega)⟩, h5.trans (hf.below (B := w.heap.size) h5.size (fun k hk => by omega))⟩
theorem name_len {D : Nat → Prop} {w : World} {l : List (Value × Value)} {fs : List XF} (h : Files D w l fs) {n : Nm} (hn : n ∈ namesF fs) : n.length ≤ maxLen := by
  have h1 : n ∈ fs.map (·.1) := by
    unfold namesF at hn
    exact (List.mem_mergeSort).1 hn
  obtain ⟨x, hx, rfl⟩ := List.mem_map.1 h1
  clear hn h1
  induction h with
  | nil => cases hx
  | cons h2 _ ih =>
    rcases List.mem_cons.1 hx with rfl | hx
    · exact h2.2.1
    · exact ih hx
theorem crash_snoc (fs : List XF) (N : List Nm) (keep : List Int) (k : Nat) (n : Nm) (h : N[k]? = some n) : crashAll fs (N.take (k + 1)) keep = crashStep fs (crashAll fs (N.take k) keep) n := by
  unfold crashAll
  rw [List.take_add_one, h, List.foldl_append]
  rfl
set_option maxRecDepth 100000 in
theorem elemI : ElemT Try.prog 47 3 (.int .i64 0) 1 8 := ⟨Try.underlying47, ⟨_, rfl, by kernel_rfl, by kernel_rfl, by kernel_rfl⟩, by simp [Value.cells], by decide⟩
theorem crash_mem (fs : List XF) : ∀ (N : List Nm) (keep : List Int) (x : Int), x ∈ (crashAll fs N keep).2 → x ∈ keep := by
  intro N keep x h
  have key : ∀ (N : List Nm) (acc : List XF × List Int), x ∈ (N.foldl (crashStep fs) acc).2 → x ∈ acc.2 := by
    intro N
    induction N with
    | nil => intro acc h; exact h
    | cons n N ih => intro acc h; exact List.mem_of_mem_tail (ih _ h)
  exact key N _ h
set_option maxHeartbeats 16000000 in
set_option maxRecDepth 100000 in
attribute [local go_sem] Oper.semAt_some in
theorem crash_calls (w : World) (q b : Nat) (d : Disk) {D : Nat → Prop} (H : DkIs D w q b d) (v : Value) (keep : List Int) (hv : Ints Any w v keep) (hr0 : 0 ≤ d.room) (hr1 : d.room ≤ 9223372036854775807) (hn : d.fs.length ≤ 1048576) (hu : usedF d.fs ≤ 1099511627776) (hw : ∀ n, lastF d.fs n ≤ (bytesF d.fs n).length) (hks : ∀ k ∈ keep, -9223372036854775808 ≤ k ∧ k ≤ 9223372036854775807) :
    Calls Try.prog 26 #[.pointer (some ⟨q, 0, none⟩), v] w (CrashT D w d keep) := by
  have HR := Lib.hid H
  have HV := Lib.hid (show Ints (fun k => k < w.heap.size) w v keep from hv.mono (by omega) (fun _ h _ => h))
  obtain ⟨va, vc, rfl, _⟩ := hv.form
  rw [List.length_map] at HV ⊢
  have hlt := H.lt
  clear H hv
  refine (callsIn_wide (n := 0)).1 (callsIn_of_wp_marks Try.func26 rfl trivial ?_ rfl)
  simp only [Try.ntmps26, List.size_toArray, List.length_cons, List.length_nil, Nat.reduceAdd, Nat.reduceSub, Array.replicate_succ, Array.replicate_zero, List.push_toArray, List.append_toArray, List.nil_append, List.cons_append]
  have c0 := HR.out.k.cell (i := 0) rfl
  gi_wp2
  have hw1 : ((w.alloc (.cells #[.pointer (some ⟨q, 0, none⟩)] 27)).alloc (.cells #[.slice va keep.length vc] 47)).heap.size = w.heap.size + 2 := by simp
  obtain ⟨w1, h1⟩ : ∃ w1, (w.alloc (.cells #[.pointer (some ⟨q, 0, none⟩)] 27)).alloc (.cells #[.slice va keep.length vc] 47) = w1 := ⟨_, rfl⟩
  rw [h1] at hw1
  have KD1 := Lib.hid (show Blk w1 w.heap.size [.pointer (some ⟨q, 0, none⟩)] 27 from by rw [← h1]; exact (Blk.new w _ _ _ rfl).alloc _)
  have KK1 := Lib.hid (show Blk w1 (w.heap.size + 1) [.slice va keep.length vc] 47 from by rw [← h1]; have := Blk.new (w.alloc (.cells #[.pointer (some ⟨q, 0, none⟩)] 27)) #[.slice va keep.length vc] 47 [.slice va keep.length vc] rfl; rwa [World.size_alloc] at this)
  have B1 := Lib.hid (show Below w.heap.size w w1 from by rw [← h1]; exact ((Below.refl _ w).alloc (Nat.le_refl _) _).alloc (by simp) _)
  try rw [h1]
  clear h1
  refine ⟨trivial, rfl, (callsIn_wide.2 (new_calls w1 D (HR.out.below B1.out).fresh d.room)).mono ?_⟩
  rintro e w2 ⟨p, m, rfl, hp, hm, k2, b2⟩
  have D2 := Lib.hid k2
  have B2 := Lib.hid (B1.out.trans (b2.mono (by omega)))
  have hs2 := b2.size
  have hl2 := k2.lt
  have KD2 := Lib.hid (KD1.out.below b2)
  have KK2 := Lib.hid (KK1.out.below b2)
  have c1 := KD2.out.cell (i := 0) rfl
  have c1b : (w2.alloc (.cells #[.pointer (some ⟨p, 0, none⟩)] 27)).cell? ⟨w.heap.size, 0, none⟩ = some (.pointer (some ⟨q, 0, none⟩)) := (KD2.out.below (below_alloc _ _)).cell (i := 0) rfl
  clear k2 b2 c0
  gi_wp2
  obtain ⟨w3, h3⟩ : ∃ w3, w2.alloc (.cells #[.pointer (some ⟨p, 0, none⟩)] 27) = w3 := ⟨_, rfl⟩
  have KC3 := Lib.hid (show Blk w3 w2.heap.size [.pointer (some ⟨p, 0, none⟩)] 27 from by rw [← h3]; exact Blk.new w2 _ _ _ rfl)
  have b3 : Below w2.heap.size w2 w3 := by rw [← h3]; exact below_alloc _ _
  have z3 : w2.heap.size + 1 = w3.heap.size := by rw [← h3]; simp
  try rw [h3]
  have D3 := Lib.hid (D2.out.below b3)
  have KD3 := Lib.hid (KD2.out.below b3)
  have KK3 := Lib.hid (KK2.out.below b3)
  have B3 := Lib.hid (B2.out.trans (b3.mono (by omega)))
  clear b3 h3 c1 c1b D2 KD2 KK2 B2 KD1 KK1 B1
  refine ⟨trivial, rfl, (callsIn_wide.2 (names_calls w3 q)).mono ?_⟩
  rintro e w4 ⟨rfl, g1, b4, z4⟩
  have D4 := Lib.hid (D3.out.below b4)
  have KC4 := Lib.hid (KC3.out.below b4)
  have KD4 := Lib.hid (KD3.out.below b4)
  have KK4 := Lib.hid (KK3.out.below b4)
  have B4 := Lib.hid (B3.out.trans (b4.mono (by omega)))
  have HR4 := Lib.hid (HR.out.below B4.out)
  have HV4 := Lib.hid (show Ints (fun k => k < w.heap.size) w4 (.slice va keep.length vc) keep from HV.out.below (by omega) B4.out)
  have SQ := Lib.hid (names_seq w4 q b w3.heap.size d HR4.out g1 (by omega))
  obtain ⟨N, hN⟩ : ∃ N, namesF d.fs = N := ⟨_, rfl⟩
  rw [hN] at SQ
  have hNl : N.length = d.fs.length := by rw [← hN]; unfold namesF; rw [List.length_mergeSort]; simp
  have HN := Lib.hid hN
  have HI0 := Lib.hid (show CI w q p m w2.heap.size (w4.heap.size + 2) d N keep (0, undef) w4 from ⟨⟨D4.out.k, by obtain ⟨l, q1, q2⟩ := D4.out.m; cases q2; exact ⟨[], q1, .nil⟩⟩, KD4.out, KC4.out, ⟨va, vc, KK4.out, HV4.out⟩, B4.out⟩)
  have hpm := D4.out.ne
  clear hN g1 b4 D3 KC3 KD3 KK3 B3 D4 KC4 KK4 HV4
  gi_wp2
  refine rangeSeq rfl (enters_of Try.func81 (by kernel_rfl) rfl)
    SQ.out
    (fun k hk => hk.elim)
    (fun s A B h hf => own_fr h hf (fun k hk e => by omega))
    (fun s s' vs A0 A B h hA hf => h)
    (fun s A B h hf => h) (fun s s' vs A0 A h => by obtain ⟨n, _, _, rfl, _⟩ := h; rfl)
    (CI w q p m w2.heap.size (w4.heap.size + 2) d N keep) (fun _ _ _ => False)
    (fun s A B h hf => ci_fr h (hf.mono (fun k _ h => by rcases h with h | h; exact h.elim; exact h)) (by omega) (by omega) (by omega) (by omega)) (fun _ _ _ _ h _ => h) HI0.out
    (fun vs => { tmps := #[.pointer (some ⟨q, 0, none⟩), .slice va keep.length vc, .pointer (some ⟨w.heap.size, 0, none⟩), .pointer (some ⟨w.heap.size + 1, 0, none⟩), .pointer none, .pointer (some ⟨w2.heap.size, 0, none⟩), vs.getD 0 undef, undef, undef, .pointer (some ⟨q, 0, none⟩), .pointer (some ⟨q, 0, none⟩), .pointer (some ⟨q, 0, none⟩), .int .i64 d.room, .pointer (some ⟨p, 0, none⟩), .pointer (some ⟨q, 0, none⟩), .func (.func 81) #[] #[.pointer (some ⟨w3.heap.size, 0, none⟩)], vs.getD 0 undef, undef, undef, undef, undef, undef, undef, undef, undef, undef, undef, undef, undef, undef, undef, undef, undef, undef, undef, undef, undef, undef, undef, undef, undef, undef, undef, undef, undef, undef, undef, undef, undef, undef, undef, undef, undef, undef], defers := [] }) ?assign ?body ?done ?stop
  case assign =>
    intro l vs W K hs hK
    obtain ⟨v0, rfl⟩ := one_val hs
    gi_wp2
    exact hK
  case body =>
    rintro ⟨k, u⟩ ⟨k2, u2⟩ vs A0 A hlt hI hfr ⟨n, hnk, e1, rfl, hs⟩ hit
    dsimp only at hnk e1 hs hit ⊢
    subst e1
    have hfr2 : Fr (fun b => b = w4.heap.size + 1) A0 A := hfr.mono (fun k _ h => by rcases h with h | h; exact h.elim; exact h)
    have hsA := hfr2.size
    obtain ⟨⟨kp, l, ml, fl⟩, kd, kc, ⟨a, c, kk, ki⟩, bl⟩ := ci_fr hI hfr2 (by omega) (by omega) (by omega) (by omega)
    dsimp only at kk ki
    have HCS := Lib.hid (crash_snoc d.fs N keep k n hnk)
    have HUS := Lib.hid (crash_used d.fs (N.take k) ([], keep))
    have hkl : k < N.length := (List.getElem?_eq_some_iff.1 hnk).1
    have DA := Lib.hid (show DkIs (fun k => w4.heap.size + 2 ≤ k) A p m (cD d N keep k) from ⟨kp, ⟨l, ml, fl⟩, hpm, ⟨fun e => by omega, fun e => by omega⟩, fun k hk => by omega⟩)
    have HRA := Lib.hid (HR.out.below bl)
    obtain ⟨dl, m0, f0⟩ := HR.out.m
    have m1 := m0.fr (Fr.ofBelow bl) (by omega)
    have fi := f0.lt.fr (Fr.ofBelow bl) (fun j _ hj e => by omega)
    clear m0 f0
    have hnl : n.length ≤ maxLen := name_len fi (by rw [HN.out]; exact List.mem_of_getElem? hnk)
    obtain ⟨kl, hkl2⟩ := key_str n hnl
    have HKL := Lib.hid hkl2
    have M1 := Lib.hid m1
    obtain ⟨r, ov, olast, hr, hrv, hx1, hob, hx2, hx3⟩ := look_file n fi
    obtain ⟨oa, oc, rfl, _⟩ := id hob
    have HR2 := Lib.hid hr
    have hle := len_le d.fs n
    have hwn := hw n
    obtain ⟨os, hos⟩ : ∃ x, bytesF d.fs n = x := ⟨_, rfl⟩
    have HOS := Lib.hid hos
    have hos2 : ((lookF d.fs n).map (·.1)).getD [] = os := hos
    rw [hos2] at hob hrv
    have HOL := Lib.hid (show lastF d.fs n = olast from hx2.symm)
    rw [hos, HOL.out] at hwn
    rw [hos] at hle
    have HRV := Lib.hid (show r.getD (.agg #[.slice none 0 0, .int .i64 0]) = .agg [Value.slice oa os.length oc, .int .i64 (olast : Int)].toArray from hrv)
    have HOB := Lib.hid hob
    have HSZ := Lib.hid (fun v => file_size v olast)
    have HON := Lib.hid (file_one (.slice oa os.length oc) olast rfl)
    have HZ := Lib.hid (fun wx => (show (zeroValue 94).run Try.prog wx = .ok (.agg [Value.slice none 0 0, .int .i64 0].toArray) wx from zeroFile wx))
    have KD := Lib.hid kd
    have KC0 := Lib.hid kc
    have HIT := Lib.hid hit
    have BL := Lib.hid bl
    have HNK := Lib.hid hnk
    obtain ⟨ks, hks2⟩ : ∃ ks, (crashAll d.fs (N.take k) keep).2 = ks := ⟨_, rfl⟩
    rw [hks2] at kk ki
    have KK := Lib.hid kk
    have KI := Lib.hid ki
    have HKS := Lib.hid hks2
    have c0 := kd.cell (i := 0) rfl
    have c1 := kk.cell (i := 0) rfl
    have c2 := HRA.out.k.cell (i := 2) rfl
    have hlw : w.heap.size + 2 ≤ w2.heap.size := by omega
    clear hI hfr hfr2 kp ml fl kd kc kk ki bl m1 fi hkl2 hr hrv hx1 hob hx2 hx3 hos hos2 hit hnk hs hks2
    unfold nmV
    cases ks with
    | nil =>
      gi_wp2_with (first
        | ((with_reducible refine wpListIn_look rfl _ _ 89 false rfl 94 keyedS Try.underlying89 (zeroFile _) rfl M1.out (nmV n) kl rfl HKL.out r HR2.out ?_); rw [if_neg (by decide), HRV.out])
        | ((with_reducible refine wpListIn_alloc rfl _ rfl _ (HZ.out _) (fun wa ka ca za => ?_)); have KA := Lib.hid ka; have CA := Lib.hid ca; clear ka ca)
        | ((with_reducible refine wpListIn_put rfl _ _ _ rfl A.heap.size [Value.slice oa os.length oc, .int .i64 (olast : Int)] _ rfl rfl KA.out (HSZ.out _) rfl HON.out (fun we ke fe ze => ?_)); have KE := Lib.hid ke; have CE := Lib.hid (show Below A.heap.size A we from CA.out.trans (fe.below CA.out.size (fun k hk => by have hk : k = A.heap.size := hk; omega))); have d0 := ke.cell (i := 0) rfl; have d1 := ke.cell (i := 1) rfl; clear ke fe))
      have OBE := Lib.hid (show Byt Any we (.slice oa os.length oc) os from HOB.out.any.below CE.out)
      have DC := Lib.hid (DA.out.below CE.out)
      have KC := Lib.hid (KC0.out.below CE.out)
      have KF := KE
      have KDE := Lib.hid (KD.out.below CE.out)
      have KKE := Lib.hid (KK.out.below CE.out)
      have KIE := Lib.hid (show Ints (fun k => k < w.heap.size) we _ _ from KI.out.below (by omega) CE.out)
      have BLE := Lib.hid (BL.out.trans (CE.out.mono (by have := BL.out.size; omega)))
      have FAE := Lib.hid (show Fr (fun j => j = w.heap.size + 1) A we from Fr.ofBelowAll CE.out (Nat.le_refl _))
      have hse := CE.out.size
      clear KA CA
      have hcut : ((olast : Int) + min 0 ((os.length : Int) - (olast : Int)) : Int) = ((cutK os.length olast 0 : Nat) : Int) := by unfold cutK; omega
      have HMM := Lib.hid (show cutK os.length olast 0 ≤ os.length from by unfold cutK; omega)
      obtain ⟨mm, hmm⟩ : ∃ mm, cutK os.length olast 0 = mm := ⟨_, rfl⟩
      rw [hcut]
      rw [hmm] at HMM ⊢
      have HCUT := Lib.hid hmm
      clear hcut hmm d0 d1
      have hmo := HMM.out
      obtain ⟨ca, cc, hsl, cut⟩ := run_slice_hi (P := Try.prog) CodecW.elemB OBE.out mm hmo
      have CUT := Lib.hid cut.any
      have HLN := Lib.hid (show (os.take mm).length = mm from by simp; omega)
      have hus : usedF (cD d N keep k).fs ≤ 1152921504606846976 := by
        have h1 := HUS.out
        have h2 : (N.take k).length * usedF d.fs ≤ 1048576 * 1099511627776 := Nat.mul_le_mul (by simp; omega) hu
        have h3 : usedF (cD d N keep k).fs = usedF ((N.take k).foldl (crashStep d.fs) ([], keep)).1 := rfl
        have h4 : usedF ([] : List XF) = 0 := rfl
        try dsimp only at h1
        omega
      clear cut
      try simp only [Act.put, List.setIfInBounds_toArray, List.set_cons_zero, List.set_cons_succ]
      refine wpIn_region_held_drew (S := (fun w' => Fr (fun k => k = p ∨ k = m) we w')) (by kernel_rfl) (by kernel_rfl) (by rintro ⟨_, _, h⟩; exact h) (Fr.refl _ _).drew (fun hHeld => ?_)
      refine wpAnyH_take (i := 0) (oi := ⟨_, _, _, _, _, _⟩) (v := .pointer (some ⟨p, 0, none⟩)) rfl (by kernel_rfl) (by kernel_rfl) (by kernel_rfl) (fun _ _ _ h => h) (Or.inl ⟨by rfl, fun w hSw => (by have c := (KC.out.fr hSw (fun e => by rcases e with e | e <;> omega)).cell (i := 0) rfl; go_simp; try (with_reducible rfl))⟩) (by assumption) ?_
      try simp only [Act.put, List.setIfInBounds_toArray, List.set_cons_zero, List.set_cons_succ]
      refine wpAnyH_take (i := 1) (oi := ⟨_, _, _, _, _, _⟩) (v := ?_) rfl (by kernel_rfl) (by kernel_rfl) (by kernel_rfl) (fun _ _ _ h => h) (Or.inl ⟨by rfl, ?_⟩) (by assumption) ?_
      rotate_left
      · intro w hSw; go_simp; try (with_reducible rfl)
      try simp only [Act.put, List.setIfInBounds_toArray, List.set_cons_zero, List.set_cons_succ]
      refine wpAnyH_take (i := 2) (oi := ⟨_, _, _, _, _, _⟩) (v := ?_) rfl (by kernel_rfl) (by kernel_rfl) (by kernel_rfl) (fun _ _ _ h => h) (Or.inl ⟨by rfl, ?_⟩) (by assumption) ?_
      rotate_left
      · intro w hSw; go_simp; try (with_reducible rfl)
      try simp only [Act.put, List.setIfInBounds_toArray, List.set_cons_zero, List.set_cons_succ]
      refine wpAnyH_take (i := 3) (oi := ⟨_, _, _, _, _, _⟩) (v := .slice oa os.length oc) rfl (by kernel_rfl) (by kernel_rfl) (by kernel_rfl) (fun _ _ _ h => h) (Or.inl ⟨by rfl, fun w hSw => (by have c := (KF.out.fr hSw (fun e => by rcases e with e | e <;> omega)).cell (i := 0) rfl; go_simp; try (with_reducible rfl))⟩) (by assumption) ?_
      try simp only [Act.put, List.setIfInBounds_toArray, List.set_cons_zero, List.set_cons_succ]
      refine wpAnyH_take (i := 4) (oi := ⟨_, _, _, _, _, _⟩) (v := ?_) rfl (by kernel_rfl) (by kernel_rfl) (by kernel_rfl) (fun _ _ _ h => h) (Or.inl ⟨by rfl, ?_⟩) (by assumption) ?_
      rotate_left
      · intro w hSw; go_simp; try (with_reducible rfl)
      try simp only [Act.put, List.setIfInBounds_toArray, List.set_cons_zero, List.set_cons_succ]
      refine wpAnyH_take (i := 5) (oi := ⟨_, _, _, _, _, _⟩) (v := ?_) rfl (by kernel_rfl) (by kernel_rfl) (by kernel_rfl) (fun _ _ _ h => h) (Or.inl ⟨by rfl, ?_⟩) (by assumption) ?_
      rotate_left
      · intro w hSw; go_simp; try (with_reducible rfl)
      try simp only [Act.put, List.setIfInBounds_toArray, List.set_cons_zero, List.set_cons_succ]
      refine wpAnyH_take (i := 7) (oi := ⟨_, _, _, _, _, _⟩) (v := ?_) rfl (by kernel_rfl) (by kernel_rfl) (by kernel_rfl) (fun _ _ _ h => h) (Or.inl ⟨by rfl, ?_⟩) (by assumption) ?_
      rotate_left
      · intro w hSw; go_simp; try (with_reducible rfl)
      try simp only [Act.put, List.setIfInBounds_toArray, List.set_cons_zero, List.set_cons_succ]
      refine wpAnyH_ready (rs := [6]) (by kernel_rfl) (by simp) ?_
      refine AllReadyH.cons (o := ⟨_, _, _, _, _, _⟩) rfl (fun K hK => ?_) AllReadyH.nil
      go_simp
      refine (CodecR.clone_calls _ _ _ (os.take mm) CUT.out.drew (by simp; omega)).mono ?_
      rintro e wf ⟨xa, xc, rfl, o1, o2⟩
      have O2 := Lib.hid o1
      have B2 := Lib.hid ((below_drew (Below.refl we.heap.size we)).trans o2)
      clear o1 o2
      refine hK.out _ _ (by exact (Fr.ofBelowAll B2.out (Nat.le_refl _))) (fun hHeld => ?_)
      clear hK
      try simp only [Act.put, List.setIfInBounds_toArray, List.set_cons_zero, List.set_cons_succ]
      refine wpAnyH_take (i := 8) (oi := ⟨_, _, _, _, _, _⟩) (v := ?_) rfl (by kernel_rfl) (by kernel_rfl) (by kernel_rfl) (fun _ _ _ h => h) (Or.inl ⟨by rfl, ?_⟩) (by assumption) ?_
      rotate_left
      · intro w hSw; go_simp; try (with_reducible rfl)
      try simp only [Act.put, List.setIfInBounds_toArray, List.set_cons_zero, List.set_cons_succ]
      refine wpAnyH_ready (rs := [9]) (by kernel_rfl) (by simp) ?_
      refine AllReadyH.cons (o := ⟨_, _, _, _, _, _⟩) rfl (fun K hK => ?_) AllReadyH.nil
      go_simp
      have hlay := lay_calls wf p m (cD d N keep k) n (.slice xa (os.take mm).length xc) (os.take mm) mm (DC.out.below B2.out) hnl (O2.out.byt.mono (fun k _ h => DC.out.fresh k (by have := h.2; exact this))) (by omega) (by rw [HLN.out]; omega)
      unfold nmV fileV at hlay
      rw [HLN.out] at hlay
      have HLY := Lib.hid hlay
      clear hlay
      with_reducible refine HLY.out.mono ?_
      rintro e wg ⟨rfl, d1, f1⟩
      have D1 := Lib.hid d1
      have FS := Lib.hid ((Fr.ofBelowAll B2.out (Nat.le_refl _) : Fr (fun k => k = p ∨ k = m) we wf).trans f1)
      clear d1 f1
      refine hK.out _ _ (by exact FS.out) (fun hHeld => ?_)
      clear hK
      try simp only [Act.put, List.setIfInBounds_toArray, List.set_cons_zero, List.set_cons_succ]
      refine wpAnyH_done (by kernel_rfl) ?_ _
      gi_wp2
      have hss := FS.out.size
      have FAll := Lib.hid (show Fr (fun j => j = p ∨ j = m ∨ j = w.heap.size + 1) A wg from (FAE.out.mono (fun j _ h => .inr (.inr h))).trans (FS.out.mono (fun j _ h => by rcases h with h | h; exact .inl h; exact .inr (.inl h))))
      refine ⟨Rec.fr FAll.out (by omega) (by omega) (by omega), ⟨?_, (KDE.out.fr FS.out (fun e => by rcases e with e | e <;> omega)), (KC.out.fr FS.out (fun e => by rcases e with e | e <;> omega)), ⟨a, c, (KKE.out.fr FS.out (fun e => by rcases e with e | e <;> omega) |> fun h => ?_), ?_⟩, BLE.out.trans (FS.out.below (B := w.heap.size) BLE.out.size (fun j hj => by rcases hj with h | h <;> omega))⟩, own_fr HIT.out FAll.out (fun j hj e => by rcases e with e | e | e <;> omega)⟩
      · have h5 := D1.out
        have h6 : ({ cD d N keep k with fs := putF (cD d N keep k).fs (n, os.take mm, mm) } : Disk) = cD d N keep (k + 1) := by
          unfold cD
          rw [HCS.out]
          unfold crashStep
          rw [HKS.out, HOS.out, HOL.out]
          simp only [List.headD_nil, List.headD_cons, HCUT.out]
        rw [h6] at h5
        exact ⟨h5.k, h5.m⟩
      · have h7 : (crashAll d.fs (N.take (k + 1)) keep).2 = [] := by rw [HCS.out]; unfold crashStep; rw [HKS.out]; rfl
        try dsimp only
        rw [h7]
        exact h
      · have h7 : (crashAll d.fs (N.take (k + 1)) keep).2 = [] := by rw [HCS.out]; unfold crashStep; rw [HKS.out]; rfl
        try dsimp only
        rw [h7]
        exact KIE.out.fr (by omega) FS.out (fun j _ hj e => by rcases e with e | e <;> omega)
    | cons x kt =>
      obtain ⟨bk, off, cap0, hav, hbk, hrg⟩ := Arr.Arr.at KI.out 0 (by simp)
      simp only [Value.slice.injEq] at hav
      obtain ⟨rfl, _, rfl⟩ := hav
      have HCI := Lib.hid (show A.cell? ⟨bk, off, none⟩ = some (.int .i64 x) from by have := hrg 0 _ rfl; simpa using this)
      obtain ⟨a2, c2', _, _, hs3, ht2⟩ := Arr.run_slice_arr (P := Try.prog) elemI KI.out 1 (kt.length + 1) (by omega) (by simp)
      have hsl0 : ∀ w', (Instr.sliceAt 47 (.slice (some ⟨bk, off, none⟩) (kt.length + 1) c) (some (.int .i64 1)) none none).run Try.prog w' = .ok (.slice a2 kt.length c2') w' := fun w' => by
        have := hs3 (by simp) .i64 w'
        simpa using this
      have HTL := Lib.hid (show Ints (fun k => k < w.heap.size) A (.slice a2 kt.length c2') kt from by
        have h8 := ht2
        simp only [List.map_cons, Nat.add_sub_cancel] at h8
        rw [List.take_of_length_le (by simp)] at h8
        exact h8)
      have HXB := Lib.hid (show -9223372036854775808 ≤ x ∧ x ≤ 9223372036854775807 from hks x (crash_mem d.fs (N.take k) keep x (by rw [HKS.out]; simp)))
      have hbkne : ¬ bk = w.heap.size + 1 := by omega
      clear hrg hs3 ht2
      gi_wp2
      have HCK := Lib.hid (show A.drew.cell? ⟨w.heap.size + 1, 0, none⟩ = some (.slice (some ⟨bk, off, none⟩) (kt.length + 1) c) from KK.out.cell (i := 0) rfl)
      clear c1
      try simp only [Act.put, List.setIfInBounds_toArray, List.set_cons_zero, List.set_cons_succ]
      refine wpIn_region_held_drew (S := (fun w' => Fr (fun k => k = w.heap.size + 1) A w')) (by kernel_rfl) (by kernel_rfl) (by rintro ⟨_, _, h⟩; exact h) (Fr.refl _ _).drew (fun hHeld => ?_)
      refine wpAnyH_ready (rs := [0, 3]) (by kernel_rfl) (by simp) ?_
      refine AllReadyH.cons (o := ⟨_, _, _, _, _, _⟩) rfl (fun K hK => ?_) (AllReadyH.cons (o := ⟨_, _, _, _, _, _⟩) rfl (fun K hK => ?_) AllReadyH.nil)
      focus
        have c1 := HCK.out
        go_simp
        refine hK.out _ _ (by exact (Fr.refl _ _).drew) (fun hHeld => ?_)
        clear c1 hK
        try simp only [Act.put, List.setIfInBounds_toArray, List.set_cons_zero, List.set_cons_succ]
        refine wpAnyH_take (i := 1) (oi := ⟨_, _, _, _, _, _⟩) (v := ?_) rfl (by kernel_rfl) (by kernel_rfl) (by kernel_rfl) (fun _ _ _ h => h) (Or.inl ⟨by rfl, ?_⟩) (by assumption) ?_
        rotate_left
        · intro w hSw; go_simp; try (with_reducible rfl)
        try simp only [Act.put, List.setIfInBounds_toArray, List.set_cons_zero, List.set_cons_succ]
        refine wpAnyH_take (i := 2) (oi := ⟨_, _, _, _, _, _⟩) (v := .int .i64 x) rfl (by kernel_rfl) (by kernel_rfl) (by kernel_rfl) (fun _ _ _ h => h) (Or.inl ⟨by rfl, fun w hSw => (by have c := hSw.cell HCI.out hbkne; go_simp; try (with_reducible rfl))⟩) (by assumption) ?_
        try simp only [Act.put, List.setIfInBounds_toArray, List.set_cons_zero, List.set_cons_succ]
        refine wpAnyH_take (i := 5) (oi := ⟨_, _, _, _, _, _⟩) (v := ?_) rfl (by kernel_rfl) (by kernel_rfl) (by kernel_rfl) (fun _ _ _ h => h) (Or.inl ⟨by rfl, ?_⟩) (by assumption) ?_
        rotate_left
        · intro w hSw; go_simp; try (with_reducible rfl)
        try simp only [Act.put, List.setIfInBounds_toArray, List.set_cons_zero, List.set_cons_succ]
        refine wpAnyH_ready (rs := [3]) (by kernel_rfl) (by simp) ?_
        refine AllReadyH.cons (o := ⟨_, _, _, _, _, _⟩) rfl (fun K hK => ?_) AllReadyH.nil
        have c1 := HCK.out
        go_simp
        refine hK.out _ _ (by exact (Fr.refl _ _).drew) (fun hHeld => ?_)
        clear c1 hK
        try simp only [Act.put, List.setIfInBounds_toArray, List.set_cons_zero, List.set_cons_succ]
        refine wpAnyH_take (i := 4) (oi := ⟨_, _, _, _, _, _⟩) (v := ?_) rfl (by kernel_rfl) (by kernel_rfl) (by kernel_rfl) (fun _ _ _ h => h) (Or.inl ⟨by rfl, ?_⟩) (by assumption) ?_
        rotate_left
        · intro w hSw; go_simp; try (with_reducible rfl)
        try simp only [Act.put, List.setIfInBounds_toArray, List.set_cons_zero, List.set_cons_succ]
        refine wpAnyH_ready (rs := [6]) (by kernel_rfl) (by simp) ?_
        refine AllReadyH.cons (o := ⟨_, _, _, _, _, _⟩) rfl (fun K hK => ?_) AllReadyH.nil
        rw [if_pos (by rfl)]
        refine wp_setc _ _ _ rfl (w.heap.size + 1) 0 rfl _ rfl rfl KK.out (by simp) (by kernel_rfl) (fun wb kb fb zb => ?_)
        have KB := Lib.hid kb
        have FB := Lib.hid (show Fr (fun k => k = w.heap.size + 1) A wb from (Fr.refl _ A).drew.trans fb)
        refine hK.out _ _ (by exact FB.out) (fun hHeld => ?_)
        clear kb fb zb hK
        try simp only [Act.put, List.setIfInBounds_toArray, List.set_cons_zero, List.set_cons_succ]
        refine wpAnyH_done (by kernel_rfl) ?_ _
      rotate_left
      focus
        have c1 := HCK.out
        go_simp
        refine hK.out _ _ (by exact (Fr.refl _ _).drew) (fun hHeld => ?_)
        clear c1 hK
        try simp only [Act.put, List.setIfInBounds_toArray, List.set_cons_zero, List.set_cons_succ]
        refine wpAnyH_take (i := 4) (oi := ⟨_, _, _, _, _, _⟩) (v := ?_) rfl (by kernel_rfl) (by kernel_rfl) (by kernel_rfl) (fun _ _ _ h => h) (Or.inl ⟨by rfl, ?_⟩) (by assumption) ?_
        rotate_left
        · intro w hSw; go_simp; try (with_reducible rfl)
        try simp only [Act.put, List.setIfInBounds_toArray, List.set_cons_zero, List.set_cons_succ]
        refine wpAnyH_ready (rs := [0]) (by kernel_rfl) (by simp) ?_
        refine AllReadyH.cons (o := ⟨_, _, _, _, _, _⟩) rfl (fun K hK => ?_) AllReadyH.nil
        have c1 := HCK.out
        go_simp
        refine hK.out _ _ (by exact (Fr.refl _ _).drew) (fun hHeld => ?_)
        clear c1 hK
        try simp only [Act.put, List.setIfInBounds_toArray, List.set_cons_zero, List.set_cons_succ]
        refine wpAnyH_take (i := 1) (oi := ⟨_, _, _, _, _, _⟩) (v := ?_) rfl (by kernel_rfl) (by kernel_rfl) (by kernel_rfl) (fun _ _ _ h => h) (Or.inl ⟨by rfl, ?_⟩) (by assumption) ?_
        rotate_left
        · intro w hSw; go_simp; try (with_reducible rfl)
        try simp only [Act.put, List.setIfInBounds_toArray, List.set_cons_zero, List.set_cons_succ]
        refine wpAnyH_take (i := 2) (oi := ⟨_, _, _, _, _, _⟩) (v := .int .i64 x) rfl (by kernel_rfl) (by kernel_rfl) (by kernel_rfl) (fun _ _ _ h => h) (Or.inl ⟨by rfl, fun w hSw => (by have c := hSw.cell HCI.out hbkne; go_simp; try (with_reducible rfl))⟩) (by assumption) ?_
        try simp only [Act.put, List.setIfInBounds_toArray, List.set_cons_zero, List.set_cons_succ]
        refine wpAnyH_take (i := 5) (oi := ⟨_, _, _, _, _, _⟩) (v := ?_) rfl (by kernel_rfl) (by kernel_rfl) (by kernel_rfl) (fun _ _ _ h => h) (Or.inl ⟨by rfl, ?_⟩) (by assumption) ?_
        rotate_left
        · intro w hSw; go_simp; try (with_reducible rfl)
        try simp only [Act.put, List.setIfInBounds_toArray, List.set_cons_zero, List.set_cons_succ]
        refine wpAnyH_ready (rs := [6]) (by kernel_rfl) (by simp) ?_
        refine AllReadyH.cons (o := ⟨_, _, _, _, _, _⟩) rfl (fun K hK => ?_) AllReadyH.nil
        rw [if_pos (by rfl)]
        refine wp_setc _ _ _ rfl (w.heap.size + 1) 0 rfl _ rfl rfl KK.out (by simp) (by kernel_rfl) (fun wb kb fb zb => ?_)
        have KB := Lib.hid kb
        have FB := Lib.hid (show Fr (fun k => k = w.heap.size + 1) A wb from (Fr.refl _ A).drew.trans fb)
        refine hK.out _ _ (by exact FB.out) (fun hHeld => ?_)
        clear kb fb zb hK
        try simp only [Act.put, List.setIfInBounds_toArray, List.set_cons_zero, List.set_cons_succ]
        refine wpAnyH_done (by kernel_rfl) ?_ _
      all_goals
        clear c0 c2
        have M1B := Lib.hid (M1.out.fr FB.out (by omega))
        have c0 := (KD.out.fr FB.out (by omega)).cell (i := 0) rfl
        have c2 := (HRA.out.k.fr FB.out (by omega)).cell (i := 2) rfl
        have hsb := FB.out.size
        gi_wp2_with (first
          | ((with_reducible refine wpListIn_look rfl _ _ 89 false rfl 94 keyedS Try.underlying89 (zeroFile _) rfl M1B.out (nmV n) kl rfl HKL.out r HR2.out ?_); rw [if_neg (by decide), HRV.out])
          | ((with_reducible refine wpListIn_alloc rfl _ rfl _ (HZ.out _) (fun wa ka ca za => ?_)); have KA := Lib.hid ka; have CA := Lib.hid ca; clear ka ca)
          | ((with_reducible refine wpListIn_put rfl _ _ _ rfl wb.heap.size [Value.slice oa os.length oc, .int .i64 (olast : Int)] _ rfl rfl KA.out (HSZ.out _) rfl HON.out (fun we ke fe ze => ?_)); have KE := Lib.hid ke; have CE := Lib.hid (show Below wb.heap.size wb we from CA.out.trans (fe.below CA.out.size (fun k hk => by have hk : k = wb.heap.size := hk; omega))); have d0 := ke.cell (i := 0) rfl; have d1 := ke.cell (i := 1) rfl; clear ke fe))
        have OBE := Lib.hid (show Byt Any we (.slice oa os.length oc) os from (HOB.out.fr FB.out (fun j _ h e => by have e : j = w.heap.size + 1 := e; omega)).any.below CE.out)
        have DC := Lib.hid ((DA.out.fr FB.out (by omega) (by omega) (fun j _ hj e => by omega)).below CE.out)
        have KC := Lib.hid ((KC0.out.fr FB.out (by omega)).below CE.out)
        have KF := KE
        have KDE := Lib.hid ((KD.out.fr FB.out (by omega)).below CE.out)
        have KKE := Lib.hid ((show Blk wb (w.heap.size + 1) [.slice a2 kt.length c2'] 47 from KB.out).below CE.out)
        have KIE := Lib.hid (show Ints (fun k => k < w.heap.size) we _ _ from (HTL.out.fr (by omega) FB.out (fun j _ hj e => by omega)).below (by omega) CE.out)
        have BLE := Lib.hid ((BL.out.trans (FB.out.below (B := w.heap.size) BL.out.size (fun j hj => by omega))).trans (CE.out.mono (by have := BL.out.size; omega)))
        have FAE := Lib.hid (show Fr (fun j => j = w.heap.size + 1) A we from FB.out.trans (Fr.ofBelowAll CE.out (Nat.le_refl _)))
        have hse := CE.out.size
        have hxb := HXB.out
        clear KA CA
        have hcut : ((olast : Int) + min (max x 0) ((os.length : Int) - (olast : Int)) : Int) = ((cutK os.length olast x : Nat) : Int) := by unfold cutK; omega
        have HMM := Lib.hid (show cutK os.length olast x ≤ os.length from by unfold cutK; omega)
        obtain ⟨mm, hmm⟩ : ∃ mm, cutK os.length olast x = mm := ⟨_, rfl⟩
        rw [hcut]
        rw [hmm] at HMM ⊢
        have HCUT := Lib.hid hmm
        clear hcut hmm d0 d1
        have hmo := HMM.out
        obtain ⟨ca, cc, hsl, cut⟩ := run_slice_hi (P := Try.prog) CodecW.elemB OBE.out mm hmo
        have CUT := Lib.hid cut.any
        have HLN := Lib.hid (show (os.take mm).length = mm from by simp; omega)
        have hus : usedF (cD d N keep k).fs ≤ 1152921504606846976 := by
          have h1 := HUS.out
          have h2 : (N.take k).length * usedF d.fs ≤ 1048576 * 1099511627776 := Nat.mul_le_mul (by simp; omega) hu
          have h3 : usedF (cD d N keep k).fs = usedF ((N.take k).foldl (crashStep d.fs) ([], keep)).1 := rfl
          have h4 : usedF ([] : List XF) = 0 := rfl
          try dsimp only at h1
          omega
        clear cut
        try simp only [Act.put, List.setIfInBounds_toArray, List.set_cons_zero, List.set_cons_succ]
        refine wpIn_region_held_drew (S := (fun w' => Fr (fun k => k = p ∨ k = m) we w')) (by kernel_rfl) (by kernel_rfl) (by rintro ⟨_, _, h⟩; exact h) (Fr.refl _ _).drew (fun hHeld => ?_)
        refine wpAnyH_take (i := 0) (oi := ⟨_, _, _, _, _, _⟩) (v := .pointer (some ⟨p, 0, none⟩)) rfl (by kernel_rfl) (by kernel_rfl) (by kernel_rfl) (fun _ _ _ h => h) (Or.inl ⟨by rfl, fun w hSw => (by have c := (KC.out.fr hSw (fun e => by rcases e with e | e <;> omega)).cell (i := 0) rfl; go_simp; try (with_reducible rfl))⟩) (by assumption) ?_
        try simp only [Act.put, List.setIfInBounds_toArray, List.set_cons_zero, List.set_cons_succ]
        refine wpAnyH_take (i := 1) (oi := ⟨_, _, _, _, _, _⟩) (v := ?_) rfl (by kernel_rfl) (by kernel_rfl) (by kernel_rfl) (fun _ _ _ h => h) (Or.inl ⟨by rfl, ?_⟩) (by assumption) ?_
        rotate_left
        · intro w hSw; go_simp; try (with_reducible rfl)
        try simp only [Act.put, List.setIfInBounds_toArray, List.set_cons_zero, List.set_cons_succ]
        refine wpAnyH_take (i := 2) (oi := ⟨_, _, _, _, _, _⟩) (v := ?_) rfl (by kernel_rfl) (by kernel_rfl) (by kernel_rfl) (fun _ _ _ h => h) (Or.inl ⟨by rfl, ?_⟩) (by assumption) ?_
        rotate_left
        · intro w hSw; go_simp; try (with_reducible rfl)
        try simp only [Act.put, List.setIfInBounds_toArray, List.set_cons_zero, List.set_cons_succ]
        refine wpAnyH_take (i := 3) (oi := ⟨_, _, _, _, _, _⟩) (v := .slice oa os.length oc) rfl (by kernel_rfl) (by kernel_rfl) (by kernel_rfl) (fun _ _ _ h => h) (Or.inl ⟨by rfl, fun w hSw => (by have c := (KF.out.fr hSw (fun e => by rcases e with e | e <;> omega)).cell (i := 0) rfl; go_simp; try (with_reducible rfl))⟩) (by assumption) ?_
        try simp only [Act.put, List.setIfInBounds_toArray, List.set_cons_zero, List.set_cons_succ]
        refine wpAnyH_take (i := 4) (oi := ⟨_, _, _, _, _, _⟩) (v := ?_) rfl (by kernel_rfl) (by kernel_rfl) (by kernel_rfl) (fun _ _ _ h => h) (Or.inl ⟨by rfl, ?_⟩) (by assumption) ?_
        rotate_left
        · intro w hSw; go_simp; try (with_reducible rfl)
        try simp only [Act.put, List.setIfInBounds_toArray, List.set_cons_zero, List.set_cons_succ]
        refine wpAnyH_take (i := 5) (oi := ⟨_, _, _, _, _, _⟩) (v := ?_) rfl (by kernel_rfl) (by kernel_rfl) (by kernel_rfl) (fun _ _ _ h => h) (Or.inl ⟨by rfl, ?_⟩) (by assumption) ?_
        rotate_left
        · intro w hSw; go_simp; try (with_reducible rfl)
        try simp only [Act.put, List.setIfInBounds_toArray, List.set_cons_zero, List.set_cons_succ]
        refine wpAnyH_take (i := 7) (oi := ⟨_, _, _, _, _, _⟩) (v := ?_) rfl (by kernel_rfl) (by kernel_rfl) (by kernel_rfl) (fun _ _ _ h => h) (Or.inl ⟨by rfl, ?_⟩) (by assumption) ?_
        rotate_left
        · intro w hSw; go_simp; try (with_reducible rfl)
        try simp only [Act.put, List.setIfInBounds_toArray, List.set_cons_zero, List.set_cons_succ]
        refine wpAnyH_ready (rs := [6]) (by kernel_rfl) (by simp) ?_
        refine AllReadyH.cons (o := ⟨_, _, _, _, _, _⟩) rfl (fun K hK => ?_) AllReadyH.nil
        go_simp
        refine (CodecR.clone_calls _ _ _ (os.take mm) CUT.out.drew (by simp; omega)).mono ?_
        rintro e wf ⟨xa, xc, rfl, o1, o2⟩
        have O2 := Lib.hid o1
        have B2 := Lib.hid ((below_drew (Below.refl we.heap.size we)).trans o2)
        clear o1 o2
        refine hK.out _ _ (by exact (Fr.ofBelowAll B2.out (Nat.le_refl _))) (fun hHeld => ?_)
        clear hK
        try simp only [Act.put, List.setIfInBounds_toArray, List.set_cons_zero, List.set_cons_succ]
        refine wpAnyH_take (i := 8) (oi := ⟨_, _, _, _, _, _⟩) (v := ?_) rfl (by kernel_rfl) (by kernel_rfl) (by kernel_rfl) (fun _ _ _ h => h) (Or.inl ⟨by rfl, ?_⟩) (by assumption) ?_
        rotate_left
        · intro w hSw; go_simp; try (with_reducible rfl)
        try simp only [Act.put, List.setIfInBounds_toArray, List.set_cons_zero, List.set_cons_succ]
        refine wpAnyH_ready (rs := [9]) (by kernel_rfl) (by simp) ?_
        refine AllReadyH.cons (o := ⟨_, _, _, _, _, _⟩) rfl (fun K hK => ?_) AllReadyH.nil
        go_simp
        have hlay := lay_calls wf p m (cD d N keep k) n (.slice xa (os.take mm).length xc) (os.take mm) mm (DC.out.below B2.out) hnl (O2.out.byt.mono (fun k _ h => DC.out.fresh k (by have := h.2; exact this))) (by omega) (by rw [HLN.out]; omega)
        unfold nmV fileV at hlay
        rw [HLN.out] at hlay
        have HLY := Lib.hid hlay
        clear hlay
        with_reducible refine HLY.out.mono ?_
        rintro e wg ⟨rfl, d1, f1⟩
        have D1 := Lib.hid d1
        have FS := Lib.hid ((Fr.ofBelowAll B2.out (Nat.le_refl _) : Fr (fun k => k = p ∨ k = m) we wf).trans f1)
        clear d1 f1
        refine hK.out _ _ (by exact FS.out) (fun hHeld => ?_)
        clear hK
        try simp only [Act.put, List.setIfInBounds_toArray, List.set_cons_zero, List.set_cons_succ]
        refine wpAnyH_done (by kernel_rfl) ?_ _
        gi_wp2
        have hss := FS.out.size
        have FAll := Lib.hid (show Fr (fun j => j = p ∨ j = m ∨ j = w.heap.size + 1) A wg from (FAE.out.mono (fun j _ h => .inr (.inr h))).trans (FS.out.mono (fun j _ h => by rcases h with h | h; exact .inl h; exact .inr (.inl h))))
        refine ⟨Rec.fr FAll.out (by omega) (by omega) (by omega), ⟨?_, (KDE.out.fr FS.out (fun e => by rcases e with e | e <;> omega)), (KC.out.fr FS.out (fun e => by rcases e with e | e <;> omega)), ⟨a2, c2', (KKE.out.fr FS.out (fun e => by rcases e with e | e <;> omega) |> fun h => ?_), ?_⟩, BLE.out.trans (FS.out.below (B := w.heap.size) BLE.out.size (fun j hj => by rcases hj with h | h <;> omega))⟩, own_fr HIT.out FAll.out (fun j hj e => by rcases e with e | e | e <;> omega)⟩
        · have h5 := D1.out
          have h6 : ({ cD d N keep k with fs := putF (cD d N keep k).fs (n, os.take mm, mm) } : Disk) = cD d N keep (k + 1) := by
            unfold cD
            rw [HCS.out]
            unfold crashStep
            rw [HKS.out, HOS.out, HOL.out]
            simp only [List.headD_nil, List.headD_cons, HCUT.out]
          rw [h6] at h5
          exact ⟨h5.k, h5.m⟩
        · have h7 : (crashAll d.fs (N.take (k + 1)) keep).2 = kt := by rw [HCS.out]; unfold crashStep; rw [HKS.out]; rfl
          try dsimp only
          rw [h7]
          exact h
        · have h7 : (crashAll d.fs (N.take (k + 1)) keep).2 = kt := by rw [HCS.out]; unfold crashStep; rw [HKS.out]; rfl
          try dsimp only
          rw [h7]
          exact KIE.out.fr (by omega) FS.out (fun j _ hj e => by rcases e with e | e <;> omega)
  case done =>
    rintro ⟨k, u⟩ W hE ⟨⟨kp, l, ml, fl⟩, kd, kc, ⟨a, c, kk, ki⟩, bl⟩ hk
    have hE : k = N.length := hE
    subst hE
    dsimp only at kp fl ⊢
    have cv := kc.cell (i := 0) rfl
    have hlw : w4.heap.size < W.heap.size := (Array.getElem?_eq_some_iff.1 hk).1
    have HK := Lib.hid hk
    have KP := Lib.hid kp
    have ML := Lib.hid ml
    have FL := Lib.hid fl
    have BL := Lib.hid bl
    clear kp ml fl kd kc kk ki bl hk
    gi_wp2
    refine ⟨by simp, .inl ⟨_, _, rfl, run_takeDeferred HK.out, ?_⟩⟩
    have HF := Lib.hid (Fr.putObj (S := fun j => j = w4.heap.size) W w4.heap.size (.deferred none) rfl)
    refine ⟨_, results_tmp rfl _ _ _, p, m, rfl, by omega, by omega, ?_, BL.out.trans (HF.out.below (B := w.heap.size) BL.out.size (fun j hj => by omega))⟩
    have hcd : cD d N keep N.length = crashD d keep := by unfold cD crashD; rw [List.take_length, HN.out]
    rw [← hcd]
    refine ⟨KP.out.fr HF.out (by omega), ⟨l, ML.out.fr HF.out (by omega), (FL.out.fr HF.out (fun j _ hj e => by omega)).mono (fun j _ hj => ⟨HR.out.fresh j (by omega), by omega, by omega⟩)⟩, hpm, ⟨fun e => e.2.1 rfl, fun e => e.2.2 rfl⟩, fun j hj => ?_⟩
    have := HF.out.size
    exact ⟨HR.out.fresh j (by omega), by omega, by omega⟩
  case stop =>
    intro c s W h
    exact h.elim
end Go.Proofs.Ytjdohjoljobinaa.Dx
