/- The walks of codec's Put of changes, and of the reference's body and heavy. Conditions: at most 4096 changes, none wrong, of at most 2^24 bytes. -/
import Derived.Test.YtjdohjoljobinaaFrA
import Derived.Test.YtjdohjoljobinaaCodecN
namespace Go.Proofs.Ytjdohjoljobinaa.Fra
open Go Go.RowKit Mem Codec CodecW Ops Reps Arr
set_option linter.unusedVariables false
set_option linter.unusedSimpArgs false

theorem zeroC (w : World) : (zeroValue 70).run Try.prog w = .ok (.agg [Value.slice none 0 0, .slice none 0 0, .bool false].toArray) w := by kernel_rfl
theorem szC {cs : List Value} (h : cs.length = 3) : (Try.prog.info? 70).map (·.size) = some cs.length := by rw [h]; kernel_rfl
theorem body_le {l : List XCh} (hn : l.length ≤ 4096) (hr : ∀ c ∈ l, rightE c = 0) (ht : tot l ≤ 16777216) (n : Nat) : (var l.length ++ (l.take n).flatMap encCh).length ≤ 17117193 := by
  have h1 : (var l.length).length ≤ 9 := by rw [var_length]; exact vlen_le _
  have h2 := encs_le (l := l.take n) (fun c hc => hr c (List.mem_of_mem_take hc))
  have h3 := tot_le l n
  rw [List.length_append]
  have : (l.take n).length ≤ l.length := by simp; omega
  omega
theorem body_succ {l : List XCh} {n : Nat} {c : XCh} (hc : l[n]? = some c) : (l.take (n + 1)).flatMap encCh = (l.take n).flatMap encCh ++ encCh c := by
  rw [List.take_add_one, hc]
  simp
theorem put_le {c : XCh} {l : List XCh} (hr : ∀ c ∈ l, rightE c = 0) (ht : tot l ≤ 16777216) {n : Nat} (hc : l[n]? = some c) : c.1.length ≤ 64 ∧ putLen c ≤ 16777216 := by
  have h1 := hr c (List.mem_of_getElem? hc)
  have h2 := tot_take hc
  have h3 := tot_le l (n + 1)
  refine ⟨?_, by omega⟩
  unfold rightE at h1
  split at h1
  · cases h1
  · rename_i h; omega

set_option maxHeartbeats 4000000 in
set_option maxRecDepth 100000 in
theorem cput_calls (w0 w : World) (S : Nat → Prop) (q : Nat) (va : Value) (l : List XCh) (hA : Sl 3 RCh Any w0 va l) (hb : Below w0.heap.size w0 w) (H : WriterIs S w q []) (hS : ∀ k, S k → w0.heap.size ≤ k) (hn : l.length ≤ 4096) (hr : ∀ c ∈ l, rightE c = 0) (ht : tot l ≤ 16777216) :
    Calls Try.prog 33 #[.pointer (some ⟨q, 0, none⟩), va, .func (.func 34) #[] #[]] w fun e w' => e = .returned (.tuple #[]) ∧ WriterIs (Plus S w w') w' q (bodyF l) ∧ Fr S w w' := by
  obtain ⟨a1, a2, rfl, hka, hkm, _⟩ := hA.form
  have HA := Lib.hid (hA.mono rep_Ch (E := fun k => k < w0.heap.size) (fun k h _ => h))
  have HB := Lib.hid hb
  have HS := Lib.hid hS
  have H0 := Lib.hid H
  have HR := Lib.hid hr
  have HT := Lib.hid ht
  have hbs := hb.size
  unfold maxLen at hkm
  clear hA hb hS H hr ht
  go_enter Try.func33, Try.ntmps33
  have hwr : IntKind.u64.wrap (l.length : Int) = (l.length : Int) := by rw [IntKind.wrap_u64]; omega
  go_wp2_with fail
  refine (CodecW.var_calls S w q [] l.length (by omega) H0.out (by simp)).mono ?_
  rintro e w1 ⟨rfl, g1, g2⟩
  rw [List.nil_append] at g1
  have HW := Lib.hid g1
  have HF := Lib.hid g2
  clear g1 g2 H0
  go_wp2
  go_loopw [15] (fun i wx => ∃ (n : Nat) (m : List UInt8), n ≤ l.length ∧ i = .int .i64 n ∧ m = var l.length ++ (l.take n).flatMap encCh ∧ WriterIs (Plus S w wx) wx q m ∧ Fr S w wx) (fun i _ => l.length - (intOf i).toNat)
  case atStart => exact ⟨0, var l.length, by omega, rfl, by simp, HW.out, HF.out⟩
  case round =>
    obtain ⟨n, m, hn1, rfl, hm, hW, hF⟩ := hrel
    have HM := Lib.hid hm
    have HW2 := Lib.hid hW
    have HF2 := Lib.hid hF
    have hsz := hF.size
    clear hm hW hF
    by_cases hlt : n < l.length
    · have hltI : (n : Int) < (l.length : Int) := by omega
      have h0I : (0 : Int) ≤ (n : Int) := by omega
      obtain ⟨bb, ob, cap', cs, e0, hbo, hrx, hmx⟩ := HA.out.at n hlt
      cases e0
      have HBW := Lib.hid (HB.out.trans (HF2.out.below hbs (fun k h => HS.out k h)))
      obtain ⟨c, hc⟩ : ∃ c, l[n]'hlt = c := ⟨_, rfl⟩
      rw [hc] at hmx
      have hcl : l[n]? = some c := by rw [List.getElem?_eq_getElem hlt, hc]
      have HCS := Lib.hid (rep_Ch.len hmx)
      have HONE := Lib.hid (rep_Ch.one hmx)
      have HSZ := Lib.hid (szC HCS.out)
      have HZ := Lib.hid (show [Value.slice none 0 0, .slice none 0 0, .bool false].length = cs.length from by rw [HCS.out]; rfl)
      have HRX := Lib.hid (show wr.rangeAt bb (ob + n * 3) cs from rangeAt_fr hrx (Fr.ofBelow HBW.out) (by omega))
      have HCW := Lib.hid (show RCh (fun k => k < w0.heap.size) wr cs c from rep_Ch.mono (rep_Ch.below hmx HBW.out) (fun _ _ h => h))
      have HPL := Lib.hid (put_le HR.out HT.out hcl)
      have HX := Lib.hid (show var l.length ++ (l.take (n + 1)).flatMap encCh = m ++ encCh c from by rw [HM.out, body_succ hcl, List.append_assoc])
      have hml : m.length ≤ 17117193 := by rw [HM.out]; exact body_le hn HR.out HT.out n
      clear hc hcl hrx hmx
      go_upto_region 4 with (first
        | (with_reducible refine wpList_load_mid rfl _ _ rfl bb (ob + n * 3) rfl cs _ HRX.out Try.underlying70 rfl HSZ.out ?_)
        | ((with_reducible refine wpList_alloc rfl _ rfl _ (zeroC _) (fun wa ka ca za => ?_)); have KA := Lib.hid ka; have CA := Lib.hid ca; clear ka ca)
        | ((with_reducible refine wpList_put rfl _ _ _ rfl wr.heap.size cs _ rfl rfl KA.out HSZ.out HZ.out HONE.out (fun wb kb fb zb => ?_)); have KB := Lib.hid kb; have CB := Lib.hid (show Below wr.heap.size wr wb from CA.out.trans (fb.below CA.out.size (fun k hk => by have hk : k = wr.heap.size := hk; omega))); clear kb fb))
      have hbz := CB.out.size
      have HWB := Lib.hid (show WriterIs (Plus S w wr) wb q m from HW2.out.below CB.out)
      have HCB := Lib.hid (rep_Ch.below HCW.out CB.out)
      clear KA CA za zb HRX
      go_wp2_with (first
        | (with_reducible refine wpList_load_blk rfl _ _ rfl wr.heap.size cs rfl KB.out _ Try.underlying70 rfl HSZ.out ?_))
      refine (put_calls (Plus S w wr) (fun k => k < w0.heap.size) wb q m cs c HWB.out HCB.out (fun k _ h1 h2 => by rcases h2 with h2 | h2; have := HS.out k h2; omega; omega) (by have := HPL.out; omega)).mono ?_
      rintro e w7 ⟨rfl, g1, g2⟩
      have hs7 := g2.size
      have HW7 := Lib.hid (show WriterIs (Plus S w w7) w7 q (m ++ encCh c) from g1.mono (fun k _ h => by rcases h with (h | h) | h; exact .inl h; exact .inr ⟨h.1, by omega⟩; exact .inr ⟨by omega, h.2⟩))
      have HF7 := Lib.hid (show Fr S w w7 from HF2.out.trans' (T := Plus S w wr) ((Fr.ofBelowAll CB.out (Nat.le_refl _)).trans g2) (fun i hi h => by rcases h with h | h; exact h; omega))
      clear g1 g2 HW2 HF2 HCB HWB HBW
      go_wp2
      go_roundw
      case rel => exact ⟨n + 1, m ++ encCh c, by omega, by go_num, HX.out.symm, HW7.out, HF7.out⟩
      case measure => simp [intOf]; omega
    · obtain rfl : n = l.length := by omega
      have hmm : bodyF l = m := by rw [HM.out, List.take_length]; rfl
      have HMM := Lib.hid hmm
      clear hmm HM
      go_wp2
      go_end0
      exact ⟨rfl, by rw [HMM.out]; exact HW2.out, HF2.out⟩
end Go.Proofs.Ytjdohjoljobinaa.Fra
