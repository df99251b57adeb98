/- The walks of the disk's named and Read. Condition: a name is a text. -/
import Derived.Test.YtjdohjoljobinaaDxB
namespace Go.Proofs.Ytjdohjoljobinaa.Dx
open Go Go.RowKit Mem Maps Ops Reps
open Go.Maps (Keyed string_keyed)
set_option linter.unusedVariables false
set_option linter.unusedSimpArgs false

def okc (c : UInt8) : Bool := decide (33 ≤ c.toNat) && decide (c.toNat ≤ 126)
def okName (n : Nm) : Bool := n.all okc && (decide (0 < n.length) && decide (n.length ≤ 32))
theorem run_at (n : Nm) (k : Nat) (hk : k < n.length) (w : World) : (Instr.index 9 (.string ⟨n.toArray⟩) (.int .i64 (k : Int))).run Try.prog w = .ok (.int .u8 ((n[k]'hk).toNat : Int)) w := by
  have h1 : (⟨n.toArray⟩ : ByteArray)[k]? = some (n[k]'hk) := by
    have : k < (⟨n.toArray⟩ : ByteArray).size := hk
    rw [getElem?_pos (⟨n.toArray⟩ : ByteArray) k this]
    rfl
  simp [Instr.index, asIntOf, run_underlying Try.underlying9, h1, Result.andThen]
set_option maxHeartbeats 4000000 in
set_option maxRecDepth 100000 in
theorem named_calls (w : World) (n : Nm) (hn : n.length ≤ maxLen) : Calls Try.prog 51 #[nmV n] w fun e w' => e = .returned (.bool (okName n)) ∧ w = w' := by
  unfold maxLen at hn
  have hsz : (⟨n.toArray⟩ : ByteArray).size = n.length := by simp [ByteArray.size]
  unfold nmV
  go_enter Try.func51, Try.ntmps51
  go_wp2
  go_loopw [6] (fun i wx => ∃ k : Nat, k ≤ n.length ∧ i = .int .i64 k ∧ (n.take k).all okc = true ∧ wx = w) (fun i _ => n.length - (intOf i).toNat)
  case atStart => exact ⟨0, by omega, rfl, by simp, rfl⟩
  case round =>
    obtain ⟨k, hk, rfl, ha, rfl⟩ := hrel
    have HA := Lib.hid ha
    clear ha
    by_cases hlt : k < n.length
    · have hltI : (k : Int) < (n.length : Int) := by omega
      have h0I : (0 : Int) ≤ (k : Int) := by omega
      have hix := fun w' => run_at n k hlt w'
      obtain ⟨c, hc⟩ : ∃ c, n[k]'hlt = c := ⟨_, rfl⟩
      rw [hc] at hix
      have HCL := Lib.hid (show n[k]? = some c from by rw [List.getElem?_eq_getElem hlt, hc])
      have hcl := c.toNat_lt
      clear hc
      by_cases h1 : c.toNat < 33
      · have h1I : (c.toNat : Int) < 33 := by omega
        have HF := Lib.hid (show okName n = false from by
          unfold okName
          have : n.all okc = false := by
            rw [List.all_eq_false]
            exact ⟨c, List.mem_of_getElem? HCL.out, by simp [okc]; omega⟩
          rw [this]; rfl)
        go_wp2
        go_ret
        exact ⟨by rw [HF.out]; rfl, rfl⟩
      have h1I : ¬ (c.toNat : Int) < 33 := by omega
      by_cases h2 : 126 < c.toNat
      · have h2I : (126 : Int) < (c.toNat : Int) := by omega
        have HF := Lib.hid (show okName n = false from by
          unfold okName
          have : n.all okc = false := by
            rw [List.all_eq_false]
            exact ⟨c, List.mem_of_getElem? HCL.out, by simp [okc]; omega⟩
          rw [this]; rfl)
        go_wp2
        go_ret
        exact ⟨by rw [HF.out]; rfl, rfl⟩
      have h2I : ¬ (126 : Int) < (c.toNat : Int) := by omega
      go_wp2
      go_roundw
      case rel => exact ⟨k + 1, by omega, by go_num, by rw [List.take_add_one, HCL.out]; simp [HA.out, okc]; omega, trivial⟩
      case measure => simp [intOf]; omega
    · obtain rfl : k = n.length := by omega
      have hall : n.all okc = true := by have := HA.out; rwa [List.take_length] at this
      by_cases h0 : n = []
      · have HF := Lib.hid (show okName n = false from by rw [h0]; rfl)
        have hb : ((⟨n.toArray⟩ : ByteArray) == ⟨#[]⟩) = true := by rw [h0]; rfl
        have hb2 : (⟨n.toArray⟩ : ByteArray) = ⟨#[]⟩ := by rw [h0]
        go_wp2
        go_ret
        exact ⟨by rw [HF.out]; rfl, rfl⟩
      · have hl0 : 0 < n.length := List.length_pos_iff.2 h0
        have hem : n.isEmpty = false := by cases n with | nil => exact absurd rfl h0 | cons a r => rfl
        by_cases h3 : n.length ≤ 32
        · have h3I : (n.length : Int) ≤ 32 := by omega
          have HF := Lib.hid (show okName n = true from by unfold okName; rw [hall]; simp [hl0, h3])
          clear hall
          go_wp2
          go_ret
          exact ⟨by rw [HF.out]; rfl, rfl⟩
        · have h3I : ¬ (n.length : Int) ≤ 32 := by omega
          have HF := Lib.hid (show okName n = false from by unfold okName; rw [hall]; simp [h3])
          clear hall
          go_wp2
          go_ret
          exact ⟨by rw [HF.out]; rfl, rfl⟩
def bytesF (fs : List XF) (n : Nm) : List UInt8 := ((lookF fs n).map (·.1)).getD []
/-- Read's bytes are the caller's own -/
def ReadO (w : World) (d : Disk) (n : Nm) (e : Ending) (w' : World) : Prop := ∃ a c, e = .returned (.tuple #[.slice a (bytesF d.fs n).length c, .bool (lookF d.fs n).isSome]) ∧ OwnB w.heap.size 5 w' (.slice a (bytesF d.fs n).length c) (bytesF d.fs n) ∧ Below w.heap.size w w'
def ReadT (w : World) (d : Disk) (n : Nm) (e : Ending) (w' : World) : Prop := ∃ v, e = .returned (.tuple #[v, .bool (lookF d.fs n).isSome]) ∧ Byt (fun k => w.heap.size ≤ k) w' v (bytesF d.fs n) ∧ Below w.heap.size w w'
set_option maxHeartbeats 4000000 in
set_option maxRecDepth 100000 in
theorem readO_calls (w : World) (q b : Nat) (d : Disk) (n : Nm) {D : Nat → Prop} (H : DkIs D w q b d) (hn : n.length ≤ maxLen) (hl : (bytesF d.fs n).length ≤ 140737488355328) :
    Calls Try.prog 15 #[.pointer (some ⟨q, 0, none⟩), nmV n] w (ReadO w d n) := by
  obtain ⟨kl, hkl⟩ := key_str n hn
  have HKL := Lib.hid hkl
  obtain ⟨l, m1, fi⟩ := H.m
  have M1 := Lib.hid m1
  obtain ⟨r, ov, olast, hr, hrv, hx1, hob, hx2, hx3⟩ := look_file n fi
  obtain ⟨oa, oc, rfl, _⟩ := id hob
  have c2 := H.k.cell (i := 2) rfl
  have HR := Lib.hid hr
  obtain ⟨bs, hbs⟩ : ∃ x, bytesF d.fs n = x := ⟨_, rfl⟩
  have HBS := Lib.hid hbs
  have hbs2 : ((lookF d.fs n).map (·.1)).getD [] = bs := hbs
  rw [hbs2] at hob hrv
  obtain ⟨is, his⟩ : ∃ x, (lookF d.fs n).isSome = x := ⟨_, rfl⟩
  have HIS := Lib.hid his
  have HRV := Lib.hid (show (if true = true then Value.tuple #[r.getD (.agg #[.slice none 0 0, .int .i64 0]), .bool r.isSome] else r.getD (.agg #[.slice none 0 0, .int .i64 0])) = .tuple #[.agg [Value.slice oa bs.length oc, .int .i64 (olast : Int)].toArray, .bool is] from by rw [if_pos rfl, hrv, hx1, his]; rfl)
  have HOB := Lib.hid hob
  rw [hbs] at hl
  have HSZ := Lib.hid (show (Try.prog.info? 94).map (·.size) = some [Value.slice oa bs.length oc, .int .i64 (olast : Int)].length from by kernel_rfl)
  have HON := Lib.hid (show ∀ v ∈ [Value.slice oa bs.length oc, .int .i64 (olast : Int)], v.oneCell' = true from fun v hv => by
    rcases List.mem_cons.1 hv with rfl | hv
    · rfl
    · rw [List.mem_singleton.1 hv]; rfl)
  have hz2 : (zeroValue 94).run Try.prog w = .ok (.agg [Value.slice none 0 0, .int .i64 0].toArray) w := zeroFile w
  have HZ2 := Lib.hid hz2
  clear hkl m1 fi hr hrv hx1 hob hx2 hx3 H hbs hbs2 his hz2
  unfold nmV
  go_enter Try.func15, Try.ntmps15
  go_upto_region 2 with (first
    | ((with_reducible refine wpList_look rfl _ _ 89 true rfl 94 keyedS Try.underlying89 (zeroFile _) rfl M1.out (nmV n) kl rfl HKL.out r HR.out ?_); rw [HRV.out])
    | ((with_reducible refine wpList_alloc rfl _ rfl _ (zeroFile _) (fun wa ka ca za => ?_)); have KA := Lib.hid ka; have CA := Lib.hid ca; clear ka ca)
    | ((with_reducible refine wpList_put rfl _ _ _ rfl w.heap.size [Value.slice oa bs.length oc, .int .i64 (olast : Int)] _ rfl rfl KA.out HSZ.out rfl HON.out (fun wb kb fb zb => ?_)); have KB := Lib.hid kb; have CB := Lib.hid (show Below w.heap.size w wb from CA.out.trans (fb.below CA.out.size (fun k hk => by have hk : k = w.heap.size := hk; omega))); clear kb fb))
  have c0 := KB.out.cell (i := 0) rfl
  have HBB := Lib.hid (HOB.out.any.below CB.out)
  have hsb := CB.out.size
  clear KA CA za zb
  go_wp2_with fail
  refine (CodecR.clone_calls _ wb _ bs HBB.out hl).mono ?_
  rintro e w5 ⟨xa, xc, rfl, o1, o2⟩
  have O5 := Lib.hid (show OwnB w.heap.size 5 w5 (.slice xa bs.length xc) bs from o1.mono hsb)
  have B5 := Lib.hid (CB.out.trans (o2.mono hsb))
  clear o1 o2
  go_wp2
  go_ret2
  exact ⟨xa, xc, by rw [HIS.out, HBS.out]; rfl, by rw [HBS.out]; exact O5.out, B5.out⟩
theorem read_calls (w : World) (q b : Nat) (d : Disk) (n : Nm) {D : Nat → Prop} (H : DkIs D w q b d) (hn : n.length ≤ maxLen) (hl : (bytesF d.fs n).length ≤ 140737488355328) :
    Calls Try.prog 15 #[.pointer (some ⟨q, 0, none⟩), nmV n] w (ReadT w d n) :=
  (readO_calls w q b d n H hn hl).mono fun e w' ⟨a, c, h1, h2, h3⟩ => ⟨_, h1, h2.byt.mono (fun k _ h => h.2), h3⟩
end Go.Proofs.Ytjdohjoljobinaa.Dx
