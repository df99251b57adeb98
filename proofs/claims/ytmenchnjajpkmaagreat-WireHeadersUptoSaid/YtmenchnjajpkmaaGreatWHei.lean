/- Walks of the wire's writer, and of the reference's, at a header. Condition: the bytes are at most 2^47. The walks of the reference's R.header and ReadHeader. Condition: the bytes are at most 2^47. What WireHeaders asks of headers. No condition. The walk of WireHeaders. Condition: the header, told in bytes, and the bytes at most 2^47. What the second form's bulk says of arguments that are slices of bytes. No condition. -/
import Derived.Test.YtmenchnjajpkmaaGreatWHeh
import Derived.Test.YtmenchnjajpkmaaGreatWHed
import Derived.Test.YtmenchnjajpkmaaGreatWHeg
import Derived.Test.YtmenchnjajpkmaaGreatRows
section
namespace Go.Proofs.YtmenchnjajpkmaaGreat.Whe
open Go Go.RowKit Mem Codec CodecW Ww Rw Arr Ops Wt Reps Wg Ws Rr Rh
set_option linter.unusedVariables false
set_option linter.unusedSimpArgs false

theorem enc_len (x : Int × List (List UInt8)) (h : ∀ d ∈ x.2, d.length = 32) : (Wp.enc x).length = 1 + (var x.2.length).length + x.2.length * 32 := by
  simp only [Wp.enc, encP, List.length_cons, List.length_append, flat_len x.2 h]
  omega
theorem pm_to (S D : Nat → Prop) (w0 w : World) (q : Nat) (m : List UInt8) (bad : Bool) (cs : List Value) (x : Int × List (List UInt8)) (hR : RPm D w cs x) (hD : ∀ b, b < w.heap.size → D b → ¬ Plus S w0 w b) (H : At S w0 w q m bad) (hlen : m.length + (Wp.enc x).length + 9 ≤ 140737488355328) :
    Calls Tryz.prog 41 #[.pointer (some ⟨q, 0, none⟩), .agg cs.toArray] w fun e w' => e = .returned (.tuple #[]) ∧ At S w0 w' q (m ++ Wp.enc x) (bad || Wp.bad x) := by
  obtain ⟨v, rfl, h⟩ := hR
  obtain ⟨h1, h2⟩ := Wp.sl_digs h
  rw [enc_len x h2] at hlen
  exact Wt.params_to S D w0 w q m bad x.1 v x.2 h2 h1 hD H (by omega)
theorem rpm_to (S D : Nat → Prop) (w0 w : World) (q : Nat) (m : List UInt8) (bad : Bool) (cs : List Value) (x : Int × List (List UInt8)) (hR : RPm D w cs x) (hD : ∀ b, b < w.heap.size → D b → ¬ Plus S w0 w b) (H : RAt S w0 w q m bad) (hlen : m.length + (Wp.enc x).length + 9 ≤ 140737488355328) :
    Calls Tryz.prog 42 #[.pointer (some ⟨q, 0, none⟩), .agg cs.toArray] w fun e w' => e = .returned (.tuple #[]) ∧ RAt S w0 w' q (m ++ Wp.enc x) (bad || Wp.bad x) := by
  obtain ⟨v, rfl, h⟩ := hR
  obtain ⟨h1, h2⟩ := Wp.sl_digs h
  rw [enc_len x h2] at hlen
  exact Wt.rparams_to S D w0 w q m bad x.1 v x.2 h2 h1 hD H (by omega)
def encHe (x : XHe) : List UInt8 := x.1 ++ (num (x.2.1) 8 ++ (num (x.2.2.1) 8 ++ (x.2.2.2.1 ++ (x.2.2.2.2.1 ++ (text (x.2.2.2.2.2.1) ++ ([tb (x.2.2.2.2.2.2.1)] ++ (if x.2.2.2.2.2.2.1 = true then Wp.enc (x.2.2.2.2.2.2.2) else [])))))))
def badHe (x : XHe) : Bool := !decide (((x.2.2.2.2.2.1).length : Int) ≤ 256) || (if x.2.2.2.2.2.2.1 = true then Wp.bad (x.2.2.2.2.2.2.2) else !(decide ((x.2.2.2.2.2.2.2).1 = 0) && decide ((x.2.2.2.2.2.2.2).2.length = 0)))
set_option maxHeartbeats 8000000 in
set_option maxRecDepth 100000 in
theorem header_to (S D : Nat → Prop) (w0 w : World) (q : Nat) (m : List UInt8) (bad : Bool) (cs : List Value) (x : XHe) (hR : RHe D w cs x) (hD : ∀ b, b < w.heap.size → D b → ¬ Plus S w0 w b) (H : At S w0 w q m bad) (hlen : m.length + (encHe x).length + 9 ≤ 140737488355328) :
    Calls Tryz.prog 47 #[.pointer (some ⟨q, 0, none⟩), .agg cs.toArray] w fun e w' => e = .returned (.tuple #[]) ∧ At S w0 w' q (m ++ encHe x) (bad || badHe x) := by
  have hR1 := rep_He.lt hR
  obtain ⟨a0, b0, rfl, h0, a1, b1, rfl, h1, a2, b2, rfl, h2, a3, b3, rfl, h3, a4, b4, rfl, h4, a5, b5, rfl, h5, a6, c7, rfl, h6, h7⟩ := id hR1
  obtain ⟨k0, rfl⟩ := h0
  have KL0 := Lib.hid k0
  obtain ⟨k1, rfl⟩ := h1
  obtain ⟨k2, rfl⟩ := h2
  obtain ⟨k3, rfl⟩ := h3
  have KL3 := Lib.hid k3
  obtain ⟨k4, rfl⟩ := h4
  have KL4 := Lib.hid k4
  obtain ⟨v5, rfl, g5⟩ := h5
  obtain ⟨_, rfl⟩ := h6
  have G5 := Lib.hid (g5.below (below_alloc w (.cells (x.1.map byt ++ ([Value.int .u64 (x.2.1 : Int)] ++ ([Value.int .u64 (x.2.2.1 : Int)] ++ (x.2.2.2.1.map byt ++ (x.2.2.2.2.1.map byt ++ ([v5] ++ ([Value.bool x.2.2.2.2.2.2.1] ++ (c7)))))))).toArray 50)))
  have G7 := Lib.hid (rep_pm.below h7 (below_alloc w (.cells (x.1.map byt ++ ([Value.int .u64 (x.2.1 : Int)] ++ ([Value.int .u64 (x.2.2.1 : Int)] ++ (x.2.2.2.1.map byt ++ (x.2.2.2.2.1.map byt ++ ([v5] ++ ([Value.bool x.2.2.2.2.2.2.1] ++ (c7)))))))).toArray 50)))
  have HCL7 := Lib.hid (rep_pm.len h7)
  have HSZ7 := Lib.hid (show (Tryz.prog.info? 44).map (·.size) = some c7.length by rw [HCL7.out]; kernel_rfl)
  have HF0 := Lib.hid (fun (w' : World) (h : Blk w' w.heap.size (x.1.map byt ++ ([Value.int .u64 (x.2.1 : Int)] ++ ([Value.int .u64 (x.2.2.1 : Int)] ++ (x.2.2.2.1.map byt ++ (x.2.2.2.2.1.map byt ++ ([v5] ++ ([Value.bool x.2.2.2.2.2.2.1] ++ (c7)))))))) 50) => blk_part h ([]) (x.1.map byt) ([Value.int .u64 (x.2.1 : Int)] ++ ([Value.int .u64 (x.2.2.1 : Int)] ++ (x.2.2.2.1.map byt ++ (x.2.2.2.2.1.map byt ++ ([v5] ++ ([Value.bool x.2.2.2.2.2.2.1] ++ (c7))))))) (by simp) 0 (by simp [KL0.out, KL3.out, KL4.out, HCL7.out]))
  have HF1 := Lib.hid (fun (w' : World) (h : Blk w' w.heap.size (x.1.map byt ++ ([Value.int .u64 (x.2.1 : Int)] ++ ([Value.int .u64 (x.2.2.1 : Int)] ++ (x.2.2.2.1.map byt ++ (x.2.2.2.2.1.map byt ++ ([v5] ++ ([Value.bool x.2.2.2.2.2.2.1] ++ (c7)))))))) 50) => blk_one h (x.1.map byt) ([Value.int .u64 (x.2.2.1 : Int)] ++ (x.2.2.2.1.map byt ++ (x.2.2.2.2.1.map byt ++ ([v5] ++ ([Value.bool x.2.2.2.2.2.2.1] ++ (c7)))))) (Value.int .u64 (x.2.1 : Int)) (by simp) 32 (by simp [KL0.out, KL3.out, KL4.out, HCL7.out]))
  have HF2 := Lib.hid (fun (w' : World) (h : Blk w' w.heap.size (x.1.map byt ++ ([Value.int .u64 (x.2.1 : Int)] ++ ([Value.int .u64 (x.2.2.1 : Int)] ++ (x.2.2.2.1.map byt ++ (x.2.2.2.2.1.map byt ++ ([v5] ++ ([Value.bool x.2.2.2.2.2.2.1] ++ (c7)))))))) 50) => blk_one h (x.1.map byt ++ ([Value.int .u64 (x.2.1 : Int)])) (x.2.2.2.1.map byt ++ (x.2.2.2.2.1.map byt ++ ([v5] ++ ([Value.bool x.2.2.2.2.2.2.1] ++ (c7))))) (Value.int .u64 (x.2.2.1 : Int)) (by simp) 33 (by simp [KL0.out, KL3.out, KL4.out, HCL7.out]))
  have HF3 := Lib.hid (fun (w' : World) (h : Blk w' w.heap.size (x.1.map byt ++ ([Value.int .u64 (x.2.1 : Int)] ++ ([Value.int .u64 (x.2.2.1 : Int)] ++ (x.2.2.2.1.map byt ++ (x.2.2.2.2.1.map byt ++ ([v5] ++ ([Value.bool x.2.2.2.2.2.2.1] ++ (c7)))))))) 50) => blk_part h (x.1.map byt ++ ([Value.int .u64 (x.2.1 : Int)] ++ ([Value.int .u64 (x.2.2.1 : Int)]))) (x.2.2.2.1.map byt) (x.2.2.2.2.1.map byt ++ ([v5] ++ ([Value.bool x.2.2.2.2.2.2.1] ++ (c7)))) (by simp) 34 (by simp [KL0.out, KL3.out, KL4.out, HCL7.out]))
  have HF4 := Lib.hid (fun (w' : World) (h : Blk w' w.heap.size (x.1.map byt ++ ([Value.int .u64 (x.2.1 : Int)] ++ ([Value.int .u64 (x.2.2.1 : Int)] ++ (x.2.2.2.1.map byt ++ (x.2.2.2.2.1.map byt ++ ([v5] ++ ([Value.bool x.2.2.2.2.2.2.1] ++ (c7)))))))) 50) => blk_part h (x.1.map byt ++ ([Value.int .u64 (x.2.1 : Int)] ++ ([Value.int .u64 (x.2.2.1 : Int)] ++ (x.2.2.2.1.map byt)))) (x.2.2.2.2.1.map byt) ([v5] ++ ([Value.bool x.2.2.2.2.2.2.1] ++ (c7))) (by simp) 66 (by simp [KL0.out, KL3.out, KL4.out, HCL7.out]))
  have HF5 := Lib.hid (fun (w' : World) (h : Blk w' w.heap.size (x.1.map byt ++ ([Value.int .u64 (x.2.1 : Int)] ++ ([Value.int .u64 (x.2.2.1 : Int)] ++ (x.2.2.2.1.map byt ++ (x.2.2.2.2.1.map byt ++ ([v5] ++ ([Value.bool x.2.2.2.2.2.2.1] ++ (c7)))))))) 50) => blk_one h (x.1.map byt ++ ([Value.int .u64 (x.2.1 : Int)] ++ ([Value.int .u64 (x.2.2.1 : Int)] ++ (x.2.2.2.1.map byt ++ (x.2.2.2.2.1.map byt))))) ([Value.bool x.2.2.2.2.2.2.1] ++ (c7)) (v5) (by simp) 98 (by simp [KL0.out, KL3.out, KL4.out, HCL7.out]))
  have HF6 := Lib.hid (fun (w' : World) (h : Blk w' w.heap.size (x.1.map byt ++ ([Value.int .u64 (x.2.1 : Int)] ++ ([Value.int .u64 (x.2.2.1 : Int)] ++ (x.2.2.2.1.map byt ++ (x.2.2.2.2.1.map byt ++ ([v5] ++ ([Value.bool x.2.2.2.2.2.2.1] ++ (c7)))))))) 50) => blk_one h (x.1.map byt ++ ([Value.int .u64 (x.2.1 : Int)] ++ ([Value.int .u64 (x.2.2.1 : Int)] ++ (x.2.2.2.1.map byt ++ (x.2.2.2.2.1.map byt ++ ([v5])))))) (c7) (Value.bool x.2.2.2.2.2.2.1) (by simp) 99 (by simp [KL0.out, KL3.out, KL4.out, HCL7.out]))
  have HF7 := Lib.hid (fun (w' : World) (h : Blk w' w.heap.size (x.1.map byt ++ ([Value.int .u64 (x.2.1 : Int)] ++ ([Value.int .u64 (x.2.2.1 : Int)] ++ (x.2.2.2.1.map byt ++ (x.2.2.2.2.1.map byt ++ ([v5] ++ ([Value.bool x.2.2.2.2.2.2.1] ++ (c7)))))))) 50) => blk_part h (x.1.map byt ++ ([Value.int .u64 (x.2.1 : Int)] ++ ([Value.int .u64 (x.2.2.1 : Int)] ++ (x.2.2.2.1.map byt ++ (x.2.2.2.2.1.map byt ++ ([v5] ++ ([Value.bool x.2.2.2.2.2.2.1]))))))) (c7) ([]) (by simp) 100 (by simp [KL0.out, KL3.out, KL4.out, HCL7.out]))
  obtain ⟨ca, hca⟩ : ∃ ca, (x.1.map byt ++ ([Value.int .u64 (x.2.1 : Int)] ++ ([Value.int .u64 (x.2.2.1 : Int)] ++ (x.2.2.2.1.map byt ++ (x.2.2.2.2.1.map byt ++ ([v5] ++ ([Value.bool x.2.2.2.2.2.2.1] ++ (c7)))))))).toArray = ca := ⟨_, rfl⟩
  have HB := Lib.hid (show Blk (w.alloc (.cells ca 50)) w.heap.size (x.1.map byt ++ ([Value.int .u64 (x.2.1 : Int)] ++ ([Value.int .u64 (x.2.2.1 : Int)] ++ (x.2.2.2.1.map byt ++ (x.2.2.2.2.1.map byt ++ ([v5] ++ ([Value.bool x.2.2.2.2.2.2.1] ++ (c7)))))))) 50 from Blk.new w _ _ _ hca.symm)
  have HX := Lib.hid (fun w' m' b' => @At.box S w0 w w' q m bad (.cells ca 50) m' b' (x.1.map byt ++ ([Value.int .u64 (x.2.1 : Int)] ++ ([Value.int .u64 (x.2.2.1 : Int)] ++ (x.2.2.2.1.map byt ++ (x.2.2.2.2.1.map byt ++ ([v5] ++ ([Value.bool x.2.2.2.2.2.2.1] ++ (c7)))))))) 50 H)
  have H1 := Lib.hid (H.enter (.cells ca 50))
  have HL := Lib.hid (fun w' m' b' => @At.leave S w0 w w' q m bad (.cells ca 50) m' b' H)
  have HD := Lib.hid hD
  have hz : (w.alloc (.cells ca 50)).heap.size = w.heap.size + 1 := by simp
  simp only [encHe, List.length_append, num_length, List.length_cons, List.length_nil] at hlen
  rw [hca] at G5 G7 ⊢
  clear H hR hR1 hca hD h7 g5
  obtain ⟨T, hT⟩ : ∃ T, Plus S w0 w = T := ⟨_, rfl⟩
  rw [hT] at HL H1 HX HD
  clear hT
  go_enter Tryz.func47, Tryz.ntmps47
  go_upto_region 1 with fail
  have HB0 := Lib.hid (fun w' m' b' g => HX.out w' m' b' g HB.out)
  have B1 := Lib.hid HB.out
  clear HX HB
  generalize (w.alloc (.cells ca 50)) = w1 at *
  have HD2 := Lib.hid (show ∀ wi : World, ∀ b, b < wi.heap.size → (b < w.heap.size ∧ D b) → ¬ Plus T w1 wi b from fun wi b _ hb e => by
    rcases e with e | e
    · exact HD.out b hb.1 hb.2 e
    · have := e.1; omega)
  have SZ := Lib.hid (Ww.szD (d := x.1) k0)
  go_wp2_with (first | (with_reducible refine wpList_load_mid rfl _ _ rfl w.heap.size 0 rfl (x.1.map byt) _ (HF0.out _ B1.out) Tryz.underlying27 rfl SZ.out ?_))
  refine (digest_calls _ _ w1 q _ _ x.1 KL0.out H1.out (by (try simp only [List.length_append, num_length, List.length_cons, List.length_nil]); have := KL0.out; omega)).mono ?_
  rintro e w2 ⟨rfl, g1⟩
  have H2 := Lib.hid g1
  have B2 := Lib.hid (HB0.out _ _ _ H2.out)
  clear g1 H1 B1 SZ
  obtain ⟨p, h1, h2, h3⟩ := H2.out.drew.opened
  have HW := Lib.hid h2
  have HQ := Lib.hid h1
  have c0 := h1.cell (i := 0) rfl
  have cc : w2.cell? ⟨q, 0, none⟩ = some (.pointer (some ⟨p, 0, none⟩)) := c0
  have d0 := HF1.out _ B2.out
  clear h1 h2 h3
  go_wp2_with fail
  go_still_tail 6, (by kernel_rfl)
  change wpList _ _ _ _ _ w2.drew
  go_wp2_with fail
  refine (long_calls _ w2.drew p _ x.2.1 k1 HW.out (by (try simp only [List.length_append, num_length, List.length_cons, List.length_nil]); omega)).mono ?_
  rintro e w3 ⟨rfl, g1, g2⟩
  have g3 := H2.out.drew.shut HQ.out g1 g2
  have H3 := Lib.hid g3
  have B3 := Lib.hid (HB0.out _ _ _ H3.out)
  clear g1 g2 g3 HW HQ c0 cc d0 H2 B2
  obtain ⟨p, h1, h2, h3⟩ := H3.out.drew.opened
  have HW := Lib.hid h2
  have HQ := Lib.hid h1
  have c0 := h1.cell (i := 0) rfl
  have cc : w3.cell? ⟨q, 0, none⟩ = some (.pointer (some ⟨p, 0, none⟩)) := c0
  have d0 := HF2.out _ B3.out
  clear h1 h2 h3
  go_wp2_with fail
  go_still_tail 6, (by kernel_rfl)
  change wpList _ _ _ _ _ w3.drew
  go_wp2_with fail
  refine (long_calls _ w3.drew p _ x.2.2.1 k2 HW.out (by (try simp only [List.length_append, num_length, List.length_cons, List.length_nil]); omega)).mono ?_
  rintro e w4 ⟨rfl, g1, g2⟩
  have g3 := H3.out.drew.shut HQ.out g1 g2
  have H4 := Lib.hid g3
  have B4 := Lib.hid (HB0.out _ _ _ H4.out)
  clear g1 g2 g3 HW HQ c0 cc d0 H3 B3
  have SZ := Lib.hid (Ww.szD (d := x.2.2.2.1) k3)
  go_wp2_with (first | (with_reducible refine wpList_load_mid rfl _ _ rfl w.heap.size 34 rfl (x.2.2.2.1.map byt) _ (HF3.out _ B4.out) Tryz.underlying27 rfl SZ.out ?_))
  refine (digest_calls _ _ w4 q _ _ x.2.2.2.1 KL3.out H4.out (by (try simp only [List.length_append, num_length, List.length_cons, List.length_nil]); have := KL3.out; omega)).mono ?_
  rintro e w5 ⟨rfl, g1⟩
  have H5 := Lib.hid g1
  have B5 := Lib.hid (HB0.out _ _ _ H5.out)
  clear g1 H4 B4 SZ
  have SZ := Lib.hid (Ww.szD (d := x.2.2.2.2.1) k4)
  go_wp2_with (first | (with_reducible refine wpList_load_mid rfl _ _ rfl w.heap.size 66 rfl (x.2.2.2.2.1.map byt) _ (HF4.out _ B5.out) Tryz.underlying27 rfl SZ.out ?_))
  refine (digest_calls _ _ w5 q _ _ x.2.2.2.2.1 KL4.out H5.out (by (try simp only [List.length_append, num_length, List.length_cons, List.length_nil]); have := KL4.out; omega)).mono ?_
  rintro e w6 ⟨rfl, g1⟩
  have H6 := Lib.hid g1
  have B6 := Lib.hid (HB0.out _ _ _ H6.out)
  clear g1 H5 B5 SZ
  have d0 := HF5.out _ B6.out
  go_wp2_with fail
  refine (short_calls _ _ _ w6 q _ _ _ (x.2.2.2.2.2.1) (G5.out.fr H6.out.2.1 (fun b _ h => HD.out b h.1 h.2)) (HD2.out _) 256 H6.out (by (try simp only [List.length_append, num_length, List.length_cons, List.length_nil]); omega)).mono ?_
  rintro e w7 ⟨rfl, g1⟩
  have H7 := Lib.hid g1
  have B7 := Lib.hid (HB0.out _ _ _ H7.out)
  clear g1 d0 H6 B6
  have d0 := HF6.out _ B7.out
  go_wp2_with fail
  refine (truth_calls _ _ w7 q _ _ (x.2.2.2.2.2.2.1) H7.out (by (try simp only [List.length_append, num_length, List.length_cons, List.length_nil]); omega)).mono ?_
  rintro e w8 ⟨rfl, g1⟩
  have H8 := Lib.hid g1
  have B8 := Lib.hid (HB0.out _ _ _ H8.out)
  clear g1 d0 H7 B7
  have d6 := HF6.out _ B8.out
  obtain ⟨pv, hpc, hps⟩ := id G7.out
  obtain ⟨pa, pcap, hpv, _⟩ := hps.form
  have r7 := HF7.out _ B8.out
  rw [hpc] at r7
  have d7 : w8.cell? ⟨w.heap.size, 100, none⟩ = some (.int .i64 (x.2.2.2.2.2.2.2).1) := r7 0 _ rfl
  have d8 : w8.cell? ⟨w.heap.size, 101, none⟩ = some pv := r7 1 _ rfl
  rw [hpv] at d8
  clear r7 hpc hps hpv
  obtain ⟨ch, hch⟩ : ∃ c, (x.2.2.2.2.2.2.1) = c := ⟨_, rfl⟩
  obtain ⟨pt, hpt⟩ : ∃ c, (x.2.2.2.2.2.2.2).1 = c := ⟨_, rfl⟩
  obtain ⟨pn, hpn⟩ : ∃ c, (x.2.2.2.2.2.2.2).2.length = c := ⟨_, rfl⟩
  rw [hpt] at d7
  rw [hpn] at d8
  rw [hch] at d6
  have HCH := Lib.hid hch
  have HPT := Lib.hid hpt
  have HPN := Lib.hid hpn
  clear hch hpt hpn
  cases ch
  · have key : ∀ ok : Bool, (decide (pt = 0) && decide (pn = 0)) = ok → ∀ (w9 : World), At T w1 w9 q (m ++ (x.1) ++ num (x.2.1) 8 ++ num (x.2.2.1) 8 ++ (x.2.2.2.1) ++ (x.2.2.2.2.1) ++ text (x.2.2.2.2.2.1) ++ [tb (x.2.2.2.2.2.2.1)]) ((bad || !decide (((x.2.2.2.2.2.1).length : Int) ≤ 256)) || !ok) → At S w0 w9 q (m ++ encHe x) (bad || badHe x) := fun ok hok w9 h => by
      have h2 := HL.out _ _ _ h
      have e1 : encHe x = (x.1) ++ (num (x.2.1) 8 ++ (num (x.2.2.1) 8 ++ ((x.2.2.2.1) ++ ((x.2.2.2.2.1) ++ (text (x.2.2.2.2.2.1) ++ [tb (x.2.2.2.2.2.2.1)]))))) := by simp only [encHe, HCH.out]; simp
      have e2 : badHe x = (!decide (((x.2.2.2.2.2.1).length : Int) ≤ 256) || !ok) := by simp only [badHe, HCH.out, HPT.out, HPN.out, hok]; simp
      rw [e1, e2]
      simp only [List.append_assoc, Bool.or_assoc] at h2
      exact h2
    by_cases ht : pt = 0
    · by_cases hk : pn = 0
      · have HKY := Lib.hid (key true (by simp [ht, hk]))
        have ht2 : (pt == 0) = true := by simpa using ht
        have hk2 : ((pn : Int) == 0) = true := by simpa using hk
        clear key ht hk
        go_wp2_with fail
        refine (must_calls _ _ w8 q _ _ true H8.out).mono ?_
        rintro e w9 ⟨rfl, g1⟩
        have GF := Lib.hid (HKY.out _ g1)
        clear g1 d6 d7 d8
        go_wp2
        go_end0
        exact ⟨rfl, GF.out⟩
      · have HKY := Lib.hid (key false (by simp [ht, hk]))
        have ht2 : (pt == 0) = true := by simpa using ht
        have hk2 : ((pn : Int) == 0) = false := by simpa using hk
        clear key ht hk
        go_wp2_with fail
        refine (must_calls _ _ w8 q _ _ false H8.out).mono ?_
        rintro e w9 ⟨rfl, g1⟩
        have GF := Lib.hid (HKY.out _ g1)
        clear g1 d6 d7 d8
        go_wp2
        go_end0
        exact ⟨rfl, GF.out⟩
    · have HKY := Lib.hid (key false (by simp [ht]))
      have ht2 : (pt == 0) = false := by simpa using ht
      clear key ht
      go_wp2_with fail
      refine (must_calls _ _ w8 q _ _ false H8.out).mono ?_
      rintro e w9 ⟨rfl, g1⟩
      have GF := Lib.hid (HKY.out _ g1)
      clear g1 d6 d7 d8
      go_wp2
      go_end0
      exact ⟨rfl, GF.out⟩
  · have hle2 : (if (x.2.2.2.2.2.2.1) = true then Wp.enc (x.2.2.2.2.2.2.2) else []).length = (Wp.enc (x.2.2.2.2.2.2.2)).length := by rw [HCH.out]; rfl
    rw [hle2] at hlen
    clear hle2 d7 d8
    go_wp2_with (first | (with_reducible refine wpList_load_mid rfl _ _ rfl w.heap.size 100 rfl c7 _ (HF7.out _ B8.out) Tryz.underlying44 rfl HSZ7.out ?_))
    refine (pm_to _ _ _ w8 q _ _ c7 (x.2.2.2.2.2.2.2) (rep_pm.fr G7.out H8.out.2.1 (fun b _ h => HD.out b h.1 h.2)) (HD2.out _) H8.out (by (try simp only [List.length_append, num_length, List.length_cons, List.length_nil]); omega)).mono ?_
    rintro e w9 ⟨rfl, g1⟩
    have GF := Lib.hid (HL.out _ _ _ g1)
    clear g1 d6
    go_wp2
    go_end0
    refine ⟨rfl, ?_⟩
    have h2 := GF.out
    have e1 : encHe x = (x.1) ++ (num (x.2.1) 8 ++ (num (x.2.2.1) 8 ++ ((x.2.2.2.1) ++ ((x.2.2.2.2.1) ++ (text (x.2.2.2.2.2.1) ++ ([tb (x.2.2.2.2.2.2.1)] ++ Wp.enc (x.2.2.2.2.2.2.2))))))) := by simp only [encHe, HCH.out]; simp
    have e2 : badHe x = (!decide (((x.2.2.2.2.2.1).length : Int) ≤ 256) || Wp.bad (x.2.2.2.2.2.2.2)) := by simp only [badHe, HCH.out]; simp
    rw [e1, e2]
    simp only [List.append_assoc, Bool.or_assoc] at h2
    exact h2
set_option maxHeartbeats 8000000 in
set_option maxRecDepth 100000 in
theorem writtenHeader_calls (w : World) (cs : List Value) (x : _) (hR : RHe Any w cs x) (hn : (encHe x).length + 9 ≤ 140737488355328) :
    Calls Tryz.prog 46 #[.agg cs.toArray, .func (.func 47) #[] #[]] w fun e w' => Wt.Told w.heap.size (encHe x) (badHe x) e w' ∧ Below w.heap.size w w' := by
  obtain ⟨ca, hca⟩ : ∃ ca, cs.toArray = ca := ⟨_, rfl⟩
  have HB := Lib.hid (show Blk (w.alloc (.cells ca 50)) w.heap.size cs 50 from Blk.new w _ _ _ hca.symm)
  have B1 := Lib.hid (below_alloc w (.cells ca 50))
  have hz : w.heap.size + 1 ≤ (w.alloc (.cells ca 50)).heap.size := by simp
  have HA := Lib.hid (rep_He.mono hR (E := fun k => k < w.heap.size) (fun k h1 _ => h1))
  have HSZ := Lib.hid (show (Tryz.prog.info? 50).map (·.size) = some cs.length by rw [rep_He.len hR]; kernel_rfl)
  obtain ⟨en, hen⟩ : ∃ en, encHe x = en := ⟨_, rfl⟩
  obtain ⟨bb, hbb⟩ : ∃ bb, badHe x = bb := ⟨_, rfl⟩
  have HLN := Lib.hid (show en.length ≤ 140737488355328 by rw [← hen]; omega)
  have HN := Lib.hid hn
  rw [hen, hbb]
  have HEN := Lib.hid hen
  have HBB := Lib.hid hbb
  have HCA := Lib.hid hca
  rw [hca]
  clear hR hn hen hbb hca
  go_enter Tryz.func46, Tryz.ntmps46
  go_upto_region 1 with fail
  generalize (w.alloc (.cells ca 50)) = w1 at *
  go_wp2_with fail
  refine (CodecW.new_calls w1).mono ?_
  rintro e w2 ⟨p, rfl, hp1, hp2, hp3⟩
  have hs2 := hp3.size
  have H2 := Lib.hid (Wh.made_at hp2)
  have HB2 := Lib.hid ((HB.out.below hp3).alloc (.cells #[.pointer (some ⟨p, 0, none⟩), .bool false] 106))
  have B2 := Lib.hid ((B1.out.trans (hp3.mono (by omega))).alloc (by have := B1.out.size; omega) (.cells #[.pointer (some ⟨p, 0, none⟩), .bool false] 106))
  have hs3 : w2.heap.size + 1 = (w2.alloc (.cells #[.pointer (some ⟨p, 0, none⟩), .bool false] 106)).heap.size := by simp
  have hpw : w.heap.size < p := by omega
  clear hp2 hp3 HB B1
  go_upto_region 2 with fail
  generalize (w2.alloc (.cells #[.pointer (some ⟨p, 0, none⟩), .bool false] 106)) = w3 at *
  have HA3 := Lib.hid (rep_He.below HA.out B2.out)
  go_wp2_with (first | (with_reducible refine wpList_load_blk rfl _ _ rfl w.heap.size cs rfl HB2.out _ Tryz.underlying50 rfl HSZ.out ?_))
  refine (header_to _ (fun k => k < w.heap.size) _ w3 _ [] false cs x HA3.out (fun k _ h e => by rcases e with (e | e) | e <;> omega) H2.out (by have := HN.out; simp; omega)).mono ?_
  rintro e w4 ⟨rfl, g1⟩
  obtain ⟨⟨g2, p2, g3, g4⟩, g5, g6⟩ := id g1
  have hg5 := g5.size
  have c1 := g3.cell (i := 1) rfl
  have c0 := g3.cell (i := 0) rfl
  have HW := Lib.hid g4
  have B4 := Lib.hid (B2.out.trans (show Below w.heap.size w3 w4 from g5.below (by omega) (fun k h => by omega)))
  have hb4 := B4.out.size
  rw [List.nil_append, Bool.false_or] at *
  clear g1 g2 g3 g4 g5 g6 H2 HB2 B2 HA HA3
  rw [HEN.out] at HW
  rw [HBB.out] at c1
  clear HEN HBB HN
  cases bb
  · go_wp2_with fail
    refine (CodecR.bytes_calls _ w4 p2 _ HW.out HLN.out).mono ?_
    rintro e w5 ⟨a, c, rfl, g1, g2⟩
    have G1 := Lib.hid g1
    have BF := Lib.hid (B4.out.trans (g2.mono hb4))
    clear g1 g2 c0 c1 HW B4
    go_wp2
    go_ret2
    exact ⟨⟨a, c, rfl, G1.out.mono hb4⟩, BF.out⟩
  · go_wp2
    go_ret2
    exact ⟨⟨none, 0, rfl, OwnB.nil _ _ _⟩, B4.out⟩
set_option maxHeartbeats 4000000 in
set_option maxRecDepth 100000 in
theorem Header_told (w : World) (cs : List Value) (x : _) (hR : RHe Any w cs x) (hn : (encHe x).length + 9 ≤ 140737488355328) :
    Calls Tryz.prog 20 #[.agg cs.toArray] w fun e w' => Wt.Told w.heap.size (encHe x) (badHe x) e w' ∧ Below w.heap.size w w' := by
  obtain ⟨ca, hca⟩ : ∃ ca, cs.toArray = ca := ⟨_, rfl⟩
  have HB := Lib.hid (show Blk (w.alloc (.cells ca 50)) w.heap.size cs 50 from Blk.new w _ _ _ hca.symm)
  have B1 := Lib.hid (below_alloc w (.cells ca 50))
  have hz : w.heap.size + 1 = (w.alloc (.cells ca 50)).heap.size := by simp
  have HA := Lib.hid (rep_He.below hR B1.out)
  have HSZ := Lib.hid (show (Tryz.prog.info? 50).map (·.size) = some cs.length by rw [rep_He.len hR]; kernel_rfl)
  have HCA := Lib.hid hca
  rw [hca]
  clear hR hca
  go_enter Tryz.func20, Tryz.ntmps20
  go_upto_region 1 with fail
  generalize (w.alloc (.cells ca 50)) = w1 at *
  go_wp2_with (first | (with_reducible refine wpList_load_blk rfl _ _ rfl w.heap.size cs rfl HB.out _ Tryz.underlying50 rfl HSZ.out ?_))
  refine (writtenHeader_calls w1 cs x HA.out hn).mono ?_
  rintro e w2 ⟨⟨a, c, rfl, g1⟩, g2⟩
  have G1 := Lib.hid g1
  have G2 := Lib.hid (B1.out.trans (g2.mono (by omega)))
  clear g1 g2 B1 HB HA
  go_wp2
  go_ret2
  exact ⟨⟨a, c, rfl, G1.out.mono (by omega)⟩, G2.out⟩
set_option maxHeartbeats 8000000 in
set_option maxRecDepth 100000 in
theorem rheader_to (S D : Nat → Prop) (w0 w : World) (q : Nat) (m : List UInt8) (bad : Bool) (cs : List Value) (x : XHe) (hR : RHe D w cs x) (hD : ∀ b, b < w.heap.size → D b → ¬ Plus S w0 w b) (H : RAt S w0 w q m bad) (hlen : m.length + (encHe x).length + 9 ≤ 140737488355328) :
    Calls Tryz.prog 48 #[.pointer (some ⟨q, 0, none⟩), .agg cs.toArray] w fun e w' => e = .returned (.tuple #[]) ∧ RAt S w0 w' q (m ++ encHe x) (bad || badHe x) := by
  have hR1 := rep_He.lt hR
  obtain ⟨a0, b0, rfl, h0, a1, b1, rfl, h1, a2, b2, rfl, h2, a3, b3, rfl, h3, a4, b4, rfl, h4, a5, b5, rfl, h5, a6, c7, rfl, h6, h7⟩ := id hR1
  obtain ⟨k0, rfl⟩ := h0
  have KL0 := Lib.hid k0
  obtain ⟨k1, rfl⟩ := h1
  obtain ⟨k2, rfl⟩ := h2
  obtain ⟨k3, rfl⟩ := h3
  have KL3 := Lib.hid k3
  obtain ⟨k4, rfl⟩ := h4
  have KL4 := Lib.hid k4
  obtain ⟨v5, rfl, g5⟩ := h5
  obtain ⟨_, rfl⟩ := h6
  have G5 := Lib.hid (g5.below (below_alloc w (.cells (x.1.map byt ++ ([Value.int .u64 (x.2.1 : Int)] ++ ([Value.int .u64 (x.2.2.1 : Int)] ++ (x.2.2.2.1.map byt ++ (x.2.2.2.2.1.map byt ++ ([v5] ++ ([Value.bool x.2.2.2.2.2.2.1] ++ (c7)))))))).toArray 50)))
  have G7 := Lib.hid (rep_pm.below h7 (below_alloc w (.cells (x.1.map byt ++ ([Value.int .u64 (x.2.1 : Int)] ++ ([Value.int .u64 (x.2.2.1 : Int)] ++ (x.2.2.2.1.map byt ++ (x.2.2.2.2.1.map byt ++ ([v5] ++ ([Value.bool x.2.2.2.2.2.2.1] ++ (c7)))))))).toArray 50)))
  have HCL7 := Lib.hid (rep_pm.len h7)
  have HSZ7 := Lib.hid (show (Tryz.prog.info? 44).map (·.size) = some c7.length by rw [HCL7.out]; kernel_rfl)
  have HF0 := Lib.hid (fun (w' : World) (h : Blk w' w.heap.size (x.1.map byt ++ ([Value.int .u64 (x.2.1 : Int)] ++ ([Value.int .u64 (x.2.2.1 : Int)] ++ (x.2.2.2.1.map byt ++ (x.2.2.2.2.1.map byt ++ ([v5] ++ ([Value.bool x.2.2.2.2.2.2.1] ++ (c7)))))))) 50) => blk_part h ([]) (x.1.map byt) ([Value.int .u64 (x.2.1 : Int)] ++ ([Value.int .u64 (x.2.2.1 : Int)] ++ (x.2.2.2.1.map byt ++ (x.2.2.2.2.1.map byt ++ ([v5] ++ ([Value.bool x.2.2.2.2.2.2.1] ++ (c7))))))) (by simp) 0 (by simp [KL0.out, KL3.out, KL4.out, HCL7.out]))
  have HF1 := Lib.hid (fun (w' : World) (h : Blk w' w.heap.size (x.1.map byt ++ ([Value.int .u64 (x.2.1 : Int)] ++ ([Value.int .u64 (x.2.2.1 : Int)] ++ (x.2.2.2.1.map byt ++ (x.2.2.2.2.1.map byt ++ ([v5] ++ ([Value.bool x.2.2.2.2.2.2.1] ++ (c7)))))))) 50) => blk_one h (x.1.map byt) ([Value.int .u64 (x.2.2.1 : Int)] ++ (x.2.2.2.1.map byt ++ (x.2.2.2.2.1.map byt ++ ([v5] ++ ([Value.bool x.2.2.2.2.2.2.1] ++ (c7)))))) (Value.int .u64 (x.2.1 : Int)) (by simp) 32 (by simp [KL0.out, KL3.out, KL4.out, HCL7.out]))
  have HF2 := Lib.hid (fun (w' : World) (h : Blk w' w.heap.size (x.1.map byt ++ ([Value.int .u64 (x.2.1 : Int)] ++ ([Value.int .u64 (x.2.2.1 : Int)] ++ (x.2.2.2.1.map byt ++ (x.2.2.2.2.1.map byt ++ ([v5] ++ ([Value.bool x.2.2.2.2.2.2.1] ++ (c7)))))))) 50) => blk_one h (x.1.map byt ++ ([Value.int .u64 (x.2.1 : Int)])) (x.2.2.2.1.map byt ++ (x.2.2.2.2.1.map byt ++ ([v5] ++ ([Value.bool x.2.2.2.2.2.2.1] ++ (c7))))) (Value.int .u64 (x.2.2.1 : Int)) (by simp) 33 (by simp [KL0.out, KL3.out, KL4.out, HCL7.out]))
  have HF3 := Lib.hid (fun (w' : World) (h : Blk w' w.heap.size (x.1.map byt ++ ([Value.int .u64 (x.2.1 : Int)] ++ ([Value.int .u64 (x.2.2.1 : Int)] ++ (x.2.2.2.1.map byt ++ (x.2.2.2.2.1.map byt ++ ([v5] ++ ([Value.bool x.2.2.2.2.2.2.1] ++ (c7)))))))) 50) => blk_part h (x.1.map byt ++ ([Value.int .u64 (x.2.1 : Int)] ++ ([Value.int .u64 (x.2.2.1 : Int)]))) (x.2.2.2.1.map byt) (x.2.2.2.2.1.map byt ++ ([v5] ++ ([Value.bool x.2.2.2.2.2.2.1] ++ (c7)))) (by simp) 34 (by simp [KL0.out, KL3.out, KL4.out, HCL7.out]))
  have HF4 := Lib.hid (fun (w' : World) (h : Blk w' w.heap.size (x.1.map byt ++ ([Value.int .u64 (x.2.1 : Int)] ++ ([Value.int .u64 (x.2.2.1 : Int)] ++ (x.2.2.2.1.map byt ++ (x.2.2.2.2.1.map byt ++ ([v5] ++ ([Value.bool x.2.2.2.2.2.2.1] ++ (c7)))))))) 50) => blk_part h (x.1.map byt ++ ([Value.int .u64 (x.2.1 : Int)] ++ ([Value.int .u64 (x.2.2.1 : Int)] ++ (x.2.2.2.1.map byt)))) (x.2.2.2.2.1.map byt) ([v5] ++ ([Value.bool x.2.2.2.2.2.2.1] ++ (c7))) (by simp) 66 (by simp [KL0.out, KL3.out, KL4.out, HCL7.out]))
  have HF5 := Lib.hid (fun (w' : World) (h : Blk w' w.heap.size (x.1.map byt ++ ([Value.int .u64 (x.2.1 : Int)] ++ ([Value.int .u64 (x.2.2.1 : Int)] ++ (x.2.2.2.1.map byt ++ (x.2.2.2.2.1.map byt ++ ([v5] ++ ([Value.bool x.2.2.2.2.2.2.1] ++ (c7)))))))) 50) => blk_one h (x.1.map byt ++ ([Value.int .u64 (x.2.1 : Int)] ++ ([Value.int .u64 (x.2.2.1 : Int)] ++ (x.2.2.2.1.map byt ++ (x.2.2.2.2.1.map byt))))) ([Value.bool x.2.2.2.2.2.2.1] ++ (c7)) (v5) (by simp) 98 (by simp [KL0.out, KL3.out, KL4.out, HCL7.out]))
  have HF6 := Lib.hid (fun (w' : World) (h : Blk w' w.heap.size (x.1.map byt ++ ([Value.int .u64 (x.2.1 : Int)] ++ ([Value.int .u64 (x.2.2.1 : Int)] ++ (x.2.2.2.1.map byt ++ (x.2.2.2.2.1.map byt ++ ([v5] ++ ([Value.bool x.2.2.2.2.2.2.1] ++ (c7)))))))) 50) => blk_one h (x.1.map byt ++ ([Value.int .u64 (x.2.1 : Int)] ++ ([Value.int .u64 (x.2.2.1 : Int)] ++ (x.2.2.2.1.map byt ++ (x.2.2.2.2.1.map byt ++ ([v5])))))) (c7) (Value.bool x.2.2.2.2.2.2.1) (by simp) 99 (by simp [KL0.out, KL3.out, KL4.out, HCL7.out]))
  have HF7 := Lib.hid (fun (w' : World) (h : Blk w' w.heap.size (x.1.map byt ++ ([Value.int .u64 (x.2.1 : Int)] ++ ([Value.int .u64 (x.2.2.1 : Int)] ++ (x.2.2.2.1.map byt ++ (x.2.2.2.2.1.map byt ++ ([v5] ++ ([Value.bool x.2.2.2.2.2.2.1] ++ (c7)))))))) 50) => blk_part h (x.1.map byt ++ ([Value.int .u64 (x.2.1 : Int)] ++ ([Value.int .u64 (x.2.2.1 : Int)] ++ (x.2.2.2.1.map byt ++ (x.2.2.2.2.1.map byt ++ ([v5] ++ ([Value.bool x.2.2.2.2.2.2.1]))))))) (c7) ([]) (by simp) 100 (by simp [KL0.out, KL3.out, KL4.out, HCL7.out]))
  obtain ⟨ca, hca⟩ : ∃ ca, (x.1.map byt ++ ([Value.int .u64 (x.2.1 : Int)] ++ ([Value.int .u64 (x.2.2.1 : Int)] ++ (x.2.2.2.1.map byt ++ (x.2.2.2.2.1.map byt ++ ([v5] ++ ([Value.bool x.2.2.2.2.2.2.1] ++ (c7)))))))).toArray = ca := ⟨_, rfl⟩
  have HB := Lib.hid (show Blk (w.alloc (.cells ca 50)) w.heap.size (x.1.map byt ++ ([Value.int .u64 (x.2.1 : Int)] ++ ([Value.int .u64 (x.2.2.1 : Int)] ++ (x.2.2.2.1.map byt ++ (x.2.2.2.2.1.map byt ++ ([v5] ++ ([Value.bool x.2.2.2.2.2.2.1] ++ (c7)))))))) 50 from Blk.new w _ _ _ hca.symm)
  have HX := Lib.hid (fun w' m' b' => @Rw.RAt.box S w0 w w' q m bad (.cells ca 50) m' b' (x.1.map byt ++ ([Value.int .u64 (x.2.1 : Int)] ++ ([Value.int .u64 (x.2.2.1 : Int)] ++ (x.2.2.2.1.map byt ++ (x.2.2.2.2.1.map byt ++ ([v5] ++ ([Value.bool x.2.2.2.2.2.2.1] ++ (c7)))))))) 50 H)
  have H1 := Lib.hid (H.enter (.cells ca 50))
  have HL := Lib.hid (fun w' m' b' => @Rw.RAt.leave S w0 w w' q m bad (.cells ca 50) m' b' H)
  have HD := Lib.hid hD
  have hz : (w.alloc (.cells ca 50)).heap.size = w.heap.size + 1 := by simp
  simp only [encHe, List.length_append, num_length, List.length_cons, List.length_nil] at hlen
  rw [hca] at G5 G7 ⊢
  clear H hR hR1 hca hD h7 g5
  obtain ⟨T, hT⟩ : ∃ T, Plus S w0 w = T := ⟨_, rfl⟩
  rw [hT] at HL H1 HX HD
  clear hT
  go_enter Tryz.func48, Tryz.ntmps48
  go_upto_region 1 with fail
  have HB0 := Lib.hid (fun w' m' b' g => HX.out w' m' b' g HB.out)
  have B1 := Lib.hid HB.out
  clear HX HB
  generalize (w.alloc (.cells ca 50)) = w1 at *
  have HD2 := Lib.hid (show ∀ wi : World, ∀ b, b < wi.heap.size → (b < w.heap.size ∧ D b) → ¬ Plus T w1 wi b from fun wi b _ hb e => by
    rcases e with e | e
    · exact HD.out b hb.1 hb.2 e
    · have := e.1; omega)
  have SZ := Lib.hid (Ww.szD (d := (x.1)) k0)
  go_wp2_with (first | (with_reducible refine wpList_load_mid rfl _ _ rfl w.heap.size 0 rfl ((x.1).map byt) _ (HF0.out _ B1.out) Tryz.underlying27 rfl SZ.out ?_))
  refine (Rw.digest_to _ _ w1 q _ _ (x.1) KL0.out H1.out (by (try simp only [List.length_append, num_length, List.length_cons, List.length_nil]); have := KL0.out; omega)).mono ?_
  rintro e w2 ⟨rfl, g1⟩
  have H2 := Lib.hid g1
  have B2 := Lib.hid (HB0.out _ _ _ H2.out)
  clear g1 H1 B1 SZ
  have d0 := HF1.out _ B2.out
  go_wp2_with fail
  refine (Rw.num_to _ _ w2 q _ _ (x.2.1) 8 k1 (by omega) H2.out (by (try simp only [List.length_append, num_length, List.length_cons, List.length_nil]); omega)).mono ?_
  rintro e w3 ⟨rfl, g1⟩
  have H3 := Lib.hid g1
  have B3 := Lib.hid (HB0.out _ _ _ H3.out)
  clear g1 d0 H2 B2
  have d0 := HF2.out _ B3.out
  go_wp2_with fail
  refine (Rw.num_to _ _ w3 q _ _ (x.2.2.1) 8 k2 (by omega) H3.out (by (try simp only [List.length_append, num_length, List.length_cons, List.length_nil]); omega)).mono ?_
  rintro e w4 ⟨rfl, g1⟩
  have H4 := Lib.hid g1
  have B4 := Lib.hid (HB0.out _ _ _ H4.out)
  clear g1 d0 H3 B3
  have SZ := Lib.hid (Ww.szD (d := (x.2.2.2.1)) k3)
  go_wp2_with (first | (with_reducible refine wpList_load_mid rfl _ _ rfl w.heap.size 34 rfl ((x.2.2.2.1).map byt) _ (HF3.out _ B4.out) Tryz.underlying27 rfl SZ.out ?_))
  refine (Rw.digest_to _ _ w4 q _ _ (x.2.2.2.1) KL3.out H4.out (by (try simp only [List.length_append, num_length, List.length_cons, List.length_nil]); have := KL3.out; omega)).mono ?_
  rintro e w5 ⟨rfl, g1⟩
  have H5 := Lib.hid g1
  have B5 := Lib.hid (HB0.out _ _ _ H5.out)
  clear g1 H4 B4 SZ
  have SZ := Lib.hid (Ww.szD (d := (x.2.2.2.2.1)) k4)
  go_wp2_with (first | (with_reducible refine wpList_load_mid rfl _ _ rfl w.heap.size 66 rfl ((x.2.2.2.2.1).map byt) _ (HF4.out _ B5.out) Tryz.underlying27 rfl SZ.out ?_))
  refine (Rw.digest_to _ _ w5 q _ _ (x.2.2.2.2.1) KL4.out H5.out (by (try simp only [List.length_append, num_length, List.length_cons, List.length_nil]); have := KL4.out; omega)).mono ?_
  rintro e w6 ⟨rfl, g1⟩
  have H6 := Lib.hid g1
  have B6 := Lib.hid (HB0.out _ _ _ H6.out)
  clear g1 H5 B5 SZ
  have d0 := HF5.out _ B6.out
  go_wp2_with fail
  refine (rtext_calls _ _ _ w6 q _ _ _ (x.2.2.2.2.2.1) (G5.out.fr H6.out.2.1 (fun b _ h => HD.out b h.1 h.2)) (HD2.out _) 256 H6.out (by (try simp only [List.length_append, num_length, List.length_cons, List.length_nil]); omega)).mono ?_
  rintro e w7 ⟨rfl, g1⟩
  have H7 := Lib.hid g1
  have B7 := Lib.hid (HB0.out _ _ _ H7.out)
  clear g1 d0 H6 B6
  have d0 := HF6.out _ B7.out
  go_wp2_with fail
  refine (rtruth_calls _ _ w7 q _ _ (x.2.2.2.2.2.2.1) H7.out (by (try simp only [List.length_append, num_length, List.length_cons, List.length_nil]); omega)).mono ?_
  rintro e w8 ⟨rfl, g1⟩
  have H8 := Lib.hid g1
  have B8 := Lib.hid (HB0.out _ _ _ H8.out)
  clear g1 d0 H7 B7
  have d6 := HF6.out _ B8.out
  obtain ⟨pv, hpc, hps⟩ := id G7.out
  obtain ⟨pa, pcap, hpv, _⟩ := hps.form
  have r7 := HF7.out _ B8.out
  rw [hpc] at r7
  have d7 : w8.cell? ⟨w.heap.size, 100, none⟩ = some (.int .i64 (x.2.2.2.2.2.2.2).1) := r7 0 _ rfl
  have d8 : w8.cell? ⟨w.heap.size, 101, none⟩ = some pv := r7 1 _ rfl
  rw [hpv] at d8
  clear r7 hpc hps hpv
  obtain ⟨ch, hch⟩ : ∃ c, (x.2.2.2.2.2.2.1) = c := ⟨_, rfl⟩
  obtain ⟨pt, hpt⟩ : ∃ c, (x.2.2.2.2.2.2.2).1 = c := ⟨_, rfl⟩
  obtain ⟨pn, hpn⟩ : ∃ c, (x.2.2.2.2.2.2.2).2.length = c := ⟨_, rfl⟩
  rw [hpt] at d7
  rw [hpn] at d8
  rw [hch] at d6
  have HCH := Lib.hid hch
  have HPT := Lib.hid hpt
  have HPN := Lib.hid hpn
  clear hch hpt hpn
  cases ch
  · have key : ∀ ok : Bool, (decide (pt = 0) && decide (pn = 0)) = ok → ∀ (w9 : World), RAt T w1 w9 q (m ++ (x.1) ++ num (x.2.1) 8 ++ num (x.2.2.1) 8 ++ (x.2.2.2.1) ++ (x.2.2.2.2.1) ++ text (x.2.2.2.2.2.1) ++ [tb (x.2.2.2.2.2.2.1)]) ((bad || !decide (((x.2.2.2.2.2.1).length : Int) ≤ 256)) || !ok) → RAt S w0 w9 q (m ++ encHe x) (bad || badHe x) := fun ok hok w9 h => by
      have h2 := HL.out _ _ _ h
      have e1 : encHe x = (x.1) ++ (num (x.2.1) 8 ++ (num (x.2.2.1) 8 ++ ((x.2.2.2.1) ++ ((x.2.2.2.2.1) ++ (text (x.2.2.2.2.2.1) ++ [tb (x.2.2.2.2.2.2.1)]))))) := by simp only [encHe, HCH.out]; simp
      have e2 : badHe x = (!decide (((x.2.2.2.2.2.1).length : Int) ≤ 256) || !ok) := by simp only [badHe, HCH.out, HPT.out, HPN.out, hok]; simp
      rw [e1, e2]
      simp only [List.append_assoc, Bool.or_assoc] at h2
      exact h2
    by_cases ht : pt = 0
    · by_cases hk : pn = 0
      · have HKY := Lib.hid (key true (by simp [ht, hk]))
        have ht2 : (pt == 0) = true := by simpa using ht
        have hk2 : ((pn : Int) == 0) = true := by simpa using hk
        clear key ht hk
        go_wp2_with fail
        refine (rmust_calls _ _ w8 q _ _ true H8.out).mono ?_
        rintro e w9 ⟨rfl, g1⟩
        have GF := Lib.hid (HKY.out _ g1)
        clear g1 d6 d7 d8
        go_wp2
        go_end0
        exact ⟨rfl, GF.out⟩
      · have HKY := Lib.hid (key false (by simp [ht, hk]))
        have ht2 : (pt == 0) = true := by simpa using ht
        have hk2 : ((pn : Int) == 0) = false := by simpa using hk
        clear key ht hk
        go_wp2_with fail
        refine (rmust_calls _ _ w8 q _ _ false H8.out).mono ?_
        rintro e w9 ⟨rfl, g1⟩
        have GF := Lib.hid (HKY.out _ g1)
        clear g1 d6 d7 d8
        go_wp2
        go_end0
        exact ⟨rfl, GF.out⟩
    · have HKY := Lib.hid (key false (by simp [ht]))
      have ht2 : (pt == 0) = false := by simpa using ht
      clear key ht
      go_wp2_with fail
      refine (rmust_calls _ _ w8 q _ _ false H8.out).mono ?_
      rintro e w9 ⟨rfl, g1⟩
      have GF := Lib.hid (HKY.out _ g1)
      clear g1 d6 d7 d8
      go_wp2
      go_end0
      exact ⟨rfl, GF.out⟩
  · have hle2 : (if (x.2.2.2.2.2.2.1) = true then Wp.enc (x.2.2.2.2.2.2.2) else []).length = (Wp.enc (x.2.2.2.2.2.2.2)).length := by rw [HCH.out]; rfl
    rw [hle2] at hlen
    clear hle2 d7 d8
    go_wp2_with (first | (with_reducible refine wpList_load_mid rfl _ _ rfl w.heap.size 100 rfl c7 _ (HF7.out _ B8.out) Tryz.underlying44 rfl HSZ7.out ?_))
    refine (rpm_to _ _ _ w8 q _ _ c7 (x.2.2.2.2.2.2.2) (rep_pm.fr G7.out H8.out.2.1 (fun b _ h => HD.out b h.1 h.2)) (HD2.out _) H8.out (by (try simp only [List.length_append, num_length, List.length_cons, List.length_nil]); omega)).mono ?_
    rintro e w9 ⟨rfl, g1⟩
    have GF := Lib.hid (HL.out _ _ _ g1)
    clear g1 d6
    go_wp2
    go_end0
    refine ⟨rfl, ?_⟩
    have h2 := GF.out
    have e1 : encHe x = (x.1) ++ (num (x.2.1) 8 ++ (num (x.2.2.1) 8 ++ ((x.2.2.2.1) ++ ((x.2.2.2.2.1) ++ (text (x.2.2.2.2.2.1) ++ ([tb (x.2.2.2.2.2.2.1)] ++ Wp.enc (x.2.2.2.2.2.2.2))))))) := by simp only [encHe, HCH.out]; simp
    have e2 : badHe x = (!decide (((x.2.2.2.2.2.1).length : Int) ≤ 256) || Wp.bad (x.2.2.2.2.2.2.2)) := by simp only [badHe, HCH.out]; simp
    rw [e1, e2]
    simp only [List.append_assoc, Bool.or_assoc] at h2
    exact h2
set_option maxHeartbeats 4000000 in
set_option maxRecDepth 100000 in
theorem rHeader_told (w : World) (cs : List Value) (x : _) (hR : RHe Any w cs x) (hn : (encHe x).length + 9 ≤ 140737488355328) :
    Calls Tryz.prog 21 #[.agg cs.toArray] w fun e w' => Wt.Told 0 (encHe x) (badHe x) e w' ∧ Below w.heap.size w w' := by
  obtain ⟨ca, hca⟩ : ∃ ca, cs.toArray = ca := ⟨_, rfl⟩
  have HB := Lib.hid (show Blk (w.alloc (.cells ca 50)) w.heap.size cs 50 from Blk.new w _ _ _ hca.symm)
  have B1 := Lib.hid (below_alloc w (.cells ca 50))
  have hz : w.heap.size + 1 ≤ (w.alloc (.cells ca 50)).heap.size := by simp
  have HA := Lib.hid (rep_He.mono hR (E := fun k => k < w.heap.size) (fun k h1 _ => h1))
  have HSZ := Lib.hid (show (Tryz.prog.info? 50).map (·.size) = some cs.length by rw [rep_He.len hR]; kernel_rfl)
  rw [hca]
  clear hR hca
  go_enter Tryz.func21, Tryz.ntmps21
  go_upto_region 1 with fail
  generalize (w.alloc (.cells ca 50)) = w1 at *
  have H2 := Lib.hid (Rw.RAt.start (RfW.RefIs.new w1) (fun k h => by simp; omega))
  have HB2 := Lib.hid (HB.out.alloc (.cells #[.slice none 0 0, .bool false] 61))
  have B2 := Lib.hid (B1.out.alloc (by omega) (.cells #[.slice none 0 0, .bool false] 61))
  have hs3 : w1.heap.size + 1 ≤ (w1.alloc (.cells #[.slice none 0 0, .bool false] 61)).heap.size := by simp
  clear HB B1
  go_upto_region 2 with fail
  generalize (w1.alloc (.cells #[.slice none 0 0, .bool false] 61)) = w3 at *
  have HA3 := Lib.hid (rep_He.below HA.out B2.out)
  go_wp2_with (first | (with_reducible refine wpList_load_blk rfl _ _ rfl w.heap.size cs rfl HB2.out _ Tryz.underlying50 rfl HSZ.out ?_))
  refine (rheader_to _ (fun k => k < w.heap.size) _ w3 _ [] false cs x HA3.out (fun k _ h e => by rcases e with e | e <;> omega) H2.out (by simp; omega)).mono ?_
  rintro e w4 ⟨rfl, g1⟩
  rw [List.nil_append, Bool.false_or] at g1
  have G1 := Lib.hid g1.1
  have BF := Lib.hid (B2.out.trans (show Below w.heap.size w3 w4 from g1.2.1.below (by omega) (fun k h => by omega)))
  clear g1 H2 B2 HB2
  go_wp2_with fail
  refine (done_calls _ w4 _ _ _ G1.out).mono ?_
  rintro e w5 ⟨⟨a', c', rfl, o5⟩, rfl⟩
  have O5 := Lib.hid o5
  clear o5 G1
  go_wp2
  go_ret2
  exact ⟨⟨a', c', rfl, O5.out⟩, BF.out⟩
end Go.Proofs.YtmenchnjajpkmaaGreat.Whe
end

section
namespace Go.Proofs.YtmenchnjajpkmaaGreat.Rh
open Go Go.RowKit Mem Codec CodecR Ops Reps WtIt Arr Rr
set_option linter.unusedVariables false
set_option linter.unusedSimpArgs false

set_option maxHeartbeats 16000000 in
set_option maxRecDepth 100000 in
theorem rfhe_calls (w : World) (q : Nat) (a : Option Addr) (c : Nat) (B : List UInt8) (r : Rd) (H : RfR w q a c B r) (hl : B.length ≤ 140737488355328) :
    Calls Tryz.prog 51 #[.pointer (some ⟨q, 0, none⟩)] w (GotR RHe w q a c B (RDhe r)) := by
  have hqw := H.lt
  have H0 := Lib.hid H
  have HY0 := Lib.hid H.byt
  obtain ⟨y1, hy1⟩ : ∃ z, (Wr.Rd.dig r).2 = z := ⟨_, rfl⟩
  obtain ⟨r1, hr1⟩ : ∃ z, (Wr.Rd.dig r).1 = z := ⟨_, rfl⟩
  have HC1 := Lib.hid (fun w h => digest_calls w q a c B r h hl)
  rw [hr1, hy1] at HC1
  have HW1 := Lib.hid (show y1.length = 32 by rw [← hy1]; exact Wr.Rd.dig_len _)
  obtain ⟨y2, hy2⟩ : ∃ z, ((fun r : Rd => r.num 8) r1).2 = z := ⟨_, rfl⟩
  obtain ⟨r2, hr2⟩ : ∃ z, ((fun r : Rd => r.num 8) r1).1 = z := ⟨_, rfl⟩
  have HC2 := Lib.hid (fun w h => number_calls w q a c B r1 8 (by omega) h hl)
  have hr2' : (Rd.num r1 8).1 = r2 := hr2
  have hy2' : (Rd.num r1 8).2 = y2 := hy2
  rw [hr2', hy2'] at HC2
  have HW2 := Lib.hid (show y2 < 18446744073709551616 by rw [← hy2]; exact CodecR.num_lt _ _)
  clear hr2' hy2'
  obtain ⟨y3, hy3⟩ : ∃ z, ((fun r : Rd => r.num 8) r2).2 = z := ⟨_, rfl⟩
  obtain ⟨r3, hr3⟩ : ∃ z, ((fun r : Rd => r.num 8) r2).1 = z := ⟨_, rfl⟩
  have HC3 := Lib.hid (fun w h => number_calls w q a c B r2 8 (by omega) h hl)
  have hr3' : (Rd.num r2 8).1 = r3 := hr3
  have hy3' : (Rd.num r2 8).2 = y3 := hy3
  rw [hr3', hy3'] at HC3
  have HW3 := Lib.hid (show y3 < 18446744073709551616 by rw [← hy3]; exact CodecR.num_lt _ _)
  clear hr3' hy3'
  obtain ⟨y4, hy4⟩ : ∃ z, (Wr.Rd.dig r3).2 = z := ⟨_, rfl⟩
  obtain ⟨r4, hr4⟩ : ∃ z, (Wr.Rd.dig r3).1 = z := ⟨_, rfl⟩
  have HC4 := Lib.hid (fun w h => digest_calls w q a c B r3 h hl)
  rw [hr4, hy4] at HC4
  have HW4 := Lib.hid (show y4.length = 32 by rw [← hy4]; exact Wr.Rd.dig_len _)
  obtain ⟨y5, hy5⟩ : ∃ z, (Wr.Rd.dig r4).2 = z := ⟨_, rfl⟩
  obtain ⟨r5, hr5⟩ : ∃ z, (Wr.Rd.dig r4).1 = z := ⟨_, rfl⟩
  have HC5 := Lib.hid (fun w h => digest_calls w q a c B r4 h hl)
  rw [hr5, hy5] at HC5
  have HW5 := Lib.hid (show y5.length = 32 by rw [← hy5]; exact Wr.Rd.dig_len _)
  obtain ⟨y6, hy6⟩ : ∃ z, ((fun r : Rd => r.text 256) r5).2 = z := ⟨_, rfl⟩
  obtain ⟨r6, hr6⟩ : ∃ z, ((fun r : Rd => r.text 256) r5).1 = z := ⟨_, rfl⟩
  have HC6 := Lib.hid (fun w h => text_calls w q a c B r5 256 (by omega) (by omega) h hl)
  have hr6' : (Rd.text r5 256).1 = r6 := hr6
  have hy6' : (Rd.text r5 256).2 = y6 := hy6
  rw [hr6', hy6'] at HC6
  clear hr6' hy6'
  obtain ⟨y7, hy7⟩ : ∃ z, (truth r6).2 = z := ⟨_, rfl⟩
  obtain ⟨r7, hr7⟩ : ∃ z, (truth r6).1 = z := ⟨_, rfl⟩
  have HC7 := Lib.hid (fun w h => small_calls w q a c B r6 0 1 h hl)
  obtain ⟨nk7, hnk7⟩ : ∃ z, (Wr.Rd.kind r6 0 1).2 = z := ⟨_, rfl⟩
  have hr7' : (Wr.Rd.kind r6 0 1).1 = r7 := hr7
  have hyb7 : (nk7 == 1) = y7 := by rw [← hnk7]; exact hy7
  rw [hr7', hnk7] at HC7
  clear hr7' hnk7
  have HRD := Lib.hid (show RDhe r = hdr (r7, y1, y2, y3, y4, y5, y6, y7) by unfold RDhe; congr 1; simp only [RDh7, seq, hr1, hy1, hr2, hy2, hr3, hy3, hr4, hy4, hr5, hy5, hr6, hy6, hr7, hy7])
  rw [HRD.out]
  clear H hr1 hy1 hr2 hy2 hr3 hy3 hr4 hy4 hr5 hy5 hr6 hy6 hr7 hy7
  go_enter Tryz.func51, Tryz.ntmps51
  go_upto_region 1 with (first
    | ((with_reducible refine wpList_alloc rfl _ rfl _ (zeroHe _) (fun wa ka ca za => ?_)); have KA := Lib.hid ka; have CA := Lib.hid ca; clear ka ca))
  go_upto_region 2 with (first
    | ((with_reducible refine wpList_alloc rfl _ rfl _ (zeroHe _) (fun wb ka ca zb => ?_)); have KB := Lib.hid ka; have CB := Lib.hid ca; clear ka ca))
  have CAB := Lib.hid (CA.out.trans (CB.out.mono (by omega)))
  have KA0 := Lib.hid (KA.out.below CB.out)
  have HR0 := Lib.hid (H0.out.below CAB.out)
  have HYv0 := Lib.hid (HY0.out.below CAB.out)
  have F0 := Lib.hid (Fr.ofBelowAll (S := fun k => k = q) CAB.out (Nat.le_refl _))
  have hgb : wa.heap.size < wb.heap.size := KB.out.lt
  have hgw0 : w.heap.size < wa.heap.size := by omega
  have hs0 : wa.heap.size < wb.heap.size := by omega
  clear CA CB KA CAB H0 HY0
  generalize wa.heap.size = gp at *
  obtain ⟨x0, hx0⟩ : ∃ x : World, x = wb := ⟨_, rfl⟩
  subst hx0
  have KB0 := KB
  clear KB
  go_wp2_with fail
  refine (HC1.out x0 HR0.out).mono ?_
  rintro e x1 ⟨rfl, o1, o2⟩
  have hsx1 := o2.size
  have KBm := Lib.hid (KB0.out.fr o2 (by omega))
  have KAm := Lib.hid (KA0.out.fr o2 (by omega))
  have HYm := Lib.hid (HYv0.out.fr o2 (fun k _ h e => h.2 e))
  have HRm := Lib.hid o1
  have Fm := Lib.hid (F0.out.trans o2)
  clear o1 o2 HC1 KB0 KA0 HYv0 HR0 F0
  have KBn := Lib.hid (show Blk x1 gp (([] : List Value) ++ (List.replicate 32 (Value.int .u8 0) ++ ([Value.int .u64 0] ++ ([Value.int .u64 0] ++ (List.replicate 32 (Value.int .u8 0) ++ (List.replicate 32 (Value.int .u8 0) ++ ([Value.slice none 0 0] ++ ([Value.bool false] ++ ([Value.int .i64 0, Value.slice none 0 0]))))))))) 50 from by have h := KBm.out; (try simp only [List.append_assoc, List.nil_append, List.append_nil] at h); (try simp only [List.append_assoc, List.nil_append, List.append_nil]); exact h)
  have HSZ1 := Lib.hid (show (Tryz.prog.info? 27).map (·.size) = some (y1.map byt).length by rw [List.length_map, HW1.out]; kernel_rfl)
  have HLL := Lib.hid (show (List.replicate 32 (Value.int .u8 0) : List Value).length = (y1.map byt).length from by simp [HW1.out])
  have hnx1 : (([] : List Value) : List Value).length = 0 := rfl
  go_upto_region 3 with (first
    | ((with_reducible refine wpList_putMid rfl _ _ _ rfl gp ([] : List Value) (List.replicate 32 (Value.int .u8 0)) ([Value.int .u64 0] ++ ([Value.int .u64 0] ++ (List.replicate 32 (Value.int .u8 0) ++ (List.replicate 32 (Value.int .u8 0) ++ ([Value.slice none 0 0] ++ ([Value.bool false] ++ ([Value.int .i64 0, Value.slice none 0 0]))))))) (y1.map byt) 0 hnx1 rfl rfl KBn.out HSZ1.out HLL.out (Wt.oneK y1) (fun x2 kd fd zd => ?_)); have KD := Lib.hid kd; have FD := Lib.hid fd; clear kd fd))
  have KB1 := Lib.hid (show Blk x2 gp (y1.map byt ++ ([Value.int .u64 0] ++ ([Value.int .u64 0] ++ (List.replicate 32 (Value.int .u8 0) ++ (List.replicate 32 (Value.int .u8 0) ++ ([Value.slice none 0 0] ++ ([Value.bool false] ++ ([Value.int .i64 0, Value.slice none 0 0])))))))) 50 from by have h := KD.out; (try simp only [List.append_assoc, List.nil_append, List.append_nil] at h); (try simp only [List.append_assoc, List.nil_append, List.append_nil]); exact h)
  have KA1 := Lib.hid (KAm.out.fr FD.out (by omega))
  have HYv1 := Lib.hid (HYm.out.fr FD.out (fun k _ h e => by have := h.1; omega))
  have HR1 := Lib.hid (HRm.out.frD HYm.out FD.out (by omega) (fun k h => ⟨h.2, by have := h.1; omega⟩))
  have F1 := Lib.hid (Fm.out.trans' FD.out (fun k hk e => by omega))
  have hsx2 := FD.out.size
  clear KBm KAm HYm HRm Fm KBn KD FD hnx1
  clear HLL
  go_wp2_with fail
  refine (HC2.out x2 HR1.out).mono ?_
  rintro e x3 ⟨rfl, o1, o2⟩
  have hsx3 := o2.size
  have KBm := Lib.hid (KB1.out.fr o2 (by omega))
  have KAm := Lib.hid (KA1.out.fr o2 (by omega))
  have HYm := Lib.hid (HYv1.out.fr o2 (fun k _ h e => h.2 e))
  have HRm := Lib.hid o1
  have Fm := Lib.hid (F1.out.trans o2)
  clear o1 o2 HC2 KB1 KA1 HYv1 HR1 F1
  have KBn := Lib.hid (show Blk x3 gp ((y1.map byt) ++ ([Value.int .u64 0] ++ ([Value.int .u64 0] ++ (List.replicate 32 (Value.int .u8 0) ++ (List.replicate 32 (Value.int .u8 0) ++ ([Value.slice none 0 0] ++ ([Value.bool false] ++ ([Value.int .i64 0, Value.slice none 0 0])))))))) 50 from by have h := KBm.out; (try simp only [List.append_assoc, List.nil_append, List.append_nil] at h); (try simp only [List.append_assoc, List.nil_append, List.append_nil]); exact h)
  have hnx3 : ((y1.map byt) : List Value).length = 32 := (by simp [HW1.out])
  go_upto_region 4 with (first
    | ((with_reducible refine wpList_putc rfl _ _ _ rfl gp (y1.map byt) ([Value.int .u64 0] ++ (List.replicate 32 (Value.int .u8 0) ++ (List.replicate 32 (Value.int .u8 0) ++ ([Value.slice none 0 0] ++ ([Value.bool false] ++ ([Value.int .i64 0, Value.slice none 0 0])))))) (Value.int .u64 0) 32 hnx3 rfl (Value.int .u64 (y2 : Int)) rfl rfl KBn.out (by kernel_rfl) (fun x4 kd fd zd => ?_)); have KD := Lib.hid kd; have FD := Lib.hid fd; clear kd fd))
  have KB2 := Lib.hid (show Blk x4 gp (y1.map byt ++ ([Value.int .u64 (y2 : Int)] ++ ([Value.int .u64 0] ++ (List.replicate 32 (Value.int .u8 0) ++ (List.replicate 32 (Value.int .u8 0) ++ ([Value.slice none 0 0] ++ ([Value.bool false] ++ ([Value.int .i64 0, Value.slice none 0 0])))))))) 50 from by have h := KD.out; (try simp only [List.append_assoc, List.nil_append, List.append_nil] at h); (try simp only [List.append_assoc, List.nil_append, List.append_nil]); exact h)
  have KA2 := Lib.hid (KAm.out.fr FD.out (by omega))
  have HYv2 := Lib.hid (HYm.out.fr FD.out (fun k _ h e => by have := h.1; omega))
  have HR2 := Lib.hid (HRm.out.frD HYm.out FD.out (by omega) (fun k h => ⟨h.2, by have := h.1; omega⟩))
  have F2 := Lib.hid (Fm.out.trans' FD.out (fun k hk e => by omega))
  have hsx4 := FD.out.size
  clear KBm KAm HYm HRm Fm KBn KD FD hnx3
  go_wp2_with fail
  refine (HC3.out x4 HR2.out).mono ?_
  rintro e x5 ⟨rfl, o1, o2⟩
  have hsx5 := o2.size
  have KBm := Lib.hid (KB2.out.fr o2 (by omega))
  have KAm := Lib.hid (KA2.out.fr o2 (by omega))
  have HYm := Lib.hid (HYv2.out.fr o2 (fun k _ h e => h.2 e))
  have HRm := Lib.hid o1
  have Fm := Lib.hid (F2.out.trans o2)
  clear o1 o2 HC3 KB2 KA2 HYv2 HR2 F2
  have KBn := Lib.hid (show Blk x5 gp ((y1.map byt ++ ([Value.int .u64 (y2 : Int)])) ++ ([Value.int .u64 0] ++ (List.replicate 32 (Value.int .u8 0) ++ (List.replicate 32 (Value.int .u8 0) ++ ([Value.slice none 0 0] ++ ([Value.bool false] ++ ([Value.int .i64 0, Value.slice none 0 0]))))))) 50 from by have h := KBm.out; (try simp only [List.append_assoc, List.nil_append, List.append_nil] at h); (try simp only [List.append_assoc, List.nil_append, List.append_nil]); exact h)
  have hnx5 : ((y1.map byt ++ ([Value.int .u64 (y2 : Int)])) : List Value).length = 33 := (by simp [HW1.out])
  go_upto_region 5 with (first
    | ((with_reducible refine wpList_putc rfl _ _ _ rfl gp (y1.map byt ++ ([Value.int .u64 (y2 : Int)])) (List.replicate 32 (Value.int .u8 0) ++ (List.replicate 32 (Value.int .u8 0) ++ ([Value.slice none 0 0] ++ ([Value.bool false] ++ ([Value.int .i64 0, Value.slice none 0 0]))))) (Value.int .u64 0) 33 hnx5 rfl (Value.int .u64 (y3 : Int)) rfl rfl KBn.out (by kernel_rfl) (fun x6 kd fd zd => ?_)); have KD := Lib.hid kd; have FD := Lib.hid fd; clear kd fd))
  have KB3 := Lib.hid (show Blk x6 gp (y1.map byt ++ ([Value.int .u64 (y2 : Int)] ++ ([Value.int .u64 (y3 : Int)] ++ (List.replicate 32 (Value.int .u8 0) ++ (List.replicate 32 (Value.int .u8 0) ++ ([Value.slice none 0 0] ++ ([Value.bool false] ++ ([Value.int .i64 0, Value.slice none 0 0])))))))) 50 from by have h := KD.out; (try simp only [List.append_assoc, List.nil_append, List.append_nil] at h); (try simp only [List.append_assoc, List.nil_append, List.append_nil]); exact h)
  have KA3 := Lib.hid (KAm.out.fr FD.out (by omega))
  have HYv3 := Lib.hid (HYm.out.fr FD.out (fun k _ h e => by have := h.1; omega))
  have HR3 := Lib.hid (HRm.out.frD HYm.out FD.out (by omega) (fun k h => ⟨h.2, by have := h.1; omega⟩))
  have F3 := Lib.hid (Fm.out.trans' FD.out (fun k hk e => by omega))
  have hsx6 := FD.out.size
  clear KBm KAm HYm HRm Fm KBn KD FD hnx5
  go_wp2_with fail
  refine (HC4.out x6 HR3.out).mono ?_
  rintro e x7 ⟨rfl, o1, o2⟩
  have hsx7 := o2.size
  have KBm := Lib.hid (KB3.out.fr o2 (by omega))
  have KAm := Lib.hid (KA3.out.fr o2 (by omega))
  have HYm := Lib.hid (HYv3.out.fr o2 (fun k _ h e => h.2 e))
  have HRm := Lib.hid o1
  have Fm := Lib.hid (F3.out.trans o2)
  clear o1 o2 HC4 KB3 KA3 HYv3 HR3 F3
  have KBn := Lib.hid (show Blk x7 gp ((y1.map byt ++ ([Value.int .u64 (y2 : Int)] ++ ([Value.int .u64 (y3 : Int)]))) ++ (List.replicate 32 (Value.int .u8 0) ++ (List.replicate 32 (Value.int .u8 0) ++ ([Value.slice none 0 0] ++ ([Value.bool false] ++ ([Value.int .i64 0, Value.slice none 0 0])))))) 50 from by have h := KBm.out; (try simp only [List.append_assoc, List.nil_append, List.append_nil] at h); (try simp only [List.append_assoc, List.nil_append, List.append_nil]); exact h)
  have HSZ4 := Lib.hid (show (Tryz.prog.info? 27).map (·.size) = some (y4.map byt).length by rw [List.length_map, HW4.out]; kernel_rfl)
  have HLL := Lib.hid (show (List.replicate 32 (Value.int .u8 0) : List Value).length = (y4.map byt).length from by simp [HW4.out])
  have hnx7 : ((y1.map byt ++ ([Value.int .u64 (y2 : Int)] ++ ([Value.int .u64 (y3 : Int)]))) : List Value).length = 34 := (by simp [HW1.out])
  go_upto_region 6 with (first
    | ((with_reducible refine wpList_putMid rfl _ _ _ rfl gp (y1.map byt ++ ([Value.int .u64 (y2 : Int)] ++ ([Value.int .u64 (y3 : Int)]))) (List.replicate 32 (Value.int .u8 0)) (List.replicate 32 (Value.int .u8 0) ++ ([Value.slice none 0 0] ++ ([Value.bool false] ++ ([Value.int .i64 0, Value.slice none 0 0])))) (y4.map byt) 34 hnx7 rfl rfl KBn.out HSZ4.out HLL.out (Wt.oneK y4) (fun x8 kd fd zd => ?_)); have KD := Lib.hid kd; have FD := Lib.hid fd; clear kd fd))
  have KB4 := Lib.hid (show Blk x8 gp (y1.map byt ++ ([Value.int .u64 (y2 : Int)] ++ ([Value.int .u64 (y3 : Int)] ++ (y4.map byt ++ (List.replicate 32 (Value.int .u8 0) ++ ([Value.slice none 0 0] ++ ([Value.bool false] ++ ([Value.int .i64 0, Value.slice none 0 0])))))))) 50 from by have h := KD.out; (try simp only [List.append_assoc, List.nil_append, List.append_nil] at h); (try simp only [List.append_assoc, List.nil_append, List.append_nil]); exact h)
  have KA4 := Lib.hid (KAm.out.fr FD.out (by omega))
  have HYv4 := Lib.hid (HYm.out.fr FD.out (fun k _ h e => by have := h.1; omega))
  have HR4 := Lib.hid (HRm.out.frD HYm.out FD.out (by omega) (fun k h => ⟨h.2, by have := h.1; omega⟩))
  have F4 := Lib.hid (Fm.out.trans' FD.out (fun k hk e => by omega))
  have hsx8 := FD.out.size
  clear KBm KAm HYm HRm Fm KBn KD FD hnx7
  clear HLL
  go_wp2_with fail
  refine (HC5.out x8 HR4.out).mono ?_
  rintro e x9 ⟨rfl, o1, o2⟩
  have hsx9 := o2.size
  have KBm := Lib.hid (KB4.out.fr o2 (by omega))
  have KAm := Lib.hid (KA4.out.fr o2 (by omega))
  have HYm := Lib.hid (HYv4.out.fr o2 (fun k _ h e => h.2 e))
  have HRm := Lib.hid o1
  have Fm := Lib.hid (F4.out.trans o2)
  clear o1 o2 HC5 KB4 KA4 HYv4 HR4 F4
  have KBn := Lib.hid (show Blk x9 gp ((y1.map byt ++ ([Value.int .u64 (y2 : Int)] ++ ([Value.int .u64 (y3 : Int)] ++ (y4.map byt)))) ++ (List.replicate 32 (Value.int .u8 0) ++ ([Value.slice none 0 0] ++ ([Value.bool false] ++ ([Value.int .i64 0, Value.slice none 0 0]))))) 50 from by have h := KBm.out; (try simp only [List.append_assoc, List.nil_append, List.append_nil] at h); (try simp only [List.append_assoc, List.nil_append, List.append_nil]); exact h)
  have HSZ5 := Lib.hid (show (Tryz.prog.info? 27).map (·.size) = some (y5.map byt).length by rw [List.length_map, HW5.out]; kernel_rfl)
  have HLL := Lib.hid (show (List.replicate 32 (Value.int .u8 0) : List Value).length = (y5.map byt).length from by simp [HW5.out])
  have hnx9 : ((y1.map byt ++ ([Value.int .u64 (y2 : Int)] ++ ([Value.int .u64 (y3 : Int)] ++ (y4.map byt)))) : List Value).length = 66 := (by simp [HW1.out, HW4.out])
  go_upto_region 7 with (first
    | ((with_reducible refine wpList_putMid rfl _ _ _ rfl gp (y1.map byt ++ ([Value.int .u64 (y2 : Int)] ++ ([Value.int .u64 (y3 : Int)] ++ (y4.map byt)))) (List.replicate 32 (Value.int .u8 0)) ([Value.slice none 0 0] ++ ([Value.bool false] ++ ([Value.int .i64 0, Value.slice none 0 0]))) (y5.map byt) 66 hnx9 rfl rfl KBn.out HSZ5.out HLL.out (Wt.oneK y5) (fun x10 kd fd zd => ?_)); have KD := Lib.hid kd; have FD := Lib.hid fd; clear kd fd))
  have KB5 := Lib.hid (show Blk x10 gp (y1.map byt ++ ([Value.int .u64 (y2 : Int)] ++ ([Value.int .u64 (y3 : Int)] ++ (y4.map byt ++ (y5.map byt ++ ([Value.slice none 0 0] ++ ([Value.bool false] ++ ([Value.int .i64 0, Value.slice none 0 0])))))))) 50 from by have h := KD.out; (try simp only [List.append_assoc, List.nil_append, List.append_nil] at h); (try simp only [List.append_assoc, List.nil_append, List.append_nil]); exact h)
  have KA5 := Lib.hid (KAm.out.fr FD.out (by omega))
  have HYv5 := Lib.hid (HYm.out.fr FD.out (fun k _ h e => by have := h.1; omega))
  have HR5 := Lib.hid (HRm.out.frD HYm.out FD.out (by omega) (fun k h => ⟨h.2, by have := h.1; omega⟩))
  have F5 := Lib.hid (Fm.out.trans' FD.out (fun k hk e => by omega))
  have hsx10 := FD.out.size
  clear KBm KAm HYm HRm Fm KBn KD FD hnx9
  clear HLL
  go_wp2_with fail
  refine (HC6.out x10 HR5.out).mono ?_
  rintro e x11 ⟨v6, rfl, ox, o1, o2⟩
  have hsx11 := o2.size
  have KBm := Lib.hid (KB5.out.fr o2 (by omega))
  have KAm := Lib.hid (KA5.out.fr o2 (by omega))
  have HYm := Lib.hid (HYv5.out.fr o2 (fun k _ h e => h.2 e))
  have HRm := Lib.hid o1
  have Fm := Lib.hid (F5.out.trans o2)
  have GX6 := Lib.hid (show RBy (fun b => gp < b) x11 [v6] y6 from ⟨_, rfl, ox.mono (fun b _ h => by omega)⟩)
  have HV6 := Lib.hid (rep_by.one GX6.out v6 (by simp))
  clear o1 o2 ox HC6 KB5 KA5 HYv5 HR5 F5
  have KBn := Lib.hid (show Blk x11 gp ((y1.map byt ++ ([Value.int .u64 (y2 : Int)] ++ ([Value.int .u64 (y3 : Int)] ++ (y4.map byt ++ (y5.map byt))))) ++ ([Value.slice none 0 0] ++ ([Value.bool false] ++ ([Value.int .i64 0, Value.slice none 0 0])))) 50 from by have h := KBm.out; (try simp only [List.append_assoc, List.nil_append, List.append_nil] at h); (try simp only [List.append_assoc, List.nil_append, List.append_nil]); exact h)
  have hnx11 : ((y1.map byt ++ ([Value.int .u64 (y2 : Int)] ++ ([Value.int .u64 (y3 : Int)] ++ (y4.map byt ++ (y5.map byt))))) : List Value).length = 98 := (by simp [HW1.out, HW4.out, HW5.out])
  go_upto_region 8 with (first
    | ((with_reducible refine wpList_putc rfl _ _ _ rfl gp (y1.map byt ++ ([Value.int .u64 (y2 : Int)] ++ ([Value.int .u64 (y3 : Int)] ++ (y4.map byt ++ (y5.map byt))))) ([Value.bool false] ++ ([Value.int .i64 0, Value.slice none 0 0])) (Value.slice none 0 0) 98 hnx11 rfl (v6) rfl HV6.out KBn.out (by kernel_rfl) (fun x12 kd fd zd => ?_)); have KD := Lib.hid kd; have FD := Lib.hid fd; clear kd fd))
  have KB6 := Lib.hid (show Blk x12 gp (y1.map byt ++ ([Value.int .u64 (y2 : Int)] ++ ([Value.int .u64 (y3 : Int)] ++ (y4.map byt ++ (y5.map byt ++ ([v6] ++ ([Value.bool false] ++ ([Value.int .i64 0, Value.slice none 0 0])))))))) 50 from by have h := KD.out; (try simp only [List.append_assoc, List.nil_append, List.append_nil] at h); (try simp only [List.append_assoc, List.nil_append, List.append_nil]); exact h)
  have KA6 := Lib.hid (KAm.out.fr FD.out (by omega))
  have HYv6 := Lib.hid (HYm.out.fr FD.out (fun k _ h e => by have := h.1; omega))
  have HR6 := Lib.hid (HRm.out.frD HYm.out FD.out (by omega) (fun k h => ⟨h.2, by have := h.1; omega⟩))
  have F6 := Lib.hid (Fm.out.trans' FD.out (fun k hk e => by omega))
  have hsx12 := FD.out.size
  have GX6 := Lib.hid (rep_by.fr GX6.out FD.out (fun b _ h e => by omega))
  clear KBm KAm HYm HRm Fm KBn KD FD hnx11
  go_wp2_with fail
  refine (HC7.out x12 HR6.out).mono ?_
  rintro e x13 ⟨rfl, o1, o2⟩
  have hsx13 := o2.size
  have KBm := Lib.hid (KB6.out.fr o2 (by omega))
  have KAm := Lib.hid (KA6.out.fr o2 (by omega))
  have HYm := Lib.hid (HYv6.out.fr o2 (fun k _ h e => h.2 e))
  have HRm := Lib.hid o1
  have Fm := Lib.hid (F6.out.trans o2)
  have GX6 := Lib.hid (rep_by.fr GX6.out o2 (fun b _ h e => by omega))
  clear o1 o2 HC7 KB6 KA6 HYv6 HR6 F6
  have KBn := Lib.hid (show Blk x13 gp ((y1.map byt ++ ([Value.int .u64 (y2 : Int)] ++ ([Value.int .u64 (y3 : Int)] ++ (y4.map byt ++ (y5.map byt ++ ([v6])))))) ++ ([Value.bool false] ++ ([Value.int .i64 0, Value.slice none 0 0]))) 50 from by have h := KBm.out; (try simp only [List.append_assoc, List.nil_append, List.append_nil] at h); (try simp only [List.append_assoc, List.nil_append, List.append_nil]); exact h)
  have hnx13 : ((y1.map byt ++ ([Value.int .u64 (y2 : Int)] ++ ([Value.int .u64 (y3 : Int)] ++ (y4.map byt ++ (y5.map byt ++ ([v6])))))) : List Value).length = 99 := (by simp [HW1.out, HW4.out, HW5.out])
  go_upto_region 9 with (first
    | ((with_reducible refine wpList_putc rfl _ _ _ rfl gp (y1.map byt ++ ([Value.int .u64 (y2 : Int)] ++ ([Value.int .u64 (y3 : Int)] ++ (y4.map byt ++ (y5.map byt ++ ([v6])))))) ([Value.int .i64 0, Value.slice none 0 0]) (Value.bool false) 99 hnx13 rfl (Value.bool y7) rfl rfl KBn.out (by kernel_rfl) (fun x14 kd fd zd => ?_)); have KD := Lib.hid kd; have FD := Lib.hid fd; clear kd fd))
  have KB7 := Lib.hid (show Blk x14 gp (y1.map byt ++ ([Value.int .u64 (y2 : Int)] ++ ([Value.int .u64 (y3 : Int)] ++ (y4.map byt ++ (y5.map byt ++ ([v6] ++ ([Value.bool y7] ++ ([Value.int .i64 0, Value.slice none 0 0])))))))) 50 from by have h := KD.out; (try simp only [List.append_assoc, List.nil_append, List.append_nil] at h); (try simp only [List.append_assoc, List.nil_append, List.append_nil]); exact h)
  have KA7 := Lib.hid (KAm.out.fr FD.out (by omega))
  have HYv7 := Lib.hid (HYm.out.fr FD.out (fun k _ h e => by have := h.1; omega))
  have HR7 := Lib.hid (HRm.out.frD HYm.out FD.out (by omega) (fun k h => ⟨h.2, by have := h.1; omega⟩))
  have F7 := Lib.hid (Fm.out.trans' FD.out (fun k hk e => by omega))
  have hsx14 := FD.out.size
  have GX6 := Lib.hid (rep_by.fr GX6.out FD.out (fun b _ h e => by omega))
  clear KBm KAm HYm HRm Fm KBn KD FD hnx13
  clear hyb7
  have HCE := Lib.hid (show (y1.map byt ++ ([Value.int .u64 (y2 : Int)] ++ ([Value.int .u64 (y3 : Int)] ++ (y4.map byt ++ (y5.map byt ++ ([v6] ++ ([Value.bool y7] ++ ([Value.int .i64 0, Value.slice none 0 0]))))))) : List Value).length = 102 by simp [HW1.out, HW4.out, HW5.out])
  have HSZ := Lib.hid (show (Tryz.prog.info? 50).map (·.size) = some (y1.map byt ++ ([Value.int .u64 (y2 : Int)] ++ ([Value.int .u64 (y3 : Int)] ++ (y4.map byt ++ (y5.map byt ++ ([v6] ++ ([Value.bool y7] ++ ([Value.int .i64 0, Value.slice none 0 0]))))))) : List Value).length by rw [HCE.out]; kernel_rfl)
  have cch := blk_one KB7.out (y1.map byt ++ ([Value.int .u64 (y2 : Int)] ++ ([Value.int .u64 (y3 : Int)] ++ (y4.map byt ++ (y5.map byt ++ ([v6])))))) ([Value.int .i64 0, Value.slice none 0 0]) (.bool y7) (by simp) 99 (by simp [HW1.out, HW4.out, HW5.out])
  cases y7
  · have HRR := Lib.hid (show RHe (fun b => gp < b) x14 (y1.map byt ++ ([Value.int .u64 (y2 : Int)] ++ ([Value.int .u64 (y3 : Int)] ++ (y4.map byt ++ (y5.map byt ++ ([v6] ++ ([Value.bool false] ++ ([Value.int .i64 0, Value.slice none 0 0])))))))) (y1, y2, y3, y4, y5, y6, false, (0, [])) from ⟨_, _, rfl, ⟨HW1.out, rfl⟩, _, _, rfl, ⟨HW2.out, rfl⟩, _, _, rfl, ⟨HW3.out, rfl⟩, _, _, rfl, ⟨HW4.out, rfl⟩, _, _, rfl, ⟨HW5.out, rfl⟩, [_], _, rfl, GX6.out, [_], _, rfl, ⟨trivial, rfl⟩, ⟨_, rfl, Sl.nil _ _ _ _⟩⟩)
    have HOC := Lib.hid (rep_He.one HRR.out)
    go_wp2_with (first
      | (with_reducible refine wpList_load_blk rfl _ _ rfl gp (y1.map byt ++ ([Value.int .u64 (y2 : Int)] ++ ([Value.int .u64 (y3 : Int)] ++ (y4.map byt ++ (y5.map byt ++ ([v6] ++ ([Value.bool false] ++ ([Value.int .i64 0, Value.slice none 0 0])))))))) rfl KB7.out _ Tryz.underlying50 rfl HSZ.out ?_)
      | ((with_reducible refine wpList_put rfl _ _ _ rfl w.heap.size (y1.map byt ++ ([Value.int .u64 (y2 : Int)] ++ ([Value.int .u64 (y3 : Int)] ++ (y4.map byt ++ (y5.map byt ++ ([v6] ++ ([Value.bool false] ++ ([Value.int .i64 0, Value.slice none 0 0])))))))) _ rfl rfl KA7.out HSZ.out (zeroHe_len.trans HCE.out.symm) HOC.out (fun wz kz fz zz => ?_)); have KZ := Lib.hid kz; have FZ := Lib.hid fz; clear kz fz))
    exact bodyPost_ret (v := .agg (y1.map byt ++ ([Value.int .u64 (y2 : Int)] ++ ([Value.int .u64 (y3 : Int)] ++ (y4.map byt ++ (y5.map byt ++ ([v6] ++ ([Value.bool false] ++ ([Value.int .i64 0, Value.slice none 0 0])))))))).toArray) (results_row1 Tryz.results51 _ _ w.heap.size _ _ rfl KZ.out Tryz.underlying50 rfl HSZ.out) rfl ⟨_, _, rfl, rep_He.mono (rep_He.fr HRR.out FZ.out (fun b _ h (e : b = w.heap.size) => by omega)) (fun b _ h => by omega), fun _ => rfl, HR7.out.frD HYv7.out FZ.out (by omega) (fun k h => ⟨h.2, by have := h.1; omega⟩), F7.out.trans' FZ.out (fun k hk (e : k = w.heap.size) => by omega)⟩
  · go_wp2_with fail
    refine (params_calls x14 q a c B r7 HR7.out hl).mono ?_
    rintro e wp ⟨cp, z8, rfl, ox, oe, o1, o2⟩
    have PX := Lib.hid (rep_pm.mono ox (E := fun b => gp < b) (fun b _ h => by omega))
    have PL := Lib.hid (rep_pm.len ox)
    have P1 := Lib.hid (rep_pm.one ox)
    have HXE := Lib.hid oe
    have PSZ := Lib.hid (show (Tryz.prog.info? 44).map (·.size) = some cp.length by rw [PL.out]; kernel_rfl)
    have hsp := o2.size
    have HR9 := Lib.hid o1
    have KA9 := Lib.hid (KA7.out.fr o2 (by omega))
    have F9 := Lib.hid (F7.out.trans o2)
    have HY9 := Lib.hid (HYv7.out.fr o2 (fun k _ h e => h.2 e))
    have GX6 := Lib.hid (rep_by.fr GX6.out o2 (fun b _ h e => by omega))
    have KE9 := Lib.hid (show Blk wp gp ((y1.map byt ++ ([Value.int .u64 (y2 : Int)] ++ ([Value.int .u64 (y3 : Int)] ++ (y4.map byt ++ (y5.map byt ++ ([v6] ++ ([Value.bool true]))))))) ++ ([Value.int .i64 0, Value.slice none 0 0] ++ ([] : List Value))) 50 from by have h := KB7.out.fr o2 (by omega); simpa using h)
    have hnp : ((y1.map byt ++ ([Value.int .u64 (y2 : Int)] ++ ([Value.int .u64 (y3 : Int)] ++ (y4.map byt ++ (y5.map byt ++ ([v6] ++ ([Value.bool true]))))))) : List Value).length = 100 := by simp [HW1.out, HW4.out, HW5.out]
    have HLP := Lib.hid (show ([Value.int .i64 0, Value.slice none 0 0] : List Value).length = cp.length by rw [PL.out]; rfl)
    clear ox oe o1 o2
    go_upto_region 11 with (first
      | ((with_reducible refine wpList_putMid rfl _ _ _ rfl gp (y1.map byt ++ ([Value.int .u64 (y2 : Int)] ++ ([Value.int .u64 (y3 : Int)] ++ (y4.map byt ++ (y5.map byt ++ ([v6] ++ ([Value.bool true]))))))) ([Value.int .i64 0, Value.slice none 0 0]) ([] : List Value) cp 100 hnp rfl rfl KE9.out PSZ.out HLP.out P1.out (fun wq kd fd zd => ?_)); have KD := Lib.hid kd; have FD := Lib.hid fd; clear kd fd))
    have KQ := Lib.hid (show Blk wq gp (y1.map byt ++ ([Value.int .u64 (y2 : Int)] ++ ([Value.int .u64 (y3 : Int)] ++ (y4.map byt ++ (y5.map byt ++ ([v6] ++ ([Value.bool true] ++ (cp)))))))) 50 from by have h := KD.out; simpa using h)
    have HCQ := Lib.hid (show (y1.map byt ++ ([Value.int .u64 (y2 : Int)] ++ ([Value.int .u64 (y3 : Int)] ++ (y4.map byt ++ (y5.map byt ++ ([v6] ++ ([Value.bool true] ++ (cp))))))) : List Value).length = 102 by simp [HW1.out, HW4.out, HW5.out, PL.out])
    have HSQ := Lib.hid (show (Tryz.prog.info? 50).map (·.size) = some (y1.map byt ++ ([Value.int .u64 (y2 : Int)] ++ ([Value.int .u64 (y3 : Int)] ++ (y4.map byt ++ (y5.map byt ++ ([v6] ++ ([Value.bool true] ++ (cp))))))) : List Value).length by rw [HCQ.out]; kernel_rfl)
    have PXq := Lib.hid (rep_pm.fr PX.out FD.out (fun b _ h (e : b = gp) => by omega))
    have GX6 := Lib.hid (rep_by.fr GX6.out FD.out (fun b _ h (e : b = gp) => by omega))
    have HRR := Lib.hid (show RHe (fun b => gp < b) wq (y1.map byt ++ ([Value.int .u64 (y2 : Int)] ++ ([Value.int .u64 (y3 : Int)] ++ (y4.map byt ++ (y5.map byt ++ ([v6] ++ ([Value.bool true] ++ (cp)))))))) (y1, y2, y3, y4, y5, y6, true, z8) from ⟨_, _, rfl, ⟨HW1.out, rfl⟩, _, _, rfl, ⟨HW2.out, rfl⟩, _, _, rfl, ⟨HW3.out, rfl⟩, _, _, rfl, ⟨HW4.out, rfl⟩, _, _, rfl, ⟨HW5.out, rfl⟩, [_], _, rfl, GX6.out, [_], _, rfl, ⟨trivial, rfl⟩, PXq.out⟩)
    have HO9 := Lib.hid (rep_He.one HRR.out)
    have KA10 := Lib.hid (KA9.out.fr FD.out (by omega))
    have HR10 := Lib.hid (HR9.out.frD HY9.out FD.out (by omega) (fun k h => ⟨h.2, by have := h.1; omega⟩))
    have HY10 := Lib.hid (HY9.out.fr FD.out (fun k _ h e => by have := h.1; omega))
    have F10 := Lib.hid (F9.out.trans' FD.out (fun i hi (e : i = gp) => by omega))
    have hsq := FD.out.size
    clear KD FD KE9 hnp HLP
    go_wp2_with (first
      | (with_reducible refine wpList_load_blk rfl _ _ rfl gp (y1.map byt ++ ([Value.int .u64 (y2 : Int)] ++ ([Value.int .u64 (y3 : Int)] ++ (y4.map byt ++ (y5.map byt ++ ([v6] ++ ([Value.bool true] ++ (cp)))))))) rfl KQ.out _ Tryz.underlying50 rfl HSQ.out ?_)
      | ((with_reducible refine wpList_put rfl _ _ _ rfl w.heap.size (y1.map byt ++ ([Value.int .u64 (y2 : Int)] ++ ([Value.int .u64 (y3 : Int)] ++ (y4.map byt ++ (y5.map byt ++ ([v6] ++ ([Value.bool true] ++ (cp)))))))) _ rfl rfl KA10.out HSQ.out (zeroHe_len.trans HCQ.out.symm) HO9.out (fun wz kz fz zz => ?_)); have KZ := Lib.hid kz; have FZ := Lib.hid fz; clear kz fz))
    exact bodyPost_ret (v := .agg (y1.map byt ++ ([Value.int .u64 (y2 : Int)] ++ ([Value.int .u64 (y3 : Int)] ++ (y4.map byt ++ (y5.map byt ++ ([v6] ++ ([Value.bool true] ++ (cp)))))))).toArray) (results_row1 Tryz.results51 _ _ w.heap.size _ _ rfl KZ.out Tryz.underlying50 rfl HSQ.out) rfl ⟨_, (y1, y2, y3, y4, y5, y6, true, z8), rfl, rep_He.mono (rep_He.fr HRR.out FZ.out (fun b _ h (e : b = w.heap.size) => by omega)) (fun b _ h => by omega), fun h => by rw [HXE.out h]; rfl, HR10.out.frD HY10.out FZ.out (by omega) (fun k h => ⟨h.2, by have := h.1; omega⟩), F10.out.trans' FZ.out (fun k hk (e : k = w.heap.size) => by omega)⟩
set_option maxHeartbeats 8000000 in
set_option maxRecDepth 100000 in
theorem readHeader_ref (D : Nat → Prop) (w : World) (a : Option Addr) (c : Nat) (B : List UInt8) (hB : Byt D w (.slice a B.length c) B) (hl : B.length ≤ 140737488355328) :
    Calls Tryz.prog 23 #[.slice a B.length c] w (GotT RHe w (got RDhe x0He B)) := by
  have HB := Lib.hid hB
  obtain ⟨s, hs⟩ : ∃ s, RDhe ⟨B, 0⟩ = s := ⟨_, rfl⟩
  have HG := Lib.hid (show (s.1.fin = 0 → got RDhe x0He B = (s.2, 0)) ∧ (¬ s.1.fin = 0 → got RDhe x0He B = (x0He, 120)) from ⟨fun h => by rw [got_yes (by rw [hs]; exact h), hs], fun h => by rw [got_no (by rw [hs]; exact h)]⟩)
  have HC := Lib.hid (fun w' q' h' => rfhe_calls w' q' a c B ⟨B, 0⟩ h' hl)
  rw [hs] at HC
  have hszT : ∀ cs : List Value, cs.length = 102 → (Tryz.prog.info? 50).map (·.size) = some cs.length := fun cs h => by rw [h]; kernel_rfl
  clear hB hs
  go_enter Tryz.func23, Tryz.ntmps23
  go_upto_region 1 with (first
    | ((with_reducible refine wpList_alloc rfl _ rfl _ (zeroHe _) (fun wa ka ca za => ?_)); have KA := Lib.hid ka; have CA := Lib.hid ca; clear ka ca))
  go_wp2_with fail
  refine (begin_calls _ wa a c B (HB.out.below CA.out)).mono ?_
  rintro e wb ⟨rfl, o1, o2⟩
  have O1 := Lib.hid o1
  have KA1 := Lib.hid (KA.out.below o2)
  have B1 := Lib.hid (CA.out.trans (o2.mono (by omega)))
  have hqw : w.heap.size < wa.heap.size := by omega
  have hsb := o2.size
  clear o1 o2 KA CA HB
  generalize wa.heap.size = q at *
  go_wp2_with fail
  refine (HC.out wb q O1.out).mono ?_
  rintro e wc ⟨cs, x, rfl, ox, oe, o1, o2⟩
  have HX := Lib.hid ox
  have HCL := Lib.hid (rep_He.len ox)
  have HC1 := Lib.hid (rep_He.one ox)
  have HSZ := Lib.hid (hszT cs (rep_He.len ox))
  have HXE := Lib.hid oe
  have O2 := Lib.hid o1
  have KA2 := Lib.hid (KA1.out.fr o2 (by omega))
  have B2 := Lib.hid (B1.out.trans (o2.below (B := w.heap.size) B1.out.size (fun k hk => by omega)))
  have hsc := o2.size
  clear ox oe o1 o2 HC KA1 B1 O1
  go_upto_region 3 with (first
    | ((with_reducible refine wpList_alloc rfl _ rfl _ (zeroHe _) (fun wd kd cd zd => ?_)); have KD := Lib.hid kd; have CD := Lib.hid cd; clear kd cd)
    | ((with_reducible refine wpList_put rfl _ _ _ rfl wc.heap.size cs _ rfl rfl KD.out HSZ.out (zeroHe_len.trans HCL.out.symm) HC1.out (fun we ke fe ze => ?_)); have KE := Lib.hid ke; have CE := Lib.hid (CD.out.trans (fe.below CD.out.size (fun k (hk : k = _) => by omega))); clear ke fe))
  have O3 := Lib.hid (O2.out.below CE.out)
  have KA3 := Lib.hid (KA2.out.below CE.out)
  have B3 := Lib.hid (B2.out.trans (CE.out.mono B2.out.size))
  have HX3 := Lib.hid (rep_He.below HX.out CE.out)
  clear O2 KA2 B2 HX KD CD CE
  go_wp2_with fail
  refine (ended_calls we q a c B _ O3.out).mono ?_
  rintro e wf ⟨rfl, o1⟩
  have KE4 := Lib.hid (KE.out.below o1)
  have KA4 := Lib.hid (KA3.out.below o1)
  have B4 := Lib.hid (B3.out.trans (o1.mono B3.out.size))
  have HX4 := Lib.hid (rep_He.below HX3.out o1)
  have hB4 := B4.out.size
  clear o1 O3 KE KA3 B3 HX3
  by_cases hf : s.1.fin = 0
  · have hf2 : finE s.1 = 0 := if_pos hf
    have HG2 := Lib.hid (HG.out.1 hf)
    have HXX := Lib.hid (HXE.out (fin_ok hf))
    rw [hf2]
    clear hf hf2 HG
    go_wp2_with (first
      | (with_reducible refine wpList_load_blk rfl _ _ rfl wc.heap.size cs rfl KE4.out _ Tryz.underlying50 rfl HSZ.out ?_)
      | ((with_reducible refine wpList_put rfl _ _ _ rfl w.heap.size cs _ rfl rfl KA4.out HSZ.out (zeroHe_len.trans HCL.out.symm) HC1.out (fun wi ki fi zi => ?_)); have KI := Lib.hid ki; have FI := Lib.hid fi; clear ki fi))
    refine bodyPost_ret (v := .tuple #[.agg cs.toArray, .int .i64 0]) (results_row2 Tryz.results23 _ _ w.heap.size _ _ rfl KI.out Tryz.underlying50 rfl HSZ.out _ rfl) rfl ?_
    rw [HG2.out, ← HXX.out]
    exact ⟨cs, rfl, rep_He.mono (rep_He.fr HX4.out FI.out (fun b _ h (e : b = w.heap.size) => by omega)) (fun b _ h => by omega), B4.out.trans (FI.out.below B4.out.size (fun k (hk : k = w.heap.size) => by omega))⟩
  · have hf2 : finE s.1 = 120 := if_neg hf
    have HG2 := Lib.hid (HG.out.2 hf)
    have HZL := Lib.hid (hszT (List.replicate 32 (Value.int .u8 0) ++ ([Value.int .u64 0] ++ ([Value.int .u64 0] ++ (List.replicate 32 (Value.int .u8 0) ++ (List.replicate 32 (Value.int .u8 0) ++ ([Value.slice none 0 0] ++ ([Value.bool false] ++ ([Value.int .i64 0, Value.slice none 0 0])))))))) zeroHe_len)
    rw [hf2]
    clear hf hf2 HG
    go_wp2_with (first
      | (with_reducible refine wpList_built rfl _ [] rfl (List.replicate 32 (Value.int .u8 0) ++ ([Value.int .u64 0] ++ ([Value.int .u64 0] ++ (List.replicate 32 (Value.int .u8 0) ++ (List.replicate 32 (Value.int .u8 0) ++ ([Value.slice none 0 0] ++ ([Value.bool false] ++ ([Value.int .i64 0, Value.slice none 0 0])))))))) (by kernel_rfl) ?_)
      | ((with_reducible refine wpList_put rfl _ _ _ rfl w.heap.size (List.replicate 32 (Value.int .u8 0) ++ ([Value.int .u64 0] ++ ([Value.int .u64 0] ++ (List.replicate 32 (Value.int .u8 0) ++ (List.replicate 32 (Value.int .u8 0) ++ ([Value.slice none 0 0] ++ ([Value.bool false] ++ ([Value.int .i64 0, Value.slice none 0 0])))))))) _ rfl rfl KA4.out HZL.out rfl zeroHe_one (fun wi ki fi zi => ?_)); have KI := Lib.hid ki; have FI := Lib.hid fi; clear ki fi))
    refine bodyPost_ret (v := .tuple #[.agg (List.replicate 32 (Value.int .u8 0) ++ ([Value.int .u64 0] ++ ([Value.int .u64 0] ++ (List.replicate 32 (Value.int .u8 0) ++ (List.replicate 32 (Value.int .u8 0) ++ ([Value.slice none 0 0] ++ ([Value.bool false] ++ ([Value.int .i64 0, Value.slice none 0 0])))))))).toArray, .int .i64 120]) (results_row2 Tryz.results23 _ _ w.heap.size _ _ rfl KI.out Tryz.underlying50 rfl HZL.out _ rfl) rfl ?_
    rw [HG2.out]
    exact ⟨_, rfl, zero_He _ _, B4.out.trans (FI.out.below B4.out.size (fun k (hk : k = w.heap.size) => by omega))⟩
end Go.Proofs.YtmenchnjajpkmaaGreat.Rh
end

section
namespace Go.Proofs.YtmenchnjajpkmaaGreat.Whl
open Go Go.RowKit Mem Codec CodecW Arr Reps Rr WtIt Rh Whe
set_option linter.unusedVariables false

def Fits (x : XHe) : Prop := (encHe x).length + 9 ≤ 140737488355328
theorem told_p (w : World) (cs : List Value) (x : XHe) (hR : RHe Any w cs x) (hn : Fits x) :
    Calls Tryz.prog 20 #[.agg cs.toArray] w fun e w' => Wt.Told w.heap.size (encHe x) (badHe x) e w' ∧ Below w.heap.size w w' := Header_told w cs x hR hn
theorem told_r (w : World) (cs : List Value) (x : XHe) (hR : RHe Any w cs x) (hn : Fits x) :
    Calls Tryz.prog 21 #[.agg cs.toArray] w fun e w' => Wt.Told 0 (encHe x) (badHe x) e w' ∧ Below w.heap.size w w' := rHeader_told w cs x hR hn
theorem enc_le (x : XHe) (h0 : (x.1).length = 32) (h3 : (x.2.2.2.1).length = 32) (h4 : (x.2.2.2.2.1).length = 32) (hk : ∀ d ∈ (x.2.2.2.2.2.2.2).2, d.length = 32) : (encHe x).length ≤ 200 + (x.2.2.2.2.2.1).length + (x.2.2.2.2.2.2.2).2.length * 32 := by
  have hv := Wt.var_len9 (x.2.2.2.2.2.1).length
  have hv2 := Wt.var_len9 (x.2.2.2.2.2.2.2).2.length
  have he := enc_len (x.2.2.2.2.2.2.2) hk
  unfold encHe
  simp only [List.length_append, num_length, text, List.length_cons, List.length_nil, h0, h3, h4]
  split
  · rw [he]; omega
  · simp; omega
theorem fits_of {w : World} {cs : List Value} {x : XHe} (h : RHe Any w cs x) (hm : (x.2.2.2.2.2.1).length + (x.2.2.2.2.2.2.2).2.length ≤ 1048576) : Fits x := by
  obtain ⟨a0, b0, rfl, ⟨k0, rfl⟩, a1, b1, rfl, ⟨_, rfl⟩, a2, b2, rfl, ⟨_, rfl⟩, a3, b3, rfl, ⟨k3, rfl⟩, a4, b4, rfl, ⟨k4, rfl⟩, a5, b5, rfl, _, a6, b6, rfl, _, v, rfl, hs⟩ := h
  have := enc_le x k0 k3 k4 (Wp.sl_digs hs).2
  unfold Fits
  omega
theorem text_le (r : Rd) (most : Nat) : (r.text (most : Int)).2.length ≤ most := by
  unfold Rd.text
  dsimp only
  have h : (r.room (most : Int)).2 ≤ most := by rw [var_room]; exact var_le r most
  have ht : ∀ (s : Rd) (n : Nat), (s.take n).2.length ≤ n := fun s n => by
    unfold Rd.take
    split
    · simp
    · split
      · simp
      · simp; omega
  exact Nat.le_trans (ht _ _) h
theorem keys_all (r : Rd) (most : Int) : ∀ d ∈ (WtIt.Rd.keys r most).2, d.length = 32 := by
  intro d hd
  have key : ∀ (n : Nat) (r : Rd), ∀ x ∈ (items Wr.Rd.dig n r).1, x.length = 32 := by
    intro n
    induction n with
    | zero => intro r x hx; simp [items] at hx
    | succ n ih =>
      intro r x hx
      unfold items at hx
      split at hx
      · simp at hx
      · rcases List.mem_cons.1 hx with rfl | hx
        · exact Wr.Rd.dig_len r
        · exact ih _ x hx
  unfold WtIt.Rd.keys lst at hd
  dsimp only at hd
  split at hd
  · simp at hd
  · exact key _ _ d hd
theorem got_fits (l : List UInt8) : Fits (got RDhe x0He l).1 := by
  have hx : ∀ x : XHe, (x.1).length = 32 → (x.2.2.2.1).length = 32 → (x.2.2.2.2.1).length = 32 → (x.2.2.2.2.2.1).length ≤ 256 → (∀ d ∈ (x.2.2.2.2.2.2.2).2, d.length = 32) → (x.2.2.2.2.2.2.2).2.length ≤ 16 → Fits x := by
    intro x h0 h3 h4 h5 hk hn
    have := enc_le x h0 h3 h4 hk
    unfold Fits
    omega
  have hp1 : ∀ r, ∀ d ∈ (WtIt.Rd.params r).2.2, d.length = 32 := fun r => keys_all (Wr.Rd.kind r 0 255).1 16
  have hp2 : ∀ r, (WtIt.Rd.params r).2.2.length ≤ 16 := fun r => Wp.keys_len (Wr.Rd.kind r 0 255).1 16
  obtain ⟨s, hs⟩ : ∃ s, RDh7 ⟨l, 0⟩ = s := ⟨_, rfl⟩
  have f0 : s.2.1.length = 32 := by rw [← hs]; exact Wr.Rd.dig_len ⟨l, 0⟩
  have f3 : s.2.2.2.2.1.length = 32 := by rw [← hs]; unfold RDh7 seq; exact Wr.Rd.dig_len _
  have f4 : s.2.2.2.2.2.1.length = 32 := by rw [← hs]; unfold RDh7 seq; exact Wr.Rd.dig_len _
  have f5 : s.2.2.2.2.2.2.1.length ≤ 256 := by rw [← hs]; unfold RDh7 seq; exact text_le _ 256
  have hh : Fits (hdr s).2 := by
    unfold hdr
    split
    · exact hx _ f0 f3 f4 f5 (hp1 _) (hp2 _)
    · exact hx _ f0 f3 f4 f5 (by simp) (by simp)
  unfold got
  split
  · unfold RDhe
    rw [hs]
    exact hh
  · exact hx _ rfl rfl rfl (by simp [x0He]) (by simp [x0He]) (by simp [x0He])
end Go.Proofs.YtmenchnjajpkmaaGreat.Whl
end

section
namespace Go.Proofs.YtmenchnjajpkmaaGreat.wireHeaders
open Go Go.RowKit Mem Codec CodecW Ops Reps Rr Wt Rh Whe
set_option linter.unusedVariables false

set_option maxHeartbeats 16000000 in
set_option maxRecDepth 100000 in
theorem walk (W : World) (cs : List Value) (x : XHe) (hR : RHe Any W cs x) (hc : Whl.Fits x) (v : Value) (l : List UInt8) (hB : Byt Any W v l) (hl : l.length ≤ 140737488351232) :
    Calls Tryz.prog 5 #[.agg cs.toArray, v] W fun e W' => e = .returned (.bool true) ∧ Below W.heap.size W W' := by
  obtain ⟨ra, rc, rfl, _⟩ := id hB
  obtain ⟨g, hg⟩ : ∃ g, got RDhe x0He l = g := ⟨_, rfl⟩
  have hgc : Whl.Fits g.1 := by rw [← hg]; exact Whl.got_fits l
  obtain ⟨B1, hB1⟩ : ∃ B, told (encHe x) (badHe x) = B := ⟨_, rfl⟩
  obtain ⟨E1, hE1⟩ : ∃ E, toldE (badHe x) = E := ⟨_, rfl⟩
  obtain ⟨B2, hB2⟩ : ∃ B, told (encHe g.1) (badHe g.1) = B := ⟨_, rfl⟩
  obtain ⟨E2, hE2⟩ : ∃ E, toldE (badHe g.1) = E := ⟨_, rfl⟩
  have TP := Lib.hid (fun w' h => Whl.told_p w' cs x h hc)
  have TR := Lib.hid (fun w' h => Whl.told_r w' cs x h hc)
  have TG := Lib.hid (fun w' cs' h => Whl.told_r w' cs' g.1 h hgc)
  have GP := Lib.hid (fun w' h => ReadHeader_calls Any w' (.slice ra l.length rc) l h (by omega))
  have GR := Lib.hid (fun w' h => readHeader_ref Any w' ra rc l h (by omega))
  unfold Wt.Told at TP TR TG
  rw [hB1, hE1] at TP TR
  rw [hB2, hE2] at TG
  rw [hg] at GP GR
  clear hB1 hE1 hB2 hE2 hg hc hgc
  obtain ⟨gx, ge⟩ := g
  dsimp only at TG GP GR
  have HSZ := Lib.hid (show (Tryz.prog.info? 50).map (·.size) = some cs.length by rw [rep_He.len hR]; kernel_rfl)
  have hszT : Hid (∀ cs : List Value, cs.length = 102 → (Tryz.prog.info? 50).map (·.size) = some cs.length) := Lib.hid (fun cs h => by rw [h]; kernel_rfl)
  obtain ⟨ca, hca⟩ : ∃ ca, cs.toArray = ca := ⟨_, rfl⟩
  have HB := Lib.hid (show Blk (W.alloc (.cells ca 50)) W.heap.size cs 50 from Blk.new W _ _ _ hca.symm)
  have B1w := Lib.hid (below_alloc W (.cells ca 50))
  have hz : W.heap.size + 1 = (W.alloc (.cells ca 50)).heap.size := by simp
  have HR := Lib.hid (rep_He.below hR B1w.out)
  have HY := Lib.hid (hB.below B1w.out)
  rw [hca]
  clear hR hB hca
  go_enter Tryz.func5, Tryz.ntmps5
  go_upto_region 1 with fail
  generalize (W.alloc (.cells ca 50)) = w1 at *
  go_wp2_with (first | (with_reducible refine wpList_load_blk rfl _ _ rfl W.heap.size cs rfl HB.out _ Tryz.underlying50 rfl HSZ.out ?_))
  refine (TP.out w1 HR.out).mono ?_
  rintro e w2 ⟨⟨a1, c1, rfl, g1⟩, g2⟩
  have O1 := Lib.hid (g1.byt.mono (E := Any) (fun _ _ _ => trivial))
  have HB2 := Lib.hid (HB.out.below g2)
  have HR2 := Lib.hid (rep_He.below HR.out g2)
  have HY2 := Lib.hid (HY.out.below g2)
  have BW2 := Lib.hid (B1w.out.trans (g2.mono (by omega)))
  clear g1 g2 HB HR HY B1w TP
  go_wp2_with (first | (with_reducible refine wpList_load_blk rfl _ _ rfl W.heap.size cs rfl HB2.out _ Tryz.underlying50 rfl HSZ.out ?_))
  refine (TR.out w2 HR2.out).mono ?_
  rintro e w3 ⟨⟨a2, c2, rfl, g1⟩, g2⟩
  have P1 := Lib.hid (g1.byt.mono (E := Any) (fun _ _ _ => trivial))
  have O1 := Lib.hid (O1.out.below g2)
  have HY3 := Lib.hid (HY2.out.below g2)
  have BW3 := Lib.hid (BW2.out.trans (g2.mono BW2.out.size))
  clear g1 g2 HB2 HR2 HY2 BW2 TR
  go_wp2_with fail
  refine (GP.out w3 HY3.out).mono ?_
  rintro e w4 ⟨cu, rfl, g1, g2⟩
  have UL := Lib.hid (rep_He.len g1)
  have U1 := Lib.hid (rep_He.one g1)
  have USZ := Lib.hid (hszT.out cu (rep_He.len g1))
  have UR := Lib.hid (rep_He.any g1)
  have O1 := Lib.hid (O1.out.below g2)
  have P1 := Lib.hid (P1.out.below g2)
  have HY4 := Lib.hid (HY3.out.below g2)
  have BW4 := Lib.hid (BW3.out.trans (g2.mono BW3.out.size))
  clear g1 g2 HY3 BW3 GP
  go_upto_region 4 with (first
    | ((with_reducible refine wpList_alloc rfl _ rfl _ (zeroHe _) (fun wd kd cd zd => ?_)); have KD := Lib.hid kd; have CD := Lib.hid cd; clear kd cd)
    | ((with_reducible refine wpList_put rfl _ _ _ rfl w4.heap.size cu _ rfl rfl KD.out USZ.out (zeroHe_len.trans UL.out.symm) U1.out (fun w5 ke fe ze => ?_)); have KU := Lib.hid ke; have CE := Lib.hid (CD.out.trans (fe.below CD.out.size (fun k (hk : k = _) => by omega))); clear ke fe))
  have UR := Lib.hid (rep_He.below UR.out CE.out)
  have O1 := Lib.hid (O1.out.below CE.out)
  have P1 := Lib.hid (P1.out.below CE.out)
  have HY5 := Lib.hid (HY4.out.below CE.out)
  have BW5 := Lib.hid (BW4.out.trans (CE.out.mono BW4.out.size))
  clear KD CD CE HY4 BW4
  generalize w4.heap.size = gu at *
  go_wp2_with fail
  refine (GR.out w5 HY5.out).mono ?_
  rintro e w6 ⟨cv, rfl, g1, g2⟩
  have VL := Lib.hid (rep_He.len g1)
  have V1 := Lib.hid (rep_He.one g1)
  have VSZ := Lib.hid (hszT.out cv (rep_He.len g1))
  have VR := Lib.hid (rep_He.any g1)
  have UR := Lib.hid (rep_He.below UR.out g2)
  have KU := Lib.hid (KU.out.below g2)
  have O1 := Lib.hid (O1.out.below g2)
  have P1 := Lib.hid (P1.out.below g2)
  have BW6 := Lib.hid (BW5.out.trans (g2.mono BW5.out.size))
  clear g1 g2 HY5 BW5 GR
  go_upto_region 5 with (first
    | ((with_reducible refine wpList_alloc rfl _ rfl _ (zeroHe _) (fun wd kd cd zd => ?_)); have KD := Lib.hid kd; have CD := Lib.hid cd; clear kd cd)
    | ((with_reducible refine wpList_put rfl _ _ _ rfl w6.heap.size cv _ rfl rfl KD.out VSZ.out (zeroHe_len.trans VL.out.symm) V1.out (fun w7 ke fe ze => ?_)); have KV := Lib.hid ke; have CE := Lib.hid (CD.out.trans (fe.below CD.out.size (fun k (hk : k = _) => by omega))); clear ke fe))
  have VR := Lib.hid (rep_He.below VR.out CE.out)
  have UR := Lib.hid (rep_He.below UR.out CE.out)
  have KU := Lib.hid (KU.out.below CE.out)
  have O1 := Lib.hid (O1.out.below CE.out)
  have P1 := Lib.hid (P1.out.below CE.out)
  have BW7 := Lib.hid (BW6.out.trans (CE.out.mono BW6.out.size))
  clear KD CD CE BW6
  generalize w6.heap.size = gv at *
  go_wp2_with (first | (with_reducible refine wpList_load_blk rfl _ _ rfl gu cu rfl KU.out _ Tryz.underlying50 rfl USZ.out ?_))
  refine (TG.out w7 cu UR.out).mono ?_
  rintro e w8 ⟨⟨a3, c3, rfl, g1⟩, g2⟩
  have X1 := Lib.hid (g1.byt.mono (E := Any) (fun _ _ _ => trivial))
  have VR := Lib.hid (rep_He.below VR.out g2)
  have KV := Lib.hid (KV.out.below g2)
  have O1 := Lib.hid (O1.out.below g2)
  have P1 := Lib.hid (P1.out.below g2)
  have BW8 := Lib.hid (BW7.out.trans (g2.mono BW7.out.size))
  clear g1 g2 BW7 KU UR
  go_wp2_with (first | (with_reducible refine wpList_load_blk rfl _ _ rfl gv cv rfl KV.out _ Tryz.underlying50 rfl VSZ.out ?_))
  refine (TG.out w8 cv VR.out).mono ?_
  rintro e w9 ⟨⟨a4, c4, rfl, g1⟩, g2⟩
  have Y1 := Lib.hid (g1.byt.mono (E := Any) (fun _ _ _ => trivial))
  have X1 := Lib.hid (X1.out.below g2)
  have O1 := Lib.hid (O1.out.below g2)
  have P1 := Lib.hid (P1.out.below g2)
  have BW9 := Lib.hid (BW8.out.trans (g2.mono BW8.out.size))
  clear g1 g2 BW8 KV VR TG
  go_wp2_with fail
  refine (Wa.alive_calls w9).mono ?_
  rintro e wA ⟨rfl, g2⟩
  have Y1 := Lib.hid (Y1.out.below g2)
  have X1 := Lib.hid (X1.out.below g2)
  have O1 := Lib.hid (O1.out.below g2)
  have P1 := Lib.hid (P1.out.below g2)
  have BWA := Lib.hid (BW9.out.trans (g2.mono BW9.out.size))
  clear g2 BW9
  go_wp2_with fail
  refine (Wt.same_calls Any Any wA _ _ B1 B1 O1.out P1.out).mono ?_
  rintro e w' ⟨rfl, rfl⟩
  rw [show (B1 == B1) = true from beq_self_eq_true B1]
  go_wp2_with fail
  refine (Wt.same_calls Any Any wA _ _ B2 B2 X1.out Y1.out).mono ?_
  rintro e w' ⟨rfl, rfl⟩
  rw [show (B2 == B2) = true from beq_self_eq_true B2]
  go_wp2
  go_ret
  exact ⟨rfl, BWA.out⟩
end Go.Proofs.YtmenchnjajpkmaaGreat.wireHeaders
end

section
namespace Go.Proofs.YtmenchnjajpkmaaGreat.Bulk
open Go
variable {H : Type}
theorem one (d : DataW H) : 1 ≤ Rows.uptoBulk d := by
  cases d with
  | lit x => cases x <;> simp [Rows.uptoBulk]
  | _ => simp [Rows.uptoBulk]
theorem all : ∀ (l : List (DataW H)), l.length ≤ Rows.uptoBulkAll l
  | [] => by simp [Rows.uptoBulkAll]
  | d :: r => by
    have h1 := one d
    have h2 := all r
    simp only [Rows.uptoBulkAll, List.length_cons]
    omega
theorem bytes {d : DataW H} {l : List UInt8} (h : (d = .nil ∧ l = []) ∨ ∃ el sp, d = .slice el sp ∧ el.length = l.length) : l.length ≤ Rows.uptoBulk d := by
  rcases h with ⟨rfl, rfl⟩ | ⟨el, sp, rfl, hl⟩
  · simp
  · have := all el
    simp only [Rows.uptoBulk]
    omega
theorem three {d0 d1 d2 : DataW H} {gs : List (DataW H)} (h : Rows.uptoSmall H ([d0, d1, d2] ++ gs) = true) : Rows.uptoBulk d0 + Rows.uptoBulk d1 + Rows.uptoBulk d2 ≤ 1048576 := by
  have h := of_decide_eq_true h
  simp only [List.cons_append, List.nil_append, Rows.uptoBulkAll] at h
  omega
theorem two {d0 d1 : DataW H} {gs : List (DataW H)} (h : Rows.uptoSmall H ([d0, d1] ++ gs) = true) : Rows.uptoBulk d0 + Rows.uptoBulk d1 ≤ 1048576 := by
  have h := of_decide_eq_true h
  simp only [List.cons_append, List.nil_append, Rows.uptoBulkAll] at h
  omega
theorem single {d0 : DataW H} {gs : List (DataW H)} (h : Rows.uptoSmall H ([d0] ++ gs) = true) : Rows.uptoBulk d0 ≤ 1048576 := by
  have h := of_decide_eq_true h
  simp only [List.cons_append, List.nil_append, Rows.uptoBulkAll] at h
  omega
end Go.Proofs.YtmenchnjajpkmaaGreat.Bulk
end
