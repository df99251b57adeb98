/- CodecBack: what was written is read as it was, by the same calls, and nothing is left; of any shorter beginning the reader fails for want of bytes. Condition: the things together are of at most 2^40 bytes. -/
import Derived.Test.YtodhhejliijdmabCodecBkW
namespace Go.Proofs.Ytodhhejliijdmab.codecBack
open Go Go.RowKit Mem Codec CodecW CodecR CodecL CodecTh CodecN CodecBk
set_option linter.unusedVariables false

/-- what the writer's loop keeps -/
def WRel (B : Nat) (w : World) (q : Nat) (m : List UInt8) (wx : World) : Prop :=
  ∃ S : Nat → Prop, WriterIs S wx q m ∧ (∀ k, S k → B ≤ k ∧ k < wx.heap.size) ∧ Below B w wx
/-- what a reader's loop keeps -/
def RRel (B C : Nat) (w : World) (q : Nat) (r : Rd) (wx : World) : Prop := ReaderIs (fun k => C ≤ k ∧ k < q) wx q r ∧ Below B w wx ∧ q < wx.heap.size

set_option maxHeartbeats 4000000 in
set_option maxRecDepth 100000 in
theorem walk0 (w : World) (va : Value) (ts : List Th) (hA : Things w va ts) (cut : Int) (hcut : (Lit.int .i64 cut).wf = true) (hsum : (ts.map (fun t => t.b.length + 9)).sum ≤ 1099511627776) (hn : ts.length ≤ 1099511627776) :
    Calls Try.prog 6 #[va, .int .i64 cut] w fun e w' => e = .returned (.bool true) ∧ Below w.heap.size w w' := by
  obtain ⟨a1, a2, rfl, hka, _⟩ := id hA
  have hc1 : -9223372036854775808 ≤ cut ∧ cut < 9223372036854775808 := by have := bounds_i64 hcut; omega
  have HA := Lib.hid hA
  have HSUM := Lib.hid hsum
  clear hA hsum hcut
  go_enter Try.func6, Try.ntmps6
  go_wp2_with fail
  refine (CodecW.new_calls w).mono ?_
  rintro e w1 ⟨q, rfl, hq, hW, hb⟩
  have HB := Lib.hid hb
  have HW := Lib.hid hW
  have hs1 := hb.size
  clear hW hb
  go_wp2_with fail
  refine (alive_calls w1).mono ?_
  rintro e w2 ⟨rfl, g2⟩
  have hs2 := g2.size
  have hql := HW.out.lt
  have HP := Lib.hid (show WRel w.heap.size w q [] w2 from ⟨(fun k => k = q), HW.out.below g2, (fun k hk => by omega), HB.out.trans (g2.mono (by omega))⟩)
  clear g2 HW HB
  go_wp2
  go_loopw [24] (fun i wx => ∃ (n : Nat) (m : List UInt8), n ≤ ts.length ∧ i = .int .i64 n ∧ m = joined (ts.take n) ∧ WRel w.heap.size w q m wx) (fun i _ => ts.length - (intOf i).toNat)
  case atStart => exact ⟨0, [], by omega, rfl, by simp [joined], HP.out⟩
  case round =>
    obtain ⟨n, m, hn1, rfl, hm, hP⟩ := hrel
    obtain ⟨S, h1, h2, h3⟩ := hP
    have hmn : m.length ≤ 1099511627776 := by rw [hm]; exact Nat.le_trans (joined_le _) (Nat.le_trans (sum_take ts _ n) HSUM.out)
    have HM := Lib.hid hm
    have HW := Lib.hid h1
    have HS := Lib.hid h2
    have HB := Lib.hid h3
    have hsz := h3.size
    clear hm h1 h2 h3 HP
    by_cases hlt : n < ts.length
    · obtain ⟨pb, po, rfl, hth⟩ := HA.out.at n hlt
      have hX : joined (ts.take (n + 1)) = m ++ tbytes ts[n] := by rw [HM.out]; exact joined_succ ts n hlt
      have hbl := Nat.le_trans (sum_at ts (fun t => t.b.length + 9) n hlt) HSUM.out
      have HX := Lib.hid hX
      clear hX HM
      generalize ts[n] = t at *
      obtain ⟨hwf, d0, d1, d2, bv, d3, hby⟩ := hth
      obtain ⟨ba, bc, rfl, _⟩ := id hby
      have HBY := Lib.hid (hby.under HB.out (Nat.le_refl _))
      have kB : ∀ o, wr.cell? ⟨pb, o, none⟩ = w.cell? ⟨pb, o, none⟩ := fun o => World.cell?_of_block (w := w) (HB.out.block pb (World.block_lt_of_cell? w _ d0))
      have c0 := (kB _).trans d0
      have c1 := (kB _).trans d1
      have c2 := (kB _).trans d2
      have c3 := (kB _).trans d3
      have hal : Below wr.heap.size wr (wr.alloc (.cells [.int .i64 t.kind, .int .u64 (t.n : Int), .int .u64 (t.m : Int), .slice ba t.b.length bc].toArray 39)) := (Below.refl _ _).alloc (Nat.le_refl _) _
      have tn : Blk (wr.alloc (.cells [.int .i64 t.kind, .int .u64 (t.n : Int), .int .u64 (t.m : Int), .slice ba t.b.length bc].toArray 39)) wr.heap.size [.int .i64 t.kind, .int .u64 (t.n : Int), .int .u64 (t.m : Int), .slice ba t.b.length bc] 39 := Blk.new _ _ _ _ rfl
      have t0 := tn.cell (i := 0) rfl
      have t1 := tn.cell (i := 1) rfl
      have t2 := tn.cell (i := 2) rfl
      have t3 := tn.cell (i := 3) rfl
      have HW3 := Lib.hid (HW.out.below hal)
      have HB3 := Lib.hid (HB.out.trans (hal.mono hsz))
      have HBY3 := Lib.hid (HBY.out.below hal)
      have hs3 := hal.size
      clear hby d0 d1 d2 d3 kB hal tn HW HB HBY
      go_upto_region 7 with fail
      generalize (wr.alloc (.cells [.int .i64 t.kind, .int .u64 (t.n : Int), .int .u64 (t.m : Int), .slice ba t.b.length bc].toArray 39)) = w3 at *
      clear c0 c1 c2 c3
      go_wp2_with fail
      refine (write_calls S (fun k => k < w.heap.size) w3 q m t (.slice ba t.b.length bc) hwf HW3.out HBY3.out (fun k _ h1 h2 => by have := (HS.out k h2).1; omega) (by omega)).mono ?_
      rintro e w6 ⟨rfl, g1, g2⟩
      have hs6 := g2.size
      have HP2 := Lib.hid (show WRel w.heap.size w q (m ++ tbytes t) w6 from ⟨_, g1, fun k hk => by
        rcases hk with h | h
        · have := HS.out k h; omega
        · omega, HB3.out.trans (g2.below (by omega) (fun k h => (HS.out k h).1))⟩)
      clear g1 g2 t0 t1 t2 t3
      go_wp2
      go_roundw
      case rel => exact ⟨n + 1, _, by omega, by go_num, HX.out.symm, HP2.out⟩
      case measure => simp [intOf]; omega
    · obtain rfl : n = ts.length := by omega
      rw [List.take_length] at HM
      have hme := HM.out
      subst hme
      clear HM
      go_wp2_with fail
      refine (CodecR.bytes_calls S wr q (joined ts) HW.out (by omega)).mono ?_
      rintro e w8 ⟨xa, xc, rfl, g1, g2⟩
      have hs8 := g2.size
      have HO := Lib.hid g1
      have HB8 := Lib.hid (HB.out.trans (g2.mono hsz))
      clear g1 g2 HW HS HB
      go_wp2_with fail
      refine (CodecR.read_calls _ w8 _ _ HO.out.byt (by omega)).mono ?_
      rintro e w9 ⟨p, rfl, hp, g1, g2⟩
      have hs9 := g2.size
      have hpl := g1.lt
      have HV := Lib.hid (HO.out.below g2)
      have HP := Lib.hid (show RRel w.heap.size w8.heap.size w p ⟨joined ts, 0⟩ w9 from ⟨g1, HB8.out.trans (g2.mono (by omega)), hpl⟩)
      have hvl : ∀ k, (Value.slice xa (joined ts).length xc).ownBlock = some k → k < w8.heap.size := fun k hk => (HO.out.lt k hk).2
      clear g1 g2 HO HB8
      go_wp2
      go_loopw [40] (fun i wx => ∃ n : Nat, n ≤ ts.length ∧ i = .int .i64 n ∧ RRel w8.heap.size w8.heap.size w9 p ⟨joined (ts.drop n), 0⟩ wx) (fun i _ => ts.length - (intOf i).toNat)
      case atStart => exact ⟨0, by omega, rfl, ⟨by simpa using HP.out.1, Below.refl _ _, hpl⟩⟩
      case round =>
        obtain ⟨n, hn1, rfl, h1, h2, h3⟩ := hrel
        have hsx := h2.size
        have HRD := Lib.hid h1
        have HBB := Lib.hid h2
        clear h1 h2
        by_cases hlt : n < ts.length
        · obtain ⟨pb, po, rfl, hth⟩ := HA.out.at n hlt
          have HX := Lib.hid (joined_drop ts n hlt)
          have hbl := Nat.le_trans (sum_at ts (fun t => t.b.length + 9) n hlt) HSUM.out
          have hjl : (joined (ts.drop n)).length ≤ 1099511627776 := by
            have h1 := congrArg List.length (show joined ts = joined (ts.take n) ++ joined (ts.drop n) by unfold joined; rw [← List.flatten_append, ← List.map_append, List.take_append_drop])
            have h2 := Nat.le_trans (joined_le ts) HSUM.out
            rw [List.length_append] at h1; omega
          generalize ts[n] = t at *
          obtain ⟨hwf, d0, d1, d2, bv, d3, hby⟩ := hth
          obtain ⟨ba, bc, rfl, _⟩ := id hby
          have hbw : Below w.heap.size w wr := HP.out.2.1.trans (HBB.out.mono (by omega))
          have HBY := Lib.hid (hby.under hbw (Nat.le_refl _))
          have kB : ∀ o, wr.cell? ⟨pb, o, none⟩ = w.cell? ⟨pb, o, none⟩ := fun o => World.cell?_of_block (w := w) (hbw.block pb (World.block_lt_of_cell? w _ d0))
          have c0 := (kB _).trans d0
          have c1 := (kB _).trans d1
          have c2 := (kB _).trans d2
          have c3 := (kB _).trans d3
          have hal : Below wr.heap.size wr (wr.alloc (.cells [.int .i64 t.kind, .int .u64 (t.n : Int), .int .u64 (t.m : Int), .slice ba t.b.length bc].toArray 39)) := (Below.refl _ _).alloc (Nat.le_refl _) _
          have tn : Blk (wr.alloc (.cells [.int .i64 t.kind, .int .u64 (t.n : Int), .int .u64 (t.m : Int), .slice ba t.b.length bc].toArray 39)) wr.heap.size [.int .i64 t.kind, .int .u64 (t.n : Int), .int .u64 (t.m : Int), .slice ba t.b.length bc] 39 := Blk.new _ _ _ _ rfl
          have t0 := tn.cell (i := 0) rfl
          have t1 := tn.cell (i := 1) rfl
          have t2 := tn.cell (i := 2) rfl
          have t3 := tn.cell (i := 3) rfl
          have HR3 := Lib.hid (HRD.out.below hal)
          have HB3 := Lib.hid (HBB.out.trans (hal.mono (by omega)))
          have HBY3 := Lib.hid (HBY.out.below hal)
          have hs3 := hal.size
          clear hby d0 d1 d2 d3 kB hal tn HRD HBB HBY hbw
          go_upto_region 16 with fail
          generalize (wr.alloc (.cells [.int .i64 t.kind, .int .u64 (t.n : Int), .int .u64 (t.m : Int), .slice ba t.b.length bc].toArray 39)) = w3 at *
          clear c0 c1 c2 c3
          go_wp2_with fail
          refine (back_calls _ w3 p ⟨joined (ts.drop n), 0⟩ t (.slice ba t.b.length bc) hwf HR3.out (HBY3.out.mono (fun k _ h => by omega)) (by show (joined (ts.drop n)).length ≤ _; omega)).mono ?_
          rintro e w6 ⟨rfl, g1, g2⟩
          rw [HX.out, bstep_full t _ hwf.2.2.1 (by omega)] at g1 ⊢
          dsimp only at g1 ⊢
          have hs6 := g2.size
          have HP2 := Lib.hid (show RRel w8.heap.size w8.heap.size w9 p ⟨joined (ts.drop (n + 1)), 0⟩ w6 from ⟨g1, HB3.out.trans (g2.below (by omega) (fun k h => by omega)), by omega⟩)
          clear g1 g2 t0 t1 t2 t3
          go_wp2_with fail
          refine (CodecR.err_calls _ w6 p _ HP2.out.1).mono ?_
          rintro e w7 ⟨rfl, rfl⟩
          dsimp only
          go_wp2
          go_roundw
          case rel => exact ⟨n + 1, by omega, by go_num, HP2.out⟩
          case measure => simp [intOf]; omega
        · obtain rfl : n = ts.length := by omega
          rw [List.drop_length] at HRD
          have hR := HRD.out
          rw [show joined ([] : List Th) = [] from rfl] at hR
          have HR := Lib.hid hR
          clear hR HRD
          go_wp2_with fail
          refine (CodecR.end_calls _ wr p _ HR.out).mono ?_
          rintro e w4 ⟨rfl, rfl⟩
          rw [show Rd.fin ⟨[], 0⟩ = 0 from rfl]
          go_wp2_with fail
          refine (CodecR.left_calls _ wr p _ HR.out).mono ?_
          rintro e w4 ⟨rfl, rfl⟩
          dsimp only [List.length_nil]
          have HBW := Lib.hid (HP.out.2.1.trans (HBB.out.mono (by omega)))
          have HVW := Lib.hid (HV.out.keep (HBB.out) hvl)
          have hmb : (joined ts).length ≤ 1099511627776 := hmn
          clear HP HBB HR HV
          by_cases hcn : cut < 0
          · go_wp2
            go_ret
            exact ⟨rfl, HBW.out⟩
          · obtain ⟨c, rfl⟩ := Int.eq_ofNat_of_zero_le (by omega : 0 ≤ cut)
            by_cases hcl : (joined ts).length ≤ c
            · have hcl2 : ((joined ts).length : Int) ≤ (c : Int) := by omega
              go_wp2
              go_ret
              exact ⟨rfl, HBW.out⟩
            · have hcl2 : ¬ ((joined ts).length : Int) ≤ (c : Int) := by omega
              obtain ⟨sa, scap, hs2, hs3'⟩ := run_slice_hi elemB HVW.out.byt c (by omega)
              have HS3 := Lib.hid hs3'
              clear hs3'
              have hsz := HBW.out.size
              go_wp2_with fail
              refine (CodecR.read_calls _ wr _ _ HS3.out (by rw [List.length_take]; omega)).mono ?_
              rintro e w10 ⟨q2, rfl, hq2, g1, g2⟩
              have hsA := g2.size
              have hql2 := g1.lt
              have HBA := Lib.hid (HBW.out.trans (g2.mono hsz))
              have HRA := Lib.hid g1
              clear g1 g2 HVW HS3 HBW hs2
              obtain ⟨N0, hN0⟩ : ∃ N0, wr.heap.size = N0 := ⟨_, rfl⟩
              rw [hN0] at HRA hq2 hsA hsz
              clear hN0
              go_wp2
              go_loopw [76] (fun i wx => ∃ (n : Nat) (r : Rd), n ≤ ts.length ∧ i = .int .i64 n ∧ Cut (ts.drop n) r ∧ r.rest.length ≤ 1099511627776 ∧ RRel N0 N0 w10 q2 r wx) (fun i _ => ts.length - (intOf i).toNat)
              case atStart => exact ⟨0, _, by omega, rfl, .inr ⟨c, by rw [List.drop_zero]; omega, by rw [List.drop_zero]⟩, by show (List.take c (joined ts)).length ≤ _; rw [List.length_take]; omega, ⟨HRA.out, Below.refl _ _, hql2⟩⟩
              case round =>
                obtain ⟨n, r, hn1, rfl, hC, hrl, h1, h2, h3⟩ := hrel
                have hsx := h2.size
                have HRD := Lib.hid h1
                have HBB := Lib.hid h2
                have HC := Lib.hid hC
                clear h1 h2 hC
                by_cases hlt : n < ts.length
                · obtain ⟨pb, po, rfl, hth⟩ := HA.out.at n hlt
                  have HX := Lib.hid (List.drop_eq_getElem_cons hlt)
                  have hbl := Nat.le_trans (sum_at ts (fun t => t.b.length + 9) n hlt) HSUM.out
                  generalize ts[n] = t at *
                  obtain ⟨hwf, d0, d1, d2, bv, d3, hby⟩ := hth
                  obtain ⟨ba, bc, rfl, _⟩ := id hby
                  have hbw : Below w.heap.size w wr := HBA.out.trans (HBB.out.mono (by omega))
                  have HBY := Lib.hid (hby.under hbw (Nat.le_refl _))
                  have kB : ∀ o, wr.cell? ⟨pb, o, none⟩ = w.cell? ⟨pb, o, none⟩ := fun o => World.cell?_of_block (w := w) (hbw.block pb (World.block_lt_of_cell? w _ d0))
                  have c0 := (kB _).trans d0
                  have c1 := (kB _).trans d1
                  have c2 := (kB _).trans d2
                  have c3 := (kB _).trans d3
                  have hal : Below wr.heap.size wr (wr.alloc (.cells [.int .i64 t.kind, .int .u64 (t.n : Int), .int .u64 (t.m : Int), .slice ba t.b.length bc].toArray 39)) := (Below.refl _ _).alloc (Nat.le_refl _) _
                  have tn : Blk (wr.alloc (.cells [.int .i64 t.kind, .int .u64 (t.n : Int), .int .u64 (t.m : Int), .slice ba t.b.length bc].toArray 39)) wr.heap.size [.int .i64 t.kind, .int .u64 (t.n : Int), .int .u64 (t.m : Int), .slice ba t.b.length bc] 39 := Blk.new _ _ _ _ rfl
                  have t0 := tn.cell (i := 0) rfl
                  have t1 := tn.cell (i := 1) rfl
                  have t2 := tn.cell (i := 2) rfl
                  have t3 := tn.cell (i := 3) rfl
                  have HR3 := Lib.hid (HRD.out.below hal)
                  have HB3 := Lib.hid (HBB.out.trans (hal.mono (by omega)))
                  have HBY3 := Lib.hid (HBY.out.below hal)
                  have hs3 := hal.size
                  clear hby d0 d1 d2 d3 kB hal tn HRD HBB HBY hbw
                  go_upto_region 27 with fail
                  generalize (wr.alloc (.cells [.int .i64 t.kind, .int .u64 (t.n : Int), .int .u64 (t.m : Int), .slice ba t.b.length bc].toArray 39)) = w3 at *
                  clear c0 c1 c2 c3
                  go_wp2_with fail
                  refine (back_calls _ w3 q2 r t (.slice ba t.b.length bc) hwf HR3.out (HBY3.out.mono (fun k _ h => by omega)) (by omega)).mono ?_
                  rintro e w6 ⟨rfl, g1, g2⟩
                  have hs6 := g2.size
                  have hrl2 := Nat.le_trans (bstep_len r t) hrl
                  have HC2 := Lib.hid (Cut.step (by rw [← HX.out]; exact HC.out) hwf.2.2.1 (by omega))
                  have HP2 := Lib.hid (show RRel N0 N0 w10 q2 (bstep r t).1 w6 from ⟨g1, HB3.out.trans (g2.below (by omega) (fun k h => by omega)), by omega⟩)
                  clear g1 g2 t0 t1 t2 t3
                  go_wp2
                  go_roundw
                  case rel => exact ⟨n + 1, _, by omega, by go_num, HC2.out, hrl2, HP2.out⟩
                  case measure => simp [intOf]; omega
                · obtain rfl : n = ts.length := by omega
                  rw [List.drop_length] at HC
                  have he := HC.out.done
                  obtain ⟨l, e⟩ := r
                  dsimp only at he
                  subst he
                  have HBE := Lib.hid (HBA.out.trans (HBB.out.mono (by omega)))
                  go_wp2_with fail
                  refine (CodecR.err_calls _ wr q2 _ HRD.out).mono ?_
                  rintro e w7 ⟨rfl, rfl⟩
                  dsimp only
                  go_wp2_with fail
                  refine (CodecR.end_calls _ wr q2 _ HRD.out).mono ?_
                  rintro e w7 ⟨rfl, rfl⟩
                  rw [show Rd.fin ⟨l, 110⟩ = 110 by unfold Rd.fin; rw [if_neg (by simp)]]
                  go_wp2
                  go_ret
                  exact ⟨rfl, HBE.out⟩
theorem nine (ts : List Th) : (ts.map (fun t => t.b.length + 9)).sum ≤ 9 * (ts.map (fun t => t.b.length + 1)).sum := by
  induction ts with
  | nil => simp
  | cons t r ih => simp only [List.map_cons, List.sum_cons]; omega
theorem walk (w : World) (va : Value) (ts : List Th) (hA : Things w va ts) (cut : Int) (hcut : (Lit.int .i64 cut).wf = true) (hsum : (ts.map (fun t => t.b.length + 1)).sum + 1 ≤ 1048576) (hn : ts.length + 1 ≤ 1048576) :
    Calls Try.prog 6 #[va, .int .i64 cut] w fun e w' => e = .returned (.bool true) ∧ Below w.heap.size w w' :=
  walk0 w va ts hA cut hcut (by have := nine ts; omega) (by omega)
end Go.Proofs.Ytodhhejliijdmab.codecBack
