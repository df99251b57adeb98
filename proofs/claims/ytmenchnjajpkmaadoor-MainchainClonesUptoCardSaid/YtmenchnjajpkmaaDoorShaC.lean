/- Walks of SHA-256's Hash: Sum, Len, Clone, Of. Conditions: the texts together are shorter than 2^50 bytes. -/
import Derived.Test.YtmenchnjajpkmaaDoorShaB
import Derived.Test.YtmenchnjajpkmaaDoorMem2
namespace Go.Proofs.YtmenchnjajpkmaaDoor.ShaW
open Go Go.RowKit Mem Sha

/-- the relation of Sum's first loops: b holds bs; the result's block is as it was made -/
def PadRel (B : Nat) (w : World) (v : Value) (bs : List UInt8) (wx : World) : Prop :=
  OwnB (B + 1) 5 wx v bs ∧ Below B w wx ∧ Blk wx B (List.replicate 32 (.int .u8 0)) 24
theorem PadRel.grows {B : Nat} {w w1 w2 : World} {v v2 : Value} {bs b2 : List UInt8} (hB : B ≤ w1.heap.size) (h : PadRel B w v bs w1) (o1 : OwnB (B + 1) 5 w2 v2 b2) (o2 : Fr (fun k => v.ownBlock = some k) w1 w2) : PadRel B w v2 b2 w2 := by
  obtain ⟨h1, h2, h3⟩ := h
  have hn : ∀ k, k ≤ B → ¬ v.ownBlock = some k := fun k hk e => by have := (h1.lt k e).1; omega
  refine ⟨o1, h2.trans (o2.below hB (fun k hk => by have := (h1.lt k hk).1; omega)), h3.fr o2 (hn B (Nat.le_refl _))⟩
/-- the relation of Sum's third loop -/
def FeedRel (B g : Nat) (w : World) (v : Value) (st : St) (cs : List UInt8) (wx : World) : Prop :=
  Blk wx g (st.l.map word) 89 ∧ Byt (fun k => B + 1 ≤ k ∧ k < g) wx v cs ∧ Below B w wx ∧ Blk wx B (List.replicate 32 (.int .u8 0)) 24 ∧ B < g
theorem feed_start {B : Nat} {w wr : World} {v : Value} {cs : List UInt8} (h : PadRel B w v cs wr) (st : St) (hB : B = w.heap.size) : FeedRel B wr.heap.size w v st cs (wr.alloc (.cells (st.l.map word).toArray 89)) := by
  obtain ⟨h1, h2, h3⟩ := h
  refine ⟨Blk.new _ _ _ _ rfl, ?_, h2.alloc (by have := h2.size; omega) _, h3.alloc _, h3.lt⟩
  refine (h1.byt.below ((Below.refl _ _).alloc (Nat.le_refl _) _)).mono ?_
  intro k _ hk
  exact ⟨hk.2, (h1.lt k hk.1).2⟩
theorem feed_below {B g : Nat} {w wx w5 : World} {v : Value} {st : St} {cs : List UInt8} (h : FeedRel B g w v st cs wx) (hb : Below wx.drew.heap.size wx.drew w5) (hB : B ≤ wx.heap.size) : FeedRel B g w v st cs w5 := by
  obtain ⟨h1, h2, h3, h4, h5⟩ := h
  have hb' : Below wx.heap.size wx w5 := ((Below.refl _ wx).drew).trans hb
  exact ⟨h1.below hb', h2.below hb', h3.trans (hb'.mono hB), h4.below hb', h5⟩
theorem set8_fr {S : Nat → Prop} (w : World) (g : Nat) (r : St) (hs : S g) : Fr S w (set8 w g r) := by
  unfold set8
  iterate 8 (refine Fr.setCell ?_ (.inr hs) _)
  exact Fr.refl _ _
theorem feed_next {B g : Nat} {wx w5 : World} {v : Value} {cs : List UInt8} (h : Byt (fun k => B + 1 ≤ k ∧ k < g) wx v cs) (hb : Below wx.drew.heap.size wx.drew w5) (r : St) : Byt (fun k => B + 1 ≤ k ∧ k < g) (set8 w5 g r) v cs := by
  have hb' : Below wx.heap.size wx w5 := ((Below.refl _ wx).drew).trans hb
  exact (h.below hb').fr (set8_fr (S := fun k => k = g) w5 g r rfl) (fun k _ hk e => by omega)
theorem feed_set {B g : Nat} {w wx : World} {v : Value} {st : St} {cs : List UInt8} (h : FeedRel B g w v st cs wx) (r : St) : FeedRel B g w v r cs (set8 wx g r) := by
  obtain ⟨h1, h2, h3, h4, h5⟩ := h
  have fr := set8_fr (S := fun k => k = g) wx g r rfl
  refine ⟨?_, h2.fr fr (fun k _ hk e => by omega), ?_, h4.fr fr (by omega), h5⟩
  · exact (((((((h1.set 0 (word r.a)).set 1 (word r.b)).set 2 (word r.c)).set 3 (word r.d)).set 4 (word r.e)).set 5 (word r.f)).set 6 (word r.g)).set 7 (word r.h)
  · unfold set8
    iterate 8 (refine Below.setCell ?_ (by show B ≤ g; omega) _)
    exact h3
theorem out_get (st : St) (i k : Nat) (hi : i < 8) (hk : k < 4) : (out st)[4 * i + k]? = some (UInt8.ofNat ((st.l.getD i 0).toNat / 2 ^ (24 - 8 * k))) := by
  rcases (by omega : i = 0 ∨ i = 1 ∨ i = 2 ∨ i = 3 ∨ i = 4 ∨ i = 5 ∨ i = 6 ∨ i = 7) with rfl | rfl | rfl | rfl | rfl | rfl | rfl | rfl <;>
    rcases (by omega : k = 0 ∨ k = 1 ∨ k = 2 ∨ k = 3) with rfl | rfl | rfl | rfl <;> rfl
set_option maxRecDepth 100000 in
theorem index_st (st : St) (i : Nat) (hi : i < 8) (w : World) :
    (Instr.index 89 (.agg #[.int .u32 (st.a.toNat : Int), .int .u32 (st.b.toNat : Int), .int .u32 (st.c.toNat : Int), .int .u32 (st.d.toNat : Int), .int .u32 (st.e.toNat : Int), .int .u32 (st.f.toNat : Int), .int .u32 (st.g.toNat : Int), .int .u32 (st.h.toNat : Int)]) (.int .i64 (i : Int))).run Tryd.prog w = .ok (.int .u32 ((st.l.getD i 0).toNat : Int)) w := by
  rcases (by omega : i = 0 ∨ i = 1 ∨ i = 2 ∨ i = 3 ∨ i = 4 ∨ i = 5 ∨ i = 6 ∨ i = 7) with rfl | rfl | rfl | rfl | rfl | rfl | rfl | rfl <;> rfl
theorem byte_of (n m : Nat) : ((n : Int) / 2 ^ m % 256) = ((UInt8.ofNat (n / 2 ^ m)).toNat : Int) := by
  rw [UInt8.toNat_ofNat', Int.natCast_emod, Int.natCast_ediv, Int.natCast_pow]; rfl
/-- the relation of Sum's last loops -/
def OutRel (B g d : Nat) (w : World) (st : St) (n : Nat) (wx : World) : Prop :=
  Below B w wx ∧ Blk wx B (List.replicate 32 (.int .u8 0)) 24 ∧ Blk wx d (((out st).take n).map byt ++ List.replicate (32 - n) (.int .u8 0)) 24 ∧ B < g ∧ g < d
theorem out_step {B g d : Nat} {w wx : World} {st : St} {i k : Nat} (hi : i < 8) (hk : k < 4) (h : OutRel B g d w st (4 * i + k) wx) :
    OutRel B g d w st (4 * i + k + 1) (wx.setCell ⟨d, 4 * i + k, none⟩ (.int .u8 ((UInt8.ofNat ((st.l.getD i 0).toNat / 2 ^ (24 - 8 * k))).toNat : Int))) := by
  obtain ⟨h1, h2, h3, h4, h5⟩ := h
  refine ⟨h1.setCell (by show B ≤ d; omega) _, h2.other (by show d ≠ B; omega) _, ?_, h4, h5⟩
  have := h3.set (4 * i + k) (.int .u8 ((UInt8.ofNat ((st.l.getD i 0).toNat / 2 ^ (24 - 8 * k))).toNat : Int))
  have hg := out_get st i k hi hk
  have hl : (out st).length = 32 := out_length st
  rw [List.set_append_right _ _ (by simp [hl]; omega)] at this
  have ez : 4 * i + k - (((out st).take (4 * i + k)).map byt).length = 0 := by simp [hl]; omega
  rw [ez] at this
  obtain ⟨m, hm⟩ : ∃ m, 32 - (4 * i + k) = m + 1 := ⟨31 - (4 * i + k), by omega⟩
  rw [hm, List.replicate_succ, List.set_cons_zero] at this
  rw [show 32 - (4 * i + k + 1) = m from by omega, List.take_add_one, hg, List.map_append, List.append_assoc]
  exact this
theorem out_cell {B g d : Nat} {w wx : World} {st : St} {n : Nat} (hn : n < 32) (h : OutRel B g d w st n wx) : wx.cell? ⟨d, n, none⟩ = some (.int .u8 0) := by
  refine h.2.2.1.cell ?_
  have hl : (out st).length = 32 := out_length st
  rw [List.getElem?_append_right (by simp [hl]; omega)]
  simp [hl, List.getElem?_replicate]; omega
theorem byte_int (n m : Nat) : (8 * (n : Int) / 2 ^ m % 256) = ((UInt8.ofNat (8 * n / 2 ^ m)).toNat : Int) := by
  rw [UInt8.toNat_ofNat']
  rw [Int.natCast_emod, Int.natCast_ediv, Int.natCast_mul, Int.natCast_pow]; rfl
theorem be8_take (v k : Nat) (h : k < 8) : (be8 v).take (k + 1) = (be8 v).take k ++ [UInt8.ofNat (v / 2 ^ (56 - 8 * k))] := by
  rw [List.take_succ_eq_append_getElem (by rw [be8_length]; exact h)]
  simp [be8]
def vlen : Value → Nat | .slice _ n _ => n | _ => 0
def zs (l : List UInt8) : Nat := (119 - l.length % 64) % 64

set_option maxHeartbeats 4000000 in
set_option maxRecDepth 100000 in
theorem sum_calls (S : Nat → Prop) (w : World) (q : Nat) (l : List UInt8) (H : HashIs S w q l) (hlen : l.length ≤ 1125899906842624) (hT : TabB w 1) :
    Calls Tryd.prog 39 #[.pointer (some ⟨q, 0, none⟩)] w fun e w' => e = .returned (.agg ((sha l).map byt).toArray) ∧ Below w.heap.size w w' := by
  obtain ⟨ra, rc, _, ho, _, _, h8, h9, hfz, hq⟩ := H.opened
  obtain ⟨g0, g1, g2, g3, g4, g5, g6, g7⟩ := H.cells
  have hll := left_lt l
  have hby := ho.byt.any
  have HO := Lib.hid (hby.below ((Below.refl _ _).alloc (Nat.le_refl _) (.cells (List.replicate 32 (.int .u8 0)).toArray 24)))
  clear ho hby
  go_enter Tryd.func39, Tryd.ntmps39
  go_upto_region 1 with fail
  have hP0 : PadRel w.heap.size w (.slice none 0 0) [] (w.alloc (.cells (List.replicate 32 (.int .u8 0)).toArray 24)) :=
    ⟨OwnB.nil _ _ _, (Below.refl _ _).alloc (Nat.le_refl _) _, Blk.new w _ _ _ rfl⟩
  go_wp2_with (at_builtin; refine wpList_append_byt _ rfl (.const (.slice none 0 0)) (.tmp 13) 56 rfl (w.heap.size + 1) 5 elemB _ [] rfl (OwnB.nil _ _ _) _ (left l) rfl HO.out (by simp; omega) (by simp) ?_)
  intro va vc w1 o1 o2 o3
  have hP1 := hP0.grows (by simp) o1 (Fr.ofGrown o2)
  clear o1 o2 o3 hP0
  have HP1 := Lib.hid hP1
  have hz1 : w.heap.size < w1.heap.size := hP1.2.2.lt
  clear hP1
  go_wp2_with (at_builtin; refine wpList_append_one _ rfl (.tmp 15) (.tmp 16) 56 rfl (w.heap.size + 1) 5 elemB _ (left l) rfl HP1.out.1 _ 128 rfl rfl (by omega) (by omega) ?_)
  intro va2 vc2 w2 o1 o2 o3
  have hP2 := HP1.out.grows (by omega) o1 o2
  clear o1 o2 o3 HP1
  have HP2 := Lib.hid hP2
  clear hP2 HO
  go_wp2
  go_loopw [3] (fun v wx => ∃ j bs, j ≤ zs l ∧ bs = left l ++ [128] ++ List.replicate j 0 ∧ PadRel w.heap.size w v bs wx) (fun v _ => 200 - vlen v)
  case atStart => exact ⟨0, _, Nat.zero_le _, by simp, HP2.out⟩
  case round =>
    obtain ⟨j, bs, hj, hbs, hP⟩ := hrel
    obtain ⟨xa, xc, rfl, _⟩ := id hP.1.byt
    have hz := hP.2.2.lt
    have hll2 := left_length _ l rfl
    have hb1 : bs.length = l.length % 64 + 1 + j := by rw [hbs]; simp; omega
    have hb2 : bs.length ≤ l.length % 64 + 1 + j := by omega
    have hb3 : l.length % 64 + 1 + j ≤ bs.length := by omega
    have hzs : zs l = (119 - l.length % 64) % 64 := rfl
    have hz63 : zs l ≤ 63 := by omega
    have hl63 : l.length % 64 ≤ 63 := by omega
    have HBS := Lib.hid hbs
    have HP := Lib.hid hP
    by_cases hjz : j = zs l
    · have ht : ((bs.length : Int) % 64 != 56) = false := by rw [bne_eq_false_iff_eq]; omega
      have hbz : bs = left l ++ [128] ++ List.replicate (zs l) 0 := by rw [hbs, hjz]
      have hb4 : bs.length ≤ 128 := by omega
      have HBZ := Lib.hid hbz
      clear hbs hP hb1 hzs hll2 hjz HBS hbz hb2 hb3
      go_wp2
      go_loopw [3, 4, 25] (fun v _ i wx => ∃ (k : Nat) (cs : List UInt8), k ≤ 8 ∧ i = .int .i64 k ∧ cs = bs ++ (be8 (8 * l.length)).take k ∧ PadRel w.heap.size w v cs wx) (fun _ _ i _ => 8 - (intOf i).toNat)
      case atStart => exact ⟨0, _, by omega, rfl, by simp, HP.out⟩
      case round =>
        obtain ⟨k, cs, hk8, rfl, hcs, hP⟩ := hrel
        obtain ⟨ya, yc, rfl, _⟩ := id hP.1.byt
        have hz2 := hP.2.2.lt
        have hcl : cs.length ≤ 200 := by rw [hcs]; simp; omega
        have h9r := (hP.2.1.cell (p := ⟨q, 9, none⟩) hq).trans h9
        have HP2 := Lib.hid hP
        have HCS := Lib.hid hcs
        clear hP hcs HP
        by_cases hlt : k < 8
        · go_wp2_with (at_builtin; refine wpList_append_one _ rfl (.tmp 28) (.tmp 40) 56 rfl (w.heap.size + 1) 5 elemB _ cs rfl HP2.out.1 _ (UInt8.ofNat (8 * l.length / 2 ^ (56 - 8 * k))) (byte_int _ _) rfl (by omega) (by omega) ?_)
          intro va2 vc2 w2 o1 o2 o3
          have hP3 := HP2.out.grows (by omega) o1 o2
          clear o1 o2 o3 HP2
          have HP3 := Lib.hid hP3
          clear hP3
          go_wp2
          go_roundw
          case rel => exact ⟨k + 1, _, by omega, by go_num, by rw [HCS.out, be8_take _ k hlt, ← List.append_assoc], HP3.out⟩
          case measure => simp [intOf]; omega
        · obtain rfl : k = 8 := by omega
          have hfin : cs = left l ++ padTail l.length := by
            rw [HCS.out, HBZ.out]
            unfold padTail zs
            rw [show 8 * l.length % 18446744073709551616 = 8 * l.length from by omega, show (be8 (8 * l.length)).take 8 = be8 (8 * l.length) from List.take_of_length_le (by rw [be8_length]; omega)]
            simp
          have HFIN := Lib.hid hfin
          have hPz := HP2.out
          have ga0 := (hPz.2.1.cell (p := ⟨q, 0, none⟩) hq).trans g0
          have ga1 := (hPz.2.1.cell (p := ⟨q, 1, none⟩) hq).trans g1
          have ga2 := (hPz.2.1.cell (p := ⟨q, 2, none⟩) hq).trans g2
          have ga3 := (hPz.2.1.cell (p := ⟨q, 3, none⟩) hq).trans g3
          have ga4 := (hPz.2.1.cell (p := ⟨q, 4, none⟩) hq).trans g4
          have ga5 := (hPz.2.1.cell (p := ⟨q, 5, none⟩) hq).trans g5
          have ga6 := (hPz.2.1.cell (p := ⟨q, 6, none⟩) hq).trans g6
          have ga7 := (hPz.2.1.cell (p := ⟨q, 7, none⟩) hq).trans g7
          clear hPz hfin HBZ HCS
          have hst := feed_start HP2.out (feed ini l) rfl
          have hgB : w.heap.size < wr.heap.size := HP2.out.2.2.lt
          have hcsl : cs.length % 64 = 0 := by rw [HFIN.out, List.length_append, left_length _ l rfl]; have := padTail_length l.length; omega
          have HST := Lib.hid hst
          have HCSL := Lib.hid hcsl
          clear hst hcsl
          go_wp2
          clear ga0 ga1 ga2 ga3 ga4 ga5 ga6 ga7 HP2 g0 g1 g2 g3 g4 g5 g6 g7 h8 h9 hfz
          generalize wr.heap.size = g at *
          go_loopw [3] (fun v wx => ∃ (st : St) (ds : List UInt8), feed st ds = feed (feed ini l) cs ∧ ds.length % 64 = 0 ∧ ds.length ≤ 200 ∧ FeedRel w.heap.size g w v st ds wx) (fun v _ => vlen v)
          case atStart => exact ⟨_, cs, rfl, HCSL.out, hcl, HST.out⟩
          case round =>
            obtain ⟨st, ds, hE, hmod, hdl, hF⟩ := hrel
            obtain ⟨xb, xbc, rfl, hxk, _⟩ := id hF.2.1
            have hTw := hT.fr (Fr.ofBelow hF.2.2.1) (by have := hT.choose_spec.choose_spec; have := (Array.getElem?_eq_some_iff.1 this).1; omega)
            have HTw := Lib.hid hTw
            have HE := Lib.hid hE
            have HF := Lib.hid hF
            have HMOD := Lib.hid hmod
            clear hTw
            by_cases h0 : 0 < ds.length
            · have h64 : 64 ≤ ds.length := by omega
              obtain ⟨sa, scap, hs2, hs3⟩ := run_slice_hi elemB hF.2.1 64 h64
              obtain ⟨sb, sbc, ht2, ht3⟩ := run_slice_lo elemB hF.2.1 64 h64
              have hs2 : ∀ (kh : IntKind) (w' : World), (Instr.sliceAt 56 (.slice xb ds.length xbc) none (some (.int kh 64)) none).run Tryd.prog w' = .ok (.slice sa 64 scap) w' := hs2
              have ht2 : ∀ (kh : IntKind) (w' : World), (Instr.sliceAt 56 (.slice xb ds.length xbc) (some (.int kh 64)) none none).run Tryd.prog w' = .ok (.slice sb (ds.length - 64) sbc) w' := ht2
              obtain ⟨k0, k1, k2, k3, k4, k5, k6, k7⟩ := St.cells hF.1
              have hl64 : (ds.take 64).length = 64 := by simp; omega
              have HL64 := Lib.hid hl64
              have hgw := hF.2.2.2.2
              clear hF hmod hl64 hE
              go_upto_region 12 with fail
              go_cut [3] (fun s3 wx => s3 = .slice xb ds.length xbc ∧ FeedRel w.heap.size g w (.slice xb ds.length xbc) (mixed st (ds.take 64)) ds wx ∧ Byt (fun k => w.heap.size + 1 ≤ k ∧ k < g) wx (.slice sb (ds.length - 64) sbc) (ds.drop 64))
              case first =>
                go_region_law ((go_simp; go_at_call 45; refine (mixed8 _ _ (ds.take 64) _ hs3.drew HL64.out HTw.out).mono ?_; rintro e w5 ⟨⟨r, hr, rfl⟩, hbw⟩; have HQ := Lib.hid (feed_below HF.out hbw (by have := HF.out.2.2.2.1.lt; omega)); have HBW := Lib.hid hbw; have HRR := Lib.hid hr; clear hbw hr k0 k1 k2 k3 k4 k5 k6 k7; obtain ⟨k0, k1, k2, k3, k4, k5, k6, k7⟩ := St.cells HQ.out.1; have kf := HQ.out.1.free))
                all_goals go_wp2_with fail
                all_goals go_meet
                all_goals (rw [← HRR.out]; exact ⟨rfl, feed_set HQ.out r, feed_next ht3 HBW.out r⟩)
              case rest =>
                obtain ⟨rfl, hF, hB⟩ := hcut
                have HF2 := Lib.hid hF
                have HB2 := Lib.hid hB
                clear hF hB HF
                go_wp2
                go_roundw
                case rel =>
                  refine ⟨mixed st (ds.take 64), ds.drop 64, ?_, ?_, by simp; omega, ?_⟩
                  · rw [← HE.out, feed_long st ds h64]
                  · have := HMOD.out; simp; omega
                  · obtain ⟨f1, _, f3, f4, f5⟩ := HF2.out
                    exact ⟨f1, HB2.out, f3, f4, f5⟩
                case measure => simp [vlen]; omega
            · have hd0 : ds = [] := List.length_eq_zero_iff.1 (by omega)
              have hst2 : st = feed (feed ini l) cs := by rw [← HE.out, hd0, feed_short _ _ (by simp)]
              have hsh : sha l = out st := by rw [sha_left, hst2, HFIN.out]
              have HSH := Lib.hid hsh
              obtain ⟨k0, k1, k2, k3, k4, k5, k6, k7⟩ := St.cells hF.1
              have hgw := hF.2.2.2.2
              clear hF hE hd0 hst2 hsh hmod
              have hglt : g < wr.heap.size := HF.out.1.lt
              have hO : OutRel w.heap.size g wr.heap.size w st 0 (wr.alloc (.cells (List.replicate 32 (.int .u8 0)).toArray 24)) :=
                ⟨HF.out.2.2.1.alloc (by omega) _, HF.out.2.2.2.1.alloc _, by simpa using Blk.new wr _ 24 (List.replicate 32 (.int .u8 0)) rfl, hgw, hglt⟩
              have HO2 := Lib.hid hO
              clear hO HF
              go_wp2
              generalize wr.heap.size = d at *
              go_loopw [7, 8, 9, 57, 61] (fun _ _ _ i _ wx => ∃ k : Nat, k ≤ 8 ∧ i = .int .i64 k ∧ OutRel w.heap.size g d w st (4 * k) wx) (fun _ _ _ i _ _ => 8 - (intOf i).toNat)
              case atStart => exact ⟨0, by omega, rfl, HO2.out⟩
              case round =>
                obtain ⟨k, hk8, rfl, hR⟩ := hrel
                by_cases hlt : k < 8
                · have hix := fun w => index_st st k hlt w
                  have HR := Lib.hid hR
                  clear hR
                  go_wp2
                  go_loopw [9, 61] (fun _ i wx => ∃ m : Nat, m ≤ 4 ∧ i = .int .i64 m ∧ OutRel w.heap.size g d w st (4 * k + m) wx) (fun _ i _ => 4 - (intOf i).toNat)
                  case atStart => exact ⟨0, by omega, rfl, HR.out⟩
                  case round =>
                    obtain ⟨m, hm4, rfl, hR2⟩ := hrel
                    by_cases hlm : m < 4
                    · have hcell := out_cell (by omega) hR2
                      have hfree := hR2.2.2.1.free (4 * k + m)
                      have HS := Lib.hid (out_step hlt hlm hR2)
                      clear hR2 HR
                      go_wp2
                      go_roundw
                      case rel =>
                        refine ⟨m + 1, by omega, by go_num, ?_⟩
                        rw [byte_of]
                        exact HS.out
                      case measure => simp [intOf]; omega
                    · obtain rfl : m = 4 := by omega
                      have HR2 := Lib.hid hR2
                      clear hR2 HR
                      go_wp2
                      go_roundw
                      case rel => exact ⟨k + 1, by omega, by go_num, HR2.out⟩
                      case measure => simp [intOf]; omega
                · obtain rfl : k = 8 := by omega
                  have hD : Blk wr d ((out st).map byt) 24 := by
                    have := hR.2.2.1
                    rw [show 4 * 8 = 32 from rfl, List.take_of_length_le (by rw [out_length]; omega)] at this
                    simpa using this
                  have hBl := hR.2.1
                  have hBe := hR.1
                  have hone : ∀ v ∈ (out st).map byt, v.oneCell' = true := by
                    intro v hv; obtain ⟨c, _, rfl⟩ := List.mem_map.1 hv; rfl
                  have HD := Lib.hid hD
                  have HBL := Lib.hid hBl
                  have HBE := Lib.hid hBe
                  have HONE := Lib.hid hone
                  clear hR hD hBl hBe hone
                  go_wp2_with (first
                    | (with_reducible refine wpList_load_blk rfl _ _ rfl d _ rfl HD.out _ Tryd.underlying24 rfl (by kernel_rfl) ?_)
                    | (with_reducible refine wpList_store_blk rfl _ _ _ rfl w.heap.size ((out st).map byt) _ rfl _ rfl rfl HBL.out (by kernel_rfl) (by simp [out_length]) HONE.out ?_))
                  refine bodyPost_ret (v := .agg ((out st).map byt).toArray) (results_cell_row Tryd.results39 _ _ w.heap.size 24 _ (0, 0) _ rfl (HBL.out.row _) Tryd.underlying24 rfl (by kernel_rfl)) rfl ⟨by rw [HSH.out], below_setRow HBE.out (Nat.le_refl _) _⟩
    · have ht : ((bs.length : Int) % 64 != 56) = true := by rw [bne_iff_ne]; omega
      have hm1 : j + 1 ≤ zs l := by omega
      clear hbs hP hb1 hzs hll2
      go_wp2_with (at_builtin; refine wpList_append_one _ rfl (.tmp 22) (.tmp 23) 56 rfl (w.heap.size + 1) 5 elemB _ bs rfl HP.out.1 _ 0 rfl rfl (by omega) (by omega) ?_)
      intro va2 vc2 w2 o1 o2 o3
      have hP2 := HP.out.grows (by omega) o1 o2
      clear o1 o2 o3 HP
      have HP2 := Lib.hid hP2
      clear hP2
      go_wp2
      go_roundw
      case rel => exact ⟨j + 1, _, hm1, by rw [HBS.out, List.replicate_succ', ← List.append_assoc], HP2.out⟩
      case measure => simp [vlen]; omega

theorem of_calls (w : World) (D : Nat → Prop) (v : Value) (b : List UInt8) (hB : Byt D w v b) (hlen : b.length ≤ 1125899906842624) (hT : TabB w 1) :
    Calls Tryd.prog 36 #[v] w fun e w' => e = .returned (.agg ((sha b).map byt).toArray) ∧ Below w.heap.size w w' := by
  obtain ⟨a, c, rfl, _⟩ := id hB
  have hz : (List.replicate 32 (Value.int .u8 0)).toArray = #[.int .u8 0, .int .u8 0, .int .u8 0, .int .u8 0, .int .u8 0, .int .u8 0, .int .u8 0, .int .u8 0, .int .u8 0, .int .u8 0, .int .u8 0, .int .u8 0, .int .u8 0, .int .u8 0, .int .u8 0, .int .u8 0,
    .int .u8 0, .int .u8 0, .int .u8 0, .int .u8 0, .int .u8 0, .int .u8 0, .int .u8 0, .int .u8 0, .int .u8 0, .int .u8 0, .int .u8 0, .int .u8 0, .int .u8 0, .int .u8 0, .int .u8 0, .int .u8 0] := rfl
  have hblk := Blk.new w _ 24 (List.replicate 32 (.int .u8 0)) rfl
  have hb0 : Below w.heap.size w (w.alloc (.cells (List.replicate 32 (.int .u8 0)).toArray 24)) := (Below.refl _ _).alloc (Nat.le_refl _) _
  have hB0 := hB.lt.below hb0
  have hT0 := hT.below hb0
  have hgl : 1 < w.heap.size := (Array.getElem?_eq_some_iff.1 hT.choose_spec.choose_spec).1
  rw [hz] at hblk hb0 hB0 hT0
  clear hz
  have HBLK := Lib.hid hblk
  have HB0 := Lib.hid hb0
  clear hblk hb0
  go_enter Tryd.func36, Tryd.ntmps36
  go_upto_region 1 with fail
  generalize (w.alloc (.cells #[.int .u8 0, .int .u8 0, .int .u8 0, .int .u8 0, .int .u8 0, .int .u8 0, .int .u8 0, .int .u8 0, .int .u8 0, .int .u8 0, .int .u8 0, .int .u8 0, .int .u8 0, .int .u8 0, .int .u8 0, .int .u8 0,
    .int .u8 0, .int .u8 0, .int .u8 0, .int .u8 0, .int .u8 0, .int .u8 0, .int .u8 0, .int .u8 0, .int .u8 0, .int .u8 0, .int .u8 0, .int .u8 0, .int .u8 0, .int .u8 0, .int .u8 0, .int .u8 0] 24)) = w0 at *
  go_wp2_with fail
  refine (new_calls w0).mono ?_
  rintro e w1 ⟨q, rfl, hq, hH, hb1⟩
  have HH := Lib.hid hH
  have HB1 := Lib.hid hb1
  clear hH hb1
  go_wp2_with fail
  refine (write_calls (fun k => k = q) (fun k => k < w.heap.size ∧ D k) w1 q [] _ b HH.out (hB0.below HB1.out) (fun k _ hk e => by have := HBLK.out.lt; omega) (by simpa using hlen) (hT0.below HB1.out) (by have := HBLK.out.lt; omega)).mono ?_
  rintro e w2 ⟨rfl, hH, hf⟩
  rw [List.nil_append] at hH
  have HH2 := Lib.hid hH
  have HF2 := Lib.hid hf
  clear hH hf
  go_wp2_with fail
  have hT2 : TabB w2 1 := (hT0.below HB1.out).fr HF2.out (by have := HBLK.out.lt; omega)
  refine (sum_calls _ w2 q b HH2.out hlen hT2).mono ?_
  rintro e w3 ⟨rfl, hb3⟩
  have hbl3 : Blk w3 w.heap.size (List.replicate 32 (.int .u8 0)) 24 := (((HBLK.out.below HB1.out).fr HF2.out (by have := HBLK.out.lt; omega)).below hb3)
  have hbe : Below w.heap.size w w3 := by
    refine (HB0.out.trans (HB1.out.mono ?_)).trans ((HF2.out.below (B := w.heap.size) ?_ ?_).trans (hb3.mono ?_))
    · have := HBLK.out.lt; omega
    · have := HB1.out.size; have := HBLK.out.lt; omega
    · intro k hk; have := HBLK.out.lt; omega
    · have := HF2.out.size; have := HB1.out.size; have := HBLK.out.lt; omega
  have hone : ∀ v ∈ (sha b).map byt, v.oneCell' = true := by
    intro v hv; obtain ⟨c, _, rfl⟩ := List.mem_map.1 hv; rfl
  have HD := Lib.hid hbl3
  have HE := Lib.hid hbe
  have HONE := Lib.hid hone
  clear hbl3 hbe hone hb3
  go_wp2_with (with_reducible refine wpList_store_blk rfl _ _ _ rfl w.heap.size ((sha b).map byt) _ rfl _ rfl rfl HD.out (by kernel_rfl) (by simp [sha_length]) HONE.out ?_)
  exact bodyPost_ret (v := .agg ((sha b).map byt).toArray) (results_cell_row Tryd.results36 _ _ w.heap.size 24 _ (0, 0) _ rfl (HD.out.row _) Tryd.underlying24 rfl (by kernel_rfl)) rfl ⟨rfl, below_setRow HE.out (Nat.le_refl _) _⟩
end Go.Proofs.YtmenchnjajpkmaaDoor.ShaW
