/- The walk of the law MainchainProves. Conditions: a header, transactions and a place as they read, of some 2^30 things each at most; the tables are laid. -/
import Derived.Test.YtmenchnjajpkmaaGreatDoorPrvo
import Derived.Test.YtmenchnjajpkmaaGreatDoorPrvd
import Derived.Test.YtmenchnjajpkmaaGreatDoorPrvl
import Derived.Test.YtmenchnjajpkmaaGreatDoorPrvi
import Derived.Deep.DeepCutAuto
import Derived.Deep.CutBlock
section
namespace Go.Proofs.YtmenchnjajpkmaaGreatDoor.Pv
open Go Go.RowKit Mem Sha ShaW Codec Mh Reps Wm Rm Rr Ev Mk Arr Ops Tk Tr Row Wt
open MkW (dcs)
set_option linter.unusedVariables false
set_option linter.unusedSimpArgs false

/-- a thing told: in new memory -/
def ToldN (N : Nat) (enc : List UInt8) (bad : Bool) (e : Ending) (w' : World) : Prop := ∃ a c, e = .returned (.tuple #[.slice a (told enc bad).length c, .int .i64 (toldE bad)]) ∧ Byt (fun k => N ≤ k) w' (.slice a (told enc bad).length c) (told enc bad)
theorem done_new (N : Nat) (S : Nat → Prop) (hS : ∀ k, S k → N ≤ k) (w : World) (q : Nat) (m : List UInt8) (bad : Bool) (H : RfW.RefIs S w q m bad) :
    Calls Tryz.prog 37 #[.pointer (some ⟨q, 0, none⟩)] w fun e w' => ToldN N m bad e w' ∧ w = w' := by
  obtain ⟨a, c, g2, g3, g4, _, _⟩ := H.opened
  have c0 := g2.cell (i := 0) rfl
  have c1 := g2.cell (i := 1) rfl
  have G3 := Lib.hid (show Byt (fun k => N ≤ k) w (.slice a m.length c) m from (OwnB.byt g3).mono (fun k _ h => hS k (g4 k h.1).1))
  clear g2 g3 g4 H
  cases bad
  · go_enter Tryz.func37, Tryz.ntmps37
    go_wp2
    go_ret2
    exact ⟨⟨a, c, rfl, G3.out⟩, rfl⟩
  · go_enter Tryz.func37, Tryz.ntmps37
    go_wp2
    go_ret2
    exact ⟨⟨none, 0, rfl, (OwnB.byt (OwnB.nil N 5 w)).mono (fun k _ h => h.2)⟩, rfl⟩
set_option maxHeartbeats 4000000 in
set_option maxRecDepth 100000 in
theorem rMainTx_new (w : World) (cs : List Value) (x : _) (hR : RMt Any w cs x) (hn : (encMt x).length + 9 ≤ 140737488355328) :
    Calls Tryz.prog 11 #[.agg cs.toArray] w fun e w' => ToldN w.heap.size (encMt x) (badMt x) e w' ∧ Below w.heap.size w w' := by
  obtain ⟨ca, hca⟩ : ∃ ca, cs.toArray = ca := ⟨_, rfl⟩
  have HB := Lib.hid (show Blk (w.alloc (.cells ca 56)) w.heap.size cs 56 from Blk.new w _ _ _ hca.symm)
  have B1 := Lib.hid (below_alloc w (.cells ca 56))
  have hz : w.heap.size + 1 ≤ (w.alloc (.cells ca 56)).heap.size := by simp
  have HA := Lib.hid (rep_Mt.mono hR (E := fun k => k < w.heap.size) (fun k h1 _ => h1))
  have HSZ := Lib.hid (show (Tryz.prog.info? 56).map (·.size) = some cs.length by rw [rep_Mt.len hR]; kernel_rfl)
  rw [hca]
  clear hR hca
  go_enter Tryz.func11, Tryz.ntmps11
  go_upto_region 1 with fail
  generalize (w.alloc (.cells ca 56)) = w1 at *
  have H2 := Lib.hid (Rw.RAt.start (RfW.RefIs.new w1) (fun k h => by simp; omega))
  have HB2 := Lib.hid (HB.out.alloc (.cells #[.slice none 0 0, .bool false] 91))
  have B2 := Lib.hid (B1.out.alloc (by omega) (.cells #[.slice none 0 0, .bool false] 91))
  have hs3 : w1.heap.size + 1 ≤ (w1.alloc (.cells #[.slice none 0 0, .bool false] 91)).heap.size := by simp
  clear HB B1
  go_upto_region 2 with fail
  generalize (w1.alloc (.cells #[.slice none 0 0, .bool false] 91)) = w3 at *
  have HA3 := Lib.hid (rep_Mt.below HA.out B2.out)
  go_wp2_with (first | (with_reducible refine wpList_load_blk rfl _ _ rfl w.heap.size cs rfl HB2.out _ Tryz.underlying56 rfl HSZ.out ?_))
  refine (rmainTx_to _ (fun k => k < w.heap.size) _ w3 _ [] false cs x HA3.out (fun k _ h e => by rcases e with e | e <;> omega) H2.out (by simp; omega)).mono ?_
  rintro e w4 ⟨rfl, g1⟩
  rw [List.nil_append, Bool.false_or] at g1
  have G1 := Lib.hid g1.1
  have BF := Lib.hid (B2.out.trans (show Below w.heap.size w3 w4 from g1.2.1.below (by omega) (fun k h => by omega)))
  clear g1 H2 B2 HB2
  go_wp2_with fail
  refine (done_new w.heap.size _ (fun k hk => by rcases hk with hk | ⟨hk, _⟩ <;> omega) w4 _ _ _ G1.out).mono ?_
  rintro e w5 ⟨⟨a', c', rfl, o5⟩, rfl⟩
  have O5 := Lib.hid o5
  clear o5 G1
  go_wp2
  go_ret2
  exact ⟨⟨a', c', rfl, O5.out⟩, BF.out⟩
set_option maxRecDepth 100000 in
theorem exec_built3 {P : Program} {o : Oper} {a : Act} {w : World} {t : TypeId} {i1 i2 i3 : Nat} {x1 x2 x3 : Operand} (ho : o.op = .build t #[(i1, x1), (i2, x2), (i3, x3)]) {v1 v2 v3 : Value} (h1 : a.eval x1 = v1) (h2 : a.eval x2 = v2) (h3 : a.eval x3 = v3) {cs : Array Value} (hb : P.built t [(i1, v1), (i2, v2), (i3, v3)] = some cs) :
    (execOp a.eval o).run P w = .ok (.value (.agg cs)) w := exec_built ho (by simpa [h1, h2, h3] using hb)
set_option maxRecDepth 100000 in
theorem structPeg : StructT Tryz.prog 29 [32, 1, 1, 1, 1, 1] := ⟨_, _, _, rfl, Tryz.underlying29, rfl, by kernel_rfl, by kernel_rfl⟩
set_option maxRecDepth 100000 in
theorem structOut : StructT Tryz.prog 31 [32, 1] := ⟨_, _, _, rfl, Tryz.underlying31, rfl, by kernel_rfl, by kernel_rfl⟩
def ZPG : List Value := List.replicate 32 (Value.int .u8 0) ++ [Value.slice none 0 0, .int .u32 0, .int .u32 0, .slice none 0 0, .slice none 0 0]
theorem zeroPeg (w : World) : (zeroValue 29).run Tryz.prog w = .ok (.agg ZPG.toArray) w := by kernel_rfl
theorem ZPG_len : ZPG.length = 37 := by simp [ZPG]
theorem zero66 (w : World) : (zeroValue 41).run Tryz.prog w = .ok (.agg (Z32 ++ (Z32 ++ [Value.int .u64 0, Value.int .u64 0])).toArray) w := by kernel_rfl
theorem zero66_len : (Z32 ++ (Z32 ++ [Value.int .u64 0, Value.int .u64 0])).length = 66 := by simp [Z32]
set_option maxRecDepth 100000 in
/-- slices of byte slices -/
theorem elemR : ElemT Tryz.prog 53 25 (.slice none 0 0) 1 24 :=
  ⟨Tryz.underlying53, ⟨_, rfl, by kernel_rfl, by kernel_rfl, by kernel_rfl⟩, by simp [Value.cells], by decide⟩

set_option maxHeartbeats 40000000 in
set_option maxRecDepth 200000 in
theorem walk0 (w : World) (f : Hd) (okf : f.Ok) (vx : Value) (xs : List XMt) (hx : Sl 2 RMt Any w vx xs) (hn : xs.length ≤ 1073741824) (hl : ∀ x ∈ xs, x.2.length ≤ 1073741824) (q : Whr) (hq : Byt Any w q.vs q.sc) (hql : q.sc.length ≤ 140737488351232) (hva : q.va < 18446744073709551616) (hdp : q.dp < 18446744073709551616)
    (hP : TabB w 1) (hR : TabB w 0) :
    Calls Tryz.prog 4 #[hv f, vx, .agg (whC q).toArray] w fun e w' => e = .returned (.bool true) ∧ Below w.heap.size w w' := by
  obtain ⟨xa, xc, rfl, hxc, hxm, _⟩ := hx.form
  unfold maxLen at hxm
  have hp := (Array.getElem?_eq_some_iff.1 hP.choose_spec.choose_spec).1
  have hr := (Array.getElem?_eq_some_iff.1 hR.choose_spec.choose_spec).1
  have HPL := Lib.hid hp
  have HRL := Lib.hid hr
  have HP := Lib.hid hP
  have HR := Lib.hid hR
  have OKF := Lib.hid okf
  have HX := Lib.hid hx
  have HL := Lib.hid hl
  have HOX := Lib.hid (okX_of hx)
  have HQ := Lib.hid (show Byt (fun k => k < w.heap.size) w q.vs q.sc from hq.lt.mono (fun k h _ => h))
  obtain ⟨qc, hqc⟩ : ∃ qc, whC q = qc := ⟨_, rfl⟩
  have HQC := Lib.hid hqc
  obtain ⟨fc, hfc⟩ : ∃ fc, f.cells = fc := ⟨_, rfl⟩
  have HFC := Lib.hid hfc
  have HFL := Lib.hid (show (Tryz.prog.info? 41).map (·.size) = some fc.length from by rw [← hfc]; exact Wh.szH okf)
  obtain ⟨Y, hY⟩ : ∃ Y, Ys q xs = Y := ⟨_, rfl⟩
  have HY := Lib.hid hY
  have HYL := Lib.hid (show Y.length = xs.length from by rw [← hY]; exact ys_len q xs)
  rw [hqc]
  show Calls _ _ #[.agg f.cells.toArray, _, _] _ _
  rw [hfc]
  clear hp hr hP hR okf hx hl hq hqc hfc hY
  go_enter Tryz.func4, Tryz.ntmps4
  go_upto_region 1 with (first
    | ((with_reducible refine wpList_box rfl _ _ rfl fc rfl (fun w1 k1 c1 z1 => ?_)); have K1 := Lib.hid k1; have B1 := Lib.hid c1; clear k1 c1)
    | ((with_reducible refine wpList_box rfl _ _ rfl qc rfl (fun w2 k2 c2 z2 => ?_)); have K2 := Lib.hid k2; have B2 := Lib.hid (B1.out.trans (c2.mono (by omega))); have F2 := Lib.hid (K1.out.below c2); clear k2 c2))
  have hg5 : w.heap.size < w1.heap.size := by omega
  have hg52 : w1.heap.size < w2.heap.size := by omega
  clear K1 B1
  generalize w1.heap.size = g5 at *
  go_cut [7, 8] from 29 to 33 (fun x y wx => ∃ t b, x = .pointer (some ⟨t, 0, none⟩) ∧ y = .bool true ∧ g5 < t ∧ g5 < b ∧ TrkIs wx t b [f] ∧ Blk wx w.heap.size fc 41 ∧ Blk wx g5 qc 50 ∧ Below w.heap.size w wx)
  case first =>
    go_wp2_with (first
      | (with_reducible refine wpList_load_blk rfl _ _ rfl w.heap.size fc rfl F2.out _ Tryz.underlying41 rfl HFL.out ?_))
    have hbc := Tb.begun_calls w2 f OKF.out (HP.out.below B2.out) (HR.out.below B2.out)
    unfold hv at hbc
    rw [HFC.out] at hbc
    refine hbc.mono ?_
    clear hbc
    rintro e w3 ⟨t, b, rfl, n1, n2, x3, c3⟩
    have X3 := Lib.hid x3
    have F3 := Lib.hid (F2.out.below c3)
    have K3 := Lib.hid (K2.out.below c3)
    have B3 := Lib.hid (B2.out.trans (c3.mono B2.out.size))
    clear x3 c3 F2 K2 B2
    go_wp2
    go_meet
    case rel => exact ⟨t, b, rfl, rfl, by omega, by omega, X3.out, F3.out, K3.out, B3.out⟩
  case rest =>
    rename World => wN
    obtain ⟨t, b, rfl, rfl, ht, hb, x3, f3, k3, b3⟩ := hcut
    clear K2 F2 B2
    have hwc := b3.size
    have X3 := Lib.hid x3
    have F3 := Lib.hid f3
    have K3 := Lib.hid k3
    have B3 := Lib.hid b3
    clear x3 f3 k3 b3 hg52 z1 z2
    go_wp2
    refine wp_loop_fr (fun u => ⟨(Value.agg fc.toArray :: .slice xa xs.length xc :: .agg qc.toArray :: .pointer (some ⟨w.heap.size, 0, none⟩) :: u 4 :: .pointer (some ⟨g5, 0, none⟩) :: .bool false :: .pointer (some ⟨t, 0, none⟩) :: u 8 :: u 9 :: u 10 :: u 11 :: u 12 :: u 13 :: u 14 :: u 15 :: u 16 :: u 17 :: u 18 :: u 19 :: u 20 :: u 21 :: u 22 :: u 23 :: u 24 :: u 25 :: u 26 :: u 27 :: u 28 :: u 29 :: u 30 :: u 31 :: u 32 :: u 33 :: u 34 :: u 35 :: u 36 :: .int .i64 (xs.length : Int) :: u 38 :: u 39 :: u 40 :: u 41 :: u 42 :: u 43 :: u 44 :: u 45 :: u 46 :: u 47 :: u 48 :: u 49 :: u 50 :: u 51 :: u 52 :: u 53 :: u 54 :: u 55 :: u 56 :: u 57 :: u 58 :: u 59 :: u 60 :: u 61 :: u 62 :: u 63 :: u 64 :: u 65 :: u 66 :: u 67 :: u 68 :: u 69 :: u 70 :: u 71 :: u 72 :: u 73 :: u 74 :: u 75 :: u 76 :: u 77 :: u 78 :: u 79 :: u 80 :: u 81 :: u 82 :: u 83 :: u 84 :: u 85 :: u 86 :: u 87 :: u 88 :: u 89 :: u 90 :: u 91 :: u 92 :: u 93 :: u 94 :: u 95 :: u 96 :: u 97 :: u 98 :: u 99 :: u 100 :: u 101 :: u 102 :: u 103 :: u 104 :: u 105 :: u 106 :: u 107 :: u 108 :: u 109 :: u 110 :: u 111 :: u 112 :: u 113 :: u 114 :: u 115 :: u 116 :: u 117 :: u 118 :: u 119 :: u 120 :: u 121 :: u 122 :: u 123 :: u 124 :: u 125 :: u 126 :: u 127 :: u 128 :: u 129 :: u 130 :: u 131 :: u 132 :: u 133 :: u 134 :: u 135 :: u 136 :: u 137 :: u 138 :: u 139 :: u 140 :: u 141 :: u 142 :: u 143 :: u 144 :: u 145 :: u 146 :: u 147 :: u 148 :: u 149 :: u 150 :: u 151 :: u 152 :: u 153 :: u 154 :: u 155 :: u 156 :: u 157 :: u 158 :: u 159 :: u 160 :: u 161 :: u 162 :: u 163 :: u 164 :: u 165 :: u 166 :: u 167 :: u 168 :: u 169 :: u 170 :: u 171 :: u 172 :: u 173 :: u 174 :: u 175 :: u 176 :: u 177 :: u 178 :: u 179 :: u 180 :: u 181 :: u 182 :: u 183 :: u 184 :: u 185 :: u 186 :: u 187 :: u 188 :: u 189 :: u 190 :: u 191 :: u 192 :: u 193 :: u 194 :: u 195 :: u 196 :: u 197 :: u 198 :: u 199 :: u 200 :: u 201 :: u 202 :: u 203 :: u 204 :: u 205 :: u 206 :: u 207 :: u 208 :: u 209 :: u 210 :: u 211 :: u 212 :: u 213 :: u 214 :: u 215 :: u 216 :: u 217 :: u 218 :: u 219 :: u 220 :: u 221 :: u 222 :: u 223 :: u 224 :: u 225 :: u 226 :: u 227 :: u 228 :: u 229 :: []).toArray, []⟩)
      (fun a wx => ∃ (k : Nat) (v9 v10 : Value), k ≤ xs.length ∧ a.tmps.getD 38 undef = .int .i64 (k : Int) ∧ a.tmps.getD 9 undef = v9 ∧ a.tmps.getD 10 undef = v10 ∧ L1 wN.heap.size wN v9 v10 (Y.take k) wx ∧ (∀ y ∈ Y.take k, badMt y = false)) (fun a => xs.length - (intOf (a.tmps.getD 38 undef)).toNat) (by kernel_rfl) ?atStart ?round
    case atStart => exact ⟨0, _, _, Nat.zero_le _, rfl, rfl, rfl, L1.zero wN, by simp⟩
    case round =>
      intro u wr hrel
      obtain ⟨k, v9, v10, hk, h38, h9, h10, hL, hgd⟩ := hrel
      have h38' : u 38 = .int .i64 (k : Int) := h38
      have h9' : u 9 = v9 := h9
      have h10' : u 10 = v10 := h10
      rw [h38', h9', h10']
      clear h38 h9 h10 h38' h9' h10'
      have L := Lib.hid hL
      have GD := Lib.hid hgd
      clear hL hgd
      have hbw := L.out.b
      have HBW := Lib.hid (B3.out.trans (hbw.mono (by have := B3.out.size; omega)))
      have hwr := hbw.size
      clear hbw
      by_cases hlt : k < xs.length
      · have hltI : (k : Int) < (xs.length : Int) := by omega
        have h0I : (0 : Int) ≤ (k : Int) := by omega
        obtain ⟨x, hx⟩ : ∃ x, xs[k]'hlt = x := ⟨_, rfl⟩
        obtain ⟨bx, ox, cap', cs, e0, _, hrx, hmx⟩ := HX.out.at k hlt
        rw [hx] at hmx
        obtain ⟨c1, c2, rfl, ⟨hv1, rfl⟩, vo, rfl, hso⟩ := hmx
        cases e0
        obtain ⟨css, hca, hcall⟩ := id hso
        obtain ⟨oa, oc, rfl, _⟩ := hso.form
        have HXE := Lib.hid hx
        have hxv : x.1 < 18446744073709551616 := hv1
        have HSO := Lib.hid (show Sl 33 RMo (fun b => b < w.heap.size) w (.slice oa x.2.length oc) x.2 from hso.mono rep_Mo (fun b h _ => h))
        have HRX := Lib.hid (show wr.rangeAt bx (ox + k * 2) [Value.int .u64 (x.1 : Int), .slice oa x.2.length oc] from rangeAt_fr hrx (Fr.ofBelow HBW.out) (by have := rangeAt_lt hrx (by simp); show ¬ w.heap.size ≤ bx; omega))
        have HSX : Hid (∀ v : Value, (Tryz.prog.info? 56).map (·.size) = some [Value.int .u64 (x.1 : Int), v].length) := Lib.hid (fun _ => by kernel_rfl)
        have HOKT := Lib.hid (okT_of (D := Any) (w := w) (cs := [Value.int .u64 (x.1 : Int)] ++ [.slice oa x.2.length oc]) ⟨_, _, rfl, ⟨hv1, rfl⟩, _, rfl, hso⟩)
        have HCA0 := Lib.hid (show Arr 33 (fun b => b < w.heap.size) w (.slice oa x.2.length oc) css from hca.mono (by omega) (fun b h _ => h))
        have HCALL := Lib.hid hcall
        have HCSL := Lib.hid hcall.length
        have HC33 := Lib.hid (show ∀ c ∈ css, ∀ v ∈ c, v.oneCell' = true from fun c hc => by obtain ⟨_, _, h⟩ := hcall.left hc; exact rep_Mo.one h)
        have HC34 := Lib.hid (show ∀ c ∈ [Value.int .u64 (q.va : Int) :: (claimD q.sc).map byt], ∀ v ∈ c, v.oneCell' = true from fun c hc v hv => by
          rw [List.mem_singleton.1 hc] at hv
          rcases List.mem_cons.1 hv with rfl | hv
          · rfl
          · obtain ⟨_, _, rfl⟩ := List.mem_map.1 hv; rfl)
        have HCLL := Lib.hid (show (Value.int .u64 (q.va : Int) :: (claimD q.sc).map byt).length = 33 from by simp [claimD_length])
        have HLX := Lib.hid (show x.2.length ≤ 1073741824 from by rw [← hx]; exact HL.out _ (List.getElem_mem hlt))
        have HYK := Lib.hid (show Y[k]? = some (modI q k x) from by rw [← HY.out, ys_get hlt, hx])
        obtain ⟨y, hy⟩ : ∃ y, modI q k x = y := ⟨_, rfl⟩
        have HYE := Lib.hid hy
        rw [hy] at HYK
        have HONE := Lib.hid (show ∀ v ∈ [Value.int .u64 (x.1 : Int), .slice oa x.2.length oc], v.oneCell' = true from fun v hv => by
          rcases List.mem_cons.1 hv with rfl | hv
          · rfl
          · rw [List.mem_singleton.1 hv]; rfl)
        clear hx hrx hv1 hso hy hca hcall
        go_upto_region 10 with (first
          | (with_reducible refine wpList_load_mid rfl _ _ rfl bx (ox + k * 2) rfl [Value.int .u64 (x.1 : Int), .slice oa x.2.length oc] _ HRX.out Tryz.underlying56 rfl (HSX.out _) ?_)
          | ((with_reducible refine wpList_alloc rfl _ rfl _ (zeroMt _) (fun wa ka ca za => ?_)); have KA := Lib.hid ka; have CA := Lib.hid ca; clear ka ca)
          | ((with_reducible refine wpList_put rfl _ _ _ rfl wr.heap.size [Value.int .u64 (x.1 : Int), .slice oa x.2.length oc] _ rfl rfl KA.out (HSX.out _) rfl HONE.out (fun wb kb fb zb => ?_)); have KB := Lib.hid kb; have CB := Lib.hid (show Below wr.heap.size wr wb from CA.out.trans (fb.below CA.out.size (fun k hk => by have hk : k = wr.heap.size := hk; omega))); clear kb fb))
        have hzb : wr.heap.size < wb.heap.size := by omega
        clear KA CA za zb HRX
        have HK5 := Lib.hid (show Blk wb g5 (whC q) 50 from by rw [HQC.out]; exact (K3.out.below L.out.b).below CB.out)
        have HBB := Lib.hid (HBW.out.trans (CB.out.mono HBW.out.size))
        have HCA := Lib.hid (HCA0.out.below (by omega) HBB.out)
        have HQB := Lib.hid (show Byt Any wb q.vs q.sc from (HQ.out.mono (fun _ _ _ => trivial)).below HBB.out)
        have HRB := Lib.hid (HR.out.below HBB.out)
        have c0 := HK5.out.cell (i := 0) rfl
        have hg5r : ¬ g5 = wr.heap.size := by have := K3.out.lt; omega
        have hlx := HLX.out
        go_upto_if 48 with fail
        go_cut [11, 48] from 49 to 60 (fun i _ wx => i = .int .i64 (k : Int) ∧ ∃ vo', Blk wx wr.heap.size [Value.int .u64 (x.1 : Int), vo'] 56 ∧ Sl 33 RMo Any wx vo' y.2 ∧ Below wr.heap.size wr wx)
        case first =>
          by_cases he : (k : Int) = q.pl
          · have hb : ((k : Int) == q.pl) = true := by simp [he]
            have HYX := Lib.hid (show y = (x.1, x.2 ++ [(q.va, claimD q.sc)]) from by rw [← HYE.out]; unfold modI; rw [if_pos he])
            rw [hb]
            clear c0 he
            go_upto_region 11 with fail
            have HKB1 := Lib.hid (show wb.drew.cell? ⟨wr.heap.size, 1, none⟩ = some (.slice oa x.2.length oc) from KB.out.cell (i := 1) rfl)
            refine wp_region_held_drew (S := (fun w' => Fr (fun k => k = wr.heap.size) wb w')) (by kernel_rfl) (Fr.refl _ _).drew (fun hHeld => ?_)
            refine wpAnyH_take (i := 0) (oi := ⟨_, _, _, _, _, _⟩) (v := ?_) rfl (by kernel_rfl) (by kernel_rfl) (by kernel_rfl) (fun _ _ _ h => h) (Or.inl ⟨by rfl, ?_⟩) (by assumption) ?_
            rotate_left
            · intro w hSw; go_simp; try (with_reducible rfl)
            try simp only [Act.put, List.setIfInBounds_toArray, List.set_cons_zero, List.set_cons_succ]
            refine wpAnyH_take (i := 3) (oi := ⟨_, _, _, _, _, _⟩) (v := ?_) rfl (by kernel_rfl) (by kernel_rfl) (by kernel_rfl) (fun _ _ _ h => h) (Or.inl ⟨by rfl, ?_⟩) (by assumption) ?_
            rotate_left
            · intro w hSw; go_simp; try (with_reducible rfl)
            try simp only [Act.put, List.setIfInBounds_toArray, List.set_cons_zero, List.set_cons_succ]
            refine wpAnyH_take (i := 5) (oi := ⟨_, _, _, _, _, _⟩) (v := ?_) rfl (by kernel_rfl) (by kernel_rfl) (by kernel_rfl) (fun _ _ _ h => h) (Or.inl ⟨by rfl, ?_⟩) (by assumption) ?_
            rotate_left
            · intro w hSw; go_simp; try (with_reducible rfl)
            try simp only [Act.put, List.setIfInBounds_toArray, List.set_cons_zero, List.set_cons_succ]
            refine wpAnyH_take (i := 4) (oi := ⟨_, _, _, _, _, _⟩) (v := .int .u64 (q.va : Int)) rfl (by kernel_rfl) (by kernel_rfl) (by kernel_rfl) (fun _ _ _ h => h) (Or.inl ⟨by rfl, fun w hSw => (by have c := (HK5.out.fr hSw (fun e => hg5r (show g5 = wr.heap.size from e))).cell (i := 2) rfl; go_simp; try (with_reducible rfl))⟩) (by assumption) ?_
            try simp only [Act.put, List.setIfInBounds_toArray, List.set_cons_zero, List.set_cons_succ]
            refine wpAnyH_take (i := 6) (oi := ⟨_, _, _, _, _, _⟩) (v := q.vs) rfl (by kernel_rfl) (by kernel_rfl) (by kernel_rfl) (fun _ _ _ h => h) (Or.inl ⟨by rfl, fun w hSw => (by have c := (HK5.out.fr hSw (fun e => hg5r (show g5 = wr.heap.size from e))).cell (i := 4) rfl; go_simp; try (with_reducible rfl))⟩) (by assumption) ?_
            try simp only [Act.put, List.setIfInBounds_toArray, List.set_cons_zero, List.set_cons_succ]
            refine wpAnyH_ready (rs := [1]) (by kernel_rfl) (by simp) ?_
            refine AllReadyH.cons (o := ⟨_, _, _, _, _, _⟩) rfl (fun K hK => ?_) AllReadyH.nil
            have c1 := HKB1.out
            go_simp
            refine hK.out _ _ (by exact (Fr.refl _ _).drew) (fun hHeld => ?_)
            clear c1
            try simp only [Act.put, List.setIfInBounds_toArray, List.set_cons_zero, List.set_cons_succ]
            clear hK
            refine wpAnyH_ready (rs := [2]) (by kernel_rfl) (by simp) ?_
            refine AllReadyH.cons (o := ⟨_, _, _, _, _, _⟩) rfl (fun K hK => ?_) AllReadyH.nil
            rw [if_pos (by rfl)]
            refine wp_append_arr _ _ 54 rfl wb.heap.size 58 RmT.elemT (.slice none 0 0) [] rfl (OwnA.nil _ _ _ _) (.slice oa x.2.length oc) css rfl HCA.out.drew HC33.out (by rw [HCSL.out]; simp [maxLen]; omega) (by rw [HCSL.out]; simp; omega) (Nat.le_refl _) x.2.length (by simp [HCSL.out]) (fun a1 m1 wp o1 o2 o3 => ?_)
            have BP := Lib.hid (show Below wb.heap.size wb wp from (below_drew (Below.refl wb.heap.size wb)).trans ((Fr.ofGrown o2).below (Nat.le_refl _) (fun k hk => by cases hk)))
            have OP := Lib.hid (show OwnA 33 wb.heap.size 58 wp (.slice a1 x.2.length m1) css from o1)
            clear o1 o2 o3
            refine hK.out _ _ (by exact (Fr.ofBelowAll BP.out (Nat.le_refl _))) (fun hHeld => ?_)
            try simp only [Act.put, List.setIfInBounds_toArray, List.set_cons_zero, List.set_cons_succ]
            clear hK
            refine wpAnyH_ready (rs := [7]) (by kernel_rfl) (by simp) ?_
            refine AllReadyH.cons (o := ⟨_, _, _, _, _, _⟩) rfl (fun K hK => ?_) AllReadyH.nil
            go_simp
            refine (ref_claim_calls _ q.vs q.sc (HQB.out.below BP.out) hql (HRB.out.below BP.out)).mono ?_
            rintro e wq ⟨rfl, gq⟩
            have BQ := Lib.hid (BP.out.trans (gq.mono BP.out.size))
            have OQ := Lib.hid (OP.out.below gq)
            clear gq OP BP
            refine hK.out _ _ (by exact (Fr.ofBelowAll BQ.out (Nat.le_refl _))) (fun hHeld => ?_)
            try simp only [Act.put, List.setIfInBounds_toArray, List.set_cons_zero, List.set_cons_succ]
            clear hK
            refine wpAnyH_take (i := 8) (oi := ⟨_, _, _, _, _, _⟩) rfl (by kernel_rfl) (by kernel_rfl) (by kernel_rfl) (fun _ _ _ h => h) (yieldsIf_build (by rfl) structMo [(0, _), (1, _)] rfl [.int .u64 (q.va : Int), .agg ((claimD q.sc).map byt).toArray] rfl (by simp [Value.cells, claimD_length]) (Value.int .u64 (q.va : Int) :: (claimD q.sc).map byt).toArray (by simp [Value.cells])) (by assumption) ?_
            try simp only [Act.put, List.setIfInBounds_toArray, List.set_cons_zero, List.set_cons_succ]
            refine wpAnyH_ready (rs := [9]) (by kernel_rfl) (by simp) ?_
            refine AllReadyH.cons (o := ⟨_, _, _, _, _, _⟩) rfl (fun K hK => ?_) AllReadyH.nil
            rw [if_pos (by rfl)]
            refine wp_build1 RmT.elemT _ rfl (Value.int .u64 (q.va : Int) :: (claimD q.sc).map byt) rfl HCLL.out (by omega) (fun ws ks bs zs => ?_)
            have KS := Lib.hid ks
            have BS := Lib.hid (BQ.out.trans (bs.mono BQ.out.size))
            have OS := Lib.hid (OQ.out.below bs)
            clear ks bs OQ BQ
            refine hK.out _ _ (by exact (Fr.ofBelowAll BS.out (Nat.le_refl _))) (fun hHeld => ?_)
            try simp only [Act.put, List.setIfInBounds_toArray, List.set_cons_zero, List.set_cons_succ]
            clear hK
            refine wpAnyH_ready (rs := [10]) (by kernel_rfl) (by simp) ?_
            refine AllReadyH.cons (o := ⟨_, _, _, _, _, _⟩) rfl (fun K hK => ?_) AllReadyH.nil
            rw [if_pos (by rfl)]
            refine wp_append_arr _ _ 54 rfl wb.heap.size 58 RmT.elemT (.slice a1 x.2.length m1) css rfl OS.out (.slice (some ⟨_, 0, none⟩) 1 1) [Value.int .u64 (q.va : Int) :: (claimD q.sc).map byt] rfl (WtIt.arr1 KS.out HCLL.out) HC34.out (by rw [HCSL.out]; simp [maxLen]; omega) (by rw [HCSL.out]; simp; omega) (by have := BS.out.size; omega) (x.2.length + 1) (by simp [HCSL.out]) (fun a2 m2 wt p1 p2 p3 => ?_)
            have hlow : ∀ k, (Value.slice a1 x.2.length m1).ownBlock = some k → wb.heap.size ≤ k := fun k hk => (OS.out.lt k hk).1
            have BT := Lib.hid (BS.out.trans ((Fr.ofGrown p2).below BS.out.size hlow))
            have PT := Lib.hid p1
            clear p1 p2 p3 hlow KS BS OS
            refine hK.out _ _ (by exact (Fr.ofBelowAll BT.out (Nat.le_refl _))) (fun hHeld => ?_)
            try simp only [Act.put, List.setIfInBounds_toArray, List.set_cons_zero, List.set_cons_succ]
            clear hK
            refine wpAnyH_take (i := 11) (oi := ⟨_, _, _, _, _, _⟩) (v := ?_) rfl (by kernel_rfl) (by kernel_rfl) (by kernel_rfl) (fun _ _ _ h => h) (Or.inl ⟨by rfl, ?_⟩) (by assumption) ?_
            rotate_left
            · intro w hSw; go_simp; try (with_reducible rfl)
            try simp only [Act.put, List.setIfInBounds_toArray, List.set_cons_zero, List.set_cons_succ]
            refine wpAnyH_ready (rs := [12]) (by kernel_rfl) (by simp) ?_
            refine AllReadyH.cons (o := ⟨_, _, _, _, _, _⟩) rfl (fun K hK => ?_) AllReadyH.nil
            rw [if_pos (by rfl)]
            have KT := Lib.hid (KB.out.below BT.out)
            refine wp_setc _ _ _ rfl wr.heap.size 1 rfl _ rfl rfl KT.out (by simp) (by kernel_rfl) (fun wu ku fu zu => ?_)
            have KU := Lib.hid ku
            have BU := Lib.hid (show Below wr.heap.size wr wu from (CB.out.trans (BT.out.mono CB.out.size)).trans (fu.below (by have := CB.out.size; have := BT.out.size; omega) (fun k hk => by have hk : k = wr.heap.size := hk; omega)))
            have PU := Lib.hid (PT.out.fr fu (fun k hk e => by have := (PT.out.lt k hk).1; have e : k = wr.heap.size := e; omega))
            have HALL := Lib.hid (show All2 (RMo Any wu) (css ++ [Value.int .u64 (q.va : Int) :: (claimD q.sc).map byt]) (x.2 ++ [(q.va, claimD q.sc)]) from (HCALL.out.imp (fun _ _ h => h)).snoc ⟨[Value.int .u64 (q.va : Int)], _, rfl, ⟨hva, rfl⟩, claimD_length _, rfl⟩)
            refine hK.out _ _ (by exact (Fr.ofBelowAll BT.out (Nat.le_refl _) : Fr (fun k => k = wr.heap.size) wb wt).trans fu) (fun hHeld => ?_)
            clear ku fu zu KT PT BT
            try simp only [Act.put, List.setIfInBounds_toArray, List.set_cons_zero, List.set_cons_succ]
            clear hK
            refine wpAnyH_done (by kernel_rfl) ?_ _
            go_wp2
            go_meet
            case rel => exact ⟨rfl, _, KU.out, by rw [HYX.out]; exact ⟨_, (PU.out.arr.mono (by omega) (fun _ _ _ => trivial)), HALL.out⟩, BU.out⟩
          · have hb : ((k : Int) == q.pl) = false := by simp [he]
            have HYX := Lib.hid (show y = x from by rw [← HYE.out]; unfold modI; rw [if_neg he])
            rw [hb]
            clear c0
            go_wp2
            go_meet
            case rel => exact ⟨rfl, _, KB.out, by rw [HYX.out]; exact (HSO.out.mono rep_Mo (fun _ _ _ => trivial)).below rep_Mo HBB.out, CB.out⟩
        case rest =>
          rename World => wc
          obtain ⟨rfl, vo', kc, sc', bc⟩ := hcut
          have hy1 : y.1 = x.1 := by rw [← HYE.out]; unfold modI; split <;> rfl
          have hy2 : y.2.length ≤ 1073741825 := by
            rw [← HYE.out]
            unfold modI
            split
            · simp; omega
            · omega
          have HOKY := Lib.hid (show OkT y from by rw [← HYE.out]; exact okT_mod hva HOKT.out)
          have HFI := Lib.hid (show (encMt y).length + 9 ≤ 140737488355328 from by have := fits_of HOKY.out hy2; omega)
          have HRMT := Lib.hid (show RMt Any wc [Value.int .u64 (x.1 : Int), vo'] y from ⟨[_], [_], rfl, ⟨HOKY.out.1, by rw [hy1]⟩, _, rfl, sc'⟩)
          have KC := Lib.hid kc
          have BC := Lib.hid bc
          have hvone : (Tryz.prog.info? 56).map (·.size) = some [Value.int .u64 (x.1 : Int), vo'].length := by kernel_rfl
          have HSZ := Lib.hid hvone
          clear kc bc sc' hvone c0 hy1 hy2 HYE HCA HCALL HCSL HC33 HC34 HCLL HQB HRB KB CB HK5
          go_wp2_with (first
            | (with_reducible refine wpList_load_blk rfl _ _ rfl wr.heap.size [Value.int .u64 (x.1 : Int), vo'] rfl KC.out _ Tryz.underlying56 rfl HSZ.out ?_))
          refine (rMainTx_new wc [Value.int .u64 (x.1 : Int), vo'] y HRMT.out HFI.out).mono ?_
          rintro e we ⟨⟨ra, rc, rfl, hB⟩, ge⟩
          obtain ⟨bd, hbd⟩ : ∃ bd, badMt y = bd := ⟨_, rfl⟩
          obtain ⟨en, hen⟩ : ∃ en, encMt y = en := ⟨_, rfl⟩
          rw [hbd, hen] at hB ⊢
          have HBD := Lib.hid hbd
          have HEN := Lib.hid hen
          have BE := Lib.hid (BC.out.trans (ge.mono BC.out.size))
          have HByt := Lib.hid hB
          have hsc := BC.out.size
          clear hbd hen hB ge KC BC HRMT
          rcases bd with _ | _
          · dsimp only [told, toldE] at HByt ⊢
            by_cases hlen : en.length ≤ 1024
            · have hlenI : ¬ (1024 : Int) < (en.length : Int) := by omega
              obtain ⟨css2, o10, hall⟩ := L.out.r
              have hcl : css2.length = k := by rw [hall.length]; simp [HYL.out]; omega
              have O10 := Lib.hid o10
              have HALL := Lib.hid hall
              have HCL := Lib.hid hcl
              have hb10 := o10.lt
              have hb9 := L.out.o9.lt
              have H10 := Lib.hid hb10
              have H9 := Lib.hid hb9
              clear o10 hall hb10 hb9
              go_upto_region 16 with (first
                | ((with_reducible refine wpList_build1c rfl elemR _ rfl (.slice ra en.length rc) rfl rfl (fun wf kf bf zf => ?_)); have KF := Lib.hid kf; have BF := Lib.hid (BE.out.trans (bf.mono BE.out.size)); have HBF := Lib.hid ((show Byt (fun k => wr.heap.size ≤ k) _ (.slice ra en.length rc) en from HByt.out.mono (fun k _ h => Nat.le_trans hsc h)).below bf); have OF := Lib.hid ((O10.out.below BE.out).below bf); clear kf bf)
                | (at_builtin; refine wpList_append_arr _ rfl (.tmp 73) (.tmp 75) 53 rfl wN.heap.size 25 elemR v10 css2 rfl OF.out _ [[.slice ra en.length rc]] rfl (WtIt.arr1 KF.out rfl) (fun x hx u hu => by rw [List.mem_singleton.1 hx] at hu; rw [List.mem_singleton.1 hu]; rfl) (by rw [HCL.out]; simp [maxLen]; omega) (by rw [HCL.out]; simp; omega) (by have := BF.out.size; omega) (k + 1) (by rw [HCL.out]; rfl) (fun a10 c10 wg q1 q2 q3 => ?_)))
              have hG := L.out.raw (y := y) hwr HALL.out BF.out (by rw [HEN.out]; exact HBF.out) q1 (Fr.ofGrown q2) H10.out H9.out (q3.imp_right fun h => ⟨_, h, Nat.le_refl _⟩)
              have OG := Lib.hid q1
              obtain ⟨bg, o9g, hallg, neg⟩ := hG
              have BG := Lib.hid bg
              have OG9 := Lib.hid o9g
              have HALLG := Lib.hid hallg
              have NEG := Lib.hid neg
              have BWG := Lib.hid (B3.out.trans (bg.mono B3.out.size))
              have HBG := Lib.hid (show Byt Any wg (.slice ra en.length rc) en from (HBF.out.fr (Fr.ofGrown q2) (fun j _ hj e => by have := (H10.out j e).2; omega)).any)
              have HRG := Lib.hid (HR.out.below BWG.out)
              have hgN : wN.heap.size ≤ wg.heap.size := bg.size
              have HKD := Lib.hid (show (dcs ((Y.take k).map leafY)).length = k from by simp [HYL.out]; omega)
              have HLD := Lib.hid (show ((leafD en).map byt).length = 32 from by simp [leafD_length])
              have HONE2 := Lib.hid (show ∀ c ∈ [(leafD en).map byt], ∀ v ∈ c, v.oneCell' = true from fun c hc v hv => by
                rw [List.mem_singleton.1 hc] at hv
                obtain ⟨_, _, rfl⟩ := List.mem_map.1 hv
                rfl)
              clear q1 q2 q3 bg o9g hallg neg KF BF HBF OF O10 HALL H10 HByt
              go_wp2_with fail
              refine (MkW.ref_leaf_calls _ (.slice ra en.length rc) en HBG.out (by omega) HRG.out).mono ?_
              rintro e wh ⟨rfl, gh⟩
              have GH := Lib.hid gh
              clear gh
              go_wp2_with (first
                | ((with_reducible refine wpList_build1 rfl MkW.elemD _ rfl ((leafD en).map byt) rfl HLD.out (by omega) (fun wi ki bi zi => ?_)); have KI := Lib.hid ki; have BI := Lib.hid (GH.out.trans (bi.mono GH.out.size)); have O9I := Lib.hid (OG9.out.below BI.out); clear ki bi)
                | (at_builtin; refine wpList_append_arr _ rfl (.tmp 77) (.tmp 80) 27 rfl wN.heap.size 24 MkW.elemD v9 (dcs ((Y.take k).map leafY)) rfl O9I.out _ [(leafD en).map byt] rfl (WtIt.arr1 KI.out HLD.out) HONE2.out (by rw [HKD.out]; simp [maxLen]; omega) (by rw [HKD.out]; simp; omega) (by have := BI.out.size; omega) (k + 1) (by rw [HKD.out]; rfl) (fun a9 c9 wj p1 p2 p3 => ?_); have P1 := Lib.hid p1; have P2 := Lib.hid p2; have P3 := Lib.hid p3; clear p1 p2 p3))
              have hYk : Y.take (k + 1) = Y.take k ++ [y] := by rw [List.take_add_one, HYK.out]; rfl
              refine ⟨⟨⟨k + 1, _, _, by omega, ?_, rfl, rfl, ?_, ?_⟩, ?_⟩, ?_⟩
              · show Value.int .i64 _ = Value.int .i64 _
                congr 1
              · rw [hYk]
                exact L1.leaf BG.out hgN OG9.out OG.out HALLG.out NEG.out BI.out (by show OwnA 32 _ _ wj _ (_ ++ [(leafD (encMt y)).map byt]); rw [HEN.out]; exact P1.out) (Fr.ofGrown P2.out) (P3.out.imp_right fun h => ⟨_, h, Nat.le_refl _⟩)
              · rw [hYk]
                intro z hz
                rcases List.mem_append.1 hz with hz | hz
                · exact GD.out z hz
                · rw [List.mem_singleton.1 hz]; exact HBD.out
              · show xs.length - (intOf (Value.int .i64 _)).toNat < xs.length - (intOf (Value.int .i64 _)).toNat
                simp only [intOf]
                omega
              · kernel_rfl
            · have hlenI : (1024 : Int) < (en.length : Int) := by omega
              go_wp2
              go_ret
              exact ⟨rfl, HBW.out.trans (BE.out.mono HBW.out.size)⟩
          · dsimp only [told, toldE] at HByt ⊢
            go_wp2
            go_ret
            exact ⟨rfl, HBW.out.trans (BE.out.mono HBW.out.size)⟩
      · obtain rfl : k = xs.length := by omega
        have hnI : ¬ (xs.length : Int) < (xs.length : Int) := by omega
        have hYt : Y.take xs.length = Y := List.take_of_length_le (by rw [HYL.out]; exact Nat.le_refl _)
        have hl1 := L.out
        have hgd1 := GD.out
        rw [hYt] at hl1 hgd1
        have GDY := Lib.hid hgd1
        have htl := X3.out.lt
        have hg5l := K3.out.lt
        have PBW := Lib.hid (show PB w t b w.heap.size g5 f q v9 v10 Y wr from by
          obtain ⟨css, o1, o2⟩ := hl1.r
          refine ⟨by rw [HFC.out]; exact F3.out.below hl1.b, by rw [HQC.out]; exact K3.out.below hl1.b, hl1.o9.arr.mono (by omega) (fun k _ h => ⟨by have := h.2; omega, by have := h.2; omega⟩), ⟨css, o1.arr.mono (by omega) (fun k _ h => ⟨by have := h.2; omega, by have := h.2; omega⟩), o2.imp (fun _ _ h => rep_by.mono h (fun k _ h => ⟨by have := h.1; omega, by have := h.1; omega⟩))⟩,
            (HQ.out.mono (fun k _ h => ⟨by omega, by omega⟩)).below HBW.out, HP.out.below HBW.out, HR.out.below HBW.out, HBW.out⟩)
        have XW := Lib.hid (X3.out.below hl1.b)
        have ht' : w.heap.size ≤ t := by omega
        have hb' : w.heap.size ≤ b := by omega
        have hte : w.heap.size ≠ t ∧ w.heap.size ≠ b := ⟨by omega, by omega⟩
        have h5e : g5 ≠ t ∧ g5 ≠ b := ⟨by omega, by omega⟩
        have htr : t < wr.heap.size ∧ b < wr.heap.size := XW.out.lt
        have hwwr : w.heap.size ≤ wr.heap.size := HBW.out.size
        clear hl1 hgd1 hYt L GD hlt hk F3 K3 X3 B3 HX HL HQ HBW hg5l htl
        have c0 := PBW.out.c0
        have c1 := PBW.out.c1
        have ch := PBW.out.ch OKF.out
        by_cases hA : q.pl < 0
        · have hA1 : decide (q.pl < 0) = true := decide_eq_true hA
          go_wp2
          go_ret
          exact ⟨rfl, PBW.out.bl⟩
        obtain ⟨p, hp⟩ := Int.eq_ofNat_of_zero_le (show 0 ≤ q.pl by omega)
        rw [hp] at c0
        clear hA
        have hA0 : ¬ ((p : Nat) : Int) < 0 := by omega
        by_cases hB : xs.length ≤ p
        · have hB1 : (xs.length : Int) ≤ (p : Int) := by omega
          go_wp2
          go_ret
          exact ⟨rfl, PBW.out.bl⟩
        have hB1 : ¬ (xs.length : Int) ≤ (p : Int) := by omega
        by_cases hC : 4611686018427387904 < f.height
        · have hC1 : (4611686018427387904 : Int) < (f.height : Int) := by omega
          go_wp2
          go_ret
          exact ⟨rfl, PBW.out.bl⟩
        have hC1 : ¬ (4611686018427387904 : Int) < (f.height : Int) := by omega
        by_cases hD : q.ab < 0
        · go_wp2
          go_ret
          exact ⟨rfl, PBW.out.bl⟩
        obtain ⟨A, hAb⟩ := Int.eq_ofNat_of_zero_le (show 0 ≤ q.ab by omega)
        rw [hAb] at c1
        clear hD
        have hD1 : ¬ ((A : Nat) : Int) < 0 := by omega
        by_cases hE : 20 < A
        · have hE1 : (20 : Int) < (A : Int) := by omega
          go_wp2
          go_ret
          exact ⟨rfl, PBW.out.bl⟩
        have hE1 : ¬ (20 : Int) < (A : Int) := by omega
        go_upto_region 20 with fail
        clear c0 c1 ch
        obtain ⟨rt, hrt⟩ : ∃ rt, root (Y.map leafY) = rt := ⟨_, rfl⟩
        have HRT := Lib.hid hrt
        have HLD := Lib.hid (show ∀ d ∈ Y.map leafY, d.length = 32 from fun d hd => by obtain ⟨y, _, rfl⟩ := List.mem_map.1 hd; exact leafD_length _)
        have HYN := Lib.hid (show (Y.map leafY).length ≤ 4398046511104 from by rw [List.length_map, HYL.out]; omega)
        have HRTL := Lib.hid (show rt.length = 32 from by rw [← hrt]; exact root_length _ _ rfl HLD.out)
        obtain ⟨n0, hn0⟩ : ∃ n, f.height + 1 = n := ⟨_, rfl⟩
        have HWR := Lib.hid (show IntKind.u64.wrap ((f.height : Int) + 1) = (n0 : Int) from by rw [← hn0, IntKind.wrap_u64]; omega)
        obtain ⟨hd1, hh1⟩ : ∃ h, h1 f rt = h := ⟨_, rfl⟩
        have HH1 := Lib.hid hh1
        have OKH := Lib.hid (show hd1.Ok from by rw [← hh1]; exact ⟨mainId_length _, HRTL.out, by show f.height + 1 < _; omega, by show 0 < _; omega⟩)
        obtain ⟨m0, hm0⟩ : ∃ m, mainId f = m := ⟨_, rfl⟩
        have HM0 := Lib.hid hm0
        have HBT := Lib.hid (show Tryz.prog.built 41 [(0, dv m0), (2, .int .u64 (n0 : Int)), (1, dv rt)] = some hd1.cells.toArray from by rw [← hh1, ← hn0, ← hm0]; exact built_h1 (mainId f) rt (mainId_length f) HRTL.out (f.height + 1))
        clear hrt hn0 hh1 hm0
        go_cut [15] from 108 to 115 (fun x wx => ∃ g, x = .pointer (some ⟨g, 0, none⟩) ∧ wr.heap.size ≤ g ∧ Blk wx g hd1.cells 41 ∧ Below wr.heap.size wr wx)
        case first =>
          refine wp_region_held_drew (S := (fun w' => Below wr.heap.size wr w')) (by kernel_rfl) (below_drew (Below.refl _ _)) (fun hHeld => ?_)
          refine wpAnyH_take (i := 0) (oi := ⟨_, _, _, _, _, _⟩) rfl (by kernel_rfl) (by kernel_rfl) (by kernel_rfl) (fun _ _ _ h => h) (yieldsIf_load_mid (by rfl) _ _ rfl w.heap.size 0 rfl f.cells _ (fun _ h => blk_range (PBW.out.below h).k3) Tryz.underlying41 rfl (Wh.szH OKF.out)) (by assumption) ?_
          try simp only [Act.put, List.setIfInBounds_toArray, List.set_cons_zero, List.set_cons_succ]
          refine wpAnyH_take (i := 2) (oi := ⟨_, _, _, _, _, _⟩) (v := ?_) rfl (by kernel_rfl) (by kernel_rfl) (by kernel_rfl) (fun _ _ _ h => h) (Or.inl ⟨by rfl, ?_⟩) (by assumption) ?_
          rotate_left
          · intro w hSw; go_simp; try (with_reducible rfl)
          try simp only [Act.put, List.setIfInBounds_toArray, List.set_cons_zero, List.set_cons_succ]
          refine wpAnyH_take (i := 3) (oi := ⟨_, _, _, _, _, _⟩) (v := .int .u64 (f.height : Int)) rfl (by kernel_rfl) (by kernel_rfl) (by kernel_rfl) (fun _ _ _ h => h) (Or.inl ⟨by rfl, fun w hSw => (by have c := (PBW.out.below hSw).ch OKF.out; go_simp; try (with_reducible rfl))⟩) (by assumption) ?_
          try simp only [Act.put, List.setIfInBounds_toArray, List.set_cons_zero, List.set_cons_succ]
          refine wpAnyH_take (i := 4) (oi := ⟨_, _, _, _, _, _⟩) (v := ?_) rfl (by kernel_rfl) (by kernel_rfl) (by kernel_rfl) (fun _ _ _ h => h) (Or.inl ⟨by rfl, ?_⟩) (by assumption) ?_
          rotate_left
          · intro w hSw; go_simp; try (with_reducible rfl)
          try simp only [Act.put, List.setIfInBounds_toArray, List.set_cons_zero, List.set_cons_succ]
          rw [HWR.out]
          refine wpAnyH_take (i := 5) (oi := ⟨_, _, _, _, _, _⟩) (v := ?_) rfl (by kernel_rfl) (by kernel_rfl) (by kernel_rfl) (fun _ _ _ h => h) (Or.inl ⟨by rfl, ?_⟩) (by assumption) ?_
          rotate_left
          · intro w hSw; go_simp; try (with_reducible rfl)
          try simp only [Act.put, List.setIfInBounds_toArray, List.set_cons_zero, List.set_cons_succ]
          refine wpAnyH_ready (rs := [1, 8]) (by kernel_rfl) (by simp) ?_
          refine (AllReadyH.cons (o := ⟨_, _, _, _, _, _⟩) rfl (fun K hK => ?_) (AllReadyH.cons (o := ⟨_, _, _, _, _, _⟩) rfl (fun K hK => ?_) AllReadyH.nil))
          · go_simp
            refine (Wh.ref_mainId_calls _ f OKF.out (PBW.out.below hHeld).s).mono ?_
            rintro e wm ⟨rfl, gm⟩
            rw [HM0.out]
            refine hK.out _ _ (by exact hHeld.trans (gm.mono hHeld.size)) (fun hHeld => ?_)
            clear hK gm
            try simp only [Act.put, List.setIfInBounds_toArray, List.set_cons_zero, List.set_cons_succ]
            refine wpAnyH_ready (rs := [6, 8]) (by kernel_rfl) (by simp) ?_
            refine (AllReadyH.cons (o := ⟨_, _, _, _, _, _⟩) rfl (fun K hK => ?_) (AllReadyH.cons (o := ⟨_, _, _, _, _, _⟩) rfl (fun K hK => ?_) AllReadyH.nil))
            · go_simp
              refine (MkW.ref_root_calls _ _ v9 (Y.map leafY) rfl (PBW.out.below hHeld).l.any HLD.out (PBW.out.below hHeld).s HYN.out).mono ?_
              rintro e wo ⟨rfl, gm⟩
              rw [HRT.out]
              refine hK.out _ _ (by exact hHeld.trans (gm.mono hHeld.size)) (fun hHeld => ?_)
              clear hK gm
              try simp only [Act.put, List.setIfInBounds_toArray, List.set_cons_zero, List.set_cons_succ]
              refine wpAnyH_take (i := 7) (oi := ⟨_, _, _, _, _, _⟩) (v := .agg hd1.cells.toArray) rfl (by kernel_rfl) (by kernel_rfl) (by kernel_rfl) (fun _ _ _ h => h) (Or.inl ⟨by rfl, fun w _ => exec_built3 rfl rfl rfl rfl HBT.out⟩) (by assumption) ?_
              try simp only [Act.put, List.setIfInBounds_toArray, List.set_cons_zero, List.set_cons_succ]
              refine wpAnyH_ready (rs := [8]) (by kernel_rfl) (by simp) ?_
              refine (AllReadyH.cons (o := ⟨_, _, _, _, _, _⟩) rfl (fun K hK => ?_) AllReadyH.nil)
              · rw [if_pos (by rfl)]
                refine wp_alloc _ rfl _ (zero66 _) (fun wa ka ca za => ?_)
                have KZ := Lib.hid ka
                have hge : wr.heap.size ≤ wo.heap.size := hHeld.size
                refine hK.out _ _ (by exact hHeld.trans (ca.mono hHeld.size)) (fun hHeld => ?_)
                clear hK ca za ka
                try simp only [Act.put, List.setIfInBounds_toArray, List.set_cons_zero, List.set_cons_succ]
                generalize wo.heap.size = g15 at *
                refine wpAnyH_ready (rs := [9]) (by kernel_rfl) (by simp) ?_
                refine AllReadyH.cons (o := ⟨_, _, _, _, _, _⟩) rfl (fun K hK => ?_) AllReadyH.nil
                rw [if_pos (by rfl)]
                refine wp_put _ _ _ rfl g15 hd1.cells _ rfl rfl KZ.out (Wh.szH OKH.out) (by rw [zero66_len, OKH.out.len]) (Hd.one _) (fun wp kp cp zp => ?_)
                have KP := Lib.hid kp
                have BP := Lib.hid (hHeld.trans (cp.below hHeld.size (fun k hk => by have hk : k = g15 := hk; omega)))
                refine hK.out _ _ (by exact BP.out) (fun hHeld => ?_)
                clear hK kp cp zp KZ
                try simp only [Act.put, List.setIfInBounds_toArray, List.set_cons_zero, List.set_cons_succ]
                refine wpAnyH_done (by kernel_rfl) ?_ _
                go_wp2
                go_meet
                case rel => exact ⟨g15, rfl, hge, KP.out, BP.out⟩
            · rw [if_pos (by rfl)]
              refine wp_alloc _ rfl _ (zero66 _) (fun wa ka ca za => ?_)
              have KZ := Lib.hid ka
              have hge : wr.heap.size ≤ wm.heap.size := hHeld.size
              refine hK.out _ _ (by exact hHeld.trans (ca.mono hHeld.size)) (fun hHeld => ?_)
              clear hK ca za ka
              try simp only [Act.put, List.setIfInBounds_toArray, List.set_cons_zero, List.set_cons_succ]
              generalize wm.heap.size = g15 at *
              refine wpAnyH_ready (rs := [6]) (by kernel_rfl) (by simp) ?_
              refine (AllReadyH.cons (o := ⟨_, _, _, _, _, _⟩) rfl (fun K hK => ?_) AllReadyH.nil)
              · go_simp
                refine (MkW.ref_root_calls _ _ v9 (Y.map leafY) rfl (PBW.out.below hHeld).l.any HLD.out (PBW.out.below hHeld).s HYN.out).mono ?_
                rintro e wo ⟨rfl, gm⟩
                rw [HRT.out]
                have KZ := Lib.hid (KZ.out.below gm)
                refine hK.out _ _ (by exact hHeld.trans (gm.mono hHeld.size)) (fun hHeld => ?_)
                clear hK gm
                try simp only [Act.put, List.setIfInBounds_toArray, List.set_cons_zero, List.set_cons_succ]
                refine wpAnyH_take (i := 7) (oi := ⟨_, _, _, _, _, _⟩) (v := .agg hd1.cells.toArray) rfl (by kernel_rfl) (by kernel_rfl) (by kernel_rfl) (fun _ _ _ h => h) (Or.inl ⟨by rfl, fun w _ => exec_built3 rfl rfl rfl rfl HBT.out⟩) (by assumption) ?_
                try simp only [Act.put, List.setIfInBounds_toArray, List.set_cons_zero, List.set_cons_succ]
                refine wpAnyH_ready (rs := [9]) (by kernel_rfl) (by simp) ?_
                refine AllReadyH.cons (o := ⟨_, _, _, _, _, _⟩) rfl (fun K hK => ?_) AllReadyH.nil
                rw [if_pos (by rfl)]
                refine wp_put _ _ _ rfl g15 hd1.cells _ rfl rfl KZ.out (Wh.szH OKH.out) (by rw [zero66_len, OKH.out.len]) (Hd.one _) (fun wp kp cp zp => ?_)
                have KP := Lib.hid kp
                have BP := Lib.hid (hHeld.trans (cp.below hHeld.size (fun k hk => by have hk : k = g15 := hk; omega)))
                refine hK.out _ _ (by exact BP.out) (fun hHeld => ?_)
                clear hK kp cp zp KZ
                try simp only [Act.put, List.setIfInBounds_toArray, List.set_cons_zero, List.set_cons_succ]
                refine wpAnyH_done (by kernel_rfl) ?_ _
                go_wp2
                go_meet
                case rel => exact ⟨g15, rfl, hge, KP.out, BP.out⟩
          · rw [if_pos (by rfl)]
            refine wp_alloc _ rfl _ (zero66 _) (fun wa ka ca za => ?_)
            have KZ := Lib.hid ka
            have hge : wr.heap.size ≤ wr.drew.heap.size := hHeld.size
            refine hK.out _ _ (by exact hHeld.trans (ca.mono hHeld.size)) (fun hHeld => ?_)
            clear hK ca za ka
            try simp only [Act.put, List.setIfInBounds_toArray, List.set_cons_zero, List.set_cons_succ]
            generalize wr.drew.heap.size = g15 at *
            refine wpAnyH_ready (rs := [1]) (by kernel_rfl) (by simp) ?_
            refine (AllReadyH.cons (o := ⟨_, _, _, _, _, _⟩) rfl (fun K hK => ?_) AllReadyH.nil)
            · go_simp
              refine (Wh.ref_mainId_calls _ f OKF.out (PBW.out.below hHeld).s).mono ?_
              rintro e wm ⟨rfl, gm⟩
              rw [HM0.out]
              have KZ := Lib.hid (KZ.out.below gm)
              refine hK.out _ _ (by exact hHeld.trans (gm.mono hHeld.size)) (fun hHeld => ?_)
              clear hK gm
              try simp only [Act.put, List.setIfInBounds_toArray, List.set_cons_zero, List.set_cons_succ]
              refine wpAnyH_ready (rs := [6]) (by kernel_rfl) (by simp) ?_
              refine (AllReadyH.cons (o := ⟨_, _, _, _, _, _⟩) rfl (fun K hK => ?_) AllReadyH.nil)
              · go_simp
                refine (MkW.ref_root_calls _ _ v9 (Y.map leafY) rfl (PBW.out.below hHeld).l.any HLD.out (PBW.out.below hHeld).s HYN.out).mono ?_
                rintro e wo ⟨rfl, gm⟩
                rw [HRT.out]
                have KZ := Lib.hid (KZ.out.below gm)
                refine hK.out _ _ (by exact hHeld.trans (gm.mono hHeld.size)) (fun hHeld => ?_)
                clear hK gm
                try simp only [Act.put, List.setIfInBounds_toArray, List.set_cons_zero, List.set_cons_succ]
                refine wpAnyH_take (i := 7) (oi := ⟨_, _, _, _, _, _⟩) (v := .agg hd1.cells.toArray) rfl (by kernel_rfl) (by kernel_rfl) (by kernel_rfl) (fun _ _ _ h => h) (Or.inl ⟨by rfl, fun w _ => exec_built3 rfl rfl rfl rfl HBT.out⟩) (by assumption) ?_
                try simp only [Act.put, List.setIfInBounds_toArray, List.set_cons_zero, List.set_cons_succ]
                refine wpAnyH_ready (rs := [9]) (by kernel_rfl) (by simp) ?_
                refine AllReadyH.cons (o := ⟨_, _, _, _, _, _⟩) rfl (fun K hK => ?_) AllReadyH.nil
                rw [if_pos (by rfl)]
                refine wp_put _ _ _ rfl g15 hd1.cells _ rfl rfl KZ.out (Wh.szH OKH.out) (by rw [zero66_len, OKH.out.len]) (Hd.one _) (fun wp kp cp zp => ?_)
                have KP := Lib.hid kp
                have BP := Lib.hid (hHeld.trans (cp.below hHeld.size (fun k hk => by have hk : k = g15 := hk; omega)))
                refine hK.out _ _ (by exact BP.out) (fun hHeld => ?_)
                clear hK kp cp zp KZ
                try simp only [Act.put, List.setIfInBounds_toArray, List.set_cons_zero, List.set_cons_succ]
                refine wpAnyH_done (by kernel_rfl) ?_ _
                go_wp2
                go_meet
                case rel => exact ⟨g15, rfl, hge, KP.out, BP.out⟩
        case rest =>
          rename World => wc
          obtain ⟨g15, rfl, hge, kg, bg⟩ := hcut
          have PBC := Lib.hid (PBW.out.below bg)
          have XC := Lib.hid (XW.out.below bg)
          have KG := Lib.hid kg
          have BG := Lib.hid bg
          have HSH : Hid (∀ h : Hd, h.Ok → (Tryz.prog.info? 41).map (·.size) = some h.cells.length) := Lib.hid (fun h ok => Wh.szH ok)
          have HSF := Lib.hid (HSH.out f OKF.out)
          have HS1 := Lib.hid (HSH.out hd1 OKH.out)
          obtain ⟨m1, hm1⟩ : ∃ m, mainId hd1 = m := ⟨_, rfl⟩
          have HM1 := Lib.hid hm1
          have HML := Lib.hid (show m1.length = 32 from by rw [← hm1]; exact mainId_length _)
          have HSM := Lib.hid (show (Tryz.prog.info? 24).map (·.size) = some (m1.map byt).length from by rw [List.length_map, HML.out]; kernel_rfl)
          have HZM := Lib.hid (show (List.replicate 32 (Value.int .u8 0)).length = (m1.map byt).length from by simp [HML.out])
          have hbs := bg.size
          clear bg kg hm1 HBT
          go_wp2_with (first
            | (with_reducible refine wpList_load_blk rfl _ _ rfl g15 hd1.cells rfl KG.out _ Tryz.underlying41 rfl HS1.out ?_))
          refine (Wh.ref_mainId_calls wc hd1 OKH.out PBC.out.s).mono ?_
          rintro e wd ⟨rfl, gd⟩
          rw [HM1.out]
          have KG1 := Lib.hid (KG.out.below gd)
          have PBD := Lib.hid (PBC.out.below gd)
          have BD := Lib.hid (BG.out.trans (gd.mono hbs))
          have XD := Lib.hid (XC.out.below gd)
          have hds := gd.size
          clear gd KG BG PBC XC
          go_upto_region 22 with (first
            | ((with_reducible refine wpList_alloc rfl _ rfl _ (Wr.zeroD _) (fun we ke ce ze => ?_)); have KE := Lib.hid ke; have CE := Lib.hid ce; clear ke ce)
            | ((with_reducible refine wpList_put rfl _ _ _ rfl wd.heap.size (m1.map byt) _ rfl rfl KE.out HSM.out HZM.out (one_dig m1) (fun wf kf cf zf => ?_)); have KF := Lib.hid kf; have CF := Lib.hid (show Below wd.heap.size wd wf from CE.out.trans (cf.below CE.out.size (fun k hk => by have hk : k = wd.heap.size := hk; omega))); clear kf cf))
          have KG2 := Lib.hid (KG1.out.below CF.out)
          have hg15d := KG1.out.lt
          clear KE CE KG1 zf ze
          go_upto_region 23 with (first
            | (with_reducible refine wpList_load_blk rfl _ _ rfl wd.heap.size (m1.map byt) rfl KF.out _ Tryz.underlying24 rfl HSM.out ?_)
            | ((with_reducible refine wpList_alloc rfl _ rfl _ (Wr.zeroD _) (fun wg ke ce zg => ?_)); have KE := Lib.hid ke; have CE := Lib.hid ce; clear ke ce)
            | ((with_reducible refine wpList_put rfl _ _ _ rfl wf.heap.size (m1.map byt) _ rfl rfl KE.out HSM.out HZM.out (one_dig m1) (fun wh kh ch zh => ?_)); have KH := Lib.hid kh; have CH := Lib.hid (show Below wf.heap.size wf wh from CE.out.trans (ch.below CE.out.size (fun k hk => by have hk : k = wf.heap.size := hk; omega))); clear kh ch))
          have KG3 := Lib.hid (KG2.out.below CH.out)
          have KF3 := Lib.hid (KF.out.below CH.out)
          have PBH := Lib.hid ((PBD.out.below CF.out).below CH.out)
          have XH := Lib.hid ((XD.out.below CF.out).below CH.out)
          have BH := Lib.hid ((BD.out.trans (CF.out.mono BD.out.size)).trans (CH.out.mono (by have := BD.out.size; have := CF.out.size; omega)))
          have hfs := KF.out.lt
          have hgs := KH.out.lt
          clear KE CE KF KG2 PBD XD BD CF CH zh zg
          go_upto_region 24 with (first
            | (with_reducible refine wpList_load_blk rfl _ _ rfl w.heap.size f.cells rfl PBH.out.k3 _ Tryz.underlying41 rfl HSF.out ?_)
            | (with_reducible refine wpList_load_blk rfl _ _ rfl g15 hd1.cells rfl KG3.out _ Tryz.underlying41 rfl HS1.out ?_)
            | ((with_reducible refine wpList_build2n rfl elemH _ _ rfl f.cells hd1.cells rfl rfl OKF.out.len OKH.out.len (by omega) (fun wi ki ci zi => ?_)); have KI := Lib.hid ki; have CI := Lib.hid ci; clear ki ci))
          have R0 := Lib.hid (show R2 wr.heap.size wr g15 wd.heap.size wf.heap.size f hd1 m1 (.slice (some ⟨wh.heap.size, 0, none⟩) 2 2) 0 wi from by
            refine ⟨BH.out.trans (CI.out.mono BH.out.size), KG3.out.below CI.out, KF3.out.below CI.out, ?_, ?_, fun k hk => ?_⟩
            · have := KH.out.below CI.out
              rw [← HM1.out] at this
              exact this
            · exact own_new (xs := rows [f, hd1]) (by simpa [rows] using KI.out) rfl (fun x hx => by obtain ⟨h, hh, rfl⟩ := List.mem_map.1 hx; rcases List.mem_cons.1 hh with rfl | hh; exact OKF.out.len; rw [List.mem_singleton.1 hh]; exact OKH.out.len) (by omega) (by simp [maxLen])
            · have hk : wh.heap.size = k := by simpa [Value.ownBlock] using hk
              omega)
          have hN16 : wr.heap.size ≤ wd.heap.size := by omega
          have hN17 : wr.heap.size ≤ wf.heap.size := by omega
          have h567 : g15 ≠ wd.heap.size ∧ g15 ≠ wf.heap.size ∧ wd.heap.size ≠ wf.heap.size := ⟨by omega, by omega, by omega⟩
          have hlt17 : g15 < wi.heap.size ∧ wd.heap.size < wi.heap.size ∧ wf.heap.size < wi.heap.size := ⟨by omega, by omega, by omega⟩
          clear KG3 KF3 PBH XH BH KH KI CI hfs hgs zi hds hg15d hbs
          generalize wd.heap.size = g16 at *
          generalize wf.heap.size = g17 at *
          have HHR := Lib.hid (show hd1.height ≤ 4611686018427387905 from by rw [← HH1.out]; show f.height + 1 ≤ _; omega)
          go_wp2
          refine wp_loop_fr (fun u2 => ⟨(Value.agg fc.toArray :: .slice xa xs.length xc :: .agg qc.toArray :: .pointer (some ⟨w.heap.size, 0, none⟩) :: u2 4 :: .pointer (some ⟨g5, 0, none⟩) :: .bool false :: .pointer (some ⟨t, 0, none⟩) :: u2 8 :: v9 :: v10 :: u2 11 :: u2 12 :: u2 13 :: u2 14 :: .pointer (some ⟨g15, 0, none⟩) :: .pointer (some ⟨g16, 0, none⟩) :: .pointer (some ⟨g17, 0, none⟩) :: u2 18 :: u2 19 :: u2 20 :: u2 21 :: u2 22 :: u2 23 :: u2 24 :: u2 25 :: u2 26 :: u2 27 :: u2 28 :: u2 29 :: u2 30 :: u2 31 :: u2 32 :: u2 33 :: u2 34 :: u2 35 :: u2 36 :: u2 37 :: u2 38 :: u2 39 :: u2 40 :: u2 41 :: u2 42 :: u2 43 :: u2 44 :: u2 45 :: u2 46 :: u2 47 :: u2 48 :: u2 49 :: u2 50 :: u2 51 :: u2 52 :: u2 53 :: u2 54 :: u2 55 :: u2 56 :: u2 57 :: u2 58 :: u2 59 :: u2 60 :: u2 61 :: u2 62 :: u2 63 :: u2 64 :: u2 65 :: u2 66 :: u2 67 :: u2 68 :: u2 69 :: u2 70 :: u2 71 :: u2 72 :: u2 73 :: u2 74 :: u2 75 :: u2 76 :: u2 77 :: u2 78 :: u2 79 :: u2 80 :: u2 81 :: u2 82 :: u2 83 :: u2 84 :: u2 85 :: u2 86 :: u2 87 :: u2 88 :: u2 89 :: u2 90 :: u2 91 :: u2 92 :: u2 93 :: u2 94 :: u2 95 :: u2 96 :: u2 97 :: u2 98 :: u2 99 :: u2 100 :: u2 101 :: u2 102 :: u2 103 :: u2 104 :: u2 105 :: u2 106 :: u2 107 :: u2 108 :: u2 109 :: u2 110 :: u2 111 :: u2 112 :: u2 113 :: u2 114 :: u2 115 :: u2 116 :: u2 117 :: u2 118 :: u2 119 :: u2 120 :: u2 121 :: u2 122 :: u2 123 :: u2 124 :: u2 125 :: u2 126 :: u2 127 :: u2 128 :: u2 129 :: u2 130 :: u2 131 :: u2 132 :: u2 133 :: u2 134 :: u2 135 :: u2 136 :: u2 137 :: u2 138 :: u2 139 :: u2 140 :: u2 141 :: u2 142 :: u2 143 :: u2 144 :: u2 145 :: u2 146 :: u2 147 :: u2 148 :: u2 149 :: u2 150 :: u2 151 :: u2 152 :: u2 153 :: u2 154 :: u2 155 :: u2 156 :: u2 157 :: u2 158 :: u2 159 :: u2 160 :: u2 161 :: u2 162 :: u2 163 :: u2 164 :: u2 165 :: u2 166 :: u2 167 :: u2 168 :: u2 169 :: u2 170 :: u2 171 :: u2 172 :: u2 173 :: u2 174 :: u2 175 :: u2 176 :: u2 177 :: u2 178 :: u2 179 :: u2 180 :: u2 181 :: u2 182 :: u2 183 :: u2 184 :: u2 185 :: u2 186 :: u2 187 :: u2 188 :: u2 189 :: u2 190 :: u2 191 :: u2 192 :: u2 193 :: u2 194 :: u2 195 :: u2 196 :: u2 197 :: u2 198 :: u2 199 :: u2 200 :: u2 201 :: u2 202 :: u2 203 :: u2 204 :: u2 205 :: u2 206 :: u2 207 :: u2 208 :: u2 209 :: u2 210 :: u2 211 :: u2 212 :: u2 213 :: u2 214 :: u2 215 :: u2 216 :: u2 217 :: u2 218 :: u2 219 :: u2 220 :: u2 221 :: u2 222 :: u2 223 :: u2 224 :: u2 225 :: u2 226 :: u2 227 :: u2 228 :: u2 229 :: []).toArray, []⟩)
            (fun a wx => ∃ (i : Nat) (v18 : Value), i ≤ A ∧ a.tmps.getD 19 undef = .int .i64 (i : Int) ∧ a.tmps.getD 18 undef = v18 ∧ R2 wr.heap.size wr g15 g16 g17 f hd1 m1 v18 i wx) (fun a => A - (intOf (a.tmps.getD 19 undef)).toNat) (by kernel_rfl) ?atStart ?round
          case atStart => exact ⟨0, _, Nat.zero_le _, rfl, rfl, R0.out⟩
          case round =>
            intro u2 ws hrel
            obtain ⟨i, v18, hi, h19, h18, hR2⟩ := hrel
            have h19' : u2 19 = .int .i64 (i : Int) := h19
            have h18' : u2 18 = v18 := h18
            rw [h19', h18']
            clear h19 h18 h19' h18'
            have R := Lib.hid hR2
            have PBS := Lib.hid (PBW.out.below hR2.b)
            have c1 := PBS.out.c1
            rw [hAb] at c1
            clear hR2 R0
            by_cases hiA : i < A
            · have hiAI : (i : Int) < (A : Int) := by omega
              obtain ⟨hu, hhu⟩ : ∃ h, up hd1 i = h := ⟨_, rfl⟩
              obtain ⟨hn', hhn⟩ : ∃ h, up hd1 (i + 1) = h := ⟨_, rfl⟩
              obtain ⟨mi, hmi⟩ : ∃ m, mainId hu = m := ⟨_, rfl⟩
              obtain ⟨mn, hmn⟩ : ∃ m, mainId hn' = m := ⟨_, rfl⟩
              obtain ⟨nh, hnh⟩ : ∃ n, hu.height + 1 = n := ⟨_, rfl⟩
              have hh0 := HHR.out
              have hhei := up_height hd1 i
              rw [hhu] at hhei
              have OKU := Lib.hid (show hu.Ok from by rw [← hhu]; exact up_ok OKH.out i (by omega))
              have OKN := Lib.hid (show hn'.Ok from by rw [← hhn]; exact up_ok OKH.out (i + 1) (by omega))
              have HBN := Lib.hid (show Tryz.prog.built 41 [(0, dv mi), (2, .int .u64 (nh : Int)), (3, .int .u64 (i : Int))] = some hn'.cells.toArray from by
                rw [← hhn, ← hnh, ← hmi]
                show _ = some (Hd.cells ⟨mainId (up hd1 i), _, (up hd1 i).height + 1, i⟩).toArray
                rw [hhu]
                exact built_up (mainId hu) (mainId_length _) _ _)
              have HHU := Lib.hid hhu
              have HHN := Lib.hid hhn
              have HMI := Lib.hid hmi
              have HMN := Lib.hid hmn
              have HLI := Lib.hid (show mi.length = 32 from by rw [← hmi]; exact mainId_length _)
              have HLN := Lib.hid (show mn.length = 32 from by rw [← hmn]; exact mainId_length _)
              have hwr1 : IntKind.u64.wrap ((hu.height : Int) + 1) = (nh : Int) := by rw [← hnh, IntKind.wrap_u64]; omega
              have hwr2 : IntKind.u64.wrap (i : Int) = (i : Int) := by rw [IntKind.wrap_u64]; omega
              have K15 := Lib.hid (show Blk ws g15 hu.cells 41 from by rw [← hhu]; exact R.out.k15)
              have K17 := Lib.hid (show Blk ws g17 (mi.map byt) 24 from by rw [← hmi, ← hhu]; exact R.out.k17)
              have ch := K15.out.cell (hu.cell_height OKU.out)
              have HSI := Lib.hid (show (Tryz.prog.info? 24).map (·.size) = some (mi.map byt).length from by rw [List.length_map, HLI.out]; kernel_rfl)
              have HSN := Lib.hid (show (Tryz.prog.info? 24).map (·.size) = some (mn.map byt).length from by rw [List.length_map, HLN.out]; kernel_rfl)
              have HSX := Lib.hid (HSH.out hn' OKN.out)
              have HEL := Lib.hid (show hu.cells.length = hn'.cells.length from by rw [OKU.out.len, OKN.out.len])
              have HED := Lib.hid (show (mi.map byt).length = (mn.map byt).length from by simp [HLI.out, HLN.out])
              have HRO := Lib.hid (show (rows (rowL f hd1 i)).length = i + 2 from by simp [rows, rowL_len])
              clear hhu hhn hmi hmn hnh hhei hh0
              go_upto_region 28 with (first
                | (with_reducible refine wpList_load_blk rfl _ _ rfl g17 (mi.map byt) rfl K17.out _ Tryz.underlying24 rfl HSI.out ?_)
                | (with_reducible refine wpList_built3 (v1 := dv mi) (v2 := .int .u64 (nh : Int)) (v3 := .int .u64 (i : Int)) rfl rfl (by with_unfolding_all rfl) (by with_unfolding_all rfl) (by with_unfolding_all rfl) HBN.out ?_)
                | ((with_reducible refine wpList_put rfl _ _ _ rfl g15 hn'.cells _ rfl rfl K15.out HSX.out HEL.out (Hd.one _) (fun wk kk ck zk => ?_)); have KK := Lib.hid kk; have CK := Lib.hid ck; clear kk ck))
              clear ch c1
              go_wp2_with (first
                | (with_reducible refine wpList_load_blk rfl _ _ rfl g15 hn'.cells rfl KK.out _ Tryz.underlying41 rfl HSX.out ?_))
              have hbk : Below wr.heap.size ws wk := CK.out.below R.out.b.size (fun k hk => by have hk : k = g15 := hk; omega)
              refine (Wh.ref_mainId_calls wk hn' OKN.out (PBW.out.below (R.out.b.trans hbk)).s).mono ?_
              rintro e wl ⟨rfl, gl⟩
              rw [HMN.out]
              have K17L := Lib.hid ((K17.out.fr CK.out (fun e => h567.2.1 (show g17 = g15 from e).symm)).below gl)
              have GL := Lib.hid gl
              clear gl
              go_upto_region 29 with (first
                | ((with_reducible refine wpList_put rfl _ _ _ rfl g17 (mn.map byt) _ rfl rfl K17L.out HSN.out HED.out (one_dig mn) (fun wm km cm zm => ?_)); have KM := Lib.hid km; have CM := Lib.hid cm; clear km cm))
              have hfk : Fr (fun k => k = g15 ∨ k = g17) ws wm := ((CK.out.mono (T := fun k => k = g15 ∨ k = g17) (fun k _ h => .inl h)).trans (Fr.ofBelowAll GL.out (Nat.le_refl _))).trans (CM.out.mono (fun k _ h => .inr h))
              have BM := Lib.hid (R.out.b.trans (hfk.below R.out.b.size (fun k hk => by rcases hk with e | e <;> omega)))
              have K15M := Lib.hid ((KK.out.below GL.out).fr CM.out (fun e => h567.2.1 (show g15 = g17 from e)))
              have K16M := Lib.hid (R.out.k16.fr hfk (fun e => by rcases e with e | e; exact h567.1 e.symm; exact h567.2.2 e))
              have O18M := Lib.hid (R.out.o18.fr hfk (fun k hk e => by have := R.out.d k hk; rcases e with e | e; exact this.1 e; exact this.2.2 e))
              have hms := BM.out.size
              have HD18 := Lib.hid R.out.d
              have hlt18 : g15 < wm.heap.size ∧ g16 < wm.heap.size ∧ g17 < wm.heap.size := ⟨K15M.out.lt, K16M.out.lt, KM.out.lt⟩
              clear hfk hbk CK GL CM KK K17L K15 K17 R PBS zk zm hwr1 hwr2 HBN
              go_wp2_with (first
                | (with_reducible refine wpList_load_blk rfl _ _ rfl g15 hn'.cells rfl K15M.out _ Tryz.underlying41 rfl HSX.out ?_)
                | ((with_reducible refine wpList_build1 rfl elemH _ rfl hn'.cells rfl OKN.out.len (by omega) (fun wo ko bo zo => ?_)); have KO := Lib.hid ko; have BO := Lib.hid bo; have O18O := Lib.hid (O18M.out.below bo); clear ko bo)
                | (at_builtin; refine wpList_append_arr _ rfl (.tmp 137) (.tmp 139) 22 rfl wr.heap.size 41 elemH v18 (rows (rowL f hd1 i)) rfl O18O.out _ [hn'.cells] rfl (WtIt.arr1 KO.out OKN.out.len) (fun x hx c hc => by rw [List.mem_singleton.1 hx] at hc; exact Hd.one _ c hc) (by rw [HRO.out]; simp [maxLen]; omega) (by rw [HRO.out]; simp; omega) (by omega) (i + 3) (by rw [HRO.out]; rfl) (fun a18 c18 wq q1 q2 q3 => ?_); have Q1 := Lib.hid q1; have Q2 := Lib.hid q2; have Q3 := Lib.hid q3; clear q1 q2 q3))
              refine ⟨⟨⟨i + 1, _, by omega, ?_, rfl, ?_⟩, ?_⟩, ?_⟩
              · show Value.int .i64 _ = Value.int .i64 _
                congr 1
              · have hd := HD18.out
                have hq := Fr.ofGrown Q2.out
                have hlo := O18O.out.lt
                refine ⟨(BM.out.trans (BO.out.mono hms)).trans (hq.below (by omega) (fun k hk => (hlo k hk).1)), ?_, (K16M.out.below BO.out).fr hq (fun e => (hd _ e).2.1 rfl), ?_, ?_, fun k hk => ?_⟩
                · rw [HHN.out]
                  exact (K15M.out.below BO.out).fr hq (fun e => (hd _ e).1 rfl)
                · rw [HHN.out, HMN.out]
                  exact (KM.out.below BO.out).fr hq (fun e => (hd _ e).2.2 rfl)
                · rw [rowL_succ, HHN.out]
                  have := Q1.out
                  simpa [rows] using this
                · rcases Q3.out with e | e
                  · exact hd k (e ▸ hk)
                  · have hk : (Value.slice a18 (i + 3) c18).ownBlock = some k := hk
                    rw [e] at hk; cases hk; have := BO.out.size; omega
              · show A - (intOf (Value.int .i64 _)).toNat < A - (intOf (Value.int .i64 _)).toNat
                simp only [intOf]
                omega
              · kernel_rfl
            · have hie : i = A := by omega
              subst i
              have hAI : ¬ (A : Int) < (A : Int) := by omega
              have XS := Lib.hid (XW.out.below R.out.b)
              have hrs := R.out.b.size
              have hh0 := HHR.out
              obtain ⟨Rw, hRw⟩ : ∃ l, rowL f hd1 A = l := ⟨_, rfl⟩
              have HRW := Lib.hid hRw
              have HRWL := Lib.hid (show Rw.length = A + 2 from by rw [← hRw]; exact rowL_len _ _ _)
              have HRK := Lib.hid (show ∀ h ∈ Rw, h.Ok from by rw [← hRw]; exact row_ok OKF.out OKH.out A (by omega))
              have HCH := Lib.hid (show Chain Rw from by rw [← hRw, ← HH1.out]; exact chain_row f rt A)
              have HAR := Lib.hid (show Arr 66 (Off t b) ws v18 (rows Rw) from by rw [← hRw]; exact R.out.o18.arr.mono (by omega) (fun k _ h => ⟨by have := h.2; omega, by have := h.2; omega⟩))
              obtain ⟨a18, c18, rfl, hc18, hm18, _⟩ := HAR.out.form
              rw [show (rows Rw).length = A + 2 from by simp [rows, HRWL.out]] at R HAR hc18 ⊢
              unfold maxLen at hm18
              clear hRw
              go_upto_region 30 with fail
              clear c1
              go_wp2_with fail
              refine (twins_calls ws (.slice a18 (A + 2) c18) Rw HRK.out ⟨HAR.out.mono (by omega) (fun _ _ _ => trivial), PBS.out.s⟩).mono ?_
              rintro e wt ⟨r, rfl, hdis, gt⟩
              have RT2 := Lib.hid (R.out.below hrs gt)
              have PBT := Lib.hid (PBS.out.below gt)
              have XT := Lib.hid (XS.out.below gt)
              have HAT := Lib.hid (HAR.out.below (by omega) gt)
              have hts := gt.size
              clear gt R PBS XS HAR hiA hi
              rcases r with _ | _
              · have HDI := Lib.hid (hdis rfl)
                clear hdis
                obtain ⟨TL, hTL⟩ : ∃ l, (List.range (A + 1)).map (up hd1) = l := ⟨_, rfl⟩
                have HRT2 := Lib.hid (show Rw = f :: TL from by rw [← HRW.out, ← hTL]; rfl)
                have HTL := Lib.hid (show TL.length = A + 1 from by rw [← hTL]; simp)
                clear hTL
                obtain ⟨sa, sc, hq1, hq2, hsl0, ha1⟩ := run_slice_arr elemH HAT.out 1 (A + 2) (by omega) (by simp [rows, HRWL.out])
                have hsl := hsl0 (by simp [rows, HRWL.out]) .i64
                have HA1 := Lib.hid (show Arr 66 (Off t b) wt (.slice sa (A + 1) sc) (rows TL) from by
                  have e : ((rows Rw).take (A + 2)).drop 1 = rows TL := by rw [List.take_of_length_le (by simp [rows, HRWL.out]), HRT2.out]; rfl
                  rw [e] at ha1
                  exact ha1)
                have hsl2 : ∀ w', (Instr.sliceAt 22 (.slice a18 (A + 2) c18) (some (.int .i64 1)) none none).run Tryz.prog w' = .ok (.slice sa (A + 1) sc) w' := fun w' => by
                  have := hsl w'
                  simpa using this
                clear hsl hsl0 ha1 hq1 hq2
                have HT1 := Lib.hid (show Rw.take 1 = [f] from by rw [HRT2.out]; rfl)
                have hta : t < wt.heap.size ∧ b < wt.heap.size := XT.out.lt
                have hNt : wr.heap.size ≤ wt.heap.size := by omega
                go_wp2
                refine wp_loop_fr (fun u3 => ⟨(Value.agg fc.toArray :: .slice xa xs.length xc :: .agg qc.toArray :: .pointer (some ⟨w.heap.size, 0, none⟩) :: u3 4 :: .pointer (some ⟨g5, 0, none⟩) :: .bool false :: .pointer (some ⟨t, 0, none⟩) :: u3 8 :: v9 :: v10 :: u3 11 :: u3 12 :: u3 13 :: u3 14 :: .pointer (some ⟨g15, 0, none⟩) :: .pointer (some ⟨g16, 0, none⟩) :: .pointer (some ⟨g17, 0, none⟩) :: u3 18 :: u3 19 :: u3 20 :: u3 21 :: u3 22 :: u3 23 :: u3 24 :: u3 25 :: u3 26 :: u3 27 :: u3 28 :: u3 29 :: u3 30 :: u3 31 :: u3 32 :: u3 33 :: u3 34 :: u3 35 :: u3 36 :: u3 37 :: u3 38 :: u3 39 :: u3 40 :: u3 41 :: u3 42 :: u3 43 :: u3 44 :: u3 45 :: u3 46 :: u3 47 :: u3 48 :: u3 49 :: u3 50 :: u3 51 :: u3 52 :: u3 53 :: u3 54 :: u3 55 :: u3 56 :: u3 57 :: u3 58 :: u3 59 :: u3 60 :: u3 61 :: u3 62 :: u3 63 :: u3 64 :: u3 65 :: u3 66 :: u3 67 :: u3 68 :: u3 69 :: u3 70 :: u3 71 :: u3 72 :: u3 73 :: u3 74 :: u3 75 :: u3 76 :: u3 77 :: u3 78 :: u3 79 :: u3 80 :: u3 81 :: u3 82 :: u3 83 :: u3 84 :: u3 85 :: u3 86 :: u3 87 :: u3 88 :: u3 89 :: u3 90 :: u3 91 :: u3 92 :: u3 93 :: u3 94 :: u3 95 :: u3 96 :: u3 97 :: u3 98 :: u3 99 :: u3 100 :: u3 101 :: u3 102 :: u3 103 :: u3 104 :: u3 105 :: u3 106 :: u3 107 :: u3 108 :: u3 109 :: u3 110 :: u3 111 :: u3 112 :: u3 113 :: u3 114 :: u3 115 :: u3 116 :: u3 117 :: u3 118 :: u3 119 :: u3 120 :: u3 121 :: u3 122 :: u3 123 :: u3 124 :: u3 125 :: u3 126 :: u3 127 :: u3 128 :: u3 129 :: u3 130 :: u3 131 :: u3 132 :: u3 133 :: u3 134 :: u3 135 :: u3 136 :: u3 137 :: u3 138 :: u3 139 :: u3 140 :: u3 141 :: u3 142 :: u3 143 :: .slice sa (A + 1) sc :: .int .i64 (((A + 1 : Nat)) : Int) :: u3 146 :: u3 147 :: u3 148 :: u3 149 :: u3 150 :: u3 151 :: u3 152 :: u3 153 :: u3 154 :: u3 155 :: u3 156 :: u3 157 :: u3 158 :: u3 159 :: u3 160 :: u3 161 :: u3 162 :: u3 163 :: u3 164 :: u3 165 :: u3 166 :: u3 167 :: u3 168 :: u3 169 :: u3 170 :: u3 171 :: u3 172 :: u3 173 :: u3 174 :: u3 175 :: u3 176 :: u3 177 :: u3 178 :: u3 179 :: u3 180 :: u3 181 :: u3 182 :: u3 183 :: u3 184 :: u3 185 :: u3 186 :: u3 187 :: u3 188 :: u3 189 :: u3 190 :: u3 191 :: u3 192 :: u3 193 :: u3 194 :: u3 195 :: u3 196 :: u3 197 :: u3 198 :: u3 199 :: u3 200 :: u3 201 :: u3 202 :: u3 203 :: u3 204 :: u3 205 :: u3 206 :: u3 207 :: u3 208 :: u3 209 :: u3 210 :: u3 211 :: u3 212 :: u3 213 :: u3 214 :: u3 215 :: u3 216 :: u3 217 :: u3 218 :: u3 219 :: u3 220 :: u3 221 :: u3 222 :: u3 223 :: u3 224 :: u3 225 :: u3 226 :: u3 227 :: u3 228 :: u3 229 :: []).toArray, []⟩)
                  (fun a wx => ∃ j : Nat, j ≤ A + 1 ∧ a.tmps.getD 146 undef = .int .i64 (j : Int) ∧ TrkIs wx t b (Rw.take (j + 1)) ∧ Trk (Rw.take (j + 1)) ∧ Fr (fun k => k = t ∨ k = b) wt wx) (fun a => A + 1 - (intOf (a.tmps.getD 146 undef)).toNat) (by kernel_rfl) ?atStart ?round
                case atStart => exact ⟨0, Nat.zero_le _, rfl, by rw [HT1.out]; exact XT.out, by rw [HT1.out]; exact trk_one OKF.out, Fr.refl _ _⟩
                case round =>
                  intro u3 wv hrel
                  obtain ⟨j, hj, h146, hX, hT, hF⟩ := hrel
                  have h146' : u3 146 = .int .i64 (j : Int) := h146
                  rw [h146']
                  clear h146 h146'
                  have XV := Lib.hid hX
                  have TV := Lib.hid hT
                  have FV := Lib.hid hF
                  have hvs := hF.size
                  clear hX hT hF hsl2
                  by_cases hjA : j < A + 1
                  · have hjI : (j : Int) < ((A + 1 : Nat) : Int) := by omega
                    have hjI2 : (j : Int) < (A : Int) + 1 := by omega
                    have h0j : (0 : Int) ≤ (j : Int) := by omega
                    obtain ⟨x, hx⟩ : ∃ x, TL[j]'(by rw [HTL.out]; exact hjA) = x := ⟨_, rfl⟩
                    have HXR := Lib.hid (show Rw[j + 1]? = some x from by rw [HRT2.out, List.getElem?_cons_succ, List.getElem?_eq_getElem (by rw [HTL.out]; exact hjA), hx])
                    have OKX := Lib.hid (show x.Ok from HRK.out x (List.mem_of_getElem? HXR.out))
                    obtain ⟨bb, ob, cap', e0, hbo, hrx⟩ := HA1.out.at j (by simp [rows, HTL.out]; omega)
                    have e0' : Value.slice sa (A + 1) sc = .slice (some ⟨bb, ob, none⟩) (A + 1) cap' := by rw [e0]; simp [rows, HTL.out]
                    cases e0'
                    have HRX := Lib.hid (show wv.rangeAt bb (ob + j * 66) x.cells from by
                      have h1 := rangeAt_fr hrx FV.out (fun e => by rcases e with e | e; exact hbo.1 e; exact hbo.2 e)
                      rw [rows_get (by rw [HTL.out]; exact hjA), hx] at h1
                      exact h1)
                    have HSX := Lib.hid (HSH.out x OKX.out)
                    have HZX := Lib.hid (show (Z32 ++ (Z32 ++ [Value.int .u64 0, Value.int .u64 0])).length = x.cells.length from by rw [zero66_len, OKX.out.len])
                    have HAD := Lib.hid (add_row HCH.out HDI.out HXR.out TV.out)
                    clear hx hrx e0
                    go_upto_region 35 with (first
                      | (with_reducible refine wpList_load_mid rfl _ _ rfl bb (ob + j * 66) rfl x.cells _ HRX.out Tryz.underlying41 rfl HSX.out ?_)
                      | ((with_reducible refine wpList_alloc rfl _ rfl _ (zero66 _) (fun wa ka ca za => ?_)); have KA := Lib.hid ka; have CA := Lib.hid ca; clear ka ca)
                      | ((with_reducible refine wpList_put rfl _ _ _ rfl wv.heap.size x.cells _ rfl rfl KA.out HSX.out HZX.out (Hd.one _) (fun wb kb fb zb => ?_)); have KB := Lib.hid kb; have CB := Lib.hid (show Below wv.heap.size wv wb from CA.out.trans (fb.below CA.out.size (fun k hk => by have hk : k = wv.heap.size := hk; omega))); clear kb fb))
                    have XB := Lib.hid (XV.out.below CB.out)
                    have PBV := Lib.hid (PBT.out.fr FV.out hte h5e ht' hb' HPL.out HRL.out)
                    clear KA CA zb za HRX
                    go_wp2_with (first
                      | (with_reducible refine wpList_load_blk rfl _ _ rfl wv.heap.size x.cells rfl KB.out _ Tryz.underlying41 rfl HSX.out ?_))
                    refine (add_calls wb t b (Rw.take (j + 1)) TV.out x OKX.out XB.out (PBV.out.below CB.out).p).mono ?_
                    rintro e wz ⟨rfl, xz, fz⟩
                    rw [HAD.out.1]
                    rw [HAD.out.2] at xz
                    have XZ := Lib.hid xz
                    have TZ := Lib.hid (show Trk (Rw.take (j + 2)) from by have := TV.out.add OKX.out; rw [HAD.out.2] at this; exact this)
                    have FZ := Lib.hid (FV.out.trans (show Fr (fun k => k = t ∨ k = b) wv wz from (Fr.ofBelowAll CB.out (Nat.le_refl _)).trans fz))
                    clear xz fz XB KB CB XV TV FV PBV
                    go_wp2
                    refine ⟨⟨⟨j + 1, by omega, ?_, XZ.out, TZ.out, FZ.out⟩, ?_⟩, ?_⟩
                    · show Value.int .i64 _ = Value.int .i64 _
                      congr 1
                    · show A + 1 - (intOf (Value.int .i64 _)).toNat < A + 1 - (intOf (Value.int .i64 _)).toNat
                      simp only [intOf]
                      omega
                    · kernel_rfl
                  · have hje : j = A + 1 := by omega
                    subst j
                    have hAn : ¬ (((A + 1 : Nat)) : Int) < ((A + 1 : Nat) : Int) := by omega
                    have hAn2 : ¬ (A : Int) + 1 < (A : Int) + 1 := by omega
                    have hRt : Rw.take (A + 1 + 1) = Rw := List.take_of_length_le (by rw [HRWL.out]; exact Nat.le_refl _)
                    have hx2 := XV.out
                    have ht2 := TV.out
                    rw [hRt] at hx2 ht2
                    have XW4 := Lib.hid hx2
                    have TW := Lib.hid ht2
                    clear hx2 ht2 hRt XV TV hj hjA
                    have PBV := Lib.hid (PBT.out.fr FV.out hte h5e ht' hb' HPL.out HRL.out)
                    obtain ⟨hu, hhu⟩ : ∃ h, up hd1 A = h := ⟨_, rfl⟩
                    obtain ⟨mo, hmo⟩ : ∃ m, mainId hu = m := ⟨_, rfl⟩
                    have HMO := Lib.hid (show mainId (up hd1 A) = mo from by rw [hhu, hmo])
                    have HMOL := Lib.hid (show mo.length = 32 from by rw [← hmo]; exact mainId_length _)
                    have HSO := Lib.hid (show (Tryz.prog.info? 24).map (·.size) = some (mo.map byt).length from by rw [List.length_map, HMOL.out]; kernel_rfl)
                    have K16V := Lib.hid (RT2.out.k16.fr FV.out (fun e => by rcases e with e | e <;> omega))
                    have K17V := Lib.hid (show Blk wv g17 (mo.map byt) 24 from by rw [← HMO.out]; exact RT2.out.k17.fr FV.out (fun e => by rcases e with e | e <;> omega))
                    clear hhu hmo RT2 PBT FV HAT HA1
                    have hpl : p < Y.length := by rw [HYL.out]; omega
                    obtain ⟨y, os, hy, hoky, hyo⟩ := ys_at hva HOX.out (show p < xs.length by omega) hp
                    rw [HY.out] at hy
                    have HYP := Lib.hid hy
                    have HYK := Lib.hid hoky
                    have HYO := Lib.hid hyo
                    have HYG := Lib.hid (GDY.out y (List.mem_of_getElem? hy))
                    have hyl := good_len HYG.out
                    clear hoky hyo
                    have hp0 : ∀ (w' : World), w'.cell? ⟨g5, 0, none⟩ = some (.int .i64 q.pl) → w'.cell? ⟨g5, 0, none⟩ = some (.int .i64 (p : Int)) := fun w' h => by rw [← hp]; exact h
                    have c0 := hp0 _ PBV.out.c0
                    clear hy
                    go_wp2_with fail
                    refine (MkW.ref_path_calls _ wv v9 (Y.map leafY) rfl (PBV.out.l.mono (by omega) (fun _ _ _ => trivial)) HLD.out PBV.out.s HYN.out p (by simpa using hpl)).mono ?_
                    rintro e wp4 ⟨vp, rfl, hap, gp4⟩
                    have HAP := Lib.hid hap
                    obtain ⟨bk, okk, cp, vr, hv10, hcr, hBr⟩ := (PBV.out.below gp4).raw HYP.out
                    rw [HYL.out] at hv10
                    subst v10
                    obtain ⟨en, hen⟩ : ∃ en, encMt y = en := ⟨_, rfl⟩
                    have HEN := Lib.hid hen
                    rw [hen] at hBr
                    obtain ⟨ra, rc, rfl, _⟩ := id hBr
                    have HBR := Lib.hid hBr
                    have HFT := Lib.hid (show Ev.Fits y from fits_of HYK.out (by omega))
                    have hel : en.length + 4200 ≤ 140737488355328 := by rw [← hen]; exact HFT.out
                    have HGT := Lib.hid (show got RDmt ((0 : Nat), ([] : List (Nat × List UInt8))) en = (y, 0) from by rw [← hen]; exact got_full y _ HYK.out.1 HYK.out.2 hyl)
                    have PBP := Lib.hid (PBV.out.below gp4)
                    have XP := Lib.hid (XW4.out.below gp4)
                    have K16P := Lib.hid (K16V.out.below gp4)
                    have K17P := Lib.hid (K17V.out.below gp4)
                    clear c0 hap gp4 hBr hen PBV XW4 K16V K17V
                    have c0 := hp0 _ PBP.out.c0
                    go_wp2_with fail
                    refine (Rf.readMainTx_ref Any wp4 ra rc en HBR.out.any (by omega)).mono ?_
                    rintro e wq4 ⟨cs, rfl, hrm, gq4⟩
                    rw [HGT.out] at hrm ⊢
                    dsimp only at hrm ⊢
                    obtain ⟨c1, c2, rfl, ⟨hy1, rfl⟩, vo, rfl, hso⟩ := hrm
                    obtain ⟨oa, oc, rfl, _⟩ := hso.form
                    have hn2 : y.2.length = os.length + 1 := by rw [HYO.out]; simp
                    have HRM0 := Lib.hid (show RMt Any wq4 [Value.int .u64 (y.1 : Int), .slice oa (os.length + 1) oc] y from ⟨[_], [_], rfl, ⟨hy1, rfl⟩, _, rfl, by rw [hn2] at hso; exact hso.mono rep_Mo (fun _ _ _ => trivial)⟩)
                    rw [hn2]
                    have HN2 := Lib.hid hn2
                    clear hn2
                    have HS24 := Lib.hid (show (Tryz.prog.info? 56).map (·.size) = some [Value.int .u64 (y.1 : Int), .slice oa (os.length + 1) oc].length from by kernel_rfl)
                    have HON := Lib.hid (show ∀ v ∈ [Value.int .u64 (y.1 : Int), .slice oa (os.length + 1) oc], v.oneCell' = true from fun v hv => by
                      rcases List.mem_cons.1 hv with rfl | hv
                      · rfl
                      · rw [List.mem_singleton.1 hv]; rfl)
                    have GQ4 := Lib.hid gq4
                    clear gq4 hso hy1 c0
                    go_upto_region 40 with (first
                      | ((with_reducible refine wpList_alloc rfl _ rfl _ (zeroMt _) (fun wa ka ca za => ?_)); have KA := Lib.hid ka; have CA := Lib.hid ca; clear ka ca)
                      | ((with_reducible refine wpList_put rfl _ _ _ rfl wq4.heap.size [Value.int .u64 (y.1 : Int), .slice oa (os.length + 1) oc] _ rfl rfl KA.out HS24.out rfl HON.out (fun ws4 kb fb zb => ?_)); have K24 := Lib.hid kb; have CB := Lib.hid (show Below wq4.heap.size wq4 ws4 from CA.out.trans (fb.below CA.out.size (fun k hk => by have hk : k = wq4.heap.size := hk; omega))); clear kb fb))
                    have PBQ := Lib.hid ((PBP.out.below GQ4.out).below CB.out)
                    have XQ := Lib.hid ((XP.out.below GQ4.out).below CB.out)
                    have K16Q := Lib.hid ((K16P.out.below GQ4.out).below CB.out)
                    have K17Q := Lib.hid ((K17P.out.below GQ4.out).below CB.out)
                    have HRM1 := Lib.hid (rep_Mt.below HRM0.out CB.out)
                    have HAP1 := Lib.hid ((HAP.out.below (by omega) GQ4.out).below (by omega) CB.out)
                    have HVB1 := Lib.hid ((HBR.out.below GQ4.out).below CB.out)
                    have HVR := Lib.hid (show ∀ w', Below ws4.heap.size ws4 w' → w'.cell? ⟨bk, okk + p, none⟩ = some (.slice ra en.length rc) from fun w' hb => by
                      have hlt := World.block_lt_of_cell? _ _ hcr
                      have h1 := (Fr.ofBelow GQ4.out).cell hcr (show ¬ wp4.heap.size ≤ bk from by have : bk < wp4.heap.size := hlt; omega)
                      have h2 := (Fr.ofBelow CB.out).cell h1 (show ¬ wq4.heap.size ≤ bk from by have : bk < wp4.heap.size := hlt; have := GQ4.out.size; omega)
                      exact (Fr.ofBelow hb).cell h2 (show ¬ ws4.heap.size ≤ bk from by have : bk < wp4.heap.size := hlt; have := GQ4.out.size; have := CB.out.size; omega))
                    have hVP : vp.cells = #[vp] := by obtain ⟨_, _, rfl, _⟩ := HAP.out.form; rfl
                    have hVS : q.vs.cells = #[q.vs] := by obtain ⟨_, _, h, _⟩ := id PBP.out.q; rw [h]; rfl
                    have HB1 := Lib.hid (show [Value.agg (m1.map byt).toArray, .slice ra en.length rc, .int .u32 (p : Int), .int .u32 (xs.length : Int), vp, q.vs].map (·.cells.size) = [32, 1, 1, 1, 1, 1] from by
                      simp only [List.map_cons, List.map_nil, hVP, hVS]
                      simp [Value.cells, HML.out])
                    have HB2 := Lib.hid (show (m1.map byt ++ [.slice ra en.length rc, .int .u32 (p : Int), .int .u32 (xs.length : Int), vp, q.vs]).toArray = ([Value.agg (m1.map byt).toArray, .slice ra en.length rc, .int .u32 (p : Int), .int .u32 (xs.length : Int), vp, q.vs].flatMap fun v => v.cells.toList).toArray from by
                      simp only [List.flatMap_cons, List.flatMap_nil, hVP, hVS]
                      simp [Value.cells])
                    have hPGl : (m1.map byt ++ [.slice ra en.length rc, .int .u32 (p : Int), .int .u32 (xs.length : Int), vp, q.vs]).length = 37 := by simp [HML.out]
                    have HSPG := Lib.hid (show (Tryz.prog.info? 29).map (·.size) = some (m1.map byt ++ [.slice ra en.length rc, .int .u32 (p : Int), .int .u32 (xs.length : Int), vp, q.vs]).length from by rw [hPGl]; kernel_rfl)
                    have HZPG := Lib.hid (show ZPG.length = (m1.map byt ++ [.slice ra en.length rc, .int .u32 (p : Int), .int .u32 (xs.length : Int), vp, q.vs]).length from by rw [hPGl, ZPG_len])
                    have HOPG := Lib.hid (show ∀ v ∈ (m1.map byt ++ [.slice ra en.length rc, .int .u32 (p : Int), .int .u32 (xs.length : Int), vp, q.vs]), v.oneCell' = true from fun v hv => by
                      rcases List.mem_append.1 hv with hv | hv
                      · obtain ⟨_, _, rfl⟩ := List.mem_map.1 hv; rfl
                      · simp only [List.mem_cons, List.not_mem_nil, or_false] at hv
                        rcases hv with rfl | rfl | rfl | rfl | rfl
                        · rfl
                        · rfl
                        · rfl
                        · obtain ⟨_, _, rfl, _⟩ := HAP.out.form; rfl
                        · obtain ⟨_, _, h, _⟩ := id PBP.out.q; rw [h]; rfl)
                    have hw1 : IntKind.u32.wrap (p : Int) = (p : Int) := by rw [IntKind.wrap_u32]; omega
                    have hw2 : IntKind.u32.wrap (xs.length : Int) = (xs.length : Int) := by rw [IntKind.wrap_u32]; omega
                    clear KA CA za zb hVP hVS hPGl PBP XP K16P K17P HRM0 HAP HBR hcr CB GQ4
                    generalize wq4.heap.size = g24 at *
                    refine wp_region_held_drew (S := (fun w' => Below ws4.heap.size ws4 w')) (by kernel_rfl) (below_drew (Below.refl _ _)) (fun hHeld => ?_)
                    refine wpAnyH_take (i := 0) (oi := ⟨_, _, _, _, _, _⟩) rfl (by kernel_rfl) (by kernel_rfl) (by kernel_rfl) (fun _ _ _ h => h) (yieldsIf_load_mid (by rfl) _ _ rfl g16 0 rfl (m1.map byt) _ (fun _ h => blk_range (K16Q.out.below h)) Tryz.underlying24 rfl HSM.out) (by assumption) ?_
                    try simp only [Act.put, List.setIfInBounds_toArray, List.set_cons_zero, List.set_cons_succ]
                    refine wpAnyH_take (i := 1) (oi := ⟨_, _, _, _, _, _⟩) (v := ?_) rfl (by kernel_rfl) (by kernel_rfl) (by kernel_rfl) (fun _ _ _ h => h) (Or.inl ⟨by rfl, ?_⟩) (by assumption) ?_
                    rotate_left
                    · intro w hSw; go_simp; try (with_reducible rfl)
                    try simp only [Act.put, List.setIfInBounds_toArray, List.set_cons_zero, List.set_cons_succ]
                    refine wpAnyH_take (i := 2) (oi := ⟨_, _, _, _, _, _⟩) (v := ?_) rfl (by kernel_rfl) (by kernel_rfl) (by kernel_rfl) (fun _ _ _ h => h) (Or.inl ⟨by rfl, ?_⟩) (by assumption) ?_
                    rotate_left
                    · intro w hSw; go_simp; try (with_reducible rfl)
                    try simp only [Act.put, List.setIfInBounds_toArray, List.set_cons_zero, List.set_cons_succ]
                    refine wpAnyH_take (i := 3) (oi := ⟨_, _, _, _, _, _⟩) (v := .int .i64 (p : Int)) rfl (by kernel_rfl) (by kernel_rfl) (by kernel_rfl) (fun _ _ _ h => h) (Or.inl ⟨by rfl, fun w hSw => (by have c := hp0 _ (PBQ.out.below hSw).c0; go_simp; try (with_reducible rfl))⟩) (by assumption) ?_
                    try simp only [Act.put, List.setIfInBounds_toArray, List.set_cons_zero, List.set_cons_succ]
                    refine wpAnyH_take (i := 4) (oi := ⟨_, _, _, _, _, _⟩) (v := ?_) rfl (by kernel_rfl) (by kernel_rfl) (by kernel_rfl) (fun _ _ _ h => h) (Or.inl ⟨by rfl, ?_⟩) (by assumption) ?_
                    rotate_left
                    · intro w hSw; go_simp; try (with_reducible rfl)
                    try simp only [Act.put, List.setIfInBounds_toArray, List.set_cons_zero, List.set_cons_succ]
                    refine wpAnyH_take (i := 5) (oi := ⟨_, _, _, _, _, _⟩) (v := .slice ra en.length rc) rfl (by kernel_rfl) (by kernel_rfl) (by kernel_rfl) (fun _ _ _ h => h) (Or.inl ⟨by rfl, fun w hSw => (by have c := HVR.out _ hSw; go_simp; try (with_reducible rfl))⟩) (by assumption) ?_
                    try simp only [Act.put, List.setIfInBounds_toArray, List.set_cons_zero, List.set_cons_succ]
                    refine wpAnyH_take (i := 6) (oi := ⟨_, _, _, _, _, _⟩) (v := ?_) rfl (by kernel_rfl) (by kernel_rfl) (by kernel_rfl) (fun _ _ _ h => h) (Or.inl ⟨by rfl, ?_⟩) (by assumption) ?_
                    rotate_left
                    · intro w hSw; go_simp; try (with_reducible rfl)
                    try simp only [Act.put, List.setIfInBounds_toArray, List.set_cons_zero, List.set_cons_succ]
                    refine wpAnyH_take (i := 7) (oi := ⟨_, _, _, _, _, _⟩) (v := .int .i64 (p : Int)) rfl (by kernel_rfl) (by kernel_rfl) (by kernel_rfl) (fun _ _ _ h => h) (Or.inl ⟨by rfl, fun w hSw => (by have c := hp0 _ (PBQ.out.below hSw).c0; go_simp; try (with_reducible rfl))⟩) (by assumption) ?_
                    try simp only [Act.put, List.setIfInBounds_toArray, List.set_cons_zero, List.set_cons_succ]
                    refine wpAnyH_take (i := 8) (oi := ⟨_, _, _, _, _, _⟩) (v := ?_) rfl (by kernel_rfl) (by kernel_rfl) (by kernel_rfl) (fun _ _ _ h => h) (Or.inl ⟨by rfl, ?_⟩) (by assumption) ?_
                    rotate_left
                    · intro w hSw; go_simp; try (with_reducible rfl)
                    try simp only [Act.put, List.setIfInBounds_toArray, List.set_cons_zero, List.set_cons_succ]
                    refine wpAnyH_take (i := 9) (oi := ⟨_, _, _, _, _, _⟩) (v := ?_) rfl (by kernel_rfl) (by kernel_rfl) (by kernel_rfl) (fun _ _ _ h => h) (Or.inl ⟨by rfl, ?_⟩) (by assumption) ?_
                    rotate_left
                    · intro w hSw; go_simp; try (with_reducible rfl)
                    try simp only [Act.put, List.setIfInBounds_toArray, List.set_cons_zero, List.set_cons_succ]
                    refine wpAnyH_take (i := 10) (oi := ⟨_, _, _, _, _, _⟩) (v := ?_) rfl (by kernel_rfl) (by kernel_rfl) (by kernel_rfl) (fun _ _ _ h => h) (Or.inl ⟨by rfl, ?_⟩) (by assumption) ?_
                    rotate_left
                    · intro w hSw; go_simp; try (with_reducible rfl)
                    try simp only [Act.put, List.setIfInBounds_toArray, List.set_cons_zero, List.set_cons_succ]
                    refine wpAnyH_take (i := 11) (oi := ⟨_, _, _, _, _, _⟩) (v := ?_) rfl (by kernel_rfl) (by kernel_rfl) (by kernel_rfl) (fun _ _ _ h => h) (Or.inl ⟨by rfl, ?_⟩) (by assumption) ?_
                    rotate_left
                    · intro w hSw; go_simp; try (with_reducible rfl)
                    try simp only [Act.put, List.setIfInBounds_toArray, List.set_cons_zero, List.set_cons_succ]
                    refine wpAnyH_take (i := 12) (oi := ⟨_, _, _, _, _, _⟩) (v := ?_) rfl (by kernel_rfl) (by kernel_rfl) (by kernel_rfl) (fun _ _ _ h => h) (Or.inl ⟨by rfl, ?_⟩) (by assumption) ?_
                    rotate_left
                    · intro w hSw; go_simp; try (with_reducible rfl)
                    try simp only [Act.put, List.setIfInBounds_toArray, List.set_cons_zero, List.set_cons_succ]
                    refine wpAnyH_take (i := 13) (oi := ⟨_, _, _, _, _, _⟩) (v := ?_) rfl (by kernel_rfl) (by kernel_rfl) (by kernel_rfl) (fun _ _ _ h => h) (Or.inl ⟨by rfl, ?_⟩) (by assumption) ?_
                    rotate_left
                    · intro w hSw; go_simp; try (with_reducible rfl)
                    try simp only [Act.put, List.setIfInBounds_toArray, List.set_cons_zero, List.set_cons_succ]
                    refine wpAnyH_take (i := 14) (oi := ⟨_, _, _, _, _, _⟩) (v := q.vs) rfl (by kernel_rfl) (by kernel_rfl) (by kernel_rfl) (fun _ _ _ h => h) (Or.inl ⟨by rfl, fun w hSw => (by have c := (PBQ.out.below hSw).c4; go_simp; try (with_reducible rfl))⟩) (by assumption) ?_
                    try simp only [Act.put, List.setIfInBounds_toArray, List.set_cons_zero, List.set_cons_succ]
                    refine wpAnyH_take (i := 15) (oi := ⟨_, _, _, _, _, _⟩) rfl (by kernel_rfl) (by kernel_rfl) (by kernel_rfl) (fun _ _ _ h => h) (yieldsIf_build (by rfl) structPeg [(0, _), (1, _), (2, _), (3, _), (4, _), (5, _)] rfl [.agg (m1.map byt).toArray, .slice ra en.length rc, .int .u32 (p : Int), .int .u32 (xs.length : Int), vp, q.vs] rfl HB1.out (m1.map byt ++ [.slice ra en.length rc, .int .u32 (p : Int), .int .u32 (xs.length : Int), vp, q.vs]).toArray HB2.out) (by assumption) ?_
                    try simp only [Act.put, List.setIfInBounds_toArray, List.set_cons_zero, List.set_cons_succ]
                    refine wpAnyH_ready (rs := [16]) (by kernel_rfl) (by simp) ?_
                    refine AllReadyH.cons (o := ⟨_, _, _, _, _, _⟩) rfl (fun K hK => ?_) AllReadyH.nil
                    rw [if_pos (by rfl)]
                    refine wp_alloc _ rfl _ (zeroPeg _) (fun wa ka ca za => ?_)
                    have KZ := Lib.hid ka
                    have CZ := Lib.hid ((below_drew (Below.refl ws4.heap.size ws4)).trans ca)
                    clear ka ca
                    refine hK.out _ _ (by exact CZ.out) (fun hHeld => ?_)
                    try simp only [Act.put, List.setIfInBounds_toArray, List.set_cons_zero, List.set_cons_succ]
                    clear hK
                    refine wpAnyH_ready (rs := [17]) (by kernel_rfl) (by simp) ?_
                    refine AllReadyH.cons (o := ⟨_, _, _, _, _, _⟩) rfl (fun K hK => ?_) AllReadyH.nil
                    rw [if_pos (by rfl)]
                    refine wp_put _ _ _ rfl ws4.heap.size (m1.map byt ++ [.slice ra en.length rc, .int .u32 (p : Int), .int .u32 (xs.length : Int), vp, q.vs]) _ rfl rfl KZ.out HSPG.out HZPG.out HOPG.out (fun wr4 kb cb zb => ?_)
                    have KP := Lib.hid kb
                    have CP := Lib.hid (CZ.out.trans (cb.below CZ.out.size (fun k hk => by have hk : k = ws4.heap.size := hk; omega)))
                    clear kb cb
                    refine hK.out _ _ (by exact CP.out) (fun hHeld => ?_)
                    try simp only [Act.put, List.setIfInBounds_toArray, List.set_cons_zero, List.set_cons_succ]
                    clear hK
                    refine wpAnyH_done (by kernel_rfl) ?_ _
                    have PBR := Lib.hid (PBQ.out.below CP.out)
                    have XR := Lib.hid (XQ.out.below CP.out)
                    have K17R := Lib.hid (K17Q.out.below CP.out)
                    have K24R := Lib.hid (K24.out.below CP.out)
                    have HRM := Lib.hid (rep_Mt.below HRM1.out CP.out)
                    have HAP := Lib.hid (HAP1.out.below (by omega) CP.out)
                    have HVB := Lib.hid (HVB1.out.below CP.out)
                    clear K24 HRM1 HAP1 HVB1 PBQ XQ K16Q K17Q HVR CP CZ KZ hHeld hw1 hw2
                    obtain ⟨mt, hmt⟩ : ∃ m, mtId y = m := ⟨_, rfl⟩
                    have HMT := Lib.hid hmt
                    have HMTL := Lib.hid (show mt.length = 32 from by rw [← hmt]; exact mtId_length _)
                    clear hmt
                    obtain ⟨iI, hiI⟩ : ∃ i : In, i = ⟨m1, en, p, xs.length, path (Y.map leafY) p, q.sc, mt, os.length, mo, q.dp, .slice ra en.length rc, vp, q.vs⟩ := ⟨_, rfl⟩
                    have HII := Lib.hid hiI
                    have hosl : os.length ≤ 16 := by have := HN2.out; omega
                    have HIO := Lib.hid (show iI.Ok from by
                      rw [hiI]
                      exact ⟨HML.out, HMTL.out, HMOL.out, by show p < _; omega, by show xs.length < _; omega, by show os.length < _; omega, hdp, MkW.path_mem _ _ _ rfl HLD.out, Nat.le_trans (MkW.path_le _ _) HYN.out, by show en.length ≤ _; omega, hql⟩)
                    have HI1 := Lib.hid (show pgC iI = (m1.map byt ++ [.slice ra en.length rc, .int .u32 (p : Int), .int .u32 (xs.length : Int), vp, q.vs]) from by rw [hiI]; rfl)
                    have HI2 := Lib.hid (show opC iI = mt.map byt ++ [Value.int .u32 (os.length : Int)] from by rw [hiI]; rfl)
                    have HI3 := Lib.hid (show iI.ov = mo from by rw [hiI])
                    have HI4 := Lib.hid (show iI.dp = q.dp from by rw [hiI])
                    have HEW := Lib.hid (show evid Rw iI = if A < q.dp then (0, 173) else (q.va, 0) from by
                      have hr : rowL f (h1 f rt) A = Rw := by rw [HH1.out]; exact HRW.out
                      have := evid_row (f := f) (rt := rt) (A := A) (by rw [hr]; exact TW.out) iI y HYK.out HYG.out p Y HYP.out HRT.out.symm (by rw [hiI]; show m1 = _; rw [HH1.out]; exact HM1.out.symm) (by rw [hiI]; show mo = _; rw [HH1.out]; exact HMO.out.symm) (by rw [hiI]; exact HEN.out.symm) (by rw [hiI]; exact HMT.out.symm) os q.va (by rw [hiI]; exact HYO.out) (by rw [hiI]) (by rw [hiI]) (by rw [hiI]; exact HYL.out.symm) (by rw [hiI])
                      rw [hr, HI4.out] at this
                      exact this)
                    obtain ⟨ev, hev0⟩ : ∃ ev, evid Rw iI = ev := ⟨_, rfl⟩
                    obtain ⟨e1, e2⟩ := ev
                    have HEV := Lib.hid hev0
                    have HEQ := Lib.hid (show (A < q.dp → e1 = 0 ∧ e2 = 173) ∧ (¬ A < q.dp → e1 = q.va ∧ e2 = 0) from by
                      have := HEW.out
                      rw [hev0] at this
                      exact ⟨fun h => by rw [if_pos h] at this; cases this; exact ⟨rfl, rfl⟩, fun h => by rw [if_neg h] at this; cases this; exact ⟨rfl, rfl⟩⟩)
                    have HBI := Lib.hid (show bestId Rw = mo from by rw [← HRW.out, ← HH1.out, bestId_row, HH1.out]; exact HMO.out)
                    have hw3 : IntKind.i64.wrap (((os.length + 1 : Nat) : Int) - 1) = (os.length : Int) := by rw [IntKind.wrap_i64]; omega
                    have hw3' : IntKind.i64.wrap ((os.length : Int) + 1 - 1) = (os.length : Int) := by rw [IntKind.wrap_i64]; omega
                    have hw3'' : IntKind.i64.wrap (os.length : Int) = (os.length : Int) := by rw [IntKind.wrap_i64]; omega
                    have hw4 : IntKind.u32.wrap (os.length : Int) = (os.length : Int) := by rw [IntKind.wrap_u32]; omega
                    clear hiI hev0 hosl HEW
                    go_upto_region 41 with fail
                    refine wp_region_held_drew (S := (fun w' => Below wr4.heap.size wr4 w')) (by kernel_rfl) (below_drew (Below.refl _ _)) (fun hHeld => ?_)
                    refine wpAnyH_take (i := 0) (oi := ⟨_, _, _, _, _, _⟩) (v := ?_) rfl (by kernel_rfl) (by kernel_rfl) (by kernel_rfl) (fun _ _ _ h => h) (Or.inl ⟨by rfl, ?_⟩) (by assumption) ?_
                    rotate_left
                    · intro w hSw; go_simp; try (with_reducible rfl)
                    try simp only [Act.put, List.setIfInBounds_toArray, List.set_cons_zero, List.set_cons_succ]
                    refine wpAnyH_take (i := 1) (oi := ⟨_, _, _, _, _, _⟩) rfl (by kernel_rfl) (by kernel_rfl) (by kernel_rfl) (fun _ _ _ h => h) (yieldsIf_load_mid (by rfl) _ _ rfl ws4.heap.size 0 rfl (m1.map byt ++ [.slice ra en.length rc, .int .u32 (p : Int), .int .u32 (xs.length : Int), vp, q.vs]) _ (fun _ h => blk_range (KP.out.below h)) Tryz.underlying29 rfl HSPG.out) (by assumption) ?_
                    try simp only [Act.put, List.setIfInBounds_toArray, List.set_cons_zero, List.set_cons_succ]
                    refine wpAnyH_take (i := 2) (oi := ⟨_, _, _, _, _, _⟩) rfl (by kernel_rfl) (by kernel_rfl) (by kernel_rfl) (fun _ _ _ h => h) (yieldsIf_load_mid (by rfl) _ _ rfl g24 0 rfl [.int .u64 (y.1 : Int), .slice oa (os.length + 1) oc] _ (fun _ h => blk_range (K24R.out.below h)) Tryz.underlying56 rfl HS24.out) (by assumption) ?_
                    try simp only [Act.put, List.setIfInBounds_toArray, List.set_cons_zero, List.set_cons_succ]
                    refine wpAnyH_take (i := 4) (oi := ⟨_, _, _, _, _, _⟩) (v := ?_) rfl (by kernel_rfl) (by kernel_rfl) (by kernel_rfl) (fun _ _ _ h => h) (Or.inl ⟨by rfl, ?_⟩) (by assumption) ?_
                    rotate_left
                    · intro w hSw; go_simp; try (with_reducible rfl)
                    try simp only [Act.put, List.setIfInBounds_toArray, List.set_cons_zero, List.set_cons_succ]
                    refine wpAnyH_take (i := 5) (oi := ⟨_, _, _, _, _, _⟩) (v := .slice oa (os.length + 1) oc) rfl (by kernel_rfl) (by kernel_rfl) (by kernel_rfl) (fun _ _ _ h => h) (Or.inl ⟨by rfl, fun w hSw => (by have c := (K24R.out.below hSw).cell (i := 1) rfl; go_simp; try (with_reducible rfl))⟩) (by assumption) ?_
                    try simp only [Act.put, List.setIfInBounds_toArray, List.set_cons_zero, List.set_cons_succ]
                    refine wpAnyH_take (i := 6) (oi := ⟨_, _, _, _, _, _⟩) (v := ?_) rfl (by kernel_rfl) (by kernel_rfl) (by kernel_rfl) (fun _ _ _ h => h) (Or.inl ⟨by rfl, ?_⟩) (by assumption) ?_
                    rotate_left
                    · intro w hSw; go_simp; try (with_reducible rfl)
                    try simp only [Act.put, List.setIfInBounds_toArray, List.set_cons_zero, List.set_cons_succ]
                    refine wpAnyH_take (i := 7) (oi := ⟨_, _, _, _, _, _⟩) (v := ?_) rfl (by kernel_rfl) (by kernel_rfl) (by kernel_rfl) (fun _ _ _ h => h) (Or.inl ⟨by rfl, ?_⟩) (by assumption) ?_
                    rotate_left
                    · intro w hSw; go_simp; try (with_reducible rfl)
                    try simp only [Act.put, List.setIfInBounds_toArray, List.set_cons_zero, List.set_cons_succ]
                    refine wpAnyH_take (i := 8) (oi := ⟨_, _, _, _, _, _⟩) (v := ?_) rfl (by kernel_rfl) (by kernel_rfl) (by kernel_rfl) (fun _ _ _ h => h) (Or.inl ⟨by rfl, ?_⟩) (by assumption) ?_
                    rotate_left
                    · intro w hSw; go_simp; try (with_reducible rfl)
                    try simp only [Act.put, List.setIfInBounds_toArray, List.set_cons_zero, List.set_cons_succ]
                    refine wpAnyH_take (i := 10) (oi := ⟨_, _, _, _, _, _⟩) rfl (by kernel_rfl) (by kernel_rfl) (by kernel_rfl) (fun _ _ _ h => h) (yieldsIf_load_mid (by rfl) _ _ rfl g17 0 rfl (mo.map byt) _ (fun _ h => blk_range (K17R.out.below h)) Tryz.underlying24 rfl HSO.out) (by assumption) ?_
                    try simp only [Act.put, List.setIfInBounds_toArray, List.set_cons_zero, List.set_cons_succ]
                    refine wpAnyH_take (i := 11) (oi := ⟨_, _, _, _, _, _⟩) (v := ?_) rfl (by kernel_rfl) (by kernel_rfl) (by kernel_rfl) (fun _ _ _ h => h) (Or.inl ⟨by rfl, ?_⟩) (by assumption) ?_
                    rotate_left
                    · intro w hSw; go_simp; try (with_reducible rfl)
                    try simp only [Act.put, List.setIfInBounds_toArray, List.set_cons_zero, List.set_cons_succ]
                    refine wpAnyH_take (i := 12) (oi := ⟨_, _, _, _, _, _⟩) (v := .int .u64 (q.dp : Int)) rfl (by kernel_rfl) (by kernel_rfl) (by kernel_rfl) (fun _ _ _ h => h) (Or.inl ⟨by rfl, fun w hSw => (by have c := (PBR.out.below hSw).c3; go_simp; try (with_reducible rfl))⟩) (by assumption) ?_
                    try simp only [Act.put, List.setIfInBounds_toArray, List.set_cons_zero, List.set_cons_succ]
                    refine wpAnyH_ready (rs := [3]) (by kernel_rfl) (by simp) ?_
                    refine AllReadyH.cons (o := ⟨_, _, _, _, _, _⟩) rfl (fun K hK => ?_) AllReadyH.nil
                    go_simp
                    refine (rmtid_calls _ [.int .u64 (y.1 : Int), .slice oa (os.length + 1) oc] y (rep_Mt.below HRM.out hHeld) HFT.out (PBR.out.below hHeld).s).mono ?_
                    rintro e wz ⟨rfl, gz⟩
                    rw [HMT.out]
                    refine hK.out _ _ (by exact hHeld.trans (gz.mono hHeld.size)) (fun hHeld => ?_)
                    clear hK
                    try simp only [Act.put, List.setIfInBounds_toArray, List.set_cons_zero, List.set_cons_succ]
                    refine wpAnyH_take (i := 9) (oi := ⟨_, _, _, _, _, _⟩) rfl (by kernel_rfl) (by kernel_rfl) (by kernel_rfl) (fun _ _ _ h => h) (yieldsIf_build (by rfl) structOut [(0, _), (1, _)] rfl [.agg (mt.map byt).toArray, .int .u32 (os.length : Int)] rfl (by simp [Value.cells, HMTL.out]) (mt.map byt ++ [Value.int .u32 (os.length : Int)]).toArray (by simp [Value.cells])) (by assumption) ?_
                    try simp only [Act.put, List.setIfInBounds_toArray, List.set_cons_zero, List.set_cons_succ]
                    refine wpAnyH_ready (rs := [13]) (by kernel_rfl) (by simp) ?_
                    refine AllReadyH.cons (o := ⟨_, _, _, _, _, _⟩) rfl (fun K hK => ?_) AllReadyH.nil
                    go_simp
                    have hev := evid_calls t b _ Rw TW.out iI HIO.out (by rw [HII.out]; exact (HVB.out.below hHeld).any) (by rw [HII.out]; exact (HAP.out.below (by omega) hHeld).any) (by rw [HII.out]; exact (PBR.out.below hHeld).q.any) (by rw [HRWL.out]; omega) (XR.out.below hHeld) (PBR.out.below hHeld).p
                    rw [HEV.out] at hev
                    rw [HI1.out, HI2.out, HI3.out, HI4.out] at hev
                    dsimp only at hev
                    refine hev.mono ?_
                    clear hev
                    rintro e we4 ⟨rfl, gz⟩
                    refine hK.out _ _ (by exact hHeld.trans (gz.mono hHeld.size)) (fun hHeld => ?_)
                    clear hK
                    try simp only [Act.put, List.setIfInBounds_toArray, List.set_cons_zero, List.set_cons_succ]
                    refine wpAnyH_take (i := 14) (oi := ⟨_, _, _, _, _, _⟩) (v := ?_) rfl (by kernel_rfl) (by kernel_rfl) (by kernel_rfl) (fun _ _ _ h => h) (Or.inl ⟨by rfl, ?_⟩) (by assumption) ?_
                    rotate_left
                    · intro w hSw; go_simp; try (with_reducible rfl)
                    try simp only [Act.put, List.setIfInBounds_toArray, List.set_cons_zero, List.set_cons_succ]
                    refine wpAnyH_take (i := 15) (oi := ⟨_, _, _, _, _, _⟩) (v := ?_) rfl (by kernel_rfl) (by kernel_rfl) (by kernel_rfl) (fun _ _ _ h => h) (Or.inl ⟨by rfl, ?_⟩) (by assumption) ?_
                    rotate_left
                    · intro w hSw; go_simp; try (with_reducible rfl)
                    try simp only [Act.put, List.setIfInBounds_toArray, List.set_cons_zero, List.set_cons_succ]
                    refine wpAnyH_take (i := 16) (oi := ⟨_, _, _, _, _, _⟩) (v := ?_) rfl (by kernel_rfl) (by kernel_rfl) (by kernel_rfl) (fun _ _ _ h => h) (Or.inl ⟨by rfl, ?_⟩) (by assumption) ?_
                    rotate_left
                    · intro w hSw; go_simp; try (with_reducible rfl)
                    try simp only [Act.put, List.setIfInBounds_toArray, List.set_cons_zero, List.set_cons_succ]
                    refine wpAnyH_take (i := 17) (oi := ⟨_, _, _, _, _, _⟩) (v := ?_) rfl (by kernel_rfl) (by kernel_rfl) (by kernel_rfl) (fun _ _ _ h => h) (Or.inl ⟨by rfl, ?_⟩) (by assumption) ?_
                    rotate_left
                    · intro w hSw; go_simp; try (with_reducible rfl)
                    try simp only [Act.put, List.setIfInBounds_toArray, List.set_cons_zero, List.set_cons_succ]
                    refine wpAnyH_take (i := 18) (oi := ⟨_, _, _, _, _, _⟩) (v := ?_) rfl (by kernel_rfl) (by kernel_rfl) (by kernel_rfl) (fun _ _ _ h => h) (Or.inl ⟨by rfl, ?_⟩) (by assumption) ?_
                    rotate_left
                    · intro w hSw; go_simp; try (with_reducible rfl)
                    try simp only [Act.put, List.setIfInBounds_toArray, List.set_cons_zero, List.set_cons_succ]
                    refine wpAnyH_done (by kernel_rfl) ?_ _
                    have PBE := Lib.hid (PBR.out.below hHeld)
                    have XE := Lib.hid (XR.out.below hHeld)
                    have K17E := Lib.hid (K17R.out.below hHeld)
                    clear PBR XR K17R hw3 hw3' hw3'' hw4
                    have c3 := PBE.out.c3
                    have c1 := PBE.out.c1
                    rw [hAb] at c1
                    have hw5 : IntKind.u64.wrap (A : Int) = (A : Int) := by rw [IntKind.wrap_u64]; omega
                    by_cases hdA : A < q.dp
                    · have hdI : (A : Int) < (q.dp : Int) := by omega
                      obtain ⟨rfl, rfl⟩ := HEQ.out.1 hdA
                      go_wp2
                      go_ret
                      exact ⟨rfl, PBE.out.bl⟩
                    · have hdI : ¬ (A : Int) < (q.dp : Int) := by omega
                      obtain ⟨rfl, rfl⟩ := HEQ.out.2 hdA
                      have hq : ∀ w, (Op.equalIn 10000 24 (.agg (mo.map byt).toArray) (.agg (mo.map byt).toArray)).run Tryz.prog w = .ok true w := fun w => by rw [run_equal_u8 Tryz.underlying24 (i := _) rfl (by kernel_rfl) Tryz.underlying5 w mo mo HMOL.out HMOL.out]; simp
                      go_upto_region 44 with fail
                      clear c1 c3 hw5
                      refine wp_region_held_drew (S := (fun w' => Below we4.heap.size we4 w')) (by kernel_rfl) (below_drew (Below.refl _ _)) (fun hHeld => ?_)
                      refine wpAnyH_take (i := 0) (oi := ⟨_, _, _, _, _, _⟩) (v := ?_) rfl (by kernel_rfl) (by kernel_rfl) (by kernel_rfl) (fun _ _ _ h => h) (Or.inl ⟨by rfl, ?_⟩) (by assumption) ?_
                      rotate_left
                      · intro w hSw; go_simp; try (with_reducible rfl)
                      try simp only [Act.put, List.setIfInBounds_toArray, List.set_cons_zero, List.set_cons_succ]
                      refine wpAnyH_take (i := 1) (oi := ⟨_, _, _, _, _, _⟩) (v := ?_) rfl (by kernel_rfl) (by kernel_rfl) (by kernel_rfl) (fun _ _ _ h => h) (Or.inl ⟨by rfl, ?_⟩) (by assumption) ?_
                      rotate_left
                      · intro w hSw; go_simp; try (with_reducible rfl)
                      try simp only [Act.put, List.setIfInBounds_toArray, List.set_cons_zero, List.set_cons_succ]
                      refine wpAnyH_take (i := 2) (oi := ⟨_, _, _, _, _, _⟩) (v := .int .u64 (q.va : Int)) rfl (by kernel_rfl) (by kernel_rfl) (by kernel_rfl) (fun _ _ _ h => h) (Or.inl ⟨by rfl, fun w hSw => (by have c := (PBE.out.below hSw).c2; go_simp; try (with_reducible rfl))⟩) (by assumption) ?_
                      try simp only [Act.put, List.setIfInBounds_toArray, List.set_cons_zero, List.set_cons_succ]
                      refine wpAnyH_take (i := 3) (oi := ⟨_, _, _, _, _, _⟩) (v := ?_) rfl (by kernel_rfl) (by kernel_rfl) (by kernel_rfl) (fun _ _ _ h => h) (Or.inl ⟨by rfl, ?_⟩) (by assumption) ?_
                      rotate_left
                      · intro w hSw; go_simp; try (with_reducible rfl)
                      try simp only [Act.put, List.setIfInBounds_toArray, List.set_cons_zero, List.set_cons_succ]
                      refine wpAnyH_take (i := 4) (oi := ⟨_, _, _, _, _, _⟩) (v := ?_) rfl (by kernel_rfl) (by kernel_rfl) (by kernel_rfl) (fun _ _ _ h => h) (Or.inl ⟨by rfl, ?_⟩) (by assumption) ?_
                      rotate_left
                      · intro w hSw; go_simp; try (with_reducible rfl)
                      try simp only [Act.put, List.setIfInBounds_toArray, List.set_cons_zero, List.set_cons_succ]
                      refine wpAnyH_take (i := 5) (oi := ⟨_, _, _, _, _, _⟩) (v := ?_) rfl (by kernel_rfl) (by kernel_rfl) (by kernel_rfl) (fun _ _ _ h => h) (Or.inl ⟨by rfl, ?_⟩) (by assumption) ?_
                      rotate_left
                      · intro w hSw; go_simp; try (with_reducible rfl)
                      try simp only [Act.put, List.setIfInBounds_toArray, List.set_cons_zero, List.set_cons_succ]
                      refine wpAnyH_take (i := 6) (oi := ⟨_, _, _, _, _, _⟩) (v := ?_) rfl (by kernel_rfl) (by kernel_rfl) (by kernel_rfl) (fun _ _ _ h => h) (Or.inl ⟨by rfl, ?_⟩) (by assumption) ?_
                      rotate_left
                      · intro w hSw; go_simp; try (with_reducible rfl)
                      try simp only [Act.put, List.setIfInBounds_toArray, List.set_cons_zero, List.set_cons_succ]
                      refine wpAnyH_take (i := 7) (oi := ⟨_, _, _, _, _, _⟩) (v := ?_) rfl (by kernel_rfl) (by kernel_rfl) (by kernel_rfl) (fun _ _ _ h => h) (Or.inl ⟨by rfl, ?_⟩) (by assumption) ?_
                      rotate_left
                      · intro w hSw; go_simp; try (with_reducible rfl)
                      try simp only [Act.put, List.setIfInBounds_toArray, List.set_cons_zero, List.set_cons_succ]
                      refine wpAnyH_take (i := 8) (oi := ⟨_, _, _, _, _, _⟩) (v := ?_) rfl (by kernel_rfl) (by kernel_rfl) (by kernel_rfl) (fun _ _ _ h => h) (Or.inl ⟨by rfl, ?_⟩) (by assumption) ?_
                      rotate_left
                      · intro w hSw; go_simp; try (with_reducible rfl)
                      try simp only [Act.put, List.setIfInBounds_toArray, List.set_cons_zero, List.set_cons_succ]
                      refine wpAnyH_take (i := 9) (oi := ⟨_, _, _, _, _, _⟩) (v := ?_) rfl (by kernel_rfl) (by kernel_rfl) (by kernel_rfl) (fun _ _ _ h => h) (Or.inl ⟨by rfl, ?_⟩) (by assumption) ?_
                      rotate_left
                      · intro w hSw; go_simp; try (with_reducible rfl)
                      try simp only [Act.put, List.setIfInBounds_toArray, List.set_cons_zero, List.set_cons_succ]
                      refine wpAnyH_take (i := 11) (oi := ⟨_, _, _, _, _, _⟩) rfl (by kernel_rfl) (by kernel_rfl) (by kernel_rfl) (fun _ _ _ h => h) (yieldsIf_load_mid (by rfl) _ _ rfl g17 0 rfl (mo.map byt) _ (fun _ h => blk_range (K17E.out.below h)) Tryz.underlying24 rfl HSO.out) (by assumption) ?_
                      try simp only [Act.put, List.setIfInBounds_toArray, List.set_cons_zero, List.set_cons_succ]
                      refine wpAnyH_ready (rs := [10]) (by kernel_rfl) (by simp) ?_
                      refine AllReadyH.cons (o := ⟨_, _, _, _, _, _⟩) rfl (fun K hK => ?_) AllReadyH.nil
                      go_simp
                      refine (best_calls _ t b Rw (XE.out.below hHeld)).mono ?_
                      rintro e wz ⟨rfl, gz⟩
                      rw [HBI.out]
                      refine hK.out _ _ (by exact hHeld.trans (gz.mono hHeld.size)) (fun hHeld => ?_)
                      clear hK
                      try simp only [Act.put, List.setIfInBounds_toArray, List.set_cons_zero, List.set_cons_succ]
                      refine wpAnyH_take (i := 12) (oi := ⟨_, _, _, _, _, _⟩) (v := ?_) rfl (by kernel_rfl) (by kernel_rfl) (by kernel_rfl) (fun _ _ _ h => h) (Or.inl ⟨by rfl, ?_⟩) (by assumption) ?_
                      rotate_left
                      · intro w hSw; go_simp; try (with_reducible rfl)
                      try simp only [Act.put, List.setIfInBounds_toArray, List.set_cons_zero, List.set_cons_succ]
                      refine wpAnyH_take (i := 13) (oi := ⟨_, _, _, _, _, _⟩) (v := ?_) rfl (by kernel_rfl) (by kernel_rfl) (by kernel_rfl) (fun _ _ _ h => h) (Or.inl ⟨by rfl, ?_⟩) (by assumption) ?_
                      rotate_left
                      · intro w hSw; go_simp; try (with_reducible rfl)
                      try simp only [Act.put, List.setIfInBounds_toArray, List.set_cons_zero, List.set_cons_succ]
                      refine wpAnyH_take (i := 14) (oi := ⟨_, _, _, _, _, _⟩) (v := ?_) rfl (by kernel_rfl) (by kernel_rfl) (by kernel_rfl) (fun _ _ _ h => h) (Or.inl ⟨by rfl, ?_⟩) (by assumption) ?_
                      rotate_left
                      · intro w hSw; go_simp; try (with_reducible rfl)
                      try simp only [Act.put, List.setIfInBounds_toArray, List.set_cons_zero, List.set_cons_succ]
                      refine wpAnyH_done (by kernel_rfl) ?_ _
                      go_wp2
                      go_ret
                      exact ⟨rfl, PBE.out.bl.trans (hHeld.mono PBE.out.bl.size)⟩
              · go_wp2
                go_ret
                exact ⟨rfl, PBT.out.bl⟩
end Go.Proofs.YtmenchnjajpkmaaGreatDoor.Pv
end
