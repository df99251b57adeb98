/- The walk of the way up, from a leaf to the root. Conditions: at most 2^40 digests on the way; the table is laid. Walks of Check, the program's. Conditions: at most 2^42 digests on the way; the table is laid. -/
import Derived.Test.YtmenchnjajpkmaaGreatDoorEvil
section
namespace Go.Proofs.YtmenchnjajpkmaaGreatDoor.MkW
open Go Go.RowKit Mem Sha ShaW Mk Arr Row
set_option linter.unusedVariables false

set_option maxRecDepth 100000 in
theorem elemP : ElemT Tryz.prog 107 139 (.agg #[.int .u8 0, .int .u8 0, .int .u8 0, .int .u8 0, .int .u8 0, .int .u8 0, .int .u8 0, .int .u8 0, .int .u8 0, .int .u8 0, .int .u8 0, .int .u8 0, .int .u8 0, .int .u8 0, .int .u8 0, .int .u8 0, .int .u8 0, .int .u8 0, .int .u8 0, .int .u8 0, .int .u8 0, .int .u8 0, .int .u8 0, .int .u8 0, .int .u8 0, .int .u8 0, .int .u8 0, .int .u8 0, .int .u8 0, .int .u8 0, .int .u8 0, .int .u8 0, .int .u8 0, .int .u8 0, .int .u8 0, .int .u8 0, .int .u8 0, .int .u8 0, .int .u8 0, .int .u8 0, .int .u8 0, .int .u8 0, .int .u8 0, .int .u8 0, .int .u8 0, .int .u8 0, .int .u8 0, .int .u8 0, .int .u8 0, .int .u8 0, .int .u8 0, .int .u8 0, .int .u8 0, .int .u8 0, .int .u8 0, .int .u8 0, .int .u8 0, .int .u8 0, .int .u8 0, .int .u8 0, .int .u8 0, .int .u8 0, .int .u8 0, .int .u8 0]) 64 64 := ⟨Tryz.underlying107, ⟨_, rfl, rfl, rfl, rfl⟩, rfl, by omega⟩
set_option maxRecDepth 100000 in
theorem strP : StructT Tryz.prog 139 [32, 32] := ⟨_, _, _, rfl, Tryz.underlying139, rfl, by kernel_rfl, by kernel_rfl⟩
theorem szP : (Tryz.prog.info? 139).map (·.size) = some 64 := by kernel_rfl
abbrev pcs (l : List (Dg × Dg)) : List (List Value) := l.map (fun x => x.1.map byt ++ x.2.map byt)
theorem topOf_take (leaf : Dg) (ss : List Bool) (ds : List Dg) (k : Nat) (h1 : k < ss.length) (h2 : k < ds.length) : topOf leaf (ss.take (k + 1)) (ds.take (k + 1)) = nodeP (pairOf (topOf leaf (ss.take k) (ds.take k)) (ds[k]'h2) (ss[k]'h1)) := by
  rw [List.take_add_one, List.take_add_one, List.getElem?_eq_getElem h1, List.getElem?_eq_getElem h2]
  exact topOf_snoc leaf _ _ _ _ (by simp; omega)
theorem ups_snoc : ∀ (leaf : Dg) (ss : List Bool) (ds : List Dg) (s : Bool) (d : Dg), ss.length = ds.length → ups leaf (ss ++ [s]) (ds ++ [d]) = ups leaf ss ds ++ [pairOf (topOf leaf ss ds) d s]
  | leaf, [], [], s, d, _ => rfl
  | leaf, a :: ss, b :: ds, s, d, h => by
    simp only [List.cons_append, topOf, ups]
    rw [ups_snoc _ ss ds s d (by simpa using h)]
  | _, [], _ :: _, _, _, h => by simp at h
  | _, _ :: _, [], _, _, h => by simp at h
theorem ups_take (leaf : Dg) (ss : List Bool) (ds : List Dg) (k : Nat) (h1 : k < ss.length) (h2 : k < ds.length) : ups leaf (ss.take (k + 1)) (ds.take (k + 1)) = ups leaf (ss.take k) (ds.take k) ++ [pairOf (topOf leaf (ss.take k) (ds.take k)) (ds[k]'h2) (ss[k]'h1)] := by
  rw [List.take_add_one, List.take_add_one, List.getElem?_eq_getElem h1, List.getElem?_eq_getElem h2]
  exact ups_snoc leaf _ _ _ _ (by simp; omega)
theorem ups_length : ∀ (leaf : Dg) (ss : List Bool) (ds : List Dg), (ups leaf ss ds).length ≤ ds.length
  | _, [], _ => by simp [ups]
  | _, _ :: _, [] => by simp [ups]
  | leaf, s :: ss, d :: ds => by simp only [ups, List.length_cons]; have := ups_length (nodeP (pairOf leaf d s)) ss ds; omega
theorem results_tct {P : Program} {fn : Func} {p u v : Tmp} {ty : TypeId} (h : fn.results = #[.tmp u, .cell p ty, .tmp v]) (tmps : Array Value) (w : World) (g : Nat) (t : TypeId) (l : List Value) (d : TypeDesc)
    (hp : tmps.getD p undef = .pointer (some ⟨g, 0, none⟩)) (hB : Blk w g l t) (hu : P.underlying ty = some d) (hd : (match d with | .struct _ | .array _ _ => true | _ => false) = true) (hi : (P.info? ty).map (·.size) = some l.length) :
    (results fn tmps).run P w = .ok (.tuple #[tmps.getD u undef, .agg l.toArray, tmps.getD v undef]) w := by
  have hl := run_loadVar_row (P := P) w g t ty l.toArray (0, 0) d hB hu hd (by simpa using hi)
  have hp' : tmps[p]?.getD undef = .pointer (some ⟨g, 0, none⟩) := by simpa using hp
  simp only [results, h]
  simp [asAddr, hp', hl, Result.andThen]
/-- what the way up keeps from round to round -/
structure RI (w : World) (B2 : Nat) (tab : Nat) (va : Option Addr) (n1 : Nat) (ds : List Dg) (vs : Option Addr) (n2 : Nat) (ssr : List Bool) (cur : Dg) (vu : Value) (upl : List (Dg × Dg)) (wx : World) : Prop where
  g4 : Blk wx w.heap.size (cur.map byt) 24
  g9 : Blk wx (w.heap.size + 1) (List.replicate 32 (.int .u8 0)) 24
  o : OwnA 64 B2 139 wx vu (pcs upl)
  ap : Arr 32 (fun b => b < w.heap.size) wx (.slice va ds.length n1) (dcs ds)
  as' : Arr 1 (fun b => w.heap.size + 2 ≤ b ∧ b < B2) wx (.slice vs ssr.length n2) (bcs ssr)
  b : Below w.heap.size w wx
  t : TabB wx tab
  h : tab < w.heap.size
  hB : w.heap.size + 2 ≤ B2 ∧ B2 ≤ wx.heap.size
  hc : cur.length = 32
theorem new64 (w : World) : Blk (w.alloc (.cells #[.int .u8 0, .int .u8 0, .int .u8 0, .int .u8 0, .int .u8 0, .int .u8 0, .int .u8 0, .int .u8 0, .int .u8 0, .int .u8 0, .int .u8 0, .int .u8 0, .int .u8 0, .int .u8 0, .int .u8 0, .int .u8 0, .int .u8 0, .int .u8 0, .int .u8 0, .int .u8 0, .int .u8 0, .int .u8 0, .int .u8 0, .int .u8 0, .int .u8 0, .int .u8 0, .int .u8 0, .int .u8 0, .int .u8 0, .int .u8 0, .int .u8 0, .int .u8 0, .int .u8 0, .int .u8 0, .int .u8 0, .int .u8 0, .int .u8 0, .int .u8 0, .int .u8 0, .int .u8 0, .int .u8 0, .int .u8 0, .int .u8 0, .int .u8 0, .int .u8 0, .int .u8 0, .int .u8 0, .int .u8 0, .int .u8 0, .int .u8 0, .int .u8 0, .int .u8 0, .int .u8 0, .int .u8 0, .int .u8 0, .int .u8 0, .int .u8 0, .int .u8 0, .int .u8 0, .int .u8 0, .int .u8 0, .int .u8 0, .int .u8 0, .int .u8 0] 139)) w.heap.size (List.replicate 64 (.int .u8 0)) 139 := Blk.new w _ _ _ rfl

set_option maxHeartbeats 16000000 in
set_option maxRecDepth 100000 in
theorem rise_calls (w : World) (leaf : Dg) (p n : Nat) (vp : Value) (ds : List Dg) (hA : Arr 32 Any w vp (dcs ds)) (hD : ∀ d ∈ ds, d.length = 32) (hl : leaf.length = 32) (hT : TabB w 1) (hn : n < 4294967296) (hp : p < n) (hlen : (sides p n).length = ds.length) :
    Calls Tryz.prog 49 #[dv leaf, .int .u32 (p : Int), .int .u32 (n : Int), vp] w fun e w' => ∃ v, e = .returned (.tuple #[v, dv (topOf leaf (sides p n).reverse ds), .bool true]) ∧ Arr 64 (fun b => w.heap.size ≤ b) w' v (pcs (ups leaf (sides p n).reverse ds)) ∧ Below w.heap.size w w' := by
  obtain ⟨va, n1, rfl, hk1, hk2, hk3⟩ := hA.form
  simp only [List.length_map] at hA hk1 ⊢
  have hdl : ds.length ≤ 4294967296 := by have := sides_le n p; omega
  have HTL := Lib.hid (show 1 < w.heap.size from (Array.getElem?_eq_some_iff.1 hT.choose_spec.choose_spec).1)
  obtain ⟨W, hW, k4, k9, kb, ks⟩ : ∃ W, (w.alloc (.cells (leaf.map byt).toArray 24)).alloc (.cells #[.int .u8 0, .int .u8 0, .int .u8 0, .int .u8 0, .int .u8 0, .int .u8 0, .int .u8 0, .int .u8 0, .int .u8 0, .int .u8 0, .int .u8 0, .int .u8 0, .int .u8 0, .int .u8 0, .int .u8 0, .int .u8 0, .int .u8 0, .int .u8 0, .int .u8 0, .int .u8 0, .int .u8 0, .int .u8 0, .int .u8 0, .int .u8 0, .int .u8 0, .int .u8 0, .int .u8 0, .int .u8 0, .int .u8 0, .int .u8 0, .int .u8 0, .int .u8 0] 24) = W ∧ Hid (Blk W w.heap.size (leaf.map byt) 24) ∧ Hid (Blk W (w.heap.size + 1) (List.replicate 32 (.int .u8 0)) 24) ∧ Hid (Below w.heap.size w W) ∧ w.heap.size + 2 ≤ W.heap.size := by
    refine ⟨_, rfl, Lib.hid ((Blk.new w _ _ _ rfl).alloc _), Lib.hid ?_, Lib.hid (((Below.refl _ _).alloc (Nat.le_refl _) _).alloc (by simp) _), by simp⟩
    have := new32 (w.alloc (.cells (leaf.map byt).toArray 24))
    rwa [World.size_alloc] at this
  have HA := Lib.hid ((hA.mono (E := fun b => b < w.heap.size) (by omega) (fun b h _ => h)).below (by omega) kb.out)
  have HT := Lib.hid (hT.below kb.out)
  have HD := Lib.hid hD
  have HLF := Lib.hid hl
  have hpI : (p : Int) < (n : Int) := by omega
  have hpB : decide (n ≤ p) = false := by simp; omega
  have hw1 : IntKind.i64.wrap (p : Int) = (p : Int) := IntWalk.i64_in _ (by omega)
  have hw2 : IntKind.i64.wrap (n : Int) = (n : Int) := IntWalk.i64_in _ (by omega)
  have HLEN := Lib.hid hlen
  clear hA hT hD hl hlen
  go_enter Tryz.func49, Tryz.ntmps49
  go_wp2_with fail
  clear hW
  refine (sides_calls W p n hn hp).mono ?_
  rintro e w3 ⟨vs0, rfl, g1, g2⟩
  obtain ⟨vs, n2, rfl, _⟩ := g1.form
  obtain ⟨ssr, hss⟩ : ∃ l, sides p n = l := ⟨_, rfl⟩
  rw [hss] at g1 HLEN ⊢
  simp only [List.length_map] at g1 ⊢
  have hs3 := g2.size
  obtain ⟨B2, hB2⟩ : ∃ B, w3.heap.size = B := ⟨_, rfl⟩
  have HI0 := Lib.hid (show RI w B2 1 va n1 ds vs n2 ssr leaf (.slice none 0 0) [] w3 from
    ⟨k4.out.below g2, k9.out.below g2, OwnA.nil _ _ _ _, HA.out.below (by omega) g2, g1.mono (by omega) (fun b h1 h2 => ⟨by omega, by omega⟩), kb.out.trans (g2.mono (by omega)), HT.out.below g2, HTL.out, ⟨by omega, by omega⟩, HLF.out⟩)
  have HSS := Lib.hid hss
  have hle := Nat.le_of_eq HLEN.out
  have hge := Nat.le_of_eq HLEN.out.symm
  have hlB : ((ssr.length : Int) != (ds.length : Int)) = false := by have := HLEN.out; simp; omega
  clear hss g1 g2 hw1 hw2 HLEN hB2
  go_wp2
  go_loopw [12, 33] (fun s12 s33 wx => ∃ (k : Nat) (cur : Dg) (upl : List (Dg × Dg)), k ≤ ds.length ∧ s33 = .int .i64 (k : Int) ∧ topOf leaf (ssr.reverse.take k) (ds.take k) = cur ∧ ups leaf (ssr.reverse.take k) (ds.take k) = upl ∧ RI w B2 1 va n1 ds vs n2 ssr cur s12 upl wx) (fun _ s33 _ => ds.length - (intOf s33).toNat)
  case atStart => exact ⟨0, leaf, [], Nat.zero_le _, rfl, by simp [topOf], by simp [ups], HI0.out⟩
  case round =>
    obtain ⟨k, cur, upl, hk, rfl, hcur, hupl, hI⟩ := hrel
    obtain ⟨ua, uc, rfl, _⟩ := hI.o.form
    simp only [List.length_map] at hI ⊢
    have hul : upl.length ≤ ds.length := by rw [← hupl]; exact Nat.le_trans (ups_length _ _ _) (by simp; omega)
    have HI := Lib.hid hI
    have HCUR := Lib.hid hcur
    have HUPL := Lib.hid hupl
    have hsr := hI.hB
    have HCL := Lib.hid hI.hc
    by_cases hlt : k < ds.length
    · have hltI : (k : Int) < (ds.length : Int) := by omega
      have h0I : (0 : Int) ≤ (k : Int) := by omega
      have hks : k < ssr.reverse.length := by simp; omega
      have hkd : k < ds.length := hlt
      obtain ⟨b1, o1, q1, e1, hb1, r1⟩ := hI.ap.at k (by simp; omega)
      simp only [List.length_map, Value.slice.injEq] at e1
      obtain ⟨rfl, _, rfl⟩ := e1
      obtain ⟨d, hd⟩ : ∃ x, ds[k]'hkd = x := ⟨_, rfl⟩
      simp only [List.getElem_map, hd] at r1
      have HDK := Lib.hid hd
      have HDL := Lib.hid (show d.length = 32 by rw [← hd]; exact HD.out _ (List.getElem_mem _))
      have HR1 := Lib.hid r1
      obtain ⟨W1, hW1, N1, NB1, ns1⟩ := start32 wr
      have HOD := Lib.hid (one_cells d)
      clear hI hcur hupl hd r1
      go_upto_region 10 with (first
        | (with_reducible refine wpList_load_mid rfl _ _ rfl b1 (o1 + k * 32) rfl (d.map byt) _ HR1.out Tryz.underlying24 rfl (szD' HDL.out) ?_)
        | (with_reducible refine wpList_store_blk rfl _ _ _ rfl wr.heap.size (d.map byt) _ rfl _ rfl rfl N1.out (szD' HDL.out) (by simp [HDL.out]) HOD.out ?_))
      clear hW1
      have N2 := Lib.hid (N1.out.row (d.map byt))
      have NB2 := Lib.hid (below_setRow NB1.out (Nat.le_refl _) (d.map byt).toArray)
      obtain ⟨w1, hw1⟩ : ∃ x, W1.setRow wr.heap.size (d.map byt).toArray = x := ⟨_, rfl⟩
      rw [hw1] at N2 NB2 ⊢
      have ns2 : wr.heap.size + 1 ≤ w1.heap.size := by rw [← hw1]; simp; omega
      clear hw1 N1 NB1 HR1
      generalize hg14 : wr.heap.size = g14 at *
      have HG14 := Lib.hid hg14
      have HB1 := Lib.hid (show Below wr.heap.size wr w1 by rw [hg14]; exact NB2.out)
      clear hg14 NB2
      have H4a := Lib.hid (HI.out.g4.below HB1.out)
      have N64 := Lib.hid (new64 w1)
      obtain ⟨W2, hW2⟩ : ∃ x, w1.alloc (.cells #[.int .u8 0, .int .u8 0, .int .u8 0, .int .u8 0, .int .u8 0, .int .u8 0, .int .u8 0, .int .u8 0, .int .u8 0, .int .u8 0, .int .u8 0, .int .u8 0, .int .u8 0, .int .u8 0, .int .u8 0, .int .u8 0, .int .u8 0, .int .u8 0, .int .u8 0, .int .u8 0, .int .u8 0, .int .u8 0, .int .u8 0, .int .u8 0, .int .u8 0, .int .u8 0, .int .u8 0, .int .u8 0, .int .u8 0, .int .u8 0, .int .u8 0, .int .u8 0, .int .u8 0, .int .u8 0, .int .u8 0, .int .u8 0, .int .u8 0, .int .u8 0, .int .u8 0, .int .u8 0, .int .u8 0, .int .u8 0, .int .u8 0, .int .u8 0, .int .u8 0, .int .u8 0, .int .u8 0, .int .u8 0, .int .u8 0, .int .u8 0, .int .u8 0, .int .u8 0, .int .u8 0, .int .u8 0, .int .u8 0, .int .u8 0, .int .u8 0, .int .u8 0, .int .u8 0, .int .u8 0, .int .u8 0, .int .u8 0, .int .u8 0, .int .u8 0] 139) = x := ⟨_, rfl⟩
      rw [hW2] at N64
      have HW2 := Lib.hid (show Below w1.heap.size w1 W2 by rw [← hW2]; exact (Below.refl _ _).alloc (Nat.le_refl _) _)
      have hs2 : w1.heap.size + 1 ≤ W2.heap.size := by rw [← hW2]; simp
      obtain ⟨cs0, hcs0⟩ : ∃ c, cur.map byt ++ d.map byt = c := ⟨_, rfl⟩
      have HC0 := Lib.hid hcs0
      have HCL0 := Lib.hid (show cs0.length = 64 by rw [← hcs0]; simp [HCL.out, HDL.out])
      have HCO0 := Lib.hid (show ∀ v ∈ cs0, v.oneCell' = true by rw [← hcs0]; intro v hv; rcases List.mem_append.1 hv with hv | hv <;> (obtain ⟨u, _, rfl⟩ := List.mem_map.1 hv; rfl))
      have HSC0 := Lib.hid (show (Tryz.prog.info? 139).map (·.size) = some cs0.length from szP.trans (by rw [HCL0.out]))
      have HLM := Lib.hid (show (cur.map byt).length = 32 by rw [List.length_map]; exact HCL.out)
      have HLD := Lib.hid (show (d.map byt).length = 32 by rw [List.length_map]; exact HDL.out)
      go_upto_region 11 with (first
        | (with_reducible refine wpList_load_cs (by with_unfolding_all rfl) _ _ rfl w.heap.size _ rfl H4a.out _ Tryz.underlying24 rfl (szD' HCL.out) _ rfl ?_)
        | (with_reducible refine wpList_load_cs (by with_unfolding_all rfl) _ _ rfl g14 _ rfl N2.out _ Tryz.underlying24 rfl (szD' HDL.out) _ rfl ?_)
        | (with_reducible refine wpList_build2 _ rfl strP _ _ rfl (cur.map byt) (d.map byt) rfl rfl HLM.out HLD.out ?_)
        | (with_reducible refine wpList_store_blk rfl _ _ _ rfl w1.heap.size cs0 _ rfl _ rfl rfl N64.out HSC0.out (by simp [HCL0.out]) HCO0.out ?_))
      have hf2 := (Fr.refl (fun b => b = w1.heap.size) W2).setRow (.inr rfl) cs0.toArray
      obtain ⟨w2, hw2⟩ : ∃ x, W2.setRow w1.heap.size cs0.toArray = x := ⟨_, rfl⟩
      have P2 := Lib.hid (show Blk w2 w1.heap.size cs0 139 by rw [← hw2]; exact N64.out.row cs0)
      have HB2' := Lib.hid (show Below w1.heap.size w1 w2 by rw [← hw2]; exact below_setRow HW2.out (Nat.le_refl _) _)
      have hs2' : w1.heap.size + 1 ≤ w2.heap.size := by rw [← hw2]; simp; omega
      have hsw1 : wr.heap.size ≤ w1.heap.size := HB1.out.size
      rw [hw2]
      clear hW2 hw2 hf2 N64 HW2 hcs0
      have HBr2 := Lib.hid (HB1.out.trans (HB2'.out.mono hsw1))
      obtain ⟨g15, hg15⟩ : ∃ g, w1.heap.size = g := ⟨_, rfl⟩
      rw [hg15] at P2 hs2' hsw1 ⊢
      have HG15 := Lib.hid hg15
      have N2' := Lib.hid (N2.out.below (by rw [hg15]; rw [hg15] at HB2'; exact HB2'.out))
      have hlt14 : g14 < g15 := by omega
      clear hg15 HB2'
      obtain ⟨sb, so, sq, e2, hsb, r2⟩ := HI.out.as'.at (ssr.length - 1 - k) (by simp; omega)
      simp only [List.length_map, Value.slice.injEq] at e2
      obtain ⟨rfl, _, rfl⟩ := e2
      have hkr : ssr.length - 1 - k < ssr.length := by omega
      have hbb : ssr.reverse[k]'hks = ssr[ssr.length - 1 - k]'hkr := by rw [List.getElem_reverse]
      have hcell := (rangeAt_fr r2 (Fr.ofBelow HBr2.out) (by have := HG14.out; omega)) 0 (.bool (ssr[ssr.length - 1 - k]'hkr)) (by simp)
      rw [Nat.add_zero, Nat.mul_one] at hcell
      obtain ⟨j, hj⟩ : ∃ j, ssr.length - 1 - k = j := ⟨_, rfl⟩
      have hjI : (ssr.length : Int) - 1 - (k : Int) = (j : Int) := by omega
      have hjn : (j : Int) < (ssr.length : Int) := by omega
      have hj0 : (0 : Int) ≤ (j : Int) := by omega
      obtain ⟨bv, hbv⟩ : ∃ b, ssr[ssr.length - 1 - k]'hkr = b := ⟨_, rfl⟩
      rw [hbv, hj] at hcell
      rw [hbv] at hbb
      clear hbv r2 hj
      by_cases hbt : bv = true
      · have hside : ssr.reverse[k]'hks = true := by rw [hbb]; exact hbt
        rw [hbt] at hcell
        clear hbb hbt
        have HLM2 := HLM
        obtain ⟨cs, hcs⟩ : ∃ c, d.map byt ++ cur.map byt = c := ⟨_, rfl⟩
        have HCC := Lib.hid hcs
        have HCL1 := Lib.hid (show cs.length = 64 by rw [← hcs]; simp [HCL.out, HDL.out])
        have HCO1 := Lib.hid (show ∀ v ∈ cs, v.oneCell' = true by rw [← hcs]; intro v hv; rcases List.mem_append.1 hv with hv | hv <;> (obtain ⟨u, _, rfl⟩ := List.mem_map.1 hv; rfl))
        have HSC1 := Lib.hid (show (Tryz.prog.info? 139).map (·.size) = some cs.length from szP.trans (by rw [HCL1.out]))
        have H4b := Lib.hid (HI.out.g4.below HBr2.out)
        have HCE := Lib.hid (show (d.map byt ++ cur.map byt).toArray = cs.toArray by rw [HCC.out])
        have HLL := Lib.hid (show cs0.length = cs.length by rw [HCL0.out, HCL1.out])
        have hfr := (Fr.refl (fun b => b = g15) w2).setRow (.inr rfl) cs.toArray
        obtain ⟨w3, hw3⟩ : ∃ x, w2.setRow g15 cs.toArray = x := ⟨_, rfl⟩
        have HP3 := Lib.hid (show Blk w3 g15 cs 139 by rw [← hw3]; exact P2.out.row cs)
        have HB3 := Lib.hid (show Below wr.heap.size wr w3 by rw [← hw3]; exact below_setRow HBr2.out (by have := HG14.out; omega) _)
        have hs3' : g15 + 1 ≤ w3.heap.size := by rw [← hw3]; simp; omega
        clear hfr
        go_upto_region 13 with (first
          | (with_reducible refine wpList_load_cs (by with_unfolding_all rfl) _ _ rfl w.heap.size _ rfl H4b.out _ Tryz.underlying24 rfl (szD' HCL.out) _ rfl ?_)
          | (with_reducible refine wpList_load_cs (by with_unfolding_all rfl) _ _ rfl g14 _ rfl N2'.out _ Tryz.underlying24 rfl (szD' HDL.out) _ rfl ?_)
          | (with_reducible refine wpList_build2 _ rfl strP _ _ rfl (d.map byt) (cur.map byt) rfl rfl HLD.out HLM.out ?_)
          | (with_reducible refine wpList_store_blk rfl _ _ _ rfl g15 cs _ rfl _ rfl HCE.out P2.out HSC1.out HLL.out HCO1.out ?_))
        rw [hw3]
        clear hcs hw3
        have HPR := Lib.hid (show pairOf cur d (ssr.reverse[k]'hks) = (d, cur) by rw [hside]; rfl)
        have HCS := Lib.hid (show cs.length = 64 by rw [← HCC.out]; simp [HCL.out, HDL.out])
        have HSC := Lib.hid (show (Tryz.prog.info? 139).map (·.size) = some cs.length from szP.trans (by rw [HCS.out]))
        have HSA := Lib.hid (show cs.toArray.size = 64 by rw [List.size_toArray]; exact HCS.out)
        have HO4 := Lib.hid ((HI.out.o.below HB3.out).alloc (.cells cs.toArray 139))
        have HAM := Lib.hid (arr_one (k := 64) (D := Any) w3 cs.toArray 139 (0, 0) cs HCS.out rfl trivial)
        have HC1 := Lib.hid (show ∀ x ∈ [cs], ∀ c ∈ x, c.oneCell' = true by
          intro x hx c hc
          rw [List.mem_singleton.1 hx, ← HCC.out] at hc
          rcases List.mem_append.1 hc with hc | hc <;> (obtain ⟨u, _, rfl⟩ := List.mem_map.1 hc; rfl))
        clear hside
        go_wp2_with (first
          | (with_reducible refine wpList_load_cs (by with_unfolding_all rfl) _ _ rfl g15 _ rfl HP3.out _ Tryz.underlying139 rfl HSC.out _ rfl ?_)
          | (with_reducible refine wpList_buildSlice1 _ rfl elemP _ rfl _ rfl HSA.out (by decide) ?_)
          | (at_builtin; refine wpList_append_arr _ rfl (.tmp 52) (.tmp 54) 107 rfl B2 139 elemP _ (pcs upl) rfl HO4.out _ [cs] rfl HAM.out HC1.out (by simp; unfold maxLen; omega) (by simp; omega) (by simp; omega) (upl.length + 1) (by simp) ?_))
        intro a5 c5 w5 q1 q2 q3
        have hlo := HI.out.o.lt
        have hf5 : Fr (fun b => (Value.slice ua upl.length uc).ownBlock = some b) w3 w5 := ((Fr.refl _ w3).alloc _).trans (Fr.ofGrown q2)
        have HO5 := Lib.hid (show OwnA 64 B2 139 w5 (.slice a5 (upl.length + 1) c5) (pcs (upl ++ [(d, cur)])) by rw [show pcs (upl ++ [(d, cur)]) = pcs upl ++ [cs] by rw [← HCC.out]; simp [pcs]]; exact q1)
        have HF5 := Lib.hid (show Fr (fun b => (Value.slice ua upl.length uc).ownBlock = some b) wr w5 from (Fr.ofBelowAll HB3.out (Nat.le_refl _)).trans hf5)
        have hs5 := hf5.size
        have HLO := Lib.hid (show ∀ b, (Value.slice ua upl.length uc).ownBlock = some b → B2 ≤ b ∧ b < wr.heap.size from hlo)
        have hp5 : Blk w5 g15 cs 139 := HP3.out.fr hf5 (fun h => by have := hlo _ h; omega)
        have hR := blk_range hp5
        rw [← HCC.out] at hR
        have HR1 := Lib.hid (show w5.rangeAt g15 0 (d.map byt) from fun j v hv => hR j v (by rw [List.getElem?_append_left (by have := (List.getElem?_eq_some_iff.1 hv).1; exact this)]; exact hv))
        have HR2 := Lib.hid (show w5.rangeAt g15 32 (cur.map byt) from fun j v hv => by
          have := hR (32 + j) v (by rw [List.getElem?_append_right (by simp [HDL.out])]; simpa [HDL.out] using hv)
          rwa [Nat.zero_add] at this)
        have H4 := Lib.hid (HI.out.g4.fr HF5.out (fun h => by have := hlo _ h; omega))
        have HT5 := Lib.hid (HI.out.t.fr HF5.out (fun h => by have := hlo _ h; have := HI.out.h; omega))
        clear q1 q2 q3 hlo hf5 hp5 hR
        go_wp2_with (first
          | (with_reducible refine wpList_load_mid rfl _ _ rfl g15 0 rfl (d.map byt) _ HR1.out Tryz.underlying24 rfl (szD' HDL.out) ?_)
          | (with_reducible refine wpList_load_mid rfl _ _ rfl g15 32 rfl (cur.map byt) _ HR2.out Tryz.underlying24 rfl (szD' HCL.out) ?_)
          | fail)
        refine (node_calls w5 d cur HDL.out HCL.out HT5.out).mono ?_
        rintro e w6 ⟨rfl, g⟩
        obtain ⟨m, hm⟩ : ∃ m, nodeD d cur = m := ⟨_, rfl⟩
        have HML := Lib.hid (show m.length = 32 by rw [← hm]; exact nodeD_length _ _)
        have HMO := Lib.hid (one_cells m)
        rw [hm]
        have H46 := Lib.hid (H4.out.below g)
        have hf6 : Fr (fun b => b = w.heap.size) w6 (w6.setRow w.heap.size (m.map byt).toArray) := (Fr.refl (fun b => b = w.heap.size) w6).setRow (.inr rfl) _
        have hf : Fr (fun b => (Value.slice ua upl.length uc).ownBlock = some b ∨ b = w.heap.size) wr (w6.setRow w.heap.size (m.map byt).toArray) :=
          ((HF5.out.mono (fun k _ h => .inl h)).trans (Fr.ofBelowAll g (Nat.le_refl _) |>.mono (fun k hk h => h)) |>.trans' hf6 (fun k hk h => .inr h))
        have hlo := HLO.out
        have HI2 := Lib.hid (show RI w B2 1 (some ⟨b1, o1, none⟩) n1 ds (some ⟨sb, so, none⟩) n2 ssr m (.slice a5 (upl.length + 1) c5) (upl ++ [(d, cur)]) (w6.setRow w.heap.size (m.map byt).toArray) from
          ⟨H46.out.row _, HI.out.g9.fr hf (fun h => by rcases h with h | h; have := hlo _ h; omega; omega), (HO5.out.below g).fr hf6 (fun b hb h => by have := (HO5.out.lt b hb).1; omega),
            HI.out.ap.fr (by omega) hf (fun b _ hb h => by rcases h with h | h; have := hlo _ h; omega; omega), HI.out.as'.fr (by omega) hf (fun b _ hb h => by rcases h with h | h; have := hlo _ h; omega; omega),
            HI.out.b.trans (hf.below HI.out.b.size (fun b h => by rcases h with h | h; have := hlo _ h; omega; omega)), HI.out.t.fr hf (fun h => by rcases h with h | h; have := hlo _ h; have := HI.out.h; omega; have := HI.out.h; omega), HI.out.h, ⟨HI.out.hB.1, Nat.le_trans HI.out.hB.2 hf.size⟩, HML.out⟩)
        have HTOP := Lib.hid (show topOf leaf (ssr.reverse.take (k + 1)) (ds.take (k + 1)) = m by rw [topOf_take leaf ssr.reverse ds k hks hkd, HCUR.out, HDK.out, HPR.out]; exact hm)
        have HUPS := Lib.hid (show ups leaf (ssr.reverse.take (k + 1)) (ds.take (k + 1)) = upl ++ [(d, cur)] by rw [ups_take leaf ssr.reverse ds k hks hkd, HUPL.out, HCUR.out, HDK.out, HPR.out])
        clear hm g hf6 hf hlo
        go_wp2_with (with_reducible refine wpList_store_blk rfl _ _ _ rfl w.heap.size (m.map byt) _ rfl _ rfl rfl H46.out (szD' HML.out) (by simp [HML.out, HCL.out]) HMO.out ?_)
        go_roundw
        case rel => exact ⟨k + 1, m, upl ++ [(d, cur)], by omega, by go_num, HTOP.out, HUPS.out, HI2.out⟩
        case measure => simp [intOf]; omega
      · replace hbt : bv = false := by simpa using hbt
        have hside : ssr.reverse[k]'hks = false := by rw [hbb]; exact hbt
        rw [hbt] at hcell
        clear hbb hbt
        go_upto_region 13 with (fail)
        have HCC := HC0
        have HP3 := P2
        have HB3 := HBr2
        have hs3' := hs2'
        have HPR := Lib.hid (show pairOf cur d (ssr.reverse[k]'hks) = (cur, d) by rw [hside]; rfl)
        have HCS := Lib.hid (show cs0.length = 64 by rw [← HCC.out]; simp [HCL.out, HDL.out])
        have HSC := Lib.hid (show (Tryz.prog.info? 139).map (·.size) = some cs0.length from szP.trans (by rw [HCS.out]))
        have HSA := Lib.hid (show cs0.toArray.size = 64 by rw [List.size_toArray]; exact HCS.out)
        have HO4 := Lib.hid ((HI.out.o.below HB3.out).alloc (.cells cs0.toArray 139))
        have HAM := Lib.hid (arr_one (k := 64) (D := Any) w2 cs0.toArray 139 (0, 0) cs0 HCS.out rfl trivial)
        have HC1 := Lib.hid (show ∀ x ∈ [cs0], ∀ c ∈ x, c.oneCell' = true by
          intro x hx c hc
          rw [List.mem_singleton.1 hx, ← HCC.out] at hc
          rcases List.mem_append.1 hc with hc | hc <;> (obtain ⟨u, _, rfl⟩ := List.mem_map.1 hc; rfl))
        clear hside
        go_wp2_with (first
          | (with_reducible refine wpList_load_cs (by with_unfolding_all rfl) _ _ rfl g15 _ rfl HP3.out _ Tryz.underlying139 rfl HSC.out _ rfl ?_)
          | (with_reducible refine wpList_buildSlice1 _ rfl elemP _ rfl _ rfl HSA.out (by decide) ?_)
          | (at_builtin; refine wpList_append_arr _ rfl (.tmp 52) (.tmp 54) 107 rfl B2 139 elemP _ (pcs upl) rfl HO4.out _ [cs0] rfl HAM.out HC1.out (by simp; unfold maxLen; omega) (by simp; omega) (by simp; omega) (upl.length + 1) (by simp) ?_))
        intro a5 c5 w5 q1 q2 q3
        have hlo := HI.out.o.lt
        have hf5 : Fr (fun b => (Value.slice ua upl.length uc).ownBlock = some b) w2 w5 := ((Fr.refl _ w2).alloc _).trans (Fr.ofGrown q2)
        have HO5 := Lib.hid (show OwnA 64 B2 139 w5 (.slice a5 (upl.length + 1) c5) (pcs (upl ++ [(cur, d)])) by rw [show pcs (upl ++ [(cur, d)]) = pcs upl ++ [cs0] by rw [← HCC.out]; simp [pcs]]; exact q1)
        have HF5 := Lib.hid (show Fr (fun b => (Value.slice ua upl.length uc).ownBlock = some b) wr w5 from (Fr.ofBelowAll HB3.out (Nat.le_refl _)).trans hf5)
        have hs5 := hf5.size
        have HLO := Lib.hid (show ∀ b, (Value.slice ua upl.length uc).ownBlock = some b → B2 ≤ b ∧ b < wr.heap.size from hlo)
        have hp5 : Blk w5 g15 cs0 139 := HP3.out.fr hf5 (fun h => by have := hlo _ h; omega)
        have hR := blk_range hp5
        rw [← HCC.out] at hR
        have HR1 := Lib.hid (show w5.rangeAt g15 0 (cur.map byt) from fun j v hv => hR j v (by rw [List.getElem?_append_left (by have := (List.getElem?_eq_some_iff.1 hv).1; exact this)]; exact hv))
        have HR2 := Lib.hid (show w5.rangeAt g15 32 (d.map byt) from fun j v hv => by
          have := hR (32 + j) v (by rw [List.getElem?_append_right (by simp [HCL.out])]; simpa [HCL.out] using hv)
          rwa [Nat.zero_add] at this)
        have H4 := Lib.hid (HI.out.g4.fr HF5.out (fun h => by have := hlo _ h; omega))
        have HT5 := Lib.hid (HI.out.t.fr HF5.out (fun h => by have := hlo _ h; have := HI.out.h; omega))
        clear q1 q2 q3 hlo hf5 hp5 hR
        go_wp2_with (first
          | (with_reducible refine wpList_load_mid rfl _ _ rfl g15 0 rfl (cur.map byt) _ HR1.out Tryz.underlying24 rfl (szD' HCL.out) ?_)
          | (with_reducible refine wpList_load_mid rfl _ _ rfl g15 32 rfl (d.map byt) _ HR2.out Tryz.underlying24 rfl (szD' HDL.out) ?_)
          | fail)
        refine (node_calls w5 cur d HCL.out HDL.out HT5.out).mono ?_
        rintro e w6 ⟨rfl, g⟩
        obtain ⟨m, hm⟩ : ∃ m, nodeD cur d = m := ⟨_, rfl⟩
        have HML := Lib.hid (show m.length = 32 by rw [← hm]; exact nodeD_length _ _)
        have HMO := Lib.hid (one_cells m)
        rw [hm]
        have H46 := Lib.hid (H4.out.below g)
        have hf6 : Fr (fun b => b = w.heap.size) w6 (w6.setRow w.heap.size (m.map byt).toArray) := (Fr.refl (fun b => b = w.heap.size) w6).setRow (.inr rfl) _
        have hf : Fr (fun b => (Value.slice ua upl.length uc).ownBlock = some b ∨ b = w.heap.size) wr (w6.setRow w.heap.size (m.map byt).toArray) :=
          ((HF5.out.mono (fun k _ h => .inl h)).trans (Fr.ofBelowAll g (Nat.le_refl _) |>.mono (fun k hk h => h)) |>.trans' hf6 (fun k hk h => .inr h))
        have hlo := HLO.out
        have HI2 := Lib.hid (show RI w B2 1 (some ⟨b1, o1, none⟩) n1 ds (some ⟨sb, so, none⟩) n2 ssr m (.slice a5 (upl.length + 1) c5) (upl ++ [(cur, d)]) (w6.setRow w.heap.size (m.map byt).toArray) from
          ⟨H46.out.row _, HI.out.g9.fr hf (fun h => by rcases h with h | h; have := hlo _ h; omega; omega), (HO5.out.below g).fr hf6 (fun b hb h => by have := (HO5.out.lt b hb).1; omega),
            HI.out.ap.fr (by omega) hf (fun b _ hb h => by rcases h with h | h; have := hlo _ h; omega; omega), HI.out.as'.fr (by omega) hf (fun b _ hb h => by rcases h with h | h; have := hlo _ h; omega; omega),
            HI.out.b.trans (hf.below HI.out.b.size (fun b h => by rcases h with h | h; have := hlo _ h; omega; omega)), HI.out.t.fr hf (fun h => by rcases h with h | h; have := hlo _ h; have := HI.out.h; omega; have := HI.out.h; omega), HI.out.h, ⟨HI.out.hB.1, Nat.le_trans HI.out.hB.2 hf.size⟩, HML.out⟩)
        have HTOP := Lib.hid (show topOf leaf (ssr.reverse.take (k + 1)) (ds.take (k + 1)) = m by rw [topOf_take leaf ssr.reverse ds k hks hkd, HCUR.out, HDK.out, HPR.out]; exact hm)
        have HUPS := Lib.hid (show ups leaf (ssr.reverse.take (k + 1)) (ds.take (k + 1)) = upl ++ [(cur, d)] by rw [ups_take leaf ssr.reverse ds k hks hkd, HUPL.out, HCUR.out, HDK.out, HPR.out])
        clear hm g hf6 hf hlo
        go_wp2_with (with_reducible refine wpList_store_blk rfl _ _ _ rfl w.heap.size (m.map byt) _ rfl _ rfl rfl H46.out (szD' HML.out) (by simp [HML.out, HCL.out]) HMO.out ?_)
        go_roundw
        case rel => exact ⟨k + 1, m, upl ++ [(cur, d)], by omega, by go_num, HTOP.out, HUPS.out, HI2.out⟩
        case measure => simp [intOf]; omega
    · obtain rfl : k = ds.length := by omega
      have hr1 : ssr.reverse.take ds.length = ssr.reverse := List.take_of_length_le (by simp; omega)
      have hr2 : ds.take ds.length = ds := List.take_of_length_le (Nat.le_refl _)
      rw [hr1, hr2] at HCUR HUPL
      have H4 := Lib.hid hI.g4
      have H9 := Lib.hid hI.g9
      have h4d := (World.rangeAt_drew _ _ _ _).2 (blk_range hI.g4)
      have hf : Fr (fun b => b = w.heap.size + 1) wr (wr.drew.setRow (w.heap.size + 1) (cur.map byt).toArray) := ((Fr.refl (fun b => b = w.heap.size + 1) wr).drew).setRow (.inr rfl) _
      have HLW := Lib.hid (show ∀ w', (w' = wr.drew ∨ w' = wr.drew.setRow (w.heap.size + 1) (cur.map byt).toArray) → w'.rangeAt w.heap.size 0 (cur.map byt) from fun w' h => by
        rcases h with rfl | rfl
        · exact h4d
        · exact rangeAt_fr (blk_range hI.g4) hf (by omega))
      have HCO := Lib.hid (one_cells cur)
      have HO := Lib.hid (hI.o.arr)
      have HBF := Lib.hid (hI.b.trans (hf.below hI.b.size (fun b h => by omega)))
      have HOF := Lib.hid (show Arr 64 (fun b => w.heap.size ≤ b) (wr.drew.setRow (w.heap.size + 1) (cur.map byt).toArray) (.slice ua upl.length uc) (pcs upl) by
        have := hI.o.arr.fr (by omega) hf (fun b _ h1 h2 => by have := h1.2; omega)
        exact this.mono (by omega) (fun b _ h => by have := h.2; omega))
      have HRB := Lib.hid (show Blk (wr.drew.setRow (w.heap.size + 1) (cur.map byt).toArray) (w.heap.size + 1) (cur.map byt) 24 from H9.out.drew.row _)
      clear hI hcur hupl hr1 hr2 hf h4d
      go_wp2
      refine wp_region_held_drew (S := (fun w' => w' = wr.drew ∨ w' = wr.drew.setRow (w.heap.size + 1) (cur.map byt).toArray)) (by kernel_rfl) (.inl rfl) (fun hHeld => ?_)
      refine wpAnyH_take (i := 0) (oi := ⟨_, _, _, _, _, _⟩) (v := ?_) rfl (by kernel_rfl) (by kernel_rfl) (by kernel_rfl) (fun _ _ _ h => h) (Or.inl ⟨by rfl, ?_⟩) (by assumption) ?_
      rotate_left
      · intro w hSw; go_simp; try (with_reducible rfl)
      try simp only [Act.put, List.setIfInBounds_toArray, List.set_cons_zero, List.set_cons_succ]
      refine wpAnyH_take (i := 1) (oi := ⟨_, _, _, _, _, _⟩) rfl (by kernel_rfl) (by kernel_rfl) (by kernel_rfl) (fun _ _ _ h => h) (yieldsIf_load_mid (by rfl) _ _ rfl w.heap.size 0 rfl (cur.map byt) _ HLW.out Tryz.underlying24 rfl (szD' HCL.out)) (by assumption) ?_
      try simp only [Act.put, List.setIfInBounds_toArray, List.set_cons_zero, List.set_cons_succ]
      refine wpAnyH_ready (rs := [2]) (by kernel_rfl) (by simp) ?_
      refine AllReadyH.cons (o := ⟨_, _, _, _, _, _⟩) rfl (fun K hK => ?_) AllReadyH.nil
      go_simp
      refine hK.out _ _ (by exact .inl rfl) (fun hHeld => ?_)
      clear hK
      try simp only [Act.put, List.setIfInBounds_toArray, List.set_cons_zero, List.set_cons_succ]
      refine wpAnyH_ready (rs := [3]) (by kernel_rfl) (by simp) ?_
      refine AllReadyH.cons (o := ⟨_, _, _, _, _, _⟩) rfl (fun K hK => ?_) AllReadyH.nil
      rw [if_pos (by rfl)]
      refine wp_store_blk _ _ _ rfl (w.heap.size + 1) (cur.map byt) _ rfl rfl H9.out.drew (szD' HCL.out) (by simp [HCL.out]) HCO.out ?_
      refine hK.out _ _ (.inr rfl) (fun hHeld => ?_)
      clear hK
      refine wpAnyH_ready (rs := [4]) (by kernel_rfl) (by simp) ?_
      refine AllReadyH.cons (o := ⟨_, _, _, _, _, _⟩) rfl (fun K hK => ?_) AllReadyH.nil
      go_simp
      refine hK.out _ _ (by exact .inr rfl) (fun hHeld => ?_)
      clear hK
      try simp only [Act.put, List.setIfInBounds_toArray, List.set_cons_zero, List.set_cons_succ]
      refine wpAnyH_done (by kernel_rfl) ?_ _
      go_wp2
      have HX := HCUR.out
      have HY := HUPL.out
      rw [HSS.out]
      refine bodyPost_ret (results_tct Tryz.results49 _ _ (w.heap.size + 1) 24 _ _ rfl HRB.out Tryz.underlying24 rfl (szD' HCL.out)) rfl ⟨_, by rw [HX]; rfl, by rw [HY]; exact HOF.out, HBF.out⟩
end Go.Proofs.YtmenchnjajpkmaaGreatDoor.MkW
end

section
namespace Go.Proofs.YtmenchnjajpkmaaGreatDoor.MkW
open Go Go.RowKit Mem Sha ShaW Mk Arr Row
set_option linter.unusedVariables false

abbrev zero32 : Dg := List.replicate 32 0
theorem zero32_cells : zero32.map byt = List.replicate 32 (.int .u8 0) := by simp [zero32]
set_option maxHeartbeats 8000000 in
set_option maxRecDepth 100000 in
theorem rise_none (w : World) (leaf : Dg) (p n : Nat) (vp : Value) (ds : List Dg) (hA : Arr 32 Any w vp (dcs ds)) (hl : leaf.length = 32) (hn : n < 4294967296) (hp2 : p < 4294967296) (hd : ds.length ≤ 4398046511104) (hbad : n ≤ p ∨ (sides p n).length ≠ ds.length) :
    Calls Tryz.prog 49 #[dv leaf, .int .u32 (p : Int), .int .u32 (n : Int), vp] w fun e w' => e = .returned (.tuple #[.slice none 0 0, dv zero32, .bool false]) ∧ Below w.heap.size w w' := by
  obtain ⟨va, n1, rfl, hk1, hk2, hk3⟩ := hA.form
  simp only [List.length_map] at hA hk1 ⊢
  obtain ⟨W, hW, k9, kb, ks⟩ : ∃ W, (w.alloc (.cells (leaf.map byt).toArray 24)).alloc (.cells #[.int .u8 0, .int .u8 0, .int .u8 0, .int .u8 0, .int .u8 0, .int .u8 0, .int .u8 0, .int .u8 0, .int .u8 0, .int .u8 0, .int .u8 0, .int .u8 0, .int .u8 0, .int .u8 0, .int .u8 0, .int .u8 0, .int .u8 0, .int .u8 0, .int .u8 0, .int .u8 0, .int .u8 0, .int .u8 0, .int .u8 0, .int .u8 0, .int .u8 0, .int .u8 0, .int .u8 0, .int .u8 0, .int .u8 0, .int .u8 0, .int .u8 0, .int .u8 0] 24) = W ∧ Hid (Blk W (w.heap.size + 1) (List.replicate 32 (.int .u8 0)) 24) ∧ Hid (Below w.heap.size w W) ∧ w.heap.size + 2 ≤ W.heap.size := by
    refine ⟨_, rfl, Lib.hid ?_, Lib.hid (((Below.refl _ _).alloc (Nat.le_refl _) _).alloc (by simp) _), by simp⟩
    have := new32 (w.alloc (.cells (leaf.map byt).toArray 24))
    rwa [World.size_alloc] at this
  have HZS := Lib.hid (show (Tryz.prog.info? 24).map (·.size) = some ([.int .u8 0, .int .u8 0, .int .u8 0, .int .u8 0, .int .u8 0, .int .u8 0, .int .u8 0, .int .u8 0, .int .u8 0, .int .u8 0, .int .u8 0, .int .u8 0, .int .u8 0, .int .u8 0, .int .u8 0, .int .u8 0, .int .u8 0, .int .u8 0, .int .u8 0, .int .u8 0, .int .u8 0, .int .u8 0, .int .u8 0, .int .u8 0, .int .u8 0, .int .u8 0, .int .u8 0, .int .u8 0, .int .u8 0, .int .u8 0, .int .u8 0, .int .u8 0] : List Value).length from szD)
  have HZN := Lib.hid (show (List.replicate 32 (Value.int .u8 0)).length = ([.int .u8 0, .int .u8 0, .int .u8 0, .int .u8 0, .int .u8 0, .int .u8 0, .int .u8 0, .int .u8 0, .int .u8 0, .int .u8 0, .int .u8 0, .int .u8 0, .int .u8 0, .int .u8 0, .int .u8 0, .int .u8 0, .int .u8 0, .int .u8 0, .int .u8 0, .int .u8 0, .int .u8 0, .int .u8 0, .int .u8 0, .int .u8 0, .int .u8 0, .int .u8 0, .int .u8 0, .int .u8 0, .int .u8 0, .int .u8 0, .int .u8 0, .int .u8 0] : List Value).length from rfl)
  have HZO := Lib.hid (show ∀ v ∈ ([.int .u8 0, .int .u8 0, .int .u8 0, .int .u8 0, .int .u8 0, .int .u8 0, .int .u8 0, .int .u8 0, .int .u8 0, .int .u8 0, .int .u8 0, .int .u8 0, .int .u8 0, .int .u8 0, .int .u8 0, .int .u8 0, .int .u8 0, .int .u8 0, .int .u8 0, .int .u8 0, .int .u8 0, .int .u8 0, .int .u8 0, .int .u8 0, .int .u8 0, .int .u8 0, .int .u8 0, .int .u8 0, .int .u8 0, .int .u8 0, .int .u8 0, .int .u8 0] : List Value), v.oneCell' = true from one_cells zero32)
  clear hA
  by_cases hp : n ≤ p
  · have hpI : ¬ (p : Int) < (n : Int) := by omega
    have hpB : decide (n ≤ p) = true := by simp; omega
    have hb32 : ((p : Int) < (n : Int)) = False := by simp; omega
    clear hbad
    go_enter Tryz.func49, Tryz.ntmps49
    go_wp2_with (with_reducible refine wpList_store_blk rfl _ _ _ rfl (w.heap.size + 1) [.int .u8 0, .int .u8 0, .int .u8 0, .int .u8 0, .int .u8 0, .int .u8 0, .int .u8 0, .int .u8 0, .int .u8 0, .int .u8 0, .int .u8 0, .int .u8 0, .int .u8 0, .int .u8 0, .int .u8 0, .int .u8 0, .int .u8 0, .int .u8 0, .int .u8 0, .int .u8 0, .int .u8 0, .int .u8 0, .int .u8 0, .int .u8 0, .int .u8 0, .int .u8 0, .int .u8 0, .int .u8 0, .int .u8 0, .int .u8 0, .int .u8 0, .int .u8 0] _ rfl _ rfl rfl k9.out HZS.out HZN.out HZO.out ?_)
    refine bodyPost_ret (results_tct Tryz.results49 _ _ (w.heap.size + 1) 24 [.int .u8 0, .int .u8 0, .int .u8 0, .int .u8 0, .int .u8 0, .int .u8 0, .int .u8 0, .int .u8 0, .int .u8 0, .int .u8 0, .int .u8 0, .int .u8 0, .int .u8 0, .int .u8 0, .int .u8 0, .int .u8 0, .int .u8 0, .int .u8 0, .int .u8 0, .int .u8 0, .int .u8 0, .int .u8 0, .int .u8 0, .int .u8 0, .int .u8 0, .int .u8 0, .int .u8 0, .int .u8 0, .int .u8 0, .int .u8 0, .int .u8 0, .int .u8 0] _ rfl (k9.out.row _) Tryz.underlying24 rfl HZS.out) rfl ⟨rfl, below_setRow kb.out (by omega) _⟩
  · have hss : (sides p n).length ≠ ds.length := by rcases hbad with h | h; exact absurd h hp; exact h
    have hpI : (p : Int) < (n : Int) := by omega
    have hpB : decide (n ≤ p) = false := by simp; omega
    have hw1 : IntKind.i64.wrap (p : Int) = (p : Int) := IntWalk.i64_in _ (by omega)
    have hw2 : IntKind.i64.wrap (n : Int) = (n : Int) := IntWalk.i64_in _ (by omega)
    clear hbad
    go_enter Tryz.func49, Tryz.ntmps49
    go_wp2_with fail
    clear hW
    refine (sides_calls W p n hn (by omega)).mono ?_
    rintro e w3 ⟨vs0, rfl, g1, g2⟩
    obtain ⟨vs, n2, rfl, _⟩ := g1.form
    obtain ⟨ssr, hs⟩ : ∃ l, sides p n = l := ⟨_, rfl⟩
    rw [hs] at g1 hss ⊢
    simp only [List.length_map] at g1 ⊢
    have K9 := Lib.hid (k9.out.below g2)
    have KB := Lib.hid (kb.out.trans (g2.mono (by omega)))
    have hlB : ((ssr.length : Int) != (ds.length : Int)) = true := by simp; omega
    clear hs g1 g2 hw1 hw2 hss
    go_wp2_with (with_reducible refine wpList_store_blk rfl _ _ _ rfl (w.heap.size + 1) [.int .u8 0, .int .u8 0, .int .u8 0, .int .u8 0, .int .u8 0, .int .u8 0, .int .u8 0, .int .u8 0, .int .u8 0, .int .u8 0, .int .u8 0, .int .u8 0, .int .u8 0, .int .u8 0, .int .u8 0, .int .u8 0, .int .u8 0, .int .u8 0, .int .u8 0, .int .u8 0, .int .u8 0, .int .u8 0, .int .u8 0, .int .u8 0, .int .u8 0, .int .u8 0, .int .u8 0, .int .u8 0, .int .u8 0, .int .u8 0, .int .u8 0, .int .u8 0] _ rfl _ rfl rfl K9.out HZS.out HZN.out HZO.out ?_)
    refine bodyPost_ret (results_tct Tryz.results49 _ _ (w.heap.size + 1) 24 [.int .u8 0, .int .u8 0, .int .u8 0, .int .u8 0, .int .u8 0, .int .u8 0, .int .u8 0, .int .u8 0, .int .u8 0, .int .u8 0, .int .u8 0, .int .u8 0, .int .u8 0, .int .u8 0, .int .u8 0, .int .u8 0, .int .u8 0, .int .u8 0, .int .u8 0, .int .u8 0, .int .u8 0, .int .u8 0, .int .u8 0, .int .u8 0, .int .u8 0, .int .u8 0, .int .u8 0, .int .u8 0, .int .u8 0, .int .u8 0, .int .u8 0, .int .u8 0] _ rfl (K9.out.row _) Tryz.underlying24 rfl HZS.out) rfl ⟨rfl, below_setRow KB.out (by omega) _⟩
def chk (rt leaf : Dg) (p n : Nat) (ds : List Dg) : Bool := match rise leaf p n ds with | some d => d == rt | none => false
theorem topOf_length : ∀ (leaf : Dg) (ss : List Bool) (ds : List Dg), leaf.length = 32 → (topOf leaf ss ds).length = 32
  | _, [], _, h => by simpa [topOf] using h
  | _, _ :: _, [], h => by simpa [topOf] using h
  | leaf, s :: ss, d :: ds, h => by simp only [topOf]; exact topOf_length _ ss ds (nodeD_length _ _)
set_option maxHeartbeats 8000000 in
set_option maxRecDepth 100000 in
theorem check_calls (w : World) (rt leaf : Dg) (p n : Nat) (vp : Value) (ds : List Dg) (hA : Arr 32 Any w vp (dcs ds)) (hD : ∀ d ∈ ds, d.length = 32) (hr : rt.length = 32) (hl : leaf.length = 32) (hT : TabB w 1) (hn : n < 4294967296) (hp : p < 4294967296) (hd : ds.length ≤ 4398046511104) :
    Calls Tryz.prog 28 #[dv rt, dv leaf, .int .u32 (p : Int), .int .u32 (n : Int), vp] w fun e w' => e = .returned (.bool (chk rt leaf p n ds)) ∧ Below w.heap.size w w' := by
  obtain ⟨va, n1, rfl, hk1, hk2, hk3⟩ := hA.form
  simp only [List.length_map] at hA hk1 ⊢
  obtain ⟨W, hW, k0, k1, kb, ks⟩ : ∃ W, (w.alloc (.cells (rt.map byt).toArray 24)).alloc (.cells (leaf.map byt).toArray 24) = W ∧ Hid (Blk W w.heap.size (rt.map byt) 24) ∧ Hid (Blk W (w.heap.size + 1) (leaf.map byt) 24) ∧ Hid (Below w.heap.size w W) ∧ w.heap.size + 2 ≤ W.heap.size := by
    refine ⟨_, rfl, Lib.hid ((Blk.new w _ _ _ rfl).alloc _), Lib.hid ?_, Lib.hid (((Below.refl _ _).alloc (Nat.le_refl _) _).alloc (by simp) _), by simp⟩
    have := Blk.new (w.alloc (.cells (rt.map byt).toArray 24)) (leaf.map byt).toArray 24 _ rfl
    rwa [World.size_alloc] at this
  have HA := Lib.hid (hA.below (by omega) kb.out)
  have HT := Lib.hid (hT.below kb.out)
  have HRT := Lib.hid hr
  have HLF := Lib.hid hl
  have HD := Lib.hid hD
  clear hA hT hr hl hD
  go_enter Tryz.func28, Tryz.ntmps28
  go_wp2_with (first
    | (with_reducible refine wpList_load_cs (by with_unfolding_all rfl) _ _ rfl (w.heap.size + 1) _ rfl k1.out _ Tryz.underlying24 rfl (szD' HLF.out) _ rfl ?_)
    | fail)
  clear hW
  by_cases hok : p < n ∧ (sides p n).length = ds.length
  · refine (rise_calls W leaf p n _ ds HA.out HD.out HLF.out HT.out hn hok.1 hok.2).mono ?_
    rintro e w3 ⟨v3, rfl, g1, g2⟩
    have HCH := Lib.hid (show chk rt leaf p n ds = (topOf leaf (sides p n).reverse ds == rt) by unfold chk rise; rw [if_pos hok])
    have HML := Lib.hid (topOf_length leaf (sides p n).reverse ds HLF.out)
    obtain ⟨m, hm⟩ : ∃ m, topOf leaf (sides p n).reverse ds = m := ⟨_, rfl⟩
    rw [hm] at HCH HML ⊢
    have HMO := Lib.hid (one_cells m)
    obtain ⟨w4, hw4, N4, NB4, ns4⟩ := start32 w3
    have K0 := Lib.hid ((k0.out.below g2).below NB4.out)
    have N5 := Lib.hid (N4.out.row (m.map byt))
    have hf5 : Fr (fun b => b = w3.heap.size) w4 (w4.setRow w3.heap.size (m.map byt).toArray) := (Fr.refl (fun b => b = w3.heap.size) w4).setRow (.inr rfl) _
    have K5 := Lib.hid (K0.out.fr hf5 (by have := g2.size; omega))
    have KB5 := Lib.hid (((kb.out.trans (g2.mono (by omega))).trans (NB4.out.mono (by have := g2.size; omega))).trans (hf5.below (B := w.heap.size) (by have := g2.size; omega) (fun b h => by have := g2.size; omega)))
    have hqs : ∀ w, (Op.equalIn 10000 24 (.agg (m.map byt).toArray) (.agg (rt.map byt).toArray)).run Tryz.prog w = .ok (m == rt) w := fun w => run_equal_u8 Tryz.underlying24 (i := _) rfl (by kernel_rfl) Tryz.underlying5 w m rt HML.out HRT.out
    clear hm g1 g2 hf5 hok
    go_upto_region 2 with (first
      | (with_reducible refine wpList_store_blk rfl _ _ _ rfl w3.heap.size (m.map byt) _ rfl _ rfl rfl N4.out (szD' HML.out) (by simp [HML.out]) HMO.out ?_))
    clear hw4
    go_wp2_with (first
      | (with_reducible refine wpList_load_cs (by with_unfolding_all rfl) _ _ rfl w3.heap.size _ rfl N5.out _ Tryz.underlying24 rfl (szD' HML.out) _ rfl ?_)
      | (with_reducible refine wpList_load_cs (by with_unfolding_all rfl) _ _ rfl w.heap.size _ rfl K5.out _ Tryz.underlying24 rfl (szD' HRT.out) _ rfl ?_))
    go_ret
    exact ⟨by rw [HCH.out]; rfl, KB5.out⟩
  · refine (rise_none W leaf p n _ ds HA.out HLF.out hn hp hd (by by_cases h : p < n; exact .inr (fun e => hok ⟨h, e⟩); exact .inl (by omega))).mono ?_
    rintro e w3 ⟨rfl, g2⟩
    have HCH := Lib.hid (show chk rt leaf p n ds = false by unfold chk rise; rw [if_neg hok])
    have HMO := Lib.hid (one_cells zero32)
    obtain ⟨w4, hw4, N4, NB4, ns4⟩ := start32 w3
    have K0 := Lib.hid ((k0.out.below g2).below NB4.out)
    have N5 := Lib.hid (N4.out.row (zero32.map byt))
    have hf5 : Fr (fun b => b = w3.heap.size) w4 (w4.setRow w3.heap.size (zero32.map byt).toArray) := (Fr.refl (fun b => b = w3.heap.size) w4).setRow (.inr rfl) _
    have K5 := Lib.hid (K0.out.fr hf5 (by have := g2.size; omega))
    have KB5 := Lib.hid (((kb.out.trans (g2.mono (by omega))).trans (NB4.out.mono (by have := g2.size; omega))).trans (hf5.below (B := w.heap.size) (by have := g2.size; omega) (fun b h => by have := g2.size; omega)))
    have hqs : ∀ w, (Op.equalIn 10000 24 (.agg (zero32.map byt).toArray) (.agg (rt.map byt).toArray)).run Tryz.prog w = .ok (zero32 == rt) w := fun w => run_equal_u8 Tryz.underlying24 (i := _) rfl (by kernel_rfl) Tryz.underlying5 w zero32 rt rfl HRT.out
    clear g2 hf5 hok hqs
    go_upto_region 2 with (first
      | (with_reducible refine wpList_store_blk rfl _ _ _ rfl w3.heap.size (zero32.map byt) _ rfl _ rfl rfl N4.out (szD' rfl) (by simp) HMO.out ?_))
    clear hw4
    go_wp2
    go_ret
    exact ⟨by rw [HCH.out]; rfl, KB5.out⟩
end Go.Proofs.YtmenchnjajpkmaaGreatDoor.MkW
end
