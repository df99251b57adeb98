/- The walk of Clash: two paths from one place to one root, or not. Conditions: at most 2^42 digests on each way; the table is laid. -/
import Derived.Test.YtiaoifaglfhagaaDoorMkU
namespace Go.Proofs.YtiaoifaglfhagaaDoor.MkW
open Go Go.RowKit Mem Sha ShaW Mk Arr Row
set_option linter.unusedVariables false

theorem rise_any (w : World) (leaf : Dg) (p n : Nat) (vp : Value) (ds : List Dg) (hA : Arr 32 Any w vp (dcs ds)) (hD : ∀ d ∈ ds, d.length = 32) (hl : leaf.length = 32) (hT : TabB w 1) (hn : n < 4294967296) (hp : p < 4294967296) (hd : ds.length ≤ 4398046511104) :
    Calls Tryd.prog 30 #[dv leaf, .int .u32 (p : Int), .int .u32 (n : Int), vp] w fun e w' => ∃ a k c m, e = .returned (.tuple #[.slice a k c, dv m, .bool (rise leaf p n ds).isSome]) ∧ m.length = 32 ∧ Below w.heap.size w w' ∧
      (∀ x, rise leaf p n ds = some x → m = x ∧ Arr 64 Any w' (.slice a k c) (pcs (ups leaf (sides p n).reverse ds))) := by
  by_cases hok : p < n ∧ (sides p n).length = ds.length
  · refine (rise_calls w leaf p n _ ds hA hD hl hT hn hok.1 hok.2).mono ?_
    rintro e w3 ⟨v3, rfl, g1, g2⟩
    obtain ⟨a, c, rfl, _⟩ := g1.form
    refine ⟨a, _, c, _, by rw [show (rise leaf p n ds).isSome = true by unfold rise; rw [if_pos hok]; rfl], topOf_length _ _ _ hl, g2, fun x hx => ⟨?_, g1.any⟩⟩
    unfold rise at hx
    rw [if_pos hok] at hx
    exact Option.some.inj hx
  · refine (rise_none w leaf p n _ ds hA hl hn hp hd (by by_cases h : p < n; exact .inr (fun e => hok ⟨h, e⟩); exact .inl (by omega))).mono ?_
    rintro e w3 ⟨rfl, g2⟩
    have hr : rise leaf p n ds = none := by unfold rise; rw [if_neg hok]
    exact ⟨none, 0, 0, zero32, by rw [hr]; rfl, rfl, g2, fun x hx => by rw [hr] at hx; cases hx⟩
theorem rise_top {leaf : Dg} {p n : Nat} {ds : List Dg} {x : Dg} (h : rise leaf p n ds = some x) : (sides p n).reverse.length = ds.length ∧ topOf leaf (sides p n).reverse ds = x := by
  unfold rise at h
  split at h
  · rename_i hc; exact ⟨by simpa using hc.2, Option.some.inj h⟩
  · cases h
theorem textD_inj {x y : Dg × Dg} (h1 : x.1.length = 32) (h2 : y.1.length = 32) (h : textD x = textD y) : x = y := by
  unfold textD at h
  have h := List.append_cancel_left (List.append_cancel_left h)
  have := List.append_inj h (by omega)
  exact Prod.ext this.1 this.2
theorem results_3 {P : Program} {fn : Func} {u v x : Tmp} (h : fn.results = #[.tmp u, .tmp v, .tmp x]) (tmps : Array Value) (w : World) : (results fn tmps).run P w = .ok (.tuple #[tmps.getD u undef, tmps.getD v undef, tmps.getD x undef]) w := by
  simp [results, h]
theorem rangeAt_below {a b : World} {g o : Nat} {cs : List Value} (hr : a.rangeAt g o cs) (hb : Below a.heap.size a b) : b.rangeAt g o cs := fun j u hu => (World.cell?_of_block (w := a) (hb.block g (World.block_lt_of_cell? a _ (hr j u hu)))).trans (hr j u hu)
/-- what Clash answers -/
def ClashIs (w : World) (a b : Dg) (p n : Nat) (ps qs : List Dg) (e : Ending) (w' : World) : Prop :=
  Below w.heap.size w w' ∧
  (((∃ d, rise a p n ps = some d ∧ rise b p n qs = some d) ∧ ¬ (a = b ∧ ps = qs) ∧ ∃ vx vy x y, e = .returned (.tuple #[vx, vy, .bool true]) ∧ Byt Any w' vx x ∧ Byt Any w' vy y ∧ x ≠ y ∧ sha x = sha y ∧ x.length ≤ 128 ∧ y.length ≤ 128) ∨
   (¬ ((∃ d, rise a p n ps = some d ∧ rise b p n qs = some d) ∧ ¬ (a = b ∧ ps = qs)) ∧ e = .returned (.tuple #[.slice none 0 0, .slice none 0 0, .bool false])))

set_option maxHeartbeats 16000000 in
set_option maxRecDepth 100000 in
theorem clash_calls (w : World) (a b : Dg) (p n : Nat) (vp vq : Value) (ps qs : List Dg) (hP : Arr 32 Any w vp (dcs ps)) (hQ : Arr 32 Any w vq (dcs qs)) (hDP : ∀ d ∈ ps, d.length = 32) (hDQ : ∀ d ∈ qs, d.length = 32) (ha : a.length = 32) (hb : b.length = 32)
    (hT : TabB w 1) (hn : n < 4294967296) (hp : p < 4294967296) (hd : ps.length ≤ 4398046511104) (he : qs.length ≤ 4398046511104) :
    Calls Tryd.prog 21 #[dv a, dv b, .int .u32 (p : Int), .int .u32 (n : Int), vp, vq] w fun e w' => ClashIs w a b p n ps qs e w' := by
  obtain ⟨pa, pc, rfl, hk1, hk2, hk3⟩ := hP.form
  obtain ⟨qa, qc, rfl, hj1, hj2, hj3⟩ := hQ.form
  simp only [List.length_map] at hP hk1 hQ hj1 ⊢
  obtain ⟨W, hW, k0, k1, kb, ks⟩ : ∃ W, (w.alloc (.cells (a.map byt).toArray 25)).alloc (.cells (b.map byt).toArray 25) = W ∧ Hid (Blk W w.heap.size (a.map byt) 25) ∧ Hid (Blk W (w.heap.size + 1) (b.map byt) 25) ∧ Hid (Below w.heap.size w W) ∧ W.heap.size = w.heap.size + 1 + 1 := by
    refine ⟨_, rfl, Lib.hid ((Blk.new w _ _ _ rfl).alloc _), Lib.hid ?_, Lib.hid (((Below.refl _ _).alloc (Nat.le_refl _) _).alloc (by simp) _), by simp⟩
    have := Blk.new (w.alloc (.cells (a.map byt).toArray 25)) (b.map byt).toArray 25 _ rfl
    rwa [World.size_alloc] at this
  have HP := Lib.hid (hP.below (by omega) kb.out)
  have HQ := Lib.hid (hQ.below (by omega) kb.out)
  have HT := Lib.hid (hT.below kb.out)
  have HLA := Lib.hid ha
  have HLB := Lib.hid hb
  have HDP := Lib.hid hDP
  have HDQ := Lib.hid hDQ
  have KS := Lib.hid ks
  clear hP hQ hT ha hb hDP hDQ hk1 hk2 hk3 hj1 hj2 hj3 ks
  go_enter Tryd.func21, Tryd.ntmps21
  go_wp2_with (first
    | (with_reducible refine wpList_load_cs (by with_unfolding_all rfl) _ _ rfl w.heap.size _ rfl k0.out _ Tryd.underlying25 rfl (szD' HLA.out) _ rfl ?_)
    | fail)
  clear hW
  refine (rise_any W a p n _ ps HP.out HDP.out HLA.out HT.out hn hp hd).mono ?_
  rintro e w3 ⟨ua, uk, uc, m, rfl, hm, g, hx⟩
  have HM := Lib.hid hm
  have HX := Lib.hid hx
  obtain ⟨W4, hW4, N4, NB4, ns4⟩ := start32 w3
  have HOM := Lib.hid (one_cells m)
  have hf5 : Fr (fun b => b = w3.heap.size) W4 (W4.setRow w3.heap.size (m.map byt).toArray) := (Fr.refl (fun b => b = w3.heap.size) W4).setRow (.inr rfl) _
  have hg4 : Below W.heap.size W W4 := g.trans (NB4.out.mono g.size)
  have hB5 : Below w.heap.size w (W4.setRow w3.heap.size (m.map byt).toArray) := below_setRow (kb.out.trans (hg4.mono (by have := KS.out; omega))) (show w.heap.size ≤ w3.heap.size by have := KS.out; have := g.size; omega) _
  have hw3 : W.heap.size ≤ w3.heap.size := g.size
  have B5 := Lib.hid hB5
  have N5 := Lib.hid (N4.out.row (m.map byt))
  have K7 := Lib.hid ((k1.out.below hg4).fr hf5 (by have := KS.out; omega))
  have Q5 := Lib.hid ((HQ.out.mono (E := fun b => b < W.heap.size) (by omega) (fun b h _ => h)).below (by omega) hg4 |>.fr (by omega) hf5 (fun b _ hb h => by omega)).any
  have T5 := Lib.hid ((HT.out.below hg4).fr hf5 (fun h => by have : 1 < W.heap.size := (Array.getElem?_eq_some_iff.1 HT.out.choose_spec.choose_spec).1; omega))
  have X5 := Lib.hid (show ∀ x, rise a p n ps = some x → m = x ∧ Arr 64 Any (W4.setRow w3.heap.size (m.map byt).toArray) (.slice ua uk uc) (pcs (ups a (sides p n).reverse ps)) from fun x h => by
    obtain ⟨h1, h2⟩ := hx x h
    exact ⟨h1, ((h2.mono (E := fun b => b < w3.heap.size) (by omega) (fun b h _ => h)).below (by omega) NB4.out |>.fr (by omega) hf5 (fun b _ hb h => by omega)).any⟩)
  have hs5 : w3.heap.size < (W4.setRow w3.heap.size (m.map byt).toArray).heap.size := by simp; omega
  obtain ⟨W5, hW5⟩ : ∃ x, W4.setRow w3.heap.size (m.map byt).toArray = x := ⟨_, rfl⟩
  rw [hW5] at B5 N5 K7 Q5 T5 X5 hs5
  have hw3' := KS.out
  clear hf5 hg4 hB5 hx g HP HT HQ hm kb k0 k1 HX
  go_wp2_with (first
    | (with_reducible refine wpList_store_blk rfl _ _ _ rfl w3.heap.size (m.map byt) _ rfl _ rfl rfl N4.out (szD' HM.out) (by simp [HM.out]) HOM.out ?_; rw [hW5])
    | (with_reducible refine wpList_load_cs (by with_unfolding_all rfl) _ _ rfl (w.heap.size + 1) _ rfl K7.out _ Tryd.underlying25 rfl (szD' HLB.out) _ rfl ?_)
    | fail)
  clear hW4 hW5 N4 NB4 ns4
  refine (rise_any W5 b p n _ qs Q5.out HDQ.out HLB.out T5.out hn hp he).mono ?_
  rintro e w6 ⟨va, vk, vc, m2, rfl, hm2, g, hx2⟩
  have HM2 := Lib.hid hm2
  obtain ⟨W7, hW7, N7, NB7, ns7⟩ := start32 w6
  have HOM2 := Lib.hid (one_cells m2)
  have hf8 : Fr (fun b => b = w6.heap.size) W7 (W7.setRow w6.heap.size (m2.map byt).toArray) := (Fr.refl (fun b => b = w6.heap.size) W7).setRow (.inr rfl) _
  have hw6 : W5.heap.size ≤ w6.heap.size := g.size
  have hg7 : Below W5.heap.size W5 W7 := g.trans (NB7.out.mono g.size)
  have B8 := Lib.hid (show Below w.heap.size w (W7.setRow w6.heap.size (m2.map byt).toArray) from below_setRow (B5.out.trans (hg7.mono B5.out.size)) (by omega) _)
  have N8 := Lib.hid ((N5.out.below hg7).fr hf8 (by omega))
  have M8 := Lib.hid (N7.out.row (m2.map byt))
  have T8 := Lib.hid ((T5.out.below hg7).fr hf8 (fun h => by have : 1 < W5.heap.size := (Array.getElem?_eq_some_iff.1 T5.out.choose_spec.choose_spec).1; omega))
  have X8 := Lib.hid (show ∀ x, rise a p n ps = some x → m = x ∧ Arr 64 Any (W7.setRow w6.heap.size (m2.map byt).toArray) (.slice ua uk uc) (pcs (ups a (sides p n).reverse ps)) from fun x h => by
    obtain ⟨h1, h2⟩ := X5.out x h
    exact ⟨h1, ((h2.mono (E := fun b => b < W5.heap.size) (by omega) (fun b h _ => h)).below (by omega) hg7 |>.fr (by omega) hf8 (fun b _ hb h => by omega)).any⟩)
  have Y8 := Lib.hid (show ∀ x, rise b p n qs = some x → m2 = x ∧ Arr 64 Any (W7.setRow w6.heap.size (m2.map byt).toArray) (.slice va vk vc) (pcs (ups b (sides p n).reverse qs)) from fun x h => by
    obtain ⟨h1, h2⟩ := hx2 x h
    exact ⟨h1, ((h2.mono (E := fun b => b < w6.heap.size) (by omega) (fun b h _ => h)).below (by omega) NB7.out |>.fr (by omega) hf8 (fun b _ hb h => by omega)).any⟩)
  obtain ⟨W8, hW8⟩ : ∃ x, W7.setRow w6.heap.size (m2.map byt).toArray = x := ⟨_, rfl⟩
  rw [hW8] at B8 N8 M8 T8 X8 Y8
  clear hf8 hg7 hx2 g B5 K7 Q5 T5 X5 hm2
  obtain ⟨ra, hra⟩ : ∃ x, rise a p n ps = x := ⟨_, rfl⟩
  obtain ⟨rb, hrb⟩ : ∃ x, rise b p n qs = x := ⟨_, rfl⟩
  have HRA := Lib.hid hra
  have HRB := Lib.hid hrb
  rw [hra] at X8 ⊢
  rw [hrb] at Y8 ⊢
  clear hra hrb
  have hqm : ∀ w, (Op.equalIn 10000 25 (.agg (m.map byt).toArray) (.agg (m2.map byt).toArray)).run Tryd.prog w = .ok (m == m2) w := fun w => run_equal_u8 Tryd.underlying25 (i := _) rfl (by kernel_rfl) Tryd.underlying5 w m m2 HM.out HM2.out
  by_cases hgood : ra.isSome = true ∧ rb.isSome = true ∧ (m == m2) = true
  rotate_left
  · have HBAD := Lib.hid (show ¬ ((∃ d, rise a p n ps = some d ∧ rise b p n qs = some d) ∧ ¬ (a = b ∧ ps = qs)) from fun hc => by
      obtain ⟨⟨d, h1, h2⟩, _⟩ := hc
      rw [HRA.out] at h1
      rw [HRB.out] at h2
      refine hgood ⟨by rw [h1]; rfl, by rw [h2]; rfl, ?_⟩
      rw [(X8.out d h1).1, (Y8.out d h2).1]
      simp)
    have hbe : ra.isSome = false ∨ (ra.isSome = true ∧ rb.isSome = false) ∨ (ra.isSome = true ∧ rb.isSome = true ∧ (m == m2) = false) := by
      cases h1 : ra.isSome <;> cases h2 : rb.isSome <;> cases h3 : (m == m2) <;> simp_all
    clear hgood
    rcases hbe with h1 | ⟨h1, h2⟩ | ⟨h1, h2, h3⟩
    all_goals
      go_wp2_with (first
        | (with_reducible refine wpList_store_blk rfl _ _ _ rfl w6.heap.size (m2.map byt) _ rfl _ rfl rfl N7.out (szD' HM2.out) (by simp [HM2.out]) HOM2.out ?_; rw [hW8])
        | (with_reducible refine wpList_load_cs (by with_unfolding_all rfl) _ _ rfl w3.heap.size _ rfl N8.out _ Tryd.underlying25 rfl (szD' HM.out) _ rfl ?_)
        | (with_reducible refine wpList_load_cs (by with_unfolding_all rfl) _ _ rfl w6.heap.size _ rfl M8.out _ Tryd.underlying25 rfl (szD' HM2.out) _ rfl ?_))
      refine bodyPost_ret (results_3 Tryd.results21 _ _) rfl ⟨B8.out, .inr ⟨HBAD.out, rfl⟩⟩
  · obtain ⟨x1, rfl⟩ := Option.isSome_iff_exists.1 hgood.1
    obtain ⟨x2, rfl⟩ := Option.isSome_iff_exists.1 hgood.2.1
    have hmm : m = m2 := by simpa using hgood.2.2
    obtain ⟨e1, AU⟩ := X8.out _ rfl
    obtain ⟨e2, AV⟩ := Y8.out _ rfl
    subst hmm
    subst e1
    subst e2
    have hta := rise_top HRA.out
    have htb := rise_top HRB.out
    obtain ⟨ss, hss⟩ : ∃ z, (sides p n).reverse = z := ⟨_, rfl⟩
    rw [hss] at hta htb AU AV
    have hlu := ups_len a ss ps hta.1
    have hlv := ups_len b ss qs htb.1
    have HMU := Lib.hid (ups_mem a ss ps HLA.out HDP.out)
    have HMV := Lib.hid (ups_mem b ss qs HLB.out HDQ.out)
    have HCA := Lib.hid (clash_at a b ss ps qs hta.1 htb.1 (hta.2.trans htb.2.symm))
    have HCN := Lib.hid (clash_none a b ss ps qs hta.1 htb.1 (hta.2.trans htb.2.symm))
    have HLU := Lib.hid hlu
    have HLV := Lib.hid hlv
    have HSL := Lib.hid hta.1
    have HSM := Lib.hid htb.1
    obtain ⟨U, hU⟩ : ∃ z, ups a ss ps = z := ⟨_, rfl⟩
    obtain ⟨V, hV⟩ : ∃ z, ups b ss qs = z := ⟨_, rfl⟩
    rw [hU] at AU HMU HCA HCN HLU
    rw [hV] at AV HMV HCA HCN HLV
    obtain ⟨ua', uc', hue, _⟩ := AU.form
    obtain ⟨va', vc', hve, _⟩ := AV.form
    simp only [Value.slice.injEq, List.length_map] at hue hve
    obtain ⟨rfl, rfl, rfl⟩ := hue
    obtain ⟨rfl, rfl, rfl⟩ := hve
    have HUE := Lib.hid (show a = b ∧ ps = qs → U = V from fun h => by rw [← hU, ← hV, h.1, h.2])
    have HAU := Lib.hid AU
    have HAV := Lib.hid AV
    have HT8 := Lib.hid T8.out
    have hUl : U.length ≤ 4398046511104 := by have := HLU.out; omega
    have HUV := Lib.hid (show U.length = V.length by have := HLU.out; have := HLV.out; have := HSL.out; have := HSM.out; omega)
    have HRD := Lib.hid (show ∃ d, rise a p n ps = some d ∧ rise b p n qs = some d from ⟨_, HRA.out, HRB.out⟩)
    have h1 : (some m : Option Dg).isSome = true := rfl
    have h3 : (m == m) = true := by simp
    clear hgood AU AV hta htb hlu hlv hU hV X8 Y8 hss
    go_upto_region 6 with (first
        | (with_reducible refine wpList_store_blk rfl _ _ _ rfl w6.heap.size (m.map byt) _ rfl _ rfl rfl N7.out (szD' HM2.out) (by simp [HM2.out]) HOM2.out ?_; rw [hW8])
        | (with_reducible refine wpList_load_cs (by with_unfolding_all rfl) _ _ rfl w3.heap.size _ rfl N8.out _ Tryd.underlying25 rfl (szD' HM.out) _ rfl ?_)
        | (with_reducible refine wpList_load_cs (by with_unfolding_all rfl) _ _ rfl w6.heap.size _ rfl M8.out _ Tryd.underlying25 rfl (szD' HM2.out) _ rfl ?_))
    clear hW7 hW8 hqm h1 h3
    go_loopw [21] (fun s wx => ∃ k : Nat, k ≤ U.length ∧ s = .int .i64 ((k : Int) - 1) ∧ (∀ j : Nat, k ≤ j → U[j]? = V[j]?) ∧ Below W8.heap.size W8 wx) (fun s _ => (intOf s + 1).toNat)
    case atStart => exact ⟨U.length, Nat.le_refl _, rfl, fun j hj => by rw [List.getElem?_eq_none hj, List.getElem?_eq_none (by have := HUV.out; omega)], Below.refl _ _⟩
    case round =>
      obtain ⟨k, hk, rfl, hEq, hB⟩ := hrel
      have HB := Lib.hid hB
      have HEQ := Lib.hid hEq
      clear hB hEq
      rcases k with _ | k
      · have hI : ¬ ((0 : Int) ≤ ((0 : Nat) : Int) - 1) := by omega
        have HBAD := Lib.hid (show ¬ ((∃ d, rise a p n ps = some d ∧ rise b p n qs = some d) ∧ ¬ (a = b ∧ ps = qs)) from fun hc => hc.2 (HCN.out fun j => HEQ.out j (Nat.zero_le _)))
        have HBF := Lib.hid (B8.out.trans (HB.out.mono B8.out.size))
        go_wp2
        refine bodyPost_ret (results_3 Tryd.results21 _ _) rfl ⟨HBF.out, .inr ⟨HBAD.out, rfl⟩⟩
      · rw [show (((k + 1 : Nat) : Int) - 1) = (k : Int) by omega]
        have hkU : k < U.length := hk
        have hkV : k < V.length := by have := HUV.out; omega
        have h0I : (0 : Int) ≤ (k : Int) := by omega
        obtain ⟨b1, o1, q1, e1, _, r1⟩ := HAU.out.at k (by simpa using hkU)
        obtain ⟨b2, o2, q2, e2, _, r2⟩ := HAV.out.at k (by simpa using hkV)
        simp only [Value.slice.injEq, List.length_map, true_and] at e1 e2
        obtain ⟨rfl, rfl⟩ := e1
        obtain ⟨rfl, rfl⟩ := e2
        obtain ⟨x, hx⟩ : ∃ x, U[k]'hkU = x := ⟨_, rfl⟩
        obtain ⟨y, hy⟩ : ∃ y, V[k]'hkV = y := ⟨_, rfl⟩
        simp only [List.getElem_map, hx] at r1
        simp only [List.getElem_map, hy] at r2
        have HXK := Lib.hid (show U[k]? = some x by rw [List.getElem?_eq_getElem hkU, hx])
        have HYK := Lib.hid (show V[k]? = some y by rw [List.getElem?_eq_getElem hkV, hy])
        have HX32 := Lib.hid (HMU.out x (by rw [← hx]; exact List.getElem_mem _))
        have HY32 := Lib.hid (HMV.out y (by rw [← hy]; exact List.getElem_mem _))
        have HSX := Lib.hid (szP.trans (by rw [List.length_append, List.length_map, List.length_map, HX32.out.1, HX32.out.2]) : (Tryd.prog.info? 57).map (·.size) = some (x.1.map byt ++ x.2.map byt).length)
        have HSY := Lib.hid (szP.trans (by rw [List.length_append, List.length_map, List.length_map, HY32.out.1, HY32.out.2]) : (Tryd.prog.info? 57).map (·.size) = some (y.1.map byt ++ y.2.map byt).length)
        have HNX := Lib.hid (show x.1.map byt ++ x.2.map byt ≠ [] from fun h => by have := congrArg List.length h; simp [HX32.out.1] at this)
        have HNY := Lib.hid (show y.1.map byt ++ y.2.map byt ≠ [] from fun h => by have := congrArg List.length h; simp [HY32.out.1] at this)
        have HST := Lib.hid (show (fun w' : World => w'.rangeAt b1 (o1 + k * 64) (x.1.map byt ++ x.2.map byt) ∧ w'.rangeAt b2 (o2 + k * 64) (y.1.map byt ++ y.2.map byt) ∧ Below W8.heap.size W8 w') wr from
          ⟨rangeAt_below r1 HB.out, rangeAt_below r2 HB.out, HB.out⟩)
        have hqp : ∀ w, (Op.equalIn 10000 57 (.agg (x.1.map byt ++ x.2.map byt).toArray) (.agg (y.1.map byt ++ y.2.map byt).toArray)).run Tryd.prog w = .ok (x.1 == y.1 && x.2 == y.2) w := fun w => run_equal_pair w x y HX32.out.1 HX32.out.2 HY32.out.1 HY32.out.2
        clear r1 r2 hx hy
        rcases Bool.eq_false_or_eq_true (x.1 == y.1 && x.2 == y.2) with hb | hb
        · rw [hb] at hqp
          go_upto_region 8 with fail
          refine wp_region_held_drew (S := (fun w' => w'.rangeAt b1 (o1 + k * 64) (x.1.map byt ++ x.2.map byt) ∧ w'.rangeAt b2 (o2 + k * 64) (y.1.map byt ++ y.2.map byt) ∧ Below W8.heap.size W8 w')) (by kernel_rfl) ⟨HST.out.1, HST.out.2.1, below_drew HST.out.2.2⟩ (fun hHeld => ?_)
          refine wpAnyH_take (i := 0) (oi := ⟨_, _, _, _, _, _⟩) (v := ?_) rfl (by kernel_rfl) (by kernel_rfl) (by kernel_rfl) (fun _ _ _ h => h) (Or.inl ⟨by rfl, ?_⟩) (by assumption) ?_
          rotate_left
          · intro w hSw; go_simp; try (with_reducible rfl)
          try simp only [Act.put, List.setIfInBounds_toArray, List.set_cons_zero, List.set_cons_succ]
          refine wpAnyH_take (i := 1) (oi := ⟨_, _, _, _, _, _⟩) (v := ?_) rfl (by kernel_rfl) (by kernel_rfl) (by kernel_rfl) (fun _ _ _ h => h) (Or.inl ⟨by rfl, ?_⟩) (by assumption) ?_
          rotate_left
          · intro w hSw; go_simp; try (with_reducible rfl)
          try simp only [Act.put, List.setIfInBounds_toArray, List.set_cons_zero, List.set_cons_succ]
          refine wpAnyH_take (i := 2) (oi := ⟨_, _, _, _, _, _⟩) (v := ?_) rfl (by kernel_rfl) (by kernel_rfl) (by kernel_rfl) (fun _ _ _ h => h) (Or.inl ⟨by rfl, ?_⟩) (by assumption) ?_
          rotate_left
          · intro w hSw; go_simp; try (with_reducible rfl)
          try simp only [Act.put, List.setIfInBounds_toArray, List.set_cons_zero, List.set_cons_succ]
          refine wpAnyH_take (i := 3) (oi := ⟨_, _, _, _, _, _⟩) rfl (by kernel_rfl) (by kernel_rfl) (by kernel_rfl) (fun _ _ _ h => h) (yieldsIf_load_mid (by rfl) _ _ rfl b1 (o1 + k * 64) rfl (x.1.map byt ++ x.2.map byt) _ (fun _ h => h.1) Tryd.underlying57 rfl HSX.out) (by assumption) ?_
          try simp only [Act.put, List.setIfInBounds_toArray, List.set_cons_zero, List.set_cons_succ]
          refine wpAnyH_take (i := 4) (oi := ⟨_, _, _, _, _, _⟩) (v := ?_) rfl (by kernel_rfl) (by kernel_rfl) (by kernel_rfl) (fun _ _ _ h => h) (Or.inl ⟨by rfl, ?_⟩) (by assumption) ?_
          rotate_left
          · intro w hSw; go_simp; try (with_reducible rfl)
          try simp only [Act.put, List.setIfInBounds_toArray, List.set_cons_zero, List.set_cons_succ]
          refine wpAnyH_take (i := 5) (oi := ⟨_, _, _, _, _, _⟩) (v := ?_) rfl (by kernel_rfl) (by kernel_rfl) (by kernel_rfl) (fun _ _ _ h => h) (Or.inl ⟨by rfl, ?_⟩) (by assumption) ?_
          rotate_left
          · intro w hSw; go_simp; try (with_reducible rfl)
          try simp only [Act.put, List.setIfInBounds_toArray, List.set_cons_zero, List.set_cons_succ]
          refine wpAnyH_take (i := 6) (oi := ⟨_, _, _, _, _, _⟩) (v := ?_) rfl (by kernel_rfl) (by kernel_rfl) (by kernel_rfl) (fun _ _ _ h => h) (Or.inl ⟨by rfl, ?_⟩) (by assumption) ?_
          rotate_left
          · intro w hSw; go_simp; try (with_reducible rfl)
          try simp only [Act.put, List.setIfInBounds_toArray, List.set_cons_zero, List.set_cons_succ]
          refine wpAnyH_take (i := 7) (oi := ⟨_, _, _, _, _, _⟩) rfl (by kernel_rfl) (by kernel_rfl) (by kernel_rfl) (fun _ _ _ h => h) (yieldsIf_load_mid (by rfl) _ _ rfl b2 (o2 + k * 64) rfl (y.1.map byt ++ y.2.map byt) _ (fun _ h => h.2.1) Tryd.underlying57 rfl HSY.out) (by assumption) ?_
          try simp only [Act.put, List.setIfInBounds_toArray, List.set_cons_zero, List.set_cons_succ]
          refine wpAnyH_take (i := 8) (oi := ⟨_, _, _, _, _, _⟩) (v := ?_) rfl (by kernel_rfl) (by kernel_rfl) (by kernel_rfl) (fun _ _ _ h => h) (Or.inl ⟨by rfl, ?_⟩) (by assumption) ?_
          rotate_left
          · intro w hSw; go_simp; try (with_reducible rfl)
          try simp only [Act.put, List.setIfInBounds_toArray, List.set_cons_zero, List.set_cons_succ]
          refine wpAnyH_done (by kernel_rfl) ?_ _
          have HB2 := Lib.hid hHeld.2.2
          have HXY := Lib.hid (show x = y by simp at hb; exact Prod.ext hb.1 hb.2)
          clear hHeld hqp
          go_wp2
          go_roundw
          case rel => exact ⟨k, by omega, by go_num, fun j hj => by
            rcases Nat.lt_or_ge k j with h | h
            · exact HEQ.out j h
            · rw [show j = k by omega, HXK.out, HYK.out, HXY.out], HB2.out⟩
          case measure => simp [intOf]
        · rw [hb] at hqp
          go_upto_region 8 with fail
          refine wp_region_held_drew (S := (fun w' => w'.rangeAt b1 (o1 + k * 64) (x.1.map byt ++ x.2.map byt) ∧ w'.rangeAt b2 (o2 + k * 64) (y.1.map byt ++ y.2.map byt) ∧ Below W8.heap.size W8 w')) (by kernel_rfl) ⟨HST.out.1, HST.out.2.1, below_drew HST.out.2.2⟩ (fun hHeld => ?_)
          refine wpAnyH_take (i := 0) (oi := ⟨_, _, _, _, _, _⟩) (v := ?_) rfl (by kernel_rfl) (by kernel_rfl) (by kernel_rfl) (fun _ _ _ h => h) (Or.inl ⟨by rfl, ?_⟩) (by assumption) ?_
          rotate_left
          · intro w hSw; go_simp; try (with_reducible rfl)
          try simp only [Act.put, List.setIfInBounds_toArray, List.set_cons_zero, List.set_cons_succ]
          refine wpAnyH_take (i := 1) (oi := ⟨_, _, _, _, _, _⟩) (v := ?_) rfl (by kernel_rfl) (by kernel_rfl) (by kernel_rfl) (fun _ _ _ h => h) (Or.inl ⟨by rfl, ?_⟩) (by assumption) ?_
          rotate_left
          · intro w hSw; go_simp; try (with_reducible rfl)
          try simp only [Act.put, List.setIfInBounds_toArray, List.set_cons_zero, List.set_cons_succ]
          refine wpAnyH_take (i := 2) (oi := ⟨_, _, _, _, _, _⟩) (v := ?_) rfl (by kernel_rfl) (by kernel_rfl) (by kernel_rfl) (fun _ _ _ h => h) (Or.inl ⟨by rfl, ?_⟩) (by assumption) ?_
          rotate_left
          · intro w hSw; go_simp; try (with_reducible rfl)
          try simp only [Act.put, List.setIfInBounds_toArray, List.set_cons_zero, List.set_cons_succ]
          refine wpAnyH_take (i := 3) (oi := ⟨_, _, _, _, _, _⟩) rfl (by kernel_rfl) (by kernel_rfl) (by kernel_rfl) (fun _ _ _ h => h) (yieldsIf_load_mid (by rfl) _ _ rfl b1 (o1 + k * 64) rfl (x.1.map byt ++ x.2.map byt) _ (fun _ h => h.1) Tryd.underlying57 rfl HSX.out) (by assumption) ?_
          try simp only [Act.put, List.setIfInBounds_toArray, List.set_cons_zero, List.set_cons_succ]
          refine wpAnyH_take (i := 4) (oi := ⟨_, _, _, _, _, _⟩) (v := ?_) rfl (by kernel_rfl) (by kernel_rfl) (by kernel_rfl) (fun _ _ _ h => h) (Or.inl ⟨by rfl, ?_⟩) (by assumption) ?_
          rotate_left
          · intro w hSw; go_simp; try (with_reducible rfl)
          try simp only [Act.put, List.setIfInBounds_toArray, List.set_cons_zero, List.set_cons_succ]
          refine wpAnyH_take (i := 5) (oi := ⟨_, _, _, _, _, _⟩) (v := ?_) rfl (by kernel_rfl) (by kernel_rfl) (by kernel_rfl) (fun _ _ _ h => h) (Or.inl ⟨by rfl, ?_⟩) (by assumption) ?_
          rotate_left
          · intro w hSw; go_simp; try (with_reducible rfl)
          try simp only [Act.put, List.setIfInBounds_toArray, List.set_cons_zero, List.set_cons_succ]
          refine wpAnyH_take (i := 6) (oi := ⟨_, _, _, _, _, _⟩) (v := ?_) rfl (by kernel_rfl) (by kernel_rfl) (by kernel_rfl) (fun _ _ _ h => h) (Or.inl ⟨by rfl, ?_⟩) (by assumption) ?_
          rotate_left
          · intro w hSw; go_simp; try (with_reducible rfl)
          try simp only [Act.put, List.setIfInBounds_toArray, List.set_cons_zero, List.set_cons_succ]
          refine wpAnyH_take (i := 7) (oi := ⟨_, _, _, _, _, _⟩) rfl (by kernel_rfl) (by kernel_rfl) (by kernel_rfl) (fun _ _ _ h => h) (yieldsIf_load_mid (by rfl) _ _ rfl b2 (o2 + k * 64) rfl (y.1.map byt ++ y.2.map byt) _ (fun _ h => h.2.1) Tryd.underlying57 rfl HSY.out) (by assumption) ?_
          try simp only [Act.put, List.setIfInBounds_toArray, List.set_cons_zero, List.set_cons_succ]
          refine wpAnyH_take (i := 8) (oi := ⟨_, _, _, _, _, _⟩) (v := ?_) rfl (by kernel_rfl) (by kernel_rfl) (by kernel_rfl) (fun _ _ _ h => h) (Or.inl ⟨by rfl, ?_⟩) (by assumption) ?_
          rotate_left
          · intro w hSw; go_simp; try (with_reducible rfl)
          try simp only [Act.put, List.setIfInBounds_toArray, List.set_cons_zero, List.set_cons_succ]
          refine wpAnyH_done (by kernel_rfl) ?_ _
          have HS2 := Lib.hid hHeld
          clear hHeld hqp
          go_upto_region 9 with fail
          refine wp_region_held_drew (S := (fun w' => w'.rangeAt b1 (o1 + k * 64) (x.1.map byt ++ x.2.map byt) ∧ w'.rangeAt b2 (o2 + k * 64) (y.1.map byt ++ y.2.map byt) ∧ Below W8.heap.size W8 w')) (by kernel_rfl) ⟨HS2.out.1, HS2.out.2.1, below_drew HS2.out.2.2⟩ (fun hHeld => ?_)
          refine wpAnyH_take (i := 0) (oi := ⟨_, _, _, _, _, _⟩) (v := ?_) rfl (by kernel_rfl) (by kernel_rfl) (by kernel_rfl) (fun _ _ _ h => h) (Or.inl ⟨by rfl, ?_⟩) (by assumption) ?_
          rotate_left
          · intro w hSw; go_simp; try (with_reducible rfl)
          try simp only [Act.put, List.setIfInBounds_toArray, List.set_cons_zero, List.set_cons_succ]
          refine wpAnyH_take (i := 1) (oi := ⟨_, _, _, _, _, _⟩) (v := ?_) rfl (by kernel_rfl) (by kernel_rfl) (by kernel_rfl) (fun _ _ _ h => h) (Or.inl ⟨by rfl, ?_⟩) (by assumption) ?_
          rotate_left
          · intro w hSw; go_simp; try (with_reducible rfl)
          try simp only [Act.put, List.setIfInBounds_toArray, List.set_cons_zero, List.set_cons_succ]
          refine wpAnyH_take (i := 2) (oi := ⟨_, _, _, _, _, _⟩) (v := ?_) rfl (by kernel_rfl) (by kernel_rfl) (by kernel_rfl) (fun _ _ _ h => h) (Or.inl ⟨by rfl, ?_⟩) (by assumption) ?_
          rotate_left
          · intro w hSw; go_simp; try (with_reducible rfl)
          try simp only [Act.put, List.setIfInBounds_toArray, List.set_cons_zero, List.set_cons_succ]
          refine wpAnyH_take (i := 3) (oi := ⟨_, _, _, _, _, _⟩) rfl (by kernel_rfl) (by kernel_rfl) (by kernel_rfl) (fun _ _ _ h => h) (yieldsIf_load_mid (by rfl) _ _ rfl b1 (o1 + k * 64) rfl (x.1.map byt ++ x.2.map byt) _ (fun _ h => h.1) Tryd.underlying57 rfl HSX.out) (by assumption) ?_
          try simp only [Act.put, List.setIfInBounds_toArray, List.set_cons_zero, List.set_cons_succ]
          refine wpAnyH_take (i := 5) (oi := ⟨_, _, _, _, _, _⟩) (v := ?_) rfl (by kernel_rfl) (by kernel_rfl) (by kernel_rfl) (fun _ _ _ h => h) (Or.inl ⟨by rfl, ?_⟩) (by assumption) ?_
          rotate_left
          · intro w hSw; go_simp; try (with_reducible rfl)
          try simp only [Act.put, List.setIfInBounds_toArray, List.set_cons_zero, List.set_cons_succ]
          refine wpAnyH_take (i := 6) (oi := ⟨_, _, _, _, _, _⟩) (v := ?_) rfl (by kernel_rfl) (by kernel_rfl) (by kernel_rfl) (fun _ _ _ h => h) (Or.inl ⟨by rfl, ?_⟩) (by assumption) ?_
          rotate_left
          · intro w hSw; go_simp; try (with_reducible rfl)
          try simp only [Act.put, List.setIfInBounds_toArray, List.set_cons_zero, List.set_cons_succ]
          refine wpAnyH_take (i := 7) (oi := ⟨_, _, _, _, _, _⟩) (v := ?_) rfl (by kernel_rfl) (by kernel_rfl) (by kernel_rfl) (fun _ _ _ h => h) (Or.inl ⟨by rfl, ?_⟩) (by assumption) ?_
          rotate_left
          · intro w hSw; go_simp; try (with_reducible rfl)
          try simp only [Act.put, List.setIfInBounds_toArray, List.set_cons_zero, List.set_cons_succ]
          refine wpAnyH_take (i := 8) (oi := ⟨_, _, _, _, _, _⟩) rfl (by kernel_rfl) (by kernel_rfl) (by kernel_rfl) (fun _ _ _ h => h) (yieldsIf_load_mid (by rfl) _ _ rfl b2 (o2 + k * 64) rfl (y.1.map byt ++ y.2.map byt) _ (fun _ h => h.2.1) Tryd.underlying57 rfl HSY.out) (by assumption) ?_
          try simp only [Act.put, List.setIfInBounds_toArray, List.set_cons_zero, List.set_cons_succ]
          refine wpAnyH_ready (rs := [4]) (by kernel_rfl) (by simp) ?_
          refine AllReadyH.cons (o := ⟨_, _, _, _, _, _⟩) rfl (fun K hK => ?_) AllReadyH.nil
          go_simp
          refine (text_calls _ x.1 x.2 HX32.out.1 HX32.out.2 (HT8.out.below hHeld.2.2)).mono ?_
          rintro e w9 ⟨v1, rfl, g1, g⟩
          have V1 := Lib.hid g1.byt.any
          refine hK.out _ _ (by exact ⟨rangeAt_below hHeld.1 g, rangeAt_below hHeld.2.1 g, hHeld.2.2.trans (g.mono hHeld.2.2.size)⟩) (fun hHeld => ?_)
          clear hK
          try simp only [Act.put, List.setIfInBounds_toArray, List.set_cons_zero, List.set_cons_succ]
          clear g g1
          refine wpAnyH_ready (rs := [9]) (by kernel_rfl) (by simp) ?_
          refine AllReadyH.cons (o := ⟨_, _, _, _, _, _⟩) rfl (fun K hK => ?_) AllReadyH.nil
          go_simp
          refine (text_calls _ y.1 y.2 HY32.out.1 HY32.out.2 (HT8.out.below hHeld.2.2)).mono ?_
          rintro e w10 ⟨v2, rfl, g2, g⟩
          have V2 := Lib.hid g2.byt.any
          have V1' := Lib.hid (V1.out.below g)
          refine hK.out _ _ (by exact ⟨rangeAt_below hHeld.1 g, rangeAt_below hHeld.2.1 g, hHeld.2.2.trans (g.mono hHeld.2.2.size)⟩) (fun hHeld => ?_)
          clear hK
          try simp only [Act.put, List.setIfInBounds_toArray, List.set_cons_zero, List.set_cons_succ]
          clear g g2
          refine wpAnyH_ready (rs := [10]) (by kernel_rfl) (by simp) ?_
          refine AllReadyH.cons (o := ⟨_, _, _, _, _, _⟩) rfl (fun K hK => ?_) AllReadyH.nil
          go_simp
          refine hK.out _ _ (by exact hHeld) (fun hHeld => ?_)
          clear hK
          try simp only [Act.put, List.setIfInBounds_toArray, List.set_cons_zero, List.set_cons_succ]
          refine wpAnyH_ready (rs := [11]) (by kernel_rfl) (by simp) ?_
          refine AllReadyH.cons (o := ⟨_, _, _, _, _, _⟩) rfl (fun K hK => ?_) AllReadyH.nil
          go_simp
          refine hK.out _ _ (by exact hHeld) (fun hHeld => ?_)
          clear hK
          try simp only [Act.put, List.setIfInBounds_toArray, List.set_cons_zero, List.set_cons_succ]
          refine wpAnyH_ready (rs := [12]) (by kernel_rfl) (by simp) ?_
          refine AllReadyH.cons (o := ⟨_, _, _, _, _, _⟩) rfl (fun K hK => ?_) AllReadyH.nil
          go_simp
          refine hK.out _ _ (by exact hHeld) (fun hHeld => ?_)
          clear hK
          try simp only [Act.put, List.setIfInBounds_toArray, List.set_cons_zero, List.set_cons_succ]
          refine wpAnyH_done (by kernel_rfl) ?_ _
          have HFB := Lib.hid (B8.out.trans (hHeld.2.2.mono B8.out.size))
          have HNE := Lib.hid (show x ≠ y from fun h => by subst h; simp at hb)
          have HNP := Lib.hid (HCA.out k (by have := HLU.out; have := HSL.out; omega) x y HXK.out HYK.out (fun j hj => HEQ.out j hj))
          have HNS := Lib.hid (show ¬ (a = b ∧ ps = qs) from fun h => by
            have e := HUE.out h
            have hxk := HXK.out
            rw [e, HYK.out] at hxk
            exact HNE.out (Option.some.inj hxk).symm)
          have HTL := Lib.hid (show ∀ z : Dg × Dg, z.1.length = 32 → z.2.length = 32 → (textD z).length ≤ 128 from fun z h1 h2 => by simp [textD, sha_length, h1, h2])
          clear hHeld
          go_wp2
          refine bodyPost_ret (results_3 Tryd.results21 _ _) rfl ⟨HFB.out, .inl ⟨HRD.out, HNS.out, _, _, textD x, textD y, rfl, V1'.out, V2.out, fun h => HNE.out (textD_inj HX32.out.1 HY32.out.1 h), by rw [sha_textD, sha_textD]; exact HNP.out, HTL.out x HX32.out.1 HX32.out.2, HTL.out y HY32.out.1 HY32.out.2⟩⟩
end Go.Proofs.YtiaoifaglfhagaaDoor.MkW
