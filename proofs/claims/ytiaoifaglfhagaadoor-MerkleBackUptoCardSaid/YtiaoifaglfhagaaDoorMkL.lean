/- The walk of the reference's Fold. Conditions: at most 2^42 digests; the table is laid. -/
import Derived.Test.YtiaoifaglfhagaaDoorMkK
namespace Go.Proofs.YtiaoifaglfhagaaDoor.MkW
open Go Go.RowKit Mem Sha ShaW Mk Arr Row
set_option linter.unusedVariables false

theorem results_ct {P : Program} {fn : Func} {p u : Tmp} {ty : TypeId} (h : fn.results = #[.cell p ty, .tmp u]) (tmps : Array Value) (w : World) (g : Nat) (t : TypeId) (l : List Value) (d : TypeDesc)
    (hp : tmps.getD p undef = .pointer (some ⟨g, 0, none⟩)) (hB : Blk w g l t) (hu : P.underlying ty = some d) (hd : (match d with | .struct _ | .array _ _ => true | _ => false) = true) (hi : (P.info? ty).map (·.size) = some l.length) :
    (results fn tmps).run P w = .ok (.tuple #[.agg l.toArray, tmps.getD u undef]) w := by
  have hl := run_loadVar_row (P := P) w g t ty l.toArray (0, 0) d hB hu hd (by simpa using hi)
  have hp' : tmps[p]?.getD undef = .pointer (some ⟨g, 0, none⟩) := by simpa using hp
  simp only [results, h]
  simp [asAddr, hp', hl, Result.andThen]
theorem rise_bad {leaf : Dg} {p n : Nat} {ds : List Dg} (h : ¬ p < n) : rise leaf p n ds = none := by unfold rise; rw [if_neg (fun h2 => h h2.1)]
theorem rise_one {leaf : Dg} {p : Nat} {ds : List Dg} (h : p < 1) : rise leaf p 1 ds = if ds = [] then some leaf else none := by
  unfold rise
  rw [show sides p 1 = [] by rw [sides, if_pos (Nat.le_refl _)]]
  by_cases hd : ds = []
  · subst hd; rw [if_pos ⟨h, rfl⟩, if_pos rfl]; rfl
  · rw [if_neg hd, if_neg (fun h2 => hd (List.length_eq_zero_iff.1 h2.2.symm))]
theorem rise_nil {leaf : Dg} {p n : Nat} (h : 2 ≤ n) : rise leaf p n [] = none := by
  unfold rise
  rw [if_neg]
  rintro ⟨_, h2⟩
  rw [sides, if_neg (by omega)] at h2
  split at h2 <;> simp at h2
theorem rise_left {leaf last : Dg} {p n : Nat} {ds : List Dg} (h : 2 ≤ n) (hp : p < cutAt n) : rise leaf p n (ds ++ [last]) = (rise leaf p (cutAt n) ds).map (fun d => nodeD d last) := by
  have hc := cutAt_lt h
  have hs : sides p n = false :: sides p (cutAt n) := by rw [sides, if_neg (by omega), if_pos hp]
  unfold rise
  rw [hs]
  by_cases hl : (sides p (cutAt n)).length = ds.length
  · rw [if_pos ⟨by omega, by simp [hl]⟩, if_pos ⟨hp, hl⟩, Option.map_some, List.reverse_cons, topOf_snoc _ _ _ _ _ (by simp [hl])]
    rfl
  · rw [if_neg (fun h2 => hl (by simpa using h2.2)), if_neg (fun h2 => hl h2.2)]; rfl
theorem rise_right {leaf last : Dg} {p n : Nat} {ds : List Dg} (h : 2 ≤ n) (hp : ¬ p < cutAt n) (hn : p < n) : rise leaf p n (ds ++ [last]) = (rise leaf (p - cutAt n) (n - cutAt n) ds).map (fun d => nodeD last d) := by
  have hc := cutAt_lt h
  have hs : sides p n = true :: sides (p - cutAt n) (n - cutAt n) := by rw [sides, if_neg (by omega), if_neg hp]
  unfold rise
  rw [hs]
  by_cases hl : (sides (p - cutAt n) (n - cutAt n)).length = ds.length
  · rw [if_pos ⟨hn, by simp [hl]⟩, if_pos ⟨by omega, hl⟩, Option.map_some, List.reverse_cons, topOf_snoc _ _ _ _ _ (by simp [hl])]
    rfl
  · rw [if_neg (fun h2 => hl (by simpa using h2.2)), if_neg (fun h2 => hl h2.2)]; rfl
/-- what Fold keeps -/
structure FS (w : World) (leaf last : Dg) (g11 : Nat) (sub : Value) (ds' : List Dg) (tab : Nat) (wx : World) : Prop where
  k4 : Blk wx w.heap.size (leaf.map byt) 25
  k8 : Blk wx (w.heap.size + 1) (List.replicate 32 (.int .u8 0)) 25
  k11 : Blk wx g11 (last.map byt) 25
  ap : Arr 32 (fun b => b < w.heap.size) wx sub (dcs ds')
  b : Below w.heap.size w wx
  t : TabB wx tab
  h : tab < w.heap.size ∧ w.heap.size + 2 ≤ g11
section
variable {w : World} {leaf last : Dg} {g11 : Nat} {sub : Value} {ds' : List Dg} {tab : Nat} {a c : World}
theorem FS.below (h : FS w leaf last g11 sub ds' tab a) (hb : Below a.heap.size a c) : FS w leaf last g11 sub ds' tab c :=
  ⟨h.k4.below hb, h.k8.below hb, h.k11.below hb, h.ap.below (by omega) hb, h.b.trans (hb.mono h.b.size), h.t.below hb, h.h⟩
theorem FS.drew (h : FS w leaf last g11 sub ds' tab a) : FS w leaf last g11 sub ds' tab a.drew := ⟨h.k4, h.k8, h.k11, h.ap, below_drew h.b, h.t, h.h⟩
theorem FS.lt (h : FS w leaf last g11 sub ds' tab a) : g11 < a.heap.size := h.k11.lt
theorem FS.set (h : FS w leaf last g11 sub ds' tab a) (g : Nat) (hg : w.heap.size + 2 ≤ g ∧ g ≠ g11) (cs : Array Value) : FS w leaf last g11 sub ds' tab (a.setRow g cs) := by
  have hf : Fr (fun b => b = g) a (a.setRow g cs) := (Fr.refl (fun b => b = g) a).setRow (.inr rfl) cs
  exact ⟨h.k4.fr hf (by omega), h.k8.fr hf (by omega), h.k11.fr hf (fun e => hg.2 e.symm), h.ap.fr (by omega) hf (fun b _ hb e => by omega), below_setRow h.b (by omega) _, h.t.fr hf (by have := h.h; omega), h.h⟩
end

set_option maxHeartbeats 16000000 in
set_option maxRecDepth 100000 in
theorem fold_calls (leaf : Dg) (hl : leaf.length = 32) (k : Nat) : ∀ (w : World) (ds : List Dg), ds.length = k → ∀ (p n : Nat) (vp : Value), Arr 32 Any w vp (dcs ds) → (∀ d ∈ ds, d.length = 32) → TabB w 0 → n < 4294967296 → p < 4294967296 → ds.length ≤ 4398046511104 →
    Calls Tryd.prog 23 #[dv leaf, .int .i64 (p : Int), .int .i64 (n : Int), vp] w fun e w' => ∃ d, e = .returned (.tuple #[dv d, .bool (rise leaf p n ds).isSome]) ∧ d.length = 32 ∧ (∀ x, rise leaf p n ds = some x → d = x) ∧ Below w.heap.size w w' := by
  induction k using Nat.strongRecOn with
  | ind k ih0 =>
  intro w ds hk p n vp hA hD hT hn hp hd
  subst hk
  obtain ⟨va, n1, rfl, hk1, hk2, hk3⟩ := hA.form
  simp only [List.length_map] at hA hk1 ⊢
  obtain ⟨W, hW, K4, K8, KB, ks⟩ : ∃ W, (w.alloc (.cells (leaf.map byt).toArray 25)).alloc (.cells #[.int .u8 0, .int .u8 0, .int .u8 0, .int .u8 0, .int .u8 0, .int .u8 0, .int .u8 0, .int .u8 0, .int .u8 0, .int .u8 0, .int .u8 0, .int .u8 0, .int .u8 0, .int .u8 0, .int .u8 0, .int .u8 0, .int .u8 0, .int .u8 0, .int .u8 0, .int .u8 0, .int .u8 0, .int .u8 0, .int .u8 0, .int .u8 0, .int .u8 0, .int .u8 0, .int .u8 0, .int .u8 0, .int .u8 0, .int .u8 0, .int .u8 0, .int .u8 0] 25) = W ∧ Hid (Blk W w.heap.size (leaf.map byt) 25) ∧ Hid (Blk W (w.heap.size + 1) (List.replicate 32 (.int .u8 0)) 25) ∧ Hid (Below w.heap.size w W) ∧ w.heap.size + 2 ≤ W.heap.size := by
    refine ⟨_, rfl, Lib.hid ((Blk.new w _ _ _ rfl).alloc _), Lib.hid ?_, Lib.hid (((Below.refl _ _).alloc (Nat.le_refl _) _).alloc (by simp) _), by simp⟩
    have := new32 (w.alloc (.cells (leaf.map byt).toArray 25))
    rwa [World.size_alloc] at this
  have HZS := Lib.hid (show (Tryd.prog.info? 25).map (·.size) = some ([.int .u8 0, .int .u8 0, .int .u8 0, .int .u8 0, .int .u8 0, .int .u8 0, .int .u8 0, .int .u8 0, .int .u8 0, .int .u8 0, .int .u8 0, .int .u8 0, .int .u8 0, .int .u8 0, .int .u8 0, .int .u8 0, .int .u8 0, .int .u8 0, .int .u8 0, .int .u8 0, .int .u8 0, .int .u8 0, .int .u8 0, .int .u8 0, .int .u8 0, .int .u8 0, .int .u8 0, .int .u8 0, .int .u8 0, .int .u8 0, .int .u8 0, .int .u8 0] : List Value).length from szD)
  have HZN := Lib.hid (show (List.replicate 32 (Value.int .u8 0)).length = ([.int .u8 0, .int .u8 0, .int .u8 0, .int .u8 0, .int .u8 0, .int .u8 0, .int .u8 0, .int .u8 0, .int .u8 0, .int .u8 0, .int .u8 0, .int .u8 0, .int .u8 0, .int .u8 0, .int .u8 0, .int .u8 0, .int .u8 0, .int .u8 0, .int .u8 0, .int .u8 0, .int .u8 0, .int .u8 0, .int .u8 0, .int .u8 0, .int .u8 0, .int .u8 0, .int .u8 0, .int .u8 0, .int .u8 0, .int .u8 0, .int .u8 0, .int .u8 0] : List Value).length from rfl)
  have HZO := Lib.hid (show ∀ v ∈ ([.int .u8 0, .int .u8 0, .int .u8 0, .int .u8 0, .int .u8 0, .int .u8 0, .int .u8 0, .int .u8 0, .int .u8 0, .int .u8 0, .int .u8 0, .int .u8 0, .int .u8 0, .int .u8 0, .int .u8 0, .int .u8 0, .int .u8 0, .int .u8 0, .int .u8 0, .int .u8 0, .int .u8 0, .int .u8 0, .int .u8 0, .int .u8 0, .int .u8 0, .int .u8 0, .int .u8 0, .int .u8 0, .int .u8 0, .int .u8 0, .int .u8 0, .int .u8 0] : List Value), v.oneCell' = true from one_cells zero32)
  have HLF := Lib.hid hl
  have HTL := Lib.hid (show 0 < w.heap.size from (Array.getElem?_eq_some_iff.1 hT.choose_spec.choose_spec).1)
  have HT := Lib.hid (hT.below KB.out)
  have HA := Lib.hid ((hA.mono (E := fun b => b < w.heap.size) (by omega) (fun b h _ => h)).below (by omega) KB.out)
  have HD := Lib.hid hD
  clear hA hT hD
  by_cases hpn : n ≤ p
  · have HR := Lib.hid (rise_bad (leaf := leaf) (ds := ds) (show ¬ p < n by omega))
    have hI : ¬ (p : Int) < (n : Int) := by omega
    clear ih0
    go_enter Tryd.func23, Tryd.ntmps23
    go_wp2_with (with_reducible refine wpList_store_blk rfl _ _ _ rfl (w.heap.size + 1) [.int .u8 0, .int .u8 0, .int .u8 0, .int .u8 0, .int .u8 0, .int .u8 0, .int .u8 0, .int .u8 0, .int .u8 0, .int .u8 0, .int .u8 0, .int .u8 0, .int .u8 0, .int .u8 0, .int .u8 0, .int .u8 0, .int .u8 0, .int .u8 0, .int .u8 0, .int .u8 0, .int .u8 0, .int .u8 0, .int .u8 0, .int .u8 0, .int .u8 0, .int .u8 0, .int .u8 0, .int .u8 0, .int .u8 0, .int .u8 0, .int .u8 0, .int .u8 0] _ rfl _ rfl rfl K8.out HZS.out HZN.out HZO.out ?_)
    refine bodyPost_ret (results_ct Tryd.results23 _ _ (w.heap.size + 1) 25 [.int .u8 0, .int .u8 0, .int .u8 0, .int .u8 0, .int .u8 0, .int .u8 0, .int .u8 0, .int .u8 0, .int .u8 0, .int .u8 0, .int .u8 0, .int .u8 0, .int .u8 0, .int .u8 0, .int .u8 0, .int .u8 0, .int .u8 0, .int .u8 0, .int .u8 0, .int .u8 0, .int .u8 0, .int .u8 0, .int .u8 0, .int .u8 0, .int .u8 0, .int .u8 0, .int .u8 0, .int .u8 0, .int .u8 0, .int .u8 0, .int .u8 0, .int .u8 0] _ rfl (K8.out.row _) Tryd.underlying25 rfl HZS.out) rfl ⟨zero32, by rw [HR.out]; rfl, rfl, (fun x hx => by rw [HR.out] at hx; cases hx), below_setRow KB.out (by omega) _⟩
  · have hI : (p : Int) < (n : Int) := by omega
    by_cases hn1 : n = 1
    · subst hn1
      have hp0 : p < 1 := by omega
      have HR := Lib.hid (rise_one (leaf := leaf) (ds := ds) hp0)
      have HSM := Lib.hid (show (rise leaf p 1 ds).isSome = ((ds.length : Int) == 0) by rw [HR.out]; cases ds <;> simp <;> omega)
      have HLO := Lib.hid (one_cells leaf)
      clear ih0
      go_enter Tryd.func23, Tryd.ntmps23
      go_wp2_with (first
        | (with_reducible refine wpList_load_cs (by with_unfolding_all rfl) _ _ rfl w.heap.size _ rfl K4.out _ Tryd.underlying25 rfl (szD' HLF.out) _ rfl ?_)
        | (with_reducible refine wpList_store_blk rfl _ _ _ rfl (w.heap.size + 1) (leaf.map byt) _ rfl _ rfl rfl K8.out (szD' HLF.out) (by simp [HLF.out]) HLO.out ?_))
      refine bodyPost_ret (results_ct Tryd.results23 _ _ (w.heap.size + 1) 25 _ _ rfl (K8.out.row (leaf.map byt)) Tryd.underlying25 rfl (szD' HLF.out)) rfl ⟨leaf, by rw [HSM.out]; rfl, HLF.out, (fun x hx => by rw [HR.out] at hx; split at hx <;> simp_all), below_setRow KB.out (by omega) _⟩
    · have h2 : 2 ≤ n := by omega
      have hn1B : ((n : Int) == 1) = false := by simp; omega
      by_cases hds : ds = []
      · subst hds
        have HR := Lib.hid (rise_nil (leaf := leaf) (p := p) h2)
        have hl0 : ((([] : List Dg).length : Int) == 0) = true := rfl
        clear ih0
        simp only [List.length_nil]
        go_enter Tryd.func23, Tryd.ntmps23
        go_wp2_with (with_reducible refine wpList_store_blk rfl _ _ _ rfl (w.heap.size + 1) [.int .u8 0, .int .u8 0, .int .u8 0, .int .u8 0, .int .u8 0, .int .u8 0, .int .u8 0, .int .u8 0, .int .u8 0, .int .u8 0, .int .u8 0, .int .u8 0, .int .u8 0, .int .u8 0, .int .u8 0, .int .u8 0, .int .u8 0, .int .u8 0, .int .u8 0, .int .u8 0, .int .u8 0, .int .u8 0, .int .u8 0, .int .u8 0, .int .u8 0, .int .u8 0, .int .u8 0, .int .u8 0, .int .u8 0, .int .u8 0, .int .u8 0, .int .u8 0] _ rfl _ rfl rfl K8.out HZS.out HZN.out HZO.out ?_)
        refine bodyPost_ret (results_ct Tryd.results23 _ _ (w.heap.size + 1) 25 [.int .u8 0, .int .u8 0, .int .u8 0, .int .u8 0, .int .u8 0, .int .u8 0, .int .u8 0, .int .u8 0, .int .u8 0, .int .u8 0, .int .u8 0, .int .u8 0, .int .u8 0, .int .u8 0, .int .u8 0, .int .u8 0, .int .u8 0, .int .u8 0, .int .u8 0, .int .u8 0, .int .u8 0, .int .u8 0, .int .u8 0, .int .u8 0, .int .u8 0, .int .u8 0, .int .u8 0, .int .u8 0, .int .u8 0, .int .u8 0, .int .u8 0, .int .u8 0] _ rfl (K8.out.row _) Tryd.underlying25 rfl HZS.out) rfl ⟨zero32, by rw [HR.out]; rfl, rfl, (fun x hx => by rw [HR.out] at hx; cases hx), below_setRow KB.out (by omega) _⟩
      · obtain ⟨ds', last, rfl⟩ : ∃ a b, ds = a ++ [b] := ⟨ds.dropLast, ds.getLast hds, (List.dropLast_concat_getLast hds).symm⟩
        have hll : ds'.length + 1 = (ds' ++ [last]).length := by simp
        have HLL := Lib.hid (HD.out last (by simp))
        have HD2 := Lib.hid (fun d hd => HD.out d (by simp [hd]) : ∀ d ∈ ds', d.length = 32)
        have hcb := cutN_bounds h2 (by omega)
        have HCE := Lib.hid (cutAt_eq h2 (by omega))
        obtain ⟨b1, o1, q1, e1, hb1, r1⟩ := HA.out.at ds'.length (by simp)
        simp only [List.length_map, Value.slice.injEq] at e1
        obtain ⟨rfl, _, rfl⟩ := e1
        simp only [List.getElem_map, List.getElem_append_right (Nat.le_refl _), Nat.sub_self, List.getElem_cons_zero] at r1
        have HR1 := Lib.hid r1
        obtain ⟨sa, sc, _, hs1, _, ha1⟩ := run_slice_arr elemD HA.out 0 ds'.length (Nat.zero_le _) (by simp)
        have hs1 := hs1 rfl
        rw [List.drop_zero, ← dcs_take, show (ds' ++ [last]).take ds'.length = ds' by simp] at ha1
        simp only [Nat.sub_zero] at hs1 ha1
        have hl0 : ((ds'.length : Int) + 1 == 0) = false := by simp; omega
        obtain ⟨sub, hsub⟩ : ∃ s, Value.slice sa ds'.length sc = s := ⟨_, rfl⟩
        rw [hsub] at hs1 ha1
        have HAS := Lib.hid ha1
        have hdd : ds'.length + 1 ≤ 4398046511104 := by rw [hll]; exact hd
        rw [← hll] at hs1 hk1 ⊢
        have HI := Lib.hid ih0
        clear r1 ih0 ha1 hsub hll hd hds
        go_enter Tryd.func23, Tryd.ntmps23
        go_wp2_with fail
        clear hW
        refine (ref_cut_calls n _ h2 (by omega)).mono ?_
        rintro e wz ⟨rfl, rfl⟩
        obtain ⟨W3, hW3, N3, NB3, ns3⟩ := start32 W
        have HLO := Lib.hid (one_cells last)
        have N4 := Lib.hid (N3.out.row (last.map byt))
        have hf4 : Fr (fun b => b = W.heap.size) W3 (W3.setRow W.heap.size (last.map byt).toArray) := (Fr.refl (fun b => b = W.heap.size) W3).setRow (.inr rfl) _
        obtain ⟨W5, hW5⟩ : ∃ x, W3.setRow W.heap.size (last.map byt).toArray = x := ⟨_, rfl⟩
        have HF := Lib.hid (show FS w leaf last W.heap.size sub ds' 0 W5 by
          rw [← hW5]
          exact ⟨(K4.out.below NB3.out).fr hf4 (by omega), (K8.out.below NB3.out).fr hf4 (by omega), N4.out, (HAS.out.below (by omega) NB3.out).fr (by omega) hf4 (fun b _ h1 h2 => by omega), (KB.out.trans (NB3.out.mono (by omega))).trans (hf4.below (by omega) (fun b h => by omega)), (HT.out.below NB3.out).fr hf4 (by have := HTL.out; omega), HTL.out, ks⟩)
        clear hf4
        go_upto_region 9 with (first
          | (with_reducible refine wpList_load_mid rfl _ _ rfl b1 (o1 + ds'.length * 32) rfl (last.map byt) _ HR1.out Tryd.underlying25 rfl (szD' HLL.out) ?_)
          | (with_reducible refine wpList_store_blk rfl _ _ _ rfl W.heap.size (last.map byt) _ rfl _ rfl rfl N3.out (szD' HLL.out) (by simp [HLL.out]) HLO.out ?_))
        rw [hW5]
        clear hW3 hW5
        obtain ⟨g11, hg11⟩ : ∃ g, W.heap.size = g := ⟨_, rfl⟩
        rw [hg11] at HF ⊢
        have HNE := Lib.hid hg11
        clear hg11 N3 N4 NB3 HA HR1 KB K4 K8
        have hwl : IntKind.i64.wrap (ds'.length : Int) = (ds'.length : Int) := IntWalk.i64_in _ (by omega)
        have hwp : ¬ p < cutN n → IntKind.i64.wrap ((p : Int) - (cutN n : Int)) = (p : Int) - (cutN n : Int) := fun h => IntWalk.i64_in _ (by omega)
        have hwn : IntKind.i64.wrap ((n : Int) - (cutN n : Int)) = (n : Int) - (cutN n : Int) := IntWalk.i64_in _ (by omega)
        have ih := HI.out
        clear HI
        by_cases hq : p < cutN n
        · have hqI : (p : Int) < (cutN n : Int) := by omega
          clear hwp
          have hcI : (cutN n : Int) < (n : Int) := by omega
          go_wp2
          refine wp_region_held_drew (S := (fun w' => FS w leaf last g11 sub ds' 0 w')) (by kernel_rfl) HF.out.drew (fun hHeld => ?_)
          refine wpAnyH_take (i := 0) (oi := ⟨_, _, _, _, _, _⟩) rfl (by kernel_rfl) (by kernel_rfl) (by kernel_rfl) (fun _ _ _ h => h) (yieldsIf_load_mid (by rfl) _ _ rfl w.heap.size 0 rfl (leaf.map byt) _ (fun _ h => blk_range h.k4) Tryd.underlying25 rfl (szD' HLF.out)) (by assumption) ?_
          try simp only [Act.put, List.setIfInBounds_toArray, List.set_cons_zero, List.set_cons_succ]
          refine wpAnyH_take (i := 1) (oi := ⟨_, _, _, _, _, _⟩) (v := ?_) rfl (by kernel_rfl) (by kernel_rfl) (by kernel_rfl) (fun _ _ _ h => h) (Or.inl ⟨by rfl, ?_⟩) (by assumption) ?_
          rotate_left
          · intro w hSw; go_simp; try (with_reducible rfl)
          try simp only [Act.put, List.setIfInBounds_toArray, List.set_cons_zero, List.set_cons_succ]
          refine wpAnyH_take (i := 2) (oi := ⟨_, _, _, _, _, _⟩) (v := ?_) rfl (by kernel_rfl) (by kernel_rfl) (by kernel_rfl) (fun _ _ _ h => h) (Or.inl ⟨by rfl, ?_⟩) (by assumption) ?_
          rotate_left
          · intro w hSw; go_simp; try (with_reducible rfl)
          try simp only [Act.put, List.setIfInBounds_toArray, List.set_cons_zero, List.set_cons_succ]
          refine wpAnyH_take (i := 3) (oi := ⟨_, _, _, _, _, _⟩) (v := ?_) rfl (by kernel_rfl) (by kernel_rfl) (by kernel_rfl) (fun _ _ _ h => h) (Or.inl ⟨by rfl, ?_⟩) (by assumption) ?_
          rotate_left
          · intro w hSw; go_simp; try (with_reducible rfl)
          try simp only [Act.put, List.setIfInBounds_toArray, List.set_cons_zero, List.set_cons_succ]
          refine wpAnyH_take (i := 4) (oi := ⟨_, _, _, _, _, _⟩) (v := ?_) rfl (by kernel_rfl) (by kernel_rfl) (by kernel_rfl) (fun _ _ _ h => h) (Or.inl ⟨by rfl, ?_⟩) (by assumption) ?_
          rotate_left
          · intro w hSw; go_simp; try (with_reducible rfl)
          try simp only [Act.put, List.setIfInBounds_toArray, List.set_cons_zero, List.set_cons_succ]
          refine wpAnyH_take (i := 5) (oi := ⟨_, _, _, _, _, _⟩) (v := ?_) rfl (by kernel_rfl) (by kernel_rfl) (by kernel_rfl) (fun _ _ _ h => h) (Or.inl ⟨by rfl, ?_⟩) (by assumption) ?_
          rotate_left
          · intro w hSw; go_simp; try (with_reducible rfl)
          try simp only [Act.put, List.setIfInBounds_toArray, List.set_cons_zero, List.set_cons_succ]
          refine wpAnyH_take (i := 6) (oi := ⟨_, _, _, _, _, _⟩) (v := ?_) rfl (by kernel_rfl) (by kernel_rfl) (by kernel_rfl) (fun _ _ _ h => h) (Or.inl ⟨by rfl, ?_⟩) (by assumption) ?_
          rotate_left
          · intro w hSw; go_simp; try (with_reducible rfl)
          try simp only [Act.put, List.setIfInBounds_toArray, List.set_cons_zero, List.set_cons_succ]
          refine wpAnyH_take (i := 7) (oi := ⟨_, _, _, _, _, _⟩) (v := ?_) rfl (by kernel_rfl) (by kernel_rfl) (by kernel_rfl) (fun _ _ _ h => h) (Or.inl ⟨by rfl, ?_⟩) (by assumption) ?_
          rotate_left
          · intro w hSw; go_simp; try (with_reducible rfl)
          try simp only [Act.put, List.setIfInBounds_toArray, List.set_cons_zero, List.set_cons_succ]
          refine wpAnyH_ready (rs := [8, 12]) (by kernel_rfl) (by simp) ?_
          refine AllReadyH.cons (o := ⟨_, _, _, _, _, _⟩) rfl (fun K hK => ?_) (AllReadyH.cons (o := ⟨_, _, _, _, _, _⟩) rfl (fun K hK => ?_) AllReadyH.nil)
          · go_simp
            refine (ih ds'.length (by simp) _ ds' rfl p (cutN n) sub hHeld.ap.any HD2.out hHeld.t (by omega) (by omega) (by omega)).mono ?_
            rintro e w2 ⟨d, rfl, hdl, hdr, g⟩
            refine hK.out _ _ (hHeld.below g) (fun hHeld => ?_)
            clear hK
            try simp only [Act.put, List.setIfInBounds_toArray, List.set_cons_zero, List.set_cons_succ]
            have hl2 := hHeld.lt
            have hb2 := hHeld.h.2
            refine wpAnyH_take (i := 9) (oi := ⟨_, _, _, _, _, _⟩) (v := ?_) rfl (by kernel_rfl) (by kernel_rfl) (by kernel_rfl) (fun _ _ _ h => h) (Or.inl ⟨by rfl, ?_⟩) (by assumption) ?_
            rotate_left
            · intro w hSw; go_simp; try (with_reducible rfl)
            try simp only [Act.put, List.setIfInBounds_toArray, List.set_cons_zero, List.set_cons_succ]
            refine wpAnyH_take (i := 10) (oi := ⟨_, _, _, _, _, _⟩) (v := ?_) rfl (by kernel_rfl) (by kernel_rfl) (by kernel_rfl) (fun _ _ _ h => h) (Or.inl ⟨by rfl, ?_⟩) (by assumption) ?_
            rotate_left
            · intro w hSw; go_simp; try (with_reducible rfl)
            try simp only [Act.put, List.setIfInBounds_toArray, List.set_cons_zero, List.set_cons_succ]
            refine wpAnyH_take (i := 11) (oi := ⟨_, _, _, _, _, _⟩) (v := ?_) rfl (by kernel_rfl) (by kernel_rfl) (by kernel_rfl) (fun _ _ _ h => h) (Or.inl ⟨by rfl, ?_⟩) (by assumption) ?_
            rotate_left
            · intro w hSw; go_simp; try (with_reducible rfl)
            try simp only [Act.put, List.setIfInBounds_toArray, List.set_cons_zero, List.set_cons_succ]
            obtain ⟨wa, hwa, NA, NBA, nsa⟩ := start32 w2
            refine wpAnyH_ready (rs := [12]) (by kernel_rfl) (by simp) ?_
            refine AllReadyH.cons (o := ⟨_, _, _, _, _, _⟩) rfl (fun K hK => ?_) AllReadyH.nil
            go_simp
            refine hK.out _ _ (hHeld.below NBA.out) (fun hHeld => ?_)
            clear hK
            try simp only [Act.put, List.setIfInBounds_toArray, List.set_cons_zero, List.set_cons_succ]
            clear hwa
            refine wpAnyH_ready (rs := [13]) (by kernel_rfl) (by simp) ?_
            refine AllReadyH.cons (o := ⟨_, _, _, _, _, _⟩) rfl (fun K hK => ?_) AllReadyH.nil
            rw [if_pos (by rfl)]
            have hN := NA.out
            have hlt := hHeld.lt
            refine wp_store_blk _ _ _ rfl _ (d.map byt) _ rfl rfl hN (szD' hdl) (by simp [hdl]) (one_cells d) ?_
            have hfin := hN.row (d.map byt)
            refine hK.out _ _ (hHeld.set _ (by omega) _) (fun hHeld => ?_)
            clear hK
            refine wpAnyH_ready (rs := [14]) (by kernel_rfl) (by simp) ?_
            refine AllReadyH.cons (o := ⟨_, _, _, _, _, _⟩) rfl (fun K hK => ?_) AllReadyH.nil
            go_simp
            refine hK.out _ _ hHeld (fun hHeld => ?_)
            clear hK
            refine wpAnyH_done (by kernel_rfl) ?_ _
            have HFI := Lib.hid hfin
            have HHE := Lib.hid hHeld
            have HDL := Lib.hid hdl
            have HDR := Lib.hid hdr
            clear hfin hHeld hdl hdr
            go_wp2_with (first | (with_reducible refine wpList_load_cs (by with_unfolding_all rfl) _ _ rfl _ _ rfl HFI.out _ Tryd.underlying25 rfl (szD' HDL.out) _ rfl ?_) | (with_reducible refine wpList_load_cs (by with_unfolding_all rfl) _ _ rfl g11 _ rfl HHE.out.k11 _ Tryd.underlying25 rfl (szD' HLL.out) _ rfl ?_))
            refine (ref_node_calls _ d last HDL.out HLL.out HHE.out.t).mono ?_
            rintro e w6 ⟨rfl, g⟩
            obtain ⟨m, hm⟩ : ∃ m, nodeD d last = m := ⟨_, rfl⟩
            have HML := Lib.hid (show m.length = 32 by rw [← hm]; exact nodeD_length _ _)
            have HMO := Lib.hid (one_cells m)
            rw [hm]
            have HH6 := Lib.hid (HHE.out.below g)
            have HFX := Lib.hid (show ∀ x, rise leaf p n (ds' ++ [last]) = some x → m = x from fun x hx => by
              rw [rise_left h2 (by rw [HCE.out]; exact hq), HCE.out] at hx
              obtain ⟨y, hy, rfl⟩ := Option.map_eq_some_iff.1 hx
              rw [HDR.out y hy] at hm; exact hm.symm)
            have HFO := Lib.hid (show (rise leaf p n (ds' ++ [last])).isSome = (rise leaf p (cutN n) ds').isSome by rw [rise_left h2 (by rw [HCE.out]; exact hq), HCE.out]; simp)
            have HZ := Lib.hid HH6.out.k8
            clear g hm HHE HFI
            go_wp2_with (with_reducible refine wpList_store_blk rfl _ _ _ rfl (w.heap.size + 1) (m.map byt) _ rfl _ rfl rfl HZ.out (szD' HML.out) (by simp [HML.out]) HMO.out ?_)
            refine bodyPost_ret (results_ct Tryd.results23 _ _ (w.heap.size + 1) 25 _ _ rfl (HZ.out.row (m.map byt)) Tryd.underlying25 rfl (szD' HML.out)) rfl ⟨m, by rw [HFO.out]; rfl, HML.out, HFX.out, below_setRow HH6.out.b (by omega) _⟩
          · have hl2 : g11 < W5.heap.size := hHeld.lt
            have hb2 := hHeld.h.2
            obtain ⟨wa, hwa, NA, NBA, nsa⟩ := start32 W5.drew
            rw [show W5.drew.heap.size = W5.heap.size from rfl] at NA
            go_simp
            refine hK.out _ _ (hHeld.below NBA.out) (fun hHeld => ?_)
            clear hK
            try simp only [Act.put, List.setIfInBounds_toArray, List.set_cons_zero, List.set_cons_succ]
            clear hwa
            refine wpAnyH_ready (rs := [8]) (by kernel_rfl) (by simp) ?_
            refine AllReadyH.cons (o := ⟨_, _, _, _, _, _⟩) rfl (fun K hK => ?_) AllReadyH.nil
            go_simp
            refine (ih ds'.length (by simp) _ ds' rfl p (cutN n) sub hHeld.ap.any HD2.out hHeld.t (by omega) (by omega) (by omega)).mono ?_
            rintro e w2 ⟨d, rfl, hdl, hdr, g⟩
            refine hK.out _ _ (hHeld.below g) (fun hHeld => ?_)
            clear hK
            try simp only [Act.put, List.setIfInBounds_toArray, List.set_cons_zero, List.set_cons_succ]
            refine wpAnyH_take (i := 9) (oi := ⟨_, _, _, _, _, _⟩) (v := ?_) rfl (by kernel_rfl) (by kernel_rfl) (by kernel_rfl) (fun _ _ _ h => h) (Or.inl ⟨by rfl, ?_⟩) (by assumption) ?_
            rotate_left
            · intro w hSw; go_simp; try (with_reducible rfl)
            try simp only [Act.put, List.setIfInBounds_toArray, List.set_cons_zero, List.set_cons_succ]
            refine wpAnyH_take (i := 10) (oi := ⟨_, _, _, _, _, _⟩) (v := ?_) rfl (by kernel_rfl) (by kernel_rfl) (by kernel_rfl) (fun _ _ _ h => h) (Or.inl ⟨by rfl, ?_⟩) (by assumption) ?_
            rotate_left
            · intro w hSw; go_simp; try (with_reducible rfl)
            try simp only [Act.put, List.setIfInBounds_toArray, List.set_cons_zero, List.set_cons_succ]
            refine wpAnyH_take (i := 11) (oi := ⟨_, _, _, _, _, _⟩) (v := ?_) rfl (by kernel_rfl) (by kernel_rfl) (by kernel_rfl) (fun _ _ _ h => h) (Or.inl ⟨by rfl, ?_⟩) (by assumption) ?_
            rotate_left
            · intro w hSw; go_simp; try (with_reducible rfl)
            try simp only [Act.put, List.setIfInBounds_toArray, List.set_cons_zero, List.set_cons_succ]
            refine wpAnyH_ready (rs := [13]) (by kernel_rfl) (by simp) ?_
            refine AllReadyH.cons (o := ⟨_, _, _, _, _, _⟩) rfl (fun K hK => ?_) AllReadyH.nil
            rw [if_pos (by rfl)]
            have hN := NA.out.below g
            have hlt := hHeld.lt
            refine wp_store_blk _ _ _ rfl _ (d.map byt) _ rfl rfl hN (szD' hdl) (by simp [hdl]) (one_cells d) ?_
            have hfin := hN.row (d.map byt)
            refine hK.out _ _ (hHeld.set _ (by omega) _) (fun hHeld => ?_)
            clear hK
            refine wpAnyH_ready (rs := [14]) (by kernel_rfl) (by simp) ?_
            refine AllReadyH.cons (o := ⟨_, _, _, _, _, _⟩) rfl (fun K hK => ?_) AllReadyH.nil
            go_simp
            refine hK.out _ _ hHeld (fun hHeld => ?_)
            clear hK
            refine wpAnyH_done (by kernel_rfl) ?_ _
            have HFI := Lib.hid hfin
            have HHE := Lib.hid hHeld
            have HDL := Lib.hid hdl
            have HDR := Lib.hid hdr
            clear hfin hHeld hdl hdr
            go_wp2_with (first | (with_reducible refine wpList_load_cs (by with_unfolding_all rfl) _ _ rfl _ _ rfl HFI.out _ Tryd.underlying25 rfl (szD' HDL.out) _ rfl ?_) | (with_reducible refine wpList_load_cs (by with_unfolding_all rfl) _ _ rfl g11 _ rfl HHE.out.k11 _ Tryd.underlying25 rfl (szD' HLL.out) _ rfl ?_))
            refine (ref_node_calls _ d last HDL.out HLL.out HHE.out.t).mono ?_
            rintro e w6 ⟨rfl, g⟩
            obtain ⟨m, hm⟩ : ∃ m, nodeD d last = m := ⟨_, rfl⟩
            have HML := Lib.hid (show m.length = 32 by rw [← hm]; exact nodeD_length _ _)
            have HMO := Lib.hid (one_cells m)
            rw [hm]
            have HH6 := Lib.hid (HHE.out.below g)
            have HFX := Lib.hid (show ∀ x, rise leaf p n (ds' ++ [last]) = some x → m = x from fun x hx => by
              rw [rise_left h2 (by rw [HCE.out]; exact hq), HCE.out] at hx
              obtain ⟨y, hy, rfl⟩ := Option.map_eq_some_iff.1 hx
              rw [HDR.out y hy] at hm; exact hm.symm)
            have HFO := Lib.hid (show (rise leaf p n (ds' ++ [last])).isSome = (rise leaf p (cutN n) ds').isSome by rw [rise_left h2 (by rw [HCE.out]; exact hq), HCE.out]; simp)
            have HZ := Lib.hid HH6.out.k8
            clear g hm HHE HFI
            go_wp2_with (with_reducible refine wpList_store_blk rfl _ _ _ rfl (w.heap.size + 1) (m.map byt) _ rfl _ rfl rfl HZ.out (szD' HML.out) (by simp [HML.out]) HMO.out ?_)
            refine bodyPost_ret (results_ct Tryd.results23 _ _ (w.heap.size + 1) 25 _ _ rfl (HZ.out.row (m.map byt)) Tryd.underlying25 rfl (szD' HML.out)) rfl ⟨m, by rw [HFO.out]; rfl, HML.out, HFX.out, below_setRow HH6.out.b (by omega) _⟩
        · have hqI : ¬ (p : Int) < (cutN n : Int) := by omega
          replace hwp := hwp hq
          have hcI : (cutN n : Int) < (n : Int) := by omega
          go_wp2
          refine wp_region_held_drew (S := (fun w' => FS w leaf last g11 sub ds' 0 w')) (by kernel_rfl) HF.out.drew (fun hHeld => ?_)
          refine wpAnyH_take (i := 0) (oi := ⟨_, _, _, _, _, _⟩) rfl (by kernel_rfl) (by kernel_rfl) (by kernel_rfl) (fun _ _ _ h => h) (yieldsIf_load_mid (by rfl) _ _ rfl w.heap.size 0 rfl (leaf.map byt) _ (fun _ h => blk_range h.k4) Tryd.underlying25 rfl (szD' HLF.out)) (by assumption) ?_
          try simp only [Act.put, List.setIfInBounds_toArray, List.set_cons_zero, List.set_cons_succ]
          refine wpAnyH_take (i := 1) (oi := ⟨_, _, _, _, _, _⟩) (v := ?_) rfl (by kernel_rfl) (by kernel_rfl) (by kernel_rfl) (fun _ _ _ h => h) (Or.inl ⟨by rfl, ?_⟩) (by assumption) ?_
          rotate_left
          · intro w hSw; go_simp; try (with_reducible rfl)
          try simp only [Act.put, List.setIfInBounds_toArray, List.set_cons_zero, List.set_cons_succ]
          refine wpAnyH_take (i := 2) (oi := ⟨_, _, _, _, _, _⟩) (v := ?_) rfl (by kernel_rfl) (by kernel_rfl) (by kernel_rfl) (fun _ _ _ h => h) (Or.inl ⟨by rfl, ?_⟩) (by assumption) ?_
          rotate_left
          · intro w hSw; go_simp; try (with_reducible rfl)
          try simp only [Act.put, List.setIfInBounds_toArray, List.set_cons_zero, List.set_cons_succ]
          refine wpAnyH_take (i := 3) (oi := ⟨_, _, _, _, _, _⟩) (v := ?_) rfl (by kernel_rfl) (by kernel_rfl) (by kernel_rfl) (fun _ _ _ h => h) (Or.inl ⟨by rfl, ?_⟩) (by assumption) ?_
          rotate_left
          · intro w hSw; go_simp; try (with_reducible rfl)
          try simp only [Act.put, List.setIfInBounds_toArray, List.set_cons_zero, List.set_cons_succ]
          refine wpAnyH_take (i := 4) (oi := ⟨_, _, _, _, _, _⟩) (v := ?_) rfl (by kernel_rfl) (by kernel_rfl) (by kernel_rfl) (fun _ _ _ h => h) (Or.inl ⟨by rfl, ?_⟩) (by assumption) ?_
          rotate_left
          · intro w hSw; go_simp; try (with_reducible rfl)
          try simp only [Act.put, List.setIfInBounds_toArray, List.set_cons_zero, List.set_cons_succ]
          refine wpAnyH_take (i := 5) (oi := ⟨_, _, _, _, _, _⟩) (v := ?_) rfl (by kernel_rfl) (by kernel_rfl) (by kernel_rfl) (fun _ _ _ h => h) (Or.inl ⟨by rfl, ?_⟩) (by assumption) ?_
          rotate_left
          · intro w hSw; go_simp; try (with_reducible rfl)
          try simp only [Act.put, List.setIfInBounds_toArray, List.set_cons_zero, List.set_cons_succ]
          refine wpAnyH_take (i := 6) (oi := ⟨_, _, _, _, _, _⟩) (v := ?_) rfl (by kernel_rfl) (by kernel_rfl) (by kernel_rfl) (fun _ _ _ h => h) (Or.inl ⟨by rfl, ?_⟩) (by assumption) ?_
          rotate_left
          · intro w hSw; go_simp; try (with_reducible rfl)
          try simp only [Act.put, List.setIfInBounds_toArray, List.set_cons_zero, List.set_cons_succ]
          refine wpAnyH_take (i := 7) (oi := ⟨_, _, _, _, _, _⟩) (v := ?_) rfl (by kernel_rfl) (by kernel_rfl) (by kernel_rfl) (fun _ _ _ h => h) (Or.inl ⟨by rfl, ?_⟩) (by assumption) ?_
          rotate_left
          · intro w hSw; go_simp; try (with_reducible rfl)
          try simp only [Act.put, List.setIfInBounds_toArray, List.set_cons_zero, List.set_cons_succ]
          refine wpAnyH_take (i := 8) (oi := ⟨_, _, _, _, _, _⟩) (v := ?_) rfl (by kernel_rfl) (by kernel_rfl) (by kernel_rfl) (fun _ _ _ h => h) (Or.inl ⟨by rfl, ?_⟩) (by assumption) ?_
          rotate_left
          · intro w hSw; go_simp; try (with_reducible rfl)
          try simp only [Act.put, List.setIfInBounds_toArray, List.set_cons_zero, List.set_cons_succ]
          refine wpAnyH_take (i := 9) (oi := ⟨_, _, _, _, _, _⟩) (v := ?_) rfl (by kernel_rfl) (by kernel_rfl) (by kernel_rfl) (fun _ _ _ h => h) (Or.inl ⟨by rfl, ?_⟩) (by assumption) ?_
          rotate_left
          · intro w hSw; go_simp; try (with_reducible rfl)
          try simp only [Act.put, List.setIfInBounds_toArray, List.set_cons_zero, List.set_cons_succ]
          refine wpAnyH_take (i := 10) (oi := ⟨_, _, _, _, _, _⟩) (v := ?_) rfl (by kernel_rfl) (by kernel_rfl) (by kernel_rfl) (fun _ _ _ h => h) (Or.inl ⟨by rfl, ?_⟩) (by assumption) ?_
          rotate_left
          · intro w hSw; go_simp; try (with_reducible rfl)
          try simp only [Act.put, List.setIfInBounds_toArray, List.set_cons_zero, List.set_cons_succ]
          refine wpAnyH_take (i := 11) (oi := ⟨_, _, _, _, _, _⟩) (v := ?_) rfl (by kernel_rfl) (by kernel_rfl) (by kernel_rfl) (fun _ _ _ h => h) (Or.inl ⟨by rfl, ?_⟩) (by assumption) ?_
          rotate_left
          · intro w hSw; go_simp; try (with_reducible rfl)
          try simp only [Act.put, List.setIfInBounds_toArray, List.set_cons_zero, List.set_cons_succ]
          refine wpAnyH_ready (rs := [12, 16]) (by kernel_rfl) (by simp) ?_
          refine AllReadyH.cons (o := ⟨_, _, _, _, _, _⟩) rfl (fun K hK => ?_) (AllReadyH.cons (o := ⟨_, _, _, _, _, _⟩) rfl (fun K hK => ?_) AllReadyH.nil)
          · go_simp
            rw [show ((p : Int) - (cutN n : Int)) = ((p - cutN n : Nat) : Int) from by omega, show ((n : Int) - (cutN n : Int)) = ((n - cutN n : Nat) : Int) from by omega]
            refine (ih ds'.length (by simp) _ ds' rfl (p - cutN n) (n - cutN n) sub hHeld.ap.any HD2.out hHeld.t (by omega) (by omega) (by omega)).mono ?_
            rintro e w2 ⟨d, rfl, hdl, hdr, g⟩
            refine hK.out _ _ (hHeld.below g) (fun hHeld => ?_)
            clear hK
            try simp only [Act.put, List.setIfInBounds_toArray, List.set_cons_zero, List.set_cons_succ]
            have hl2 := hHeld.lt
            have hb2 := hHeld.h.2
            refine wpAnyH_take (i := 13) (oi := ⟨_, _, _, _, _, _⟩) (v := ?_) rfl (by kernel_rfl) (by kernel_rfl) (by kernel_rfl) (fun _ _ _ h => h) (Or.inl ⟨by rfl, ?_⟩) (by assumption) ?_
            rotate_left
            · intro w hSw; go_simp; try (with_reducible rfl)
            try simp only [Act.put, List.setIfInBounds_toArray, List.set_cons_zero, List.set_cons_succ]
            refine wpAnyH_take (i := 14) (oi := ⟨_, _, _, _, _, _⟩) (v := ?_) rfl (by kernel_rfl) (by kernel_rfl) (by kernel_rfl) (fun _ _ _ h => h) (Or.inl ⟨by rfl, ?_⟩) (by assumption) ?_
            rotate_left
            · intro w hSw; go_simp; try (with_reducible rfl)
            try simp only [Act.put, List.setIfInBounds_toArray, List.set_cons_zero, List.set_cons_succ]
            refine wpAnyH_take (i := 15) (oi := ⟨_, _, _, _, _, _⟩) (v := ?_) rfl (by kernel_rfl) (by kernel_rfl) (by kernel_rfl) (fun _ _ _ h => h) (Or.inl ⟨by rfl, ?_⟩) (by assumption) ?_
            rotate_left
            · intro w hSw; go_simp; try (with_reducible rfl)
            try simp only [Act.put, List.setIfInBounds_toArray, List.set_cons_zero, List.set_cons_succ]
            obtain ⟨wa, hwa, NA, NBA, nsa⟩ := start32 w2
            refine wpAnyH_ready (rs := [16]) (by kernel_rfl) (by simp) ?_
            refine AllReadyH.cons (o := ⟨_, _, _, _, _, _⟩) rfl (fun K hK => ?_) AllReadyH.nil
            go_simp
            refine hK.out _ _ (hHeld.below NBA.out) (fun hHeld => ?_)
            clear hK
            try simp only [Act.put, List.setIfInBounds_toArray, List.set_cons_zero, List.set_cons_succ]
            clear hwa
            refine wpAnyH_ready (rs := [17]) (by kernel_rfl) (by simp) ?_
            refine AllReadyH.cons (o := ⟨_, _, _, _, _, _⟩) rfl (fun K hK => ?_) AllReadyH.nil
            rw [if_pos (by rfl)]
            have hN := NA.out
            have hlt := hHeld.lt
            refine wp_store_blk _ _ _ rfl _ (d.map byt) _ rfl rfl hN (szD' hdl) (by simp [hdl]) (one_cells d) ?_
            have hfin := hN.row (d.map byt)
            refine hK.out _ _ (hHeld.set _ (by omega) _) (fun hHeld => ?_)
            clear hK
            refine wpAnyH_ready (rs := [18]) (by kernel_rfl) (by simp) ?_
            refine AllReadyH.cons (o := ⟨_, _, _, _, _, _⟩) rfl (fun K hK => ?_) AllReadyH.nil
            go_simp
            refine hK.out _ _ hHeld (fun hHeld => ?_)
            clear hK
            refine wpAnyH_done (by kernel_rfl) ?_ _
            have HFI := Lib.hid hfin
            have HHE := Lib.hid hHeld
            have HDL := Lib.hid hdl
            have HDR := Lib.hid hdr
            clear hfin hHeld hdl hdr
            go_wp2_with (first | (with_reducible refine wpList_load_cs (by with_unfolding_all rfl) _ _ rfl _ _ rfl HFI.out _ Tryd.underlying25 rfl (szD' HDL.out) _ rfl ?_) | (with_reducible refine wpList_load_cs (by with_unfolding_all rfl) _ _ rfl g11 _ rfl HHE.out.k11 _ Tryd.underlying25 rfl (szD' HLL.out) _ rfl ?_))
            refine (ref_node_calls _ last d HLL.out HDL.out HHE.out.t).mono ?_
            rintro e w6 ⟨rfl, g⟩
            obtain ⟨m, hm⟩ : ∃ m, nodeD last d = m := ⟨_, rfl⟩
            have HML := Lib.hid (show m.length = 32 by rw [← hm]; exact nodeD_length _ _)
            have HMO := Lib.hid (one_cells m)
            rw [hm]
            have HH6 := Lib.hid (HHE.out.below g)
            have HFX := Lib.hid (show ∀ x, rise leaf p n (ds' ++ [last]) = some x → m = x from fun x hx => by
              rw [rise_right h2 (by rw [HCE.out]; exact hq) (by omega), HCE.out] at hx
              obtain ⟨y, hy, rfl⟩ := Option.map_eq_some_iff.1 hx
              rw [HDR.out y hy] at hm; exact hm.symm)
            have HFO := Lib.hid (show (rise leaf p n (ds' ++ [last])).isSome = (rise leaf (p - cutN n) (n - cutN n) ds').isSome by rw [rise_right h2 (by rw [HCE.out]; exact hq) (by omega), HCE.out]; simp)
            have HZ := Lib.hid HH6.out.k8
            clear g hm HHE HFI
            go_wp2_with (with_reducible refine wpList_store_blk rfl _ _ _ rfl (w.heap.size + 1) (m.map byt) _ rfl _ rfl rfl HZ.out (szD' HML.out) (by simp [HML.out]) HMO.out ?_)
            refine bodyPost_ret (results_ct Tryd.results23 _ _ (w.heap.size + 1) 25 _ _ rfl (HZ.out.row (m.map byt)) Tryd.underlying25 rfl (szD' HML.out)) rfl ⟨m, by rw [HFO.out]; rfl, HML.out, HFX.out, below_setRow HH6.out.b (by omega) _⟩
          · have hl2 : g11 < W5.heap.size := hHeld.lt
            have hb2 := hHeld.h.2
            obtain ⟨wa, hwa, NA, NBA, nsa⟩ := start32 W5.drew
            rw [show W5.drew.heap.size = W5.heap.size from rfl] at NA
            go_simp
            refine hK.out _ _ (hHeld.below NBA.out) (fun hHeld => ?_)
            clear hK
            try simp only [Act.put, List.setIfInBounds_toArray, List.set_cons_zero, List.set_cons_succ]
            clear hwa
            refine wpAnyH_ready (rs := [12]) (by kernel_rfl) (by simp) ?_
            refine AllReadyH.cons (o := ⟨_, _, _, _, _, _⟩) rfl (fun K hK => ?_) AllReadyH.nil
            go_simp
            rw [show ((p : Int) - (cutN n : Int)) = ((p - cutN n : Nat) : Int) from by omega, show ((n : Int) - (cutN n : Int)) = ((n - cutN n : Nat) : Int) from by omega]
            refine (ih ds'.length (by simp) _ ds' rfl (p - cutN n) (n - cutN n) sub hHeld.ap.any HD2.out hHeld.t (by omega) (by omega) (by omega)).mono ?_
            rintro e w2 ⟨d, rfl, hdl, hdr, g⟩
            refine hK.out _ _ (hHeld.below g) (fun hHeld => ?_)
            clear hK
            try simp only [Act.put, List.setIfInBounds_toArray, List.set_cons_zero, List.set_cons_succ]
            refine wpAnyH_take (i := 13) (oi := ⟨_, _, _, _, _, _⟩) (v := ?_) rfl (by kernel_rfl) (by kernel_rfl) (by kernel_rfl) (fun _ _ _ h => h) (Or.inl ⟨by rfl, ?_⟩) (by assumption) ?_
            rotate_left
            · intro w hSw; go_simp; try (with_reducible rfl)
            try simp only [Act.put, List.setIfInBounds_toArray, List.set_cons_zero, List.set_cons_succ]
            refine wpAnyH_take (i := 14) (oi := ⟨_, _, _, _, _, _⟩) (v := ?_) rfl (by kernel_rfl) (by kernel_rfl) (by kernel_rfl) (fun _ _ _ h => h) (Or.inl ⟨by rfl, ?_⟩) (by assumption) ?_
            rotate_left
            · intro w hSw; go_simp; try (with_reducible rfl)
            try simp only [Act.put, List.setIfInBounds_toArray, List.set_cons_zero, List.set_cons_succ]
            refine wpAnyH_take (i := 15) (oi := ⟨_, _, _, _, _, _⟩) (v := ?_) rfl (by kernel_rfl) (by kernel_rfl) (by kernel_rfl) (fun _ _ _ h => h) (Or.inl ⟨by rfl, ?_⟩) (by assumption) ?_
            rotate_left
            · intro w hSw; go_simp; try (with_reducible rfl)
            try simp only [Act.put, List.setIfInBounds_toArray, List.set_cons_zero, List.set_cons_succ]
            refine wpAnyH_ready (rs := [17]) (by kernel_rfl) (by simp) ?_
            refine AllReadyH.cons (o := ⟨_, _, _, _, _, _⟩) rfl (fun K hK => ?_) AllReadyH.nil
            rw [if_pos (by rfl)]
            have hN := NA.out.below g
            have hlt := hHeld.lt
            refine wp_store_blk _ _ _ rfl _ (d.map byt) _ rfl rfl hN (szD' hdl) (by simp [hdl]) (one_cells d) ?_
            have hfin := hN.row (d.map byt)
            refine hK.out _ _ (hHeld.set _ (by omega) _) (fun hHeld => ?_)
            clear hK
            refine wpAnyH_ready (rs := [18]) (by kernel_rfl) (by simp) ?_
            refine AllReadyH.cons (o := ⟨_, _, _, _, _, _⟩) rfl (fun K hK => ?_) AllReadyH.nil
            go_simp
            refine hK.out _ _ hHeld (fun hHeld => ?_)
            clear hK
            refine wpAnyH_done (by kernel_rfl) ?_ _
            have HFI := Lib.hid hfin
            have HHE := Lib.hid hHeld
            have HDL := Lib.hid hdl
            have HDR := Lib.hid hdr
            clear hfin hHeld hdl hdr
            go_wp2_with (first | (with_reducible refine wpList_load_cs (by with_unfolding_all rfl) _ _ rfl _ _ rfl HFI.out _ Tryd.underlying25 rfl (szD' HDL.out) _ rfl ?_) | (with_reducible refine wpList_load_cs (by with_unfolding_all rfl) _ _ rfl g11 _ rfl HHE.out.k11 _ Tryd.underlying25 rfl (szD' HLL.out) _ rfl ?_))
            refine (ref_node_calls _ last d HLL.out HDL.out HHE.out.t).mono ?_
            rintro e w6 ⟨rfl, g⟩
            obtain ⟨m, hm⟩ : ∃ m, nodeD last d = m := ⟨_, rfl⟩
            have HML := Lib.hid (show m.length = 32 by rw [← hm]; exact nodeD_length _ _)
            have HMO := Lib.hid (one_cells m)
            rw [hm]
            have HH6 := Lib.hid (HHE.out.below g)
            have HFX := Lib.hid (show ∀ x, rise leaf p n (ds' ++ [last]) = some x → m = x from fun x hx => by
              rw [rise_right h2 (by rw [HCE.out]; exact hq) (by omega), HCE.out] at hx
              obtain ⟨y, hy, rfl⟩ := Option.map_eq_some_iff.1 hx
              rw [HDR.out y hy] at hm; exact hm.symm)
            have HFO := Lib.hid (show (rise leaf p n (ds' ++ [last])).isSome = (rise leaf (p - cutN n) (n - cutN n) ds').isSome by rw [rise_right h2 (by rw [HCE.out]; exact hq) (by omega), HCE.out]; simp)
            have HZ := Lib.hid HH6.out.k8
            clear g hm HHE HFI
            go_wp2_with (with_reducible refine wpList_store_blk rfl _ _ _ rfl (w.heap.size + 1) (m.map byt) _ rfl _ rfl rfl HZ.out (szD' HML.out) (by simp [HML.out]) HMO.out ?_)
            refine bodyPost_ret (results_ct Tryd.results23 _ _ (w.heap.size + 1) 25 _ _ rfl (HZ.out.row (m.map byt)) Tryd.underlying25 rfl (szD' HML.out)) rfl ⟨m, by rw [HFO.out]; rfl, HML.out, HFX.out, below_setRow HH6.out.b (by omega) _⟩
end Go.Proofs.YtiaoifaglfhagaaDoor.MkW
