/- The walk of the program's Path. Conditions: at most 2^42 digests; the tables are laid. -/
import Derived.Test.YtiaoifaglfhagaaDoorMkE
namespace Go.Proofs.YtiaoifaglfhagaaDoor.MkW
open Go Go.RowKit Mem Sha ShaW Mk Arr Row
set_option linter.unusedVariables false

/-- what Path keeps from round to round -/
structure PR (w : World) (ds0 : List Dg) (p0 : Nat) (tab : Nat) (v : Value) (ls : List Dg) (p : Nat) (dv' : Value) (down : List Dg) (wx : World) : Prop where
  a' : Arr 32 (fun b => b < w.heap.size) wx v (dcs ls)
  l' : ∀ d ∈ ls, d.length = 32
  o' : OwnA 32 w.heap.size 25 wx dv' (dcs down)
  d' : ∀ d ∈ down, d.length = 32
  p' : p < ls.length
  n' : ls.length + down.length ≤ ds0.length
  e' : path ds0 p0 = path ls p ++ down.reverse
  b' : Below w.heap.size w wx
  t' : TabB wx tab
  h' : tab < w.heap.size
def sliceLen : Value → Nat
  | .slice _ n _ => n
  | _ => 0
theorem dcs_one {ds : List Dg} : ∀ x ∈ dcs ds, ∀ c ∈ x, c.oneCell' = true := by
  intro x hx c hc
  obtain ⟨d, _, rfl⟩ := List.mem_map.1 hx
  obtain ⟨b, _, rfl⟩ := List.mem_map.1 hc
  rfl

set_option maxHeartbeats 8000000 in
set_option maxRecDepth 100000 in
theorem path_calls (w : World) (v : Value) (ds : List Dg) (hA : Arr 32 Any w v (dcs ds)) (hD : ∀ d ∈ ds, d.length = 32) (hT : TabB w 1) (hn : ds.length ≤ 4398046511104) (p : Nat) (hp : p < ds.length) :
    Calls Tryd.prog 16 #[v, .int .i64 (p : Int)] w fun e w' => ∃ v', e = .returned (.tuple #[v', .bool true]) ∧ Arr 32 (fun b => w.heap.size ≤ b) w' v' (dcs (path ds p)) ∧ Below w.heap.size w w' := by
  obtain ⟨a, c, rfl, hk1, hk2, hk3⟩ := hA.form
  simp only [List.length_map] at hA hk1 ⊢
  have HTL : 1 < w.heap.size := (Array.getElem?_eq_some_iff.1 hT.choose_spec.choose_spec).1
  have HP := Lib.hid (show PR w ds p 1 (.slice a ds.length c) ds p (.slice none 0 0) [] w from ⟨hA.mono (by omega) (fun b h _ => h), hD, OwnA.nil _ _ _ _, by simp, hp, by simp, by simp, Below.refl _ _, hT, HTL⟩)
  have h0 : ((p : Int) < 0) = False := by simp
  have hpI : (p : Int) < (ds.length : Int) := by omega
  have hpB : decide (ds.length ≤ p) = false := by simp; omega
  clear hA hD hT
  go_enter Tryd.func16, Tryd.ntmps16
  go_wp2
  go_loopw [0, 1, 6] (fun s0 s1 s6 wx => ∃ (ls down : List Dg) (q : Nat), s1 = .int .i64 (q : Int) ∧ PR w ds p 1 s0 ls q s6 down wx) (fun s0 _ _ _ => sliceLen s0)
  case atStart => exact ⟨ds, [], p, rfl, HP.out⟩
  case round =>
    obtain ⟨ls, down, q, rfl, hR⟩ := hrel
    obtain ⟨la, lc, rfl, hc1, hc2, hc3⟩ := hR.a'.form
    simp only [List.length_map] at hR hc1 ⊢
    obtain ⟨da, dc, hde, _⟩ := hR.o'.form
    rw [List.length_map] at hde
    subst hde
    have hn2 := hR.n'
    have hp2 := hR.p'
    have HR := Lib.hid hR
    by_cases hlt : 1 < ls.length
    · have hltI : (1 : Int) < (ls.length : Int) := by omega
      have h2 : 2 ≤ ls.length := hlt
      have hcb := cutN_bounds h2 (by omega)
      have hce := cutAt_eq h2 (by omega)
      have HD1 := Lib.hid (fun d hd => HR.out.l' d (List.mem_of_mem_take hd) : ∀ d ∈ ls.take (cutN ls.length), d.length = 32)
      have HD2 := Lib.hid (fun d hd => HR.out.l' d (List.mem_of_mem_drop hd) : ∀ d ∈ ls.drop (cutN ls.length), d.length = 32)
      obtain ⟨sa, hs1, ha1⟩ := run_slice_arr3 elemD HR.out.a' (cutN ls.length) (by simp; omega)
      obtain ⟨sb, sd, _, _, hs2, ha2⟩ := run_slice_arr elemD HR.out.a' (cutN ls.length) (dcs ls).length (by simp; omega) (Nat.le_refl _)
      have hs2 := hs2 rfl
      rw [List.take_length] at ha2
      simp only [List.length_map] at hs2 ha2
      rw [← dcs_take] at ha1
      rw [← dcs_drop] at ha2
      have HA1 := Lib.hid ha1
      have HA2 := Lib.hid ha2
      have HCE := Lib.hid hce
      have hcI : (0 : Int) ≤ (cutN ls.length : Int) := by omega
      have hcL : (cutN ls.length : Int) ≤ (ls.length : Int) := by omega
      clear ha1 ha2 hce hR
      go_wp2_with fail
      refine (cut_calls _ _ h2 (by omega)).mono ?_
      rintro e wz ⟨rfl, rfl⟩
      by_cases hq : q < cutN ls.length
      · have hqI : (q : Int) < (cutN ls.length : Int) := by omega
        go_wp2_with fail
        refine (root_calls _ wr _ (ls.drop (cutN ls.length)) rfl HA2.out.any HD2.out HR.out.t' (by simp; omega)).mono ?_
        rintro e w2 ⟨rfl, g⟩
        have hs2 := g.size
        have hsw := HR.out.b'.size
        obtain ⟨m, hm⟩ : ∃ m, root (ls.drop (cutN ls.length)) = m := ⟨_, rfl⟩
        have HML := Lib.hid (show m.length = 32 by rw [← hm]; exact root_length _ _ rfl HD2.out)
        have HPE := Lib.hid (show path ds p = path (ls.take (cutN ls.length)) q ++ (down ++ [m]).reverse by
          rw [HR.out.e', path_left h2 (by rw [HCE.out]; exact hq), HCE.out, hm]; simp)
        have HO2 := Lib.hid (HR.out.o'.below g)
        have HONE := Lib.hid (one_cells m)
        rw [hm]
        have hal : Below w2.heap.size w2 (w2.alloc (.cells (m.map byt).toArray 25)) := (Below.refl _ _).alloc (Nat.le_refl _) _
        have HNW := Lib.hid (show ∀ j u, (m.map byt)[j]? = some u → (w2.alloc (.cells (m.map byt).toArray 25)).cell? ((⟨w2.heap.size, 0, none⟩ : Addr).add j) = some u from fun j u hu => by rw [Addr.add_mid, Nat.zero_add]; exact (Blk.new w2 _ 25 _ rfl).cell hu)
        have HOV := Lib.hid (show OwnV 32 w.heap.size 25 (w2.alloc (.cells (m.map byt).toArray 25)) (.slice da down.length dc) down.length (dcs down).flatten by have := (HO2.out.alloc (.cells (m.map byt).toArray 25)).1; rw [List.length_map] at this; exact this)
        have HF2 := Lib.hid (show Fr (fun b => (Value.slice da down.length dc).ownBlock = some b) wr (w2.alloc (.cells (m.map byt).toArray 25)) from (Fr.ofBelowAll g (Nat.le_refl _)).alloc _)
        have HSM := Lib.hid (show ((m.map byt).toArray).size = 32 by rw [List.size_toArray, List.length_map]; exact HML.out)
        clear hm hal g
        go_wp2_with (first | (with_reducible refine wpList_buildSlice1 _ rfl elemD _ rfl _ rfl HSM.out (by decide) ?_) | (at_builtin; refine wpList_append_val _ rfl (.tmp 25) (.tmp 30) 22 rfl w.heap.size 25 elemD _ down.length (dcs down).flatten rfl HOV.out ⟨w2.heap.size, 0, none⟩ 1 1 (m.map byt) rfl (by simp [HML.out]) HNW.out HONE.out (by unfold maxLen; omega) (by omega) (by simp; omega) ?_))
        intro a' cap' w3 q1 q2 q3
        have hpush : OwnA 32 w.heap.size 25 w3 (.slice a' (down.length + 1) cap') (dcs (down ++ [m])) := by
          have := OwnA.push HO2.out (x := m.map byt) (by rw [List.length_map]; exact HML.out) (by rw [List.length_map]; exact q1)
          rw [show dcs (down ++ [m]) = dcs down ++ [m.map byt] by simp [dcs]]
          exact this
        have hF : Fr (fun b => (Value.slice da down.length dc).ownBlock = some b) wr w3 := HF2.out.trans (Fr.ofGrown q2)
        have hlo := HR.out.o'.lt
        have HP2 := Lib.hid (show PR w ds p 1 (.slice sa (cutN ls.length) (cutN ls.length)) (ls.take (cutN ls.length)) q (.slice a' (down.length + 1) cap') (down ++ [m]) w3 from
          ⟨HA1.out.fr (by omega) hF (fun b _ h1 h2 => by have := hlo b h2; omega), HD1.out, hpush, (by intro d hd; rcases List.mem_append.1 hd with hd | hd; exact HR.out.d' d hd; rw [List.mem_singleton.1 hd]; exact HML.out),
            (by simp; omega), (by simp; omega), HPE.out, HR.out.b'.trans (hF.below HR.out.b'.size (fun b h => (hlo b h).1)), HR.out.t'.fr hF (fun h => by have := hlo _ h; have := HR.out.h'; omega), HR.out.h'⟩)
        clear q1 q2 q3 hpush hF hlo HOV HNW HF2 HO2 HPE
        go_wp2
        go_roundw
        case rel => exact ⟨(ls.take (cutN ls.length)), down ++ [m], q, rfl, HP2.out⟩
        case measure => simp [sliceLen]; omega
      · have hqI : ¬ (q : Int) < (cutN ls.length : Int) := by omega
        go_wp2_with fail
        refine (root_calls _ wr _ (ls.take (cutN ls.length)) rfl HA1.out.any HD1.out HR.out.t' (by simp; omega)).mono ?_
        rintro e w2 ⟨rfl, g⟩
        have hs2 := g.size
        have hsw := HR.out.b'.size
        obtain ⟨m, hm⟩ : ∃ m, root (ls.take (cutN ls.length)) = m := ⟨_, rfl⟩
        have HML := Lib.hid (show m.length = 32 by rw [← hm]; exact root_length _ _ rfl HD1.out)
        have HPE := Lib.hid (show path ds p = path (ls.drop (cutN ls.length)) (q - cutN ls.length) ++ (down ++ [m]).reverse by
          rw [HR.out.e', path_right h2 (by rw [HCE.out]; exact hq), HCE.out, hm]; simp)
        have HO2 := Lib.hid (HR.out.o'.below g)
        have HONE := Lib.hid (one_cells m)
        rw [hm]
        have hal : Below w2.heap.size w2 (w2.alloc (.cells (m.map byt).toArray 25)) := (Below.refl _ _).alloc (Nat.le_refl _) _
        have HNW := Lib.hid (show ∀ j u, (m.map byt)[j]? = some u → (w2.alloc (.cells (m.map byt).toArray 25)).cell? ((⟨w2.heap.size, 0, none⟩ : Addr).add j) = some u from fun j u hu => by rw [Addr.add_mid, Nat.zero_add]; exact (Blk.new w2 _ 25 _ rfl).cell hu)
        have HOV := Lib.hid (show OwnV 32 w.heap.size 25 (w2.alloc (.cells (m.map byt).toArray 25)) (.slice da down.length dc) down.length (dcs down).flatten by have := (HO2.out.alloc (.cells (m.map byt).toArray 25)).1; rw [List.length_map] at this; exact this)
        have HF2 := Lib.hid (show Fr (fun b => (Value.slice da down.length dc).ownBlock = some b) wr (w2.alloc (.cells (m.map byt).toArray 25)) from (Fr.ofBelowAll g (Nat.le_refl _)).alloc _)
        have HSM := Lib.hid (show ((m.map byt).toArray).size = 32 by rw [List.size_toArray, List.length_map]; exact HML.out)
        clear hm hal g
        go_wp2_with (first | (with_reducible refine wpList_buildSlice1 _ rfl elemD _ rfl _ rfl HSM.out (by decide) ?_) | (at_builtin; refine wpList_append_val _ rfl (.tmp 36) (.tmp 42) 22 rfl w.heap.size 25 elemD _ down.length (dcs down).flatten rfl HOV.out ⟨w2.heap.size, 0, none⟩ 1 1 (m.map byt) rfl (by simp [HML.out]) HNW.out HONE.out (by unfold maxLen; omega) (by omega) (by simp; omega) ?_))
        intro a' cap' w3 q1 q2 q3
        have hpush : OwnA 32 w.heap.size 25 w3 (.slice a' (down.length + 1) cap') (dcs (down ++ [m])) := by
          have := OwnA.push HO2.out (x := m.map byt) (by rw [List.length_map]; exact HML.out) (by rw [List.length_map]; exact q1)
          rw [show dcs (down ++ [m]) = dcs down ++ [m.map byt] by simp [dcs]]
          exact this
        have hF : Fr (fun b => (Value.slice da down.length dc).ownBlock = some b) wr w3 := HF2.out.trans (Fr.ofGrown q2)
        have hlo := HR.out.o'.lt
        have HP2 := Lib.hid (show PR w ds p 1 (.slice sb (ls.length - cutN ls.length) sd) (ls.drop (cutN ls.length)) (q - cutN ls.length) (.slice a' (down.length + 1) cap') (down ++ [m]) w3 from
          ⟨HA2.out.fr (by omega) hF (fun b _ h1 h2 => by have := hlo b h2; omega), HD2.out, hpush, (by intro d hd; rcases List.mem_append.1 hd with hd | hd; exact HR.out.d' d hd; rw [List.mem_singleton.1 hd]; exact HML.out),
            (by simp; omega), (by simp; omega), HPE.out, HR.out.b'.trans (hF.below HR.out.b'.size (fun b h => (hlo b h).1)), HR.out.t'.fr hF (fun h => by have := hlo _ h; have := HR.out.h'; omega), HR.out.h'⟩)
        clear q1 q2 q3 hpush hF hlo HOV HNW HF2 HO2 HPE
        go_wp2
        go_roundw
        case rel => exact ⟨(ls.drop (cutN ls.length)), down ++ [m], (q - cutN ls.length), by rw [show ((q : Int) - (cutN ls.length : Int)) = ((q - cutN ls.length : Nat) : Int) from by omega], HP2.out⟩
        case measure => simp [sliceLen]; omega
    · have hltI : ¬ (1 : Int) < (ls.length : Int) := by omega
      have HE := Lib.hid (show path ds p = down.reverse by rw [HR.out.e', path_one (by omega), List.nil_append])
      clear hR
      go_wp2_with fail
      refine (reverse_calls w.heap.size 25 wr _ (dcs down) HR.out.o' dcs_one (by rw [List.length_map]; omega)).mono ?_
      rintro e w2 ⟨rfl, g1, g2⟩
      have hlo := HR.out.o'.lt
      have HB2 := Lib.hid (HR.out.b'.trans (g2.below HR.out.b'.size (fun b h => (hlo b h).1)))
      have HG := Lib.hid (g1.mono (E := fun b => w.heap.size ≤ b) (by omega) (fun b _ h => h.2))
      clear g1 g2 hlo
      go_wp2
      go_ret2
      exact ⟨_, rfl, by rw [HE.out, show dcs down.reverse = (dcs down).reverse by simp [dcs]]; exact HG.out, HB2.out⟩
set_option maxHeartbeats 4000000 in
set_option maxRecDepth 100000 in
theorem path_none (w : World) (v : Value) (ds : List Dg) (hA : Arr 32 Any w v (dcs ds)) (hn : ds.length ≤ 4398046511104) (p : Int) (hp : p < 0 ∨ (ds.length : Int) ≤ p) :
    Calls Tryd.prog 16 #[v, .int .i64 p] w fun e w' => e = .returned (.tuple #[.slice none 0 0, .bool false]) ∧ w = w' := by
  obtain ⟨a, c, rfl, hk1, hk2, hk3⟩ := hA.form
  simp only [List.length_map] at hA hk1 ⊢
  clear hA
  by_cases h0 : p < 0
  · go_enter Tryd.func16, Tryd.ntmps16
    go_wp2
    go_ret2
    exact ⟨rfl, rfl⟩
  · have h1 : (ds.length : Int) ≤ p := by omega
    go_enter Tryd.func16, Tryd.ntmps16
    go_wp2
    go_ret2
    exact ⟨rfl, rfl⟩
set_option maxHeartbeats 4000000 in
set_option maxRecDepth 100000 in
theorem ref_path_none (w : World) (v : Value) (ds : List Dg) (hA : Arr 32 Any w v (dcs ds)) (hn : ds.length ≤ 4398046511104) (p : Int) (hp : p < 0 ∨ (ds.length : Int) ≤ p) :
    Calls Tryd.prog 17 #[v, .int .i64 p] w fun e w' => e = .returned (.tuple #[.slice none 0 0, .bool false]) ∧ w = w' := by
  obtain ⟨a, c, rfl, hk1, hk2, hk3⟩ := hA.form
  simp only [List.length_map] at hA hk1 ⊢
  clear hA
  by_cases h0 : p < 0
  · go_enter Tryd.func17, Tryd.ntmps17
    go_wp2
    go_ret2
    exact ⟨rfl, rfl⟩
  · have h1 : (ds.length : Int) ≤ p := by omega
    go_enter Tryd.func17, Tryd.ntmps17
    go_wp2
    go_ret2
    exact ⟨rfl, rfl⟩
end Go.Proofs.YtiaoifaglfhagaaDoor.MkW
