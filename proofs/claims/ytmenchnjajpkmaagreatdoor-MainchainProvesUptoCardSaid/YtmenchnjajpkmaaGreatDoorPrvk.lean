/- Walks of the reference's track: at, New, Add, Get, Best, Depth. Conditions: a track as it is; the tables are laid. -/
import Derived.Test.YtmenchnjajpkmaaGreatDoorPrvj
import Derived.Test.YtmenchnjajpkmaaGreatDoorPrvf
section
namespace Go.Proofs.YtmenchnjajpkmaaGreatDoor.Tr
open Go Go.RowKit Mem Codec Mh Maps Ops Wh Ww ShaW Arr Tk
set_option linter.unusedVariables false

def rows (hs : List Hd) : List (List Value) := hs.map Hd.cells
theorem rows_get {hs : List Hd} {k : Nat} (hk : k < hs.length) : (rows hs)[k]'(by simpa [rows] using hk) = (hs[k]'hk).cells := by simp [rows]
/-- the reference's track as a value -/
abbrev rv (v : Value) : Value := .agg [v].toArray
/-- where a header stands, as the reference tells it -/
def atI (hs : List Hd) (id : Dg) : Int := match Mh.find hs id with | none => -1 | some k => (k : Int)
theorem find_is {hs : List Hd} {id : Dg} {k : Nat} {g : Hd} (hb : ∀ j g', j < k → hs[j]? = some g' → mainId g' ≠ id) (hg : hs[k]? = some g) (he : mainId g = id) : Mh.find hs id = some k := by
  cases h : Mh.find hs id with
  | none => exact absurd he (find_none h g (List.mem_of_getElem? hg))
  | some j =>
    obtain ⟨g', h1, h2, h3⟩ := find_some h
    rcases Nat.lt_trichotomy j k with hjk | hjk | hjk
    · exact absurd h2 (hb j g' hjk h1)
    · rw [hjk]
    · exact absurd he (h3 k g hjk hg)
theorem find_not {hs : List Hd} {id : Dg} (hb : ∀ j g', j < hs.length → hs[j]? = some g' → mainId g' ≠ id) : Mh.find hs id = none := by
  cases h : Mh.find hs id with
  | none => rfl
  | some j =>
    obtain ⟨g', h1, h2, h3⟩ := find_some h
    exact absurd h2 (hb j g' (List.getElem?_eq_some_iff.1 h1).1 h1)
/-- the reference's track in memory -/
structure RT (D : Nat → Prop) (w : World) (v : Value) (hs : List Hd) : Prop where
  a : Arr 66 D w v (rows hs)
  t : TabB w 0
section
variable {D E S : Nat → Prop}
theorem RT.below {w w' : World} {v : Value} {hs : List Hd} (h : RT D w v hs) (hb : Below w.heap.size w w') : RT D w' v hs := ⟨h.a.below (by omega) hb, h.t.below hb⟩
theorem RT.fr {w w' : World} {v : Value} {hs : List Hd} (h : RT D w v hs) (hf : Fr S w w') (hn : ∀ k, k < w.heap.size → D k → ¬ S k) (ht : ¬ S 0) : RT D w' v hs := ⟨h.a.fr (by omega) hf hn, h.t.fr hf ht⟩
theorem RT.mono {w : World} {v : Value} {hs : List Hd} (h : RT D w v hs) (hd : ∀ k, k < w.heap.size → D k → E k) : RT E w v hs := ⟨h.a.mono (by omega) hd, h.t⟩
theorem RT.drew {w : World} {v : Value} {hs : List Hd} (h : RT D w v hs) : RT D w.drew v hs := ⟨h.a, h.t⟩
theorem RT.form {w : World} {v : Value} {hs : List Hd} (h : RT D w v hs) : ∃ a cap, v = .slice a hs.length cap ∧ hs.length ≤ cap ∧ cap ≤ maxLen ∧ (a = none → cap = 0) := by
  obtain ⟨a, cap, h1, h2⟩ := h.a.form
  exact ⟨a, cap, by rw [h1]; simp [rows], by simpa [rows] using h2⟩
theorem RT.at {w : World} {v : Value} {hs : List Hd} (h : RT D w v hs) (k : Nat) (hk : k < hs.length) : ∃ b off cap, v = .slice (some ⟨b, off, none⟩) hs.length cap ∧ w.rangeAt b (off + k * 66) (hs[k]'hk).cells := by
  obtain ⟨b, off, cap, h1, _, h2⟩ := h.a.at k (by simpa [rows] using hk)
  exact ⟨b, off, cap, by rw [h1]; simp [rows], by rw [rows_get hk] at h2; exact h2⟩
/-- the same place, in a later world -/
theorem RT.range {w : World} {b off cap : Nat} {hs : List Hd} (h : RT D w (.slice (some ⟨b, off, none⟩) hs.length cap) hs) (k : Nat) (hk : k < hs.length) : w.rangeAt b (off + k * 66) (hs[k]'hk).cells := by
  obtain ⟨b', off', cap', h1, h2⟩ := h.at k hk
  cases h1
  exact h2
end

set_option maxHeartbeats 16000000 in
set_option maxRecDepth 100000 in
theorem at_calls (D : Nat → Prop) (w : World) (v : Value) (hs : List Hd) (hok : ∀ h ∈ hs, h.Ok) (id : Dg) (hid : id.length = 32) (H : RT D w v hs) :
    Calls Tryz.prog 45 #[rv v, dv id] w fun e w' => e = .returned (.int .i64 (atI hs id)) ∧ Below w.heap.size w w' := by
  obtain ⟨a, cap, rfl, hcap, hmax, _⟩ := H.form
  have HIL := Lib.hid hid
  have HOK := Lib.hid hok
  have HR := Lib.hid H
  unfold maxLen at hmax
  clear hid hok H
  go_enter Tryz.func45, Tryz.ntmps45
  go_upto_region 1 with (first
    | ((with_reducible refine wpList_box rfl _ _ rfl [.slice a hs.length cap] rfl (fun w1 k1 b1 z1 => ?_)); have K1 := Lib.hid k1; have B1 := Lib.hid b1; clear k1 b1)
    | ((with_reducible refine wpList_box rfl _ _ rfl (id.map byt) rfl (fun w2 k2 b2 z2 => ?_)); have K2 := Lib.hid k2; have B2 := Lib.hid b2; clear k2 b2))
  have R2 := Lib.hid ((HR.out.below B1.out).below B2.out)
  have T2 := Lib.hid (K1.out.below B2.out)
  have BB := Lib.hid (B1.out.trans (B2.out.mono (by omega)))
  have hg3 : w.heap.size < w1.heap.size := by omega
  clear HR K1 B1 B2
  generalize w1.heap.size = g3 at *
  go_wp2
  go_loopw [5] (fun i wx => ∃ k : Nat, k ≤ hs.length ∧ i = .int .i64 (k : Int) ∧ (∀ j g', j < k → hs[j]? = some g' → mainId g' ≠ id) ∧ Blk wx w.heap.size [.slice a hs.length cap] 37 ∧ Blk wx g3 (id.map byt) 24 ∧ RT D wx (.slice a hs.length cap) hs ∧ Below w.heap.size w wx) (fun i _ => hs.length - (intOf i).toNat)
  case atStart => exact ⟨0, Nat.zero_le _, rfl, fun j g' h => absurd h (Nat.not_lt_zero _), T2.out, K2.out, R2.out, BB.out⟩
  case round =>
    obtain ⟨k, hk, rfl, hb, j1, j2, j3, j4⟩ := hrel
    have HBF := Lib.hid hb
    have c0 := j1.cell (i := 0) rfl
    have J1 := Lib.hid j1
    have J2 := Lib.hid j2
    have J3 := Lib.hid j3
    have J4 := Lib.hid j4
    clear hb j1 j2 j3 j4
    by_cases hlt : k < hs.length
    · obtain ⟨b, off, cap', e0, _⟩ := J3.out.at k hlt
      cases e0
      obtain ⟨g, hg⟩ : ∃ g, hs[k]'hlt = g := ⟨_, rfl⟩
      have HGE := Lib.hid hg
      have OKG := Lib.hid (show g.Ok from by rw [← hg]; exact HOK.out _ (List.getElem_mem hlt))
      have HGK := Lib.hid (show hs[k]? = some g by rw [List.getElem?_eq_getElem hlt, hg])
      obtain ⟨m, hm⟩ : ∃ m, mainId g = m := ⟨_, rfl⟩
      have HMI := Lib.hid hm
      have HML := Lib.hid (show m.length = 32 by rw [← hm]; exact mainId_length g)
      have hltI : (k : Int) < (hs.length : Int) := by omega
      have h0I : (0 : Int) ≤ (k : Int) := by omega
      clear hg hm
      by_cases heq : m = id
      · have hq : ∀ w, (Op.equalIn 10000 24 (.agg (m.map byt).toArray) (.agg (id.map byt).toArray)).run Tryz.prog w = .ok true w := fun w => by rw [run_equal_u8 Tryz.underlying24 (i := _) rfl (by kernel_rfl) Tryz.underlying5 w m id HML.out HIL.out]; simp [heq]
        have HF := Lib.hid (find_is HBF.out HGK.out (by rw [HMI.out]; exact heq))
        clear heq
        go_wp2
        refine wp_region_held_drew (S := (fun w' => Blk w' w.heap.size [.slice (some ⟨b, off, none⟩) hs.length cap] 37 ∧ Blk w' g3 (id.map byt) 24 ∧ RT D w' (.slice (some ⟨b, off, none⟩) hs.length cap) hs ∧ Below w.heap.size w w')) (by kernel_rfl) ⟨J1.out.drew, J2.out.drew, J3.out.drew, below_drew J4.out⟩ (fun hHeld => ?_)
        refine wpAnyH_take (i := 0) (oi := ⟨_, _, _, _, _, _⟩) (v := ?_) rfl (by kernel_rfl) (by kernel_rfl) (by kernel_rfl) (fun _ _ _ h => h) (Or.inl ⟨by rfl, ?_⟩) (by assumption) ?_
        rotate_left
        · intro w hSw; go_simp; try (with_reducible rfl)
        try simp only [Act.put, List.setIfInBounds_toArray, List.set_cons_zero, List.set_cons_succ]
        refine wpAnyH_take (i := 1) (oi := ⟨_, _, _, _, _, _⟩) (v := .slice (some ⟨b, off, none⟩) hs.length cap) rfl (by kernel_rfl) (by kernel_rfl) (by kernel_rfl) (fun _ _ _ h => h) (Or.inl ⟨by rfl, fun w hSw => (by have c := hSw.1.cell (i := 0) rfl; go_simp; try (with_reducible rfl))⟩) (by assumption) ?_
        try simp only [Act.put, List.setIfInBounds_toArray, List.set_cons_zero, List.set_cons_succ]
        refine wpAnyH_take (i := 2) (oi := ⟨_, _, _, _, _, _⟩) (v := ?_) rfl (by kernel_rfl) (by kernel_rfl) (by kernel_rfl) (fun _ _ _ h => h) (Or.inl ⟨by rfl, ?_⟩) (by assumption) ?_
        rotate_left
        · intro w hSw; go_simp; try (with_reducible rfl)
        try simp only [Act.put, List.setIfInBounds_toArray, List.set_cons_zero, List.set_cons_succ]
        refine wpAnyH_take (i := 3) (oi := ⟨_, _, _, _, _, _⟩) (v := ?_) rfl (by kernel_rfl) (by kernel_rfl) (by kernel_rfl) (fun _ _ _ h => h) (Or.inl ⟨by rfl, ?_⟩) (by assumption) ?_
        rotate_left
        · intro w hSw; go_simp; try (with_reducible rfl)
        try simp only [Act.put, List.setIfInBounds_toArray, List.set_cons_zero, List.set_cons_succ]
        refine wpAnyH_take (i := 4) (oi := ⟨_, _, _, _, _, _⟩) rfl (by kernel_rfl) (by kernel_rfl) (by kernel_rfl) (fun _ _ _ h => h) (yieldsIf_load_mid (by rfl) _ _ rfl b (off + k * 66) rfl g.cells _ (fun _ h => HGE.out ▸ h.2.2.1.range k hlt) Tryz.underlying41 rfl (szH OKG.out)) (by assumption) ?_
        try simp only [Act.put, List.setIfInBounds_toArray, List.set_cons_zero, List.set_cons_succ]
        refine wpAnyH_take (i := 6) (oi := ⟨_, _, _, _, _, _⟩) rfl (by kernel_rfl) (by kernel_rfl) (by kernel_rfl) (fun _ _ _ h => h) (yieldsIf_load_mid (by rfl) _ _ rfl g3 0 rfl (id.map byt) _ (fun _ h => blk_range h.2.1) Tryz.underlying24 rfl (szD HIL.out)) (by assumption) ?_
        try simp only [Act.put, List.setIfInBounds_toArray, List.set_cons_zero, List.set_cons_succ]
        refine wpAnyH_ready (rs := [5]) (by kernel_rfl) (by simp) ?_
        refine AllReadyH.cons (o := ⟨_, _, _, _, _, _⟩) rfl (fun K hK => ?_) AllReadyH.nil
        go_simp
        refine (ref_mainId_calls _ g OKG.out hHeld.2.2.1.t).mono ?_
        rintro e wz ⟨rfl, gz⟩
        rw [HMI.out]
        refine hK.out _ _ (by exact ⟨hHeld.1.below gz, hHeld.2.1.below gz, hHeld.2.2.1.below gz, hHeld.2.2.2.trans (gz.mono hHeld.2.2.2.size)⟩) (fun hHeld => ?_)
        clear hK
        try simp only [Act.put, List.setIfInBounds_toArray, List.set_cons_zero, List.set_cons_succ]
        clear gz
        refine wpAnyH_take (i := 7) (oi := ⟨_, _, _, _, _, _⟩) (v := ?_) rfl (by kernel_rfl) (by kernel_rfl) (by kernel_rfl) (fun _ _ _ h => h) (Or.inl ⟨by rfl, ?_⟩) (by assumption) ?_
        rotate_left
        · intro w hSw; go_simp; try (with_reducible rfl)
        try simp only [Act.put, List.setIfInBounds_toArray, List.set_cons_zero, List.set_cons_succ]
        refine wpAnyH_done (by kernel_rfl) ?_ _
        go_wp2
        go_ret
        exact ⟨by unfold atI; rw [HF.out]; rfl, hHeld.2.2.2⟩
      · have hq : ∀ w, (Op.equalIn 10000 24 (.agg (m.map byt).toArray) (.agg (id.map byt).toArray)).run Tryz.prog w = .ok false w := fun w => by rw [run_equal_u8 Tryz.underlying24 (i := _) rfl (by kernel_rfl) Tryz.underlying5 w m id HML.out HIL.out]; simp [heq]
        have HNE := Lib.hid heq
        clear heq
        go_wp2
        refine wp_region_held_drew (S := (fun w' => Blk w' w.heap.size [.slice (some ⟨b, off, none⟩) hs.length cap] 37 ∧ Blk w' g3 (id.map byt) 24 ∧ RT D w' (.slice (some ⟨b, off, none⟩) hs.length cap) hs ∧ Below w.heap.size w w')) (by kernel_rfl) ⟨J1.out.drew, J2.out.drew, J3.out.drew, below_drew J4.out⟩ (fun hHeld => ?_)
        refine wpAnyH_take (i := 0) (oi := ⟨_, _, _, _, _, _⟩) (v := ?_) rfl (by kernel_rfl) (by kernel_rfl) (by kernel_rfl) (fun _ _ _ h => h) (Or.inl ⟨by rfl, ?_⟩) (by assumption) ?_
        rotate_left
        · intro w hSw; go_simp; try (with_reducible rfl)
        try simp only [Act.put, List.setIfInBounds_toArray, List.set_cons_zero, List.set_cons_succ]
        refine wpAnyH_take (i := 1) (oi := ⟨_, _, _, _, _, _⟩) (v := .slice (some ⟨b, off, none⟩) hs.length cap) rfl (by kernel_rfl) (by kernel_rfl) (by kernel_rfl) (fun _ _ _ h => h) (Or.inl ⟨by rfl, fun w hSw => (by have c := hSw.1.cell (i := 0) rfl; go_simp; try (with_reducible rfl))⟩) (by assumption) ?_
        try simp only [Act.put, List.setIfInBounds_toArray, List.set_cons_zero, List.set_cons_succ]
        refine wpAnyH_take (i := 2) (oi := ⟨_, _, _, _, _, _⟩) (v := ?_) rfl (by kernel_rfl) (by kernel_rfl) (by kernel_rfl) (fun _ _ _ h => h) (Or.inl ⟨by rfl, ?_⟩) (by assumption) ?_
        rotate_left
        · intro w hSw; go_simp; try (with_reducible rfl)
        try simp only [Act.put, List.setIfInBounds_toArray, List.set_cons_zero, List.set_cons_succ]
        refine wpAnyH_take (i := 3) (oi := ⟨_, _, _, _, _, _⟩) (v := ?_) rfl (by kernel_rfl) (by kernel_rfl) (by kernel_rfl) (fun _ _ _ h => h) (Or.inl ⟨by rfl, ?_⟩) (by assumption) ?_
        rotate_left
        · intro w hSw; go_simp; try (with_reducible rfl)
        try simp only [Act.put, List.setIfInBounds_toArray, List.set_cons_zero, List.set_cons_succ]
        refine wpAnyH_take (i := 4) (oi := ⟨_, _, _, _, _, _⟩) rfl (by kernel_rfl) (by kernel_rfl) (by kernel_rfl) (fun _ _ _ h => h) (yieldsIf_load_mid (by rfl) _ _ rfl b (off + k * 66) rfl g.cells _ (fun _ h => HGE.out ▸ h.2.2.1.range k hlt) Tryz.underlying41 rfl (szH OKG.out)) (by assumption) ?_
        try simp only [Act.put, List.setIfInBounds_toArray, List.set_cons_zero, List.set_cons_succ]
        refine wpAnyH_take (i := 6) (oi := ⟨_, _, _, _, _, _⟩) rfl (by kernel_rfl) (by kernel_rfl) (by kernel_rfl) (fun _ _ _ h => h) (yieldsIf_load_mid (by rfl) _ _ rfl g3 0 rfl (id.map byt) _ (fun _ h => blk_range h.2.1) Tryz.underlying24 rfl (szD HIL.out)) (by assumption) ?_
        try simp only [Act.put, List.setIfInBounds_toArray, List.set_cons_zero, List.set_cons_succ]
        refine wpAnyH_ready (rs := [5]) (by kernel_rfl) (by simp) ?_
        refine AllReadyH.cons (o := ⟨_, _, _, _, _, _⟩) rfl (fun K hK => ?_) AllReadyH.nil
        go_simp
        refine (ref_mainId_calls _ g OKG.out hHeld.2.2.1.t).mono ?_
        rintro e wz ⟨rfl, gz⟩
        rw [HMI.out]
        refine hK.out _ _ (by exact ⟨hHeld.1.below gz, hHeld.2.1.below gz, hHeld.2.2.1.below gz, hHeld.2.2.2.trans (gz.mono hHeld.2.2.2.size)⟩) (fun hHeld => ?_)
        clear hK
        try simp only [Act.put, List.setIfInBounds_toArray, List.set_cons_zero, List.set_cons_succ]
        clear gz
        refine wpAnyH_take (i := 7) (oi := ⟨_, _, _, _, _, _⟩) (v := ?_) rfl (by kernel_rfl) (by kernel_rfl) (by kernel_rfl) (fun _ _ _ h => h) (Or.inl ⟨by rfl, ?_⟩) (by assumption) ?_
        rotate_left
        · intro w hSw; go_simp; try (with_reducible rfl)
        try simp only [Act.put, List.setIfInBounds_toArray, List.set_cons_zero, List.set_cons_succ]
        refine wpAnyH_done (by kernel_rfl) ?_ _
        go_wp2
        go_roundw
        case rel => exact ⟨k + 1, by omega, by go_num, fun j g' hj hg' => (by
          by_cases hjk : j = k
          · subst hjk; rw [HGK.out] at hg'; cases hg'; rw [HMI.out]; exact HNE.out
          · exact HBF.out j g' (by omega) hg'), hHeld.1, hHeld.2.1, hHeld.2.2.1, hHeld.2.2.2⟩
        case measure => simp [intOf]; omega
    · obtain rfl : k = hs.length := by omega
      have HF := Lib.hid (find_not HBF.out)
      go_wp2
      go_ret
      exact ⟨by unfold atI; rw [HF.out]; rfl, J4.out⟩

set_option maxRecDepth 100000 in
theorem elemH : ElemT Tryz.prog 22 41 (hv zeroH) 66 80 :=
  ⟨Tryz.underlying22, ⟨_, rfl, by kernel_rfl, by kernel_rfl, by kernel_rfl⟩, by simp [Value.cells, zeroH_len], by decide⟩
theorem zeroT (w : World) : (zeroValue 37).run Tryz.prog w = .ok (.agg [.slice none 0 0].toArray) w := by kernel_rfl
theorem szRT (v : Value) : (Tryz.prog.info? 37).map (·.size) = some [v].length := by kernel_rfl
theorem one_slice (a : Option Addr) (n c : Nat) : ∀ v ∈ [Value.slice a n c], v.oneCell' = true := fun v hv => by rw [List.mem_singleton.1 hv]; rfl
theorem ok_size {h : Hd} (ok : h.Ok) : h.cells.toArray.size = 66 := by rw [List.size_toArray, ok.len]
theorem rows_one (hs : List Hd) : ∀ x ∈ rows hs, ∀ c ∈ x, c.oneCell' = true := fun x hx c hc => by obtain ⟨h, _, rfl⟩ := List.mem_map.1 hx; exact h.one c hc
theorem rows_len (hs : List Hd) : (rows hs).length = hs.length := by simp [rows]
theorem rows_66 {hs : List Hd} (hok : ∀ h ∈ hs, h.Ok) : ∀ x ∈ rows hs, x.length = 66 := fun x hx => by obtain ⟨h, hm, rfl⟩ := List.mem_map.1 hx; exact (hok h hm).len
set_option maxHeartbeats 8000000 in
set_option maxRecDepth 100000 in
theorem rnew_calls (w : World) (h : Hd) (ok : h.Ok) (hT : TabB w 0) :
    Calls Tryz.prog 21 #[hv h] w fun e w' => ∃ v, e = .returned (rv v) ∧ RT (fun k => w.heap.size ≤ k) w' v [h] ∧ Below w.heap.size w w' := by
  have HT := Lib.hid hT
  have HSZ := Lib.hid (ok_size ok)
  have HL := Lib.hid ok.len
  have HZ := Lib.hid (szH ok)
  clear hT
  go_enter Tryz.func21, Tryz.ntmps21
  go_upto_region 1 with (first
    | ((with_reducible refine wpList_box rfl _ _ rfl h.cells rfl (fun w1 k1 b1 z1 => ?_)); have K1 := Lib.hid k1; have B1 := Lib.hid b1; clear k1 b1)
    | ((with_reducible refine wpList_alloc rfl _ rfl _ (zeroT _) (fun w2 k2 b2 z2 => ?_)); have K2 := Lib.hid k2; have B2 := Lib.hid b2; clear k2 b2))
  have HB := Lib.hid (K1.out.below B2.out)
  have BB := Lib.hid (B1.out.trans (B2.out.mono (by omega)))
  have hg : w.heap.size < w1.heap.size := by omega
  have hr : w1.heap.size < w2.heap.size := by omega
  clear K1 B1 B2
  generalize w1.heap.size = gr at *
  have HBA := Lib.hid (show Below w2.heap.size w2 (w2.alloc (.cells h.cells.toArray 41)) from below_alloc _ _)
  have HK := Lib.hid (K2.out.below HBA.out)
  have HAR := Lib.hid (arr_one (k := 66) (D := fun k => w.heap.size ≤ k) w2 h.cells.toArray 41 (0, 0) h.cells HL.out rfl (by show w.heap.size ≤ w2.heap.size; omega))
  have HTA := Lib.hid (HT.out.below (BB.out.trans (HBA.out.mono (by omega))))
  have BA := Lib.hid (BB.out.trans (HBA.out.mono (by omega)))
  obtain ⟨w3, hw3⟩ : ∃ x, w2.alloc (.cells h.cells.toArray 41) = x := ⟨_, rfl⟩
  rw [hw3] at HBA HK HAR HTA BA
  go_wp2_with (first
    | (with_reducible refine wpList_load_blk rfl _ _ rfl w.heap.size h.cells rfl HB.out _ Tryz.underlying41 rfl HZ.out ?_)
    | ((with_reducible refine wpList_buildSlice1 _ rfl elemH _ rfl _ rfl HSZ.out (by decide) ?_); rw [hw3])
    | ((with_reducible refine wpList_put rfl _ _ _ rfl gr [.slice (some ⟨w2.heap.size, 0, none⟩) 1 1] _ rfl rfl HK.out (szRT _) rfl (one_slice _ _ _) (fun wc kc fc zc => ?_)); have KC := Lib.hid kc; have FC := Lib.hid fc; clear kc fc))
  have hb3 := BA.out.size
  have hb2 := HBA.out.size
  refine bodyPost_ret (v := rv (.slice (some ⟨w2.heap.size, 0, none⟩) 1 1)) (results_row1 Tryz.results21 _ _ gr _ _ rfl KC.out Tryz.underlying37 rfl (szRT _)) rfl ⟨_, rfl, ⟨?_, ?_⟩, BA.out.trans (FC.out.below (by omega) (fun k hk => by omega))⟩
  · obtain ⟨a9, c9, e9, q1, q2, q3⟩ := HAR.out
    cases e9
    refine ⟨_, _, rfl, q1, q2, q3.imp_right ?_⟩
    rintro ⟨b9, o9, e9, q5, q4⟩
    cases e9
    exact ⟨_, _, rfl, q5, fun i hi => rangeAt_fr (q4 i hi) FC.out (by show ¬ w2.heap.size = gr; omega)⟩
  · obtain ⟨c9, t9, ht⟩ := HTA.out
    have hlt : 0 < w.heap.size := (Array.getElem?_eq_some_iff.1 HT.out.choose_spec.choose_spec).1
    exact ⟨c9, t9, (FC.out.block _ (by omega) (by show ¬ 0 = gr; omega)).trans ht⟩

theorem zeroH_ok : zeroH.Ok := by simp [zeroH, Hd.Ok]
theorem built_zero : Tryz.prog.built 41 [] = some zeroH.cells.toArray := by kernel_rfl
set_option maxHeartbeats 8000000 in
set_option maxRecDepth 100000 in
theorem rget_calls (D : Nat → Prop) (w : World) (v : Value) (hs : List Hd) (hok : ∀ h ∈ hs, h.Ok) (id : Dg) (hid : id.length = 32) (H : RT D w v hs) :
    Calls Tryz.prog 31 #[rv v, dv id] w fun e w' => e = .returned (.tuple #[hv ((Tk.look hs id).getD zeroH), .bool (Tk.look hs id).isSome]) ∧ Below w.heap.size w w' := by
  obtain ⟨a, cap, rfl, hcap, hmax, _⟩ := H.form
  unfold maxLen at hmax
  have HOK := Lib.hid hok
  have HR := Lib.hid H
  have HIL := Lib.hid hid
  clear hid hok H
  go_enter Tryz.func31, Tryz.ntmps31
  go_upto_region 1 with (first
    | ((with_reducible refine wpList_box rfl _ _ rfl [.slice a hs.length cap] rfl (fun w1 k1 b1 z1 => ?_)); have K1 := Lib.hid k1; have B1 := Lib.hid b1; clear k1 b1)
    | ((with_reducible refine wpList_box rfl _ _ rfl (id.map byt) rfl (fun w2 k2 b2 z2 => ?_)); have K2 := Lib.hid k2; have B2 := Lib.hid b2; clear k2 b2)
    | ((with_reducible refine wpList_alloc rfl _ rfl _ (zeroV _) (fun w3 k3 b3 z3 => ?_)); have K3 := Lib.hid k3; have B3 := Lib.hid b3; clear k3 b3))
  have R2 := Lib.hid (((HR.out.below B1.out).below B2.out).below B3.out)
  have T2 := Lib.hid ((K1.out.below B2.out).below B3.out)
  have D2 := Lib.hid (K2.out.below B3.out)
  have BB := Lib.hid (B1.out.trans ((B2.out.trans (B3.out.mono (by omega))).mono (by omega)))
  have g1 : w.heap.size < w1.heap.size := by omega
  have g2 : w1.heap.size < w2.heap.size := by omega
  have g3 : w2.heap.size < w3.heap.size := by omega
  clear HR K1 B1 K2 B2 B3
  generalize w2.heap.size = gr at *
  generalize w1.heap.size = gi at *
  go_wp2_with (first
    | (with_reducible refine wpList_load_blk rfl _ _ rfl w.heap.size [.slice a hs.length cap] rfl T2.out _ Tryz.underlying37 rfl (szRT _) ?_)
    | (with_reducible refine wpList_load_blk rfl _ _ rfl gi (id.map byt) rfl D2.out _ Tryz.underlying24 rfl (szD HIL.out) ?_))
  refine (at_calls D w3 _ hs HOK.out id HIL.out R2.out).mono ?_
  rintro e w4 ⟨rfl, b4⟩
  have T4 := Lib.hid (T2.out.below b4)
  have R4 := Lib.hid (R2.out.below b4)
  have K4 := Lib.hid (K3.out.below b4)
  have B4 := Lib.hid (BB.out.trans (b4.mono (by omega)))
  have c0 := T4.out.cell (i := 0) rfl
  have hs4 := b4.size
  clear b4 T2 R2 D2 K3 BB
  rcases look_cases hs id with ⟨c1, c2⟩ | ⟨k, h, c1, c2, c3, c4⟩
  · have HA := Lib.hid (show atI hs id = -1 by unfold atI; rw [c1])
    have HL := Lib.hid (show Tk.look hs id = none from c2)
    clear c1 c2
    rw [HA.out]
    have hz0 : ∀ w, (zeroValue 41).run Tryz.prog w = .ok (.agg zeroH.cells.toArray) w := zeroV
    go_wp2_with (first
      | ((with_reducible refine wpList_put rfl _ _ _ rfl gr zeroH.cells _ rfl rfl K4.out (szH zeroH_ok) rfl zeroH.one (fun wc kc fc zc => ?_)); have KC := Lib.hid kc; have BC := Lib.hid (B4.out.trans (fc.below (by omega) (fun k hk => by omega))); clear kc fc))
    exact bodyPost_ret (v := .tuple #[hv zeroH, .bool false]) (results_row2 Tryz.results31 _ _ gr zeroH.cells _ rfl KC.out Tryz.underlying41 rfl (szH zeroH_ok) _ rfl) rfl ⟨by rw [HL.out]; rfl, BC.out⟩
  · have hlt : k < hs.length := (List.getElem?_eq_some_iff.1 c2).1
    have HA := Lib.hid (show atI hs id = (k : Int) by unfold atI; rw [c1])
    have HL := Lib.hid (show Tk.look hs id = some h from c4)
    have HGE := Lib.hid (show hs[k]'hlt = h by rw [List.getElem?_eq_getElem hlt] at c2; exact Option.some.inj c2)
    have OKH := Lib.hid (HOK.out h (List.mem_of_getElem? c2))
    clear c1 c2 c3 c4
    rw [HA.out]
    obtain ⟨b, off, cap', e0, r0⟩ := R4.out.at k hlt
    cases e0
    have HRG := Lib.hid (show w4.rangeAt b (off + k * 66) h.cells from HGE.out ▸ r0)
    have hltI : (k : Int) < (hs.length : Int) := by omega
    have h0I : (0 : Int) ≤ (k : Int) := by omega
    clear r0
    go_wp2_with (first
      | (with_reducible refine wpList_load_mid rfl _ _ rfl b (off + k * 66) rfl h.cells _ HRG.out Tryz.underlying41 rfl (szH OKH.out) ?_)
      | ((with_reducible refine wpList_put rfl _ _ _ rfl gr h.cells _ rfl rfl K4.out (szH OKH.out) (by rw [zeroH_len, OKH.out.len]) h.one (fun wc kc fc zc => ?_)); have KC := Lib.hid kc; have BC := Lib.hid (B4.out.trans (fc.below (by omega) (fun k hk => by omega))); clear kc fc))
    exact bodyPost_ret (v := .tuple #[hv h, .bool true]) (results_row2 Tryz.results31 _ _ gr h.cells _ rfl KC.out Tryz.underlying41 rfl (szH OKH.out) _ rfl) rfl ⟨by rw [HL.out]; rfl, BC.out⟩

theorem bestN_lt {hs : List Hd} {i : Nat} (hi : i ≤ hs.length) (h0 : 0 < hs.length) : bestN hs i < hs.length := by have := bestN_le hs i; omega
set_option maxHeartbeats 16000000 in
set_option maxRecDepth 100000 in
theorem rbest_calls (D : Nat → Prop) (w : World) (v : Value) (hs : List Hd) (h0 : 0 < hs.length) (hok : ∀ h ∈ hs, h.Ok) (H : RT D w v hs) :
    Calls Tryz.prog 23 #[rv v] w fun e w' => e = .returned (dv (bestId hs)) ∧ Below w.heap.size w w' := by
  obtain ⟨a, cap, rfl, hcap, hmax, _⟩ := H.form
  unfold maxLen at hmax
  have HOK := Lib.hid hok
  have HR := Lib.hid H
  have hlt0 : 0 < w.heap.size := (Array.getElem?_eq_some_iff.1 HR.out.t.choose_spec.choose_spec).1
  clear hok H
  go_enter Tryz.func23, Tryz.ntmps23
  go_upto_region 1 with (first
    | ((with_reducible refine wpList_box rfl _ _ rfl [.slice a hs.length cap] rfl (fun w1 k1 b1 z1 => ?_)); have K1 := Lib.hid k1; have B1 := Lib.hid b1; clear k1 b1)
    | ((with_reducible refine wpList_alloc rfl _ rfl _ (zeroD _) (fun w2 k2 b2 z2 => ?_)); have K2 := Lib.hid k2; have B2 := Lib.hid b2; clear k2 b2))
  have R2 := Lib.hid ((HR.out.below B1.out).below B2.out)
  have T2 := Lib.hid (K1.out.below B2.out)
  have BB := Lib.hid (B1.out.trans (B2.out.mono (by omega)))
  have g1 : w.heap.size < w1.heap.size := by omega
  clear HR K1 B1 B2
  generalize w1.heap.size = gr at *
  go_wp2
  go_loopw [3, 4] (fun q i' wx => ∃ i : Nat, i ≤ hs.length ∧ i' = .int .i64 (i : Int) ∧ q = .int .i64 ((bestN hs i : Nat) : Int) ∧ Blk wx w.heap.size [.slice a hs.length cap] 37 ∧ Blk wx gr ((List.replicate 32 (0 : UInt8)).map byt) 24 ∧ RT D wx (.slice a hs.length cap) hs ∧ Below w.heap.size w wx) (fun _ i' _ => hs.length - (intOf i').toNat)
  case atStart => exact ⟨0, Nat.zero_le _, rfl, rfl, T2.out, K2.out, R2.out, BB.out⟩
  case round =>
    obtain ⟨i, hi, rfl, rfl, j1, j2, j3, j4⟩ := hrel
    have c0 := j1.cell (i := 0) rfl
    have J1 := Lib.hid j1
    have J2 := Lib.hid j2
    have J3 := Lib.hid j3
    have J4 := Lib.hid j4
    have hkl := bestN_lt hi h0
    clear j1 j2 j3 j4
    by_cases hlt : i < hs.length
    · have HBN := Lib.hid (show bestN hs (i + 1) = if ht hs (bestN hs i) < ht hs i then i else bestN hs i from rfl)
      obtain ⟨k, hk⟩ : ∃ k, bestN hs i = k := ⟨_, rfl⟩
      rw [hk] at hkl HBN ⊢
      clear hk
      obtain ⟨b, off, cap', e0, _⟩ := J3.out.at i hlt
      cases e0
      obtain ⟨g, hg⟩ : ∃ g, hs[i]'hlt = g := ⟨_, rfl⟩
      obtain ⟨h, hh⟩ : ∃ g, hs[k]'hkl = g := ⟨_, rfl⟩
      have HGE := Lib.hid hg
      have HHE := Lib.hid hh
      have OKG := Lib.hid (show g.Ok from by rw [← hg]; exact HOK.out _ (List.getElem_mem hlt))
      have OKH := Lib.hid (show h.Ok from by rw [← hh]; exact HOK.out _ (List.getElem_mem hkl))
      have H1 := Lib.hid (show ht hs i = g.height by unfold ht; rw [List.getElem?_eq_getElem hlt, hg]; rfl)
      have H2 := Lib.hid (show ht hs k = h.height by unfold ht; rw [List.getElem?_eq_getElem hkl, hh]; rfl)
      have hltI : (i : Int) < (hs.length : Int) := by omega
      have h0I : (0 : Int) ≤ (i : Int) := by omega
      have hklI : (k : Int) < (hs.length : Int) := by omega
      have h0K : (0 : Int) ≤ (k : Int) := by omega
      clear hg hh
      go_wp2
      refine wp_region_held_drew (S := (fun w' => Blk w' w.heap.size [.slice (some ⟨b, off, none⟩) hs.length cap] 37 ∧ Blk w' gr ((List.replicate 32 (0 : UInt8)).map byt) 24 ∧ RT D w' (.slice (some ⟨b, off, none⟩) hs.length cap) hs ∧ Below w.heap.size w w')) (by kernel_rfl) ⟨J1.out.drew, J2.out.drew, J3.out.drew, below_drew J4.out⟩ (fun hHeld => ?_)
      refine wpAnyH_take (i := 0) (oi := ⟨_, _, _, _, _, _⟩) (v := ?_) rfl (by kernel_rfl) (by kernel_rfl) (by kernel_rfl) (fun _ _ _ h => h) (Or.inl ⟨by rfl, ?_⟩) (by assumption) ?_
      rotate_left
      · intro w hSw; go_simp; try (with_reducible rfl)
      try simp only [Act.put, List.setIfInBounds_toArray, List.set_cons_zero, List.set_cons_succ]
      refine wpAnyH_take (i := 1) (oi := ⟨_, _, _, _, _, _⟩) (v := .slice (some ⟨b, off, none⟩) hs.length cap) rfl (by kernel_rfl) (by kernel_rfl) (by kernel_rfl) (fun _ _ _ h => h) (Or.inl ⟨by rfl, fun w hSw => (by have c := hSw.1.cell (i := 0) rfl; go_simp; try (with_reducible rfl))⟩) (by assumption) ?_
      try simp only [Act.put, List.setIfInBounds_toArray, List.set_cons_zero, List.set_cons_succ]
      refine wpAnyH_take (i := 2) (oi := ⟨_, _, _, _, _, _⟩) (v := ?_) rfl (by kernel_rfl) (by kernel_rfl) (by kernel_rfl) (fun _ _ _ h => h) (Or.inl ⟨by rfl, ?_⟩) (by assumption) ?_
      rotate_left
      · intro w hSw; go_simp; try (with_reducible rfl)
      try simp only [Act.put, List.setIfInBounds_toArray, List.set_cons_zero, List.set_cons_succ]
      refine wpAnyH_take (i := 3) (oi := ⟨_, _, _, _, _, _⟩) (v := ?_) rfl (by kernel_rfl) (by kernel_rfl) (by kernel_rfl) (fun _ _ _ h => h) (Or.inl ⟨by rfl, ?_⟩) (by assumption) ?_
      rotate_left
      · intro w hSw; go_simp; try (with_reducible rfl)
      try simp only [Act.put, List.setIfInBounds_toArray, List.set_cons_zero, List.set_cons_succ]
      refine wpAnyH_take (i := 4) (oi := ⟨_, _, _, _, _, _⟩) (v := ?_) rfl (by kernel_rfl) (by kernel_rfl) (by kernel_rfl) (fun _ _ _ h => h) (Or.inl ⟨by rfl, ?_⟩) (by assumption) ?_
      rotate_left
      · intro w hSw; go_simp; try (with_reducible rfl)
      try simp only [Act.put, List.setIfInBounds_toArray, List.set_cons_zero, List.set_cons_succ]
      refine wpAnyH_take (i := 5) (oi := ⟨_, _, _, _, _, _⟩) (v := .int .u64 (g.height : Int)) rfl (by kernel_rfl) (by kernel_rfl) (by kernel_rfl) (fun _ _ _ h => h) (Or.inl ⟨by rfl, fun w hSw => (by have c := (hSw.2.2.1.range i hlt) 64 _ (Hd.cell_height (HGE.out ▸ OKG.out)); rw [HGE.out] at c; go_simp; try (with_reducible rfl))⟩) (by assumption) ?_
      try simp only [Act.put, List.setIfInBounds_toArray, List.set_cons_zero, List.set_cons_succ]
      refine wpAnyH_take (i := 6) (oi := ⟨_, _, _, _, _, _⟩) (v := ?_) rfl (by kernel_rfl) (by kernel_rfl) (by kernel_rfl) (fun _ _ _ h => h) (Or.inl ⟨by rfl, ?_⟩) (by assumption) ?_
      rotate_left
      · intro w hSw; go_simp; try (with_reducible rfl)
      try simp only [Act.put, List.setIfInBounds_toArray, List.set_cons_zero, List.set_cons_succ]
      refine wpAnyH_take (i := 7) (oi := ⟨_, _, _, _, _, _⟩) (v := .slice (some ⟨b, off, none⟩) hs.length cap) rfl (by kernel_rfl) (by kernel_rfl) (by kernel_rfl) (fun _ _ _ h => h) (Or.inl ⟨by rfl, fun w hSw => (by have c := hSw.1.cell (i := 0) rfl; go_simp; try (with_reducible rfl))⟩) (by assumption) ?_
      try simp only [Act.put, List.setIfInBounds_toArray, List.set_cons_zero, List.set_cons_succ]
      refine wpAnyH_take (i := 8) (oi := ⟨_, _, _, _, _, _⟩) (v := ?_) rfl (by kernel_rfl) (by kernel_rfl) (by kernel_rfl) (fun _ _ _ h => h) (Or.inl ⟨by rfl, ?_⟩) (by assumption) ?_
      rotate_left
      · intro w hSw; go_simp; try (with_reducible rfl)
      try simp only [Act.put, List.setIfInBounds_toArray, List.set_cons_zero, List.set_cons_succ]
      refine wpAnyH_take (i := 9) (oi := ⟨_, _, _, _, _, _⟩) (v := ?_) rfl (by kernel_rfl) (by kernel_rfl) (by kernel_rfl) (fun _ _ _ h => h) (Or.inl ⟨by rfl, ?_⟩) (by assumption) ?_
      rotate_left
      · intro w hSw; go_simp; try (with_reducible rfl)
      try simp only [Act.put, List.setIfInBounds_toArray, List.set_cons_zero, List.set_cons_succ]
      refine wpAnyH_take (i := 10) (oi := ⟨_, _, _, _, _, _⟩) (v := ?_) rfl (by kernel_rfl) (by kernel_rfl) (by kernel_rfl) (fun _ _ _ h => h) (Or.inl ⟨by rfl, ?_⟩) (by assumption) ?_
      rotate_left
      · intro w hSw; go_simp; try (with_reducible rfl)
      try simp only [Act.put, List.setIfInBounds_toArray, List.set_cons_zero, List.set_cons_succ]
      refine wpAnyH_take (i := 11) (oi := ⟨_, _, _, _, _, _⟩) (v := .int .u64 (h.height : Int)) rfl (by kernel_rfl) (by kernel_rfl) (by kernel_rfl) (fun _ _ _ h => h) (Or.inl ⟨by rfl, fun w hSw => (by have c := (hSw.2.2.1.range k hkl) 64 _ (Hd.cell_height (HHE.out ▸ OKH.out)); rw [HHE.out] at c; go_simp; try (with_reducible rfl))⟩) (by assumption) ?_
      try simp only [Act.put, List.setIfInBounds_toArray, List.set_cons_zero, List.set_cons_succ]
      refine wpAnyH_take (i := 12) (oi := ⟨_, _, _, _, _, _⟩) (v := ?_) rfl (by kernel_rfl) (by kernel_rfl) (by kernel_rfl) (fun _ _ _ h => h) (Or.inl ⟨by rfl, ?_⟩) (by assumption) ?_
      rotate_left
      · intro w hSw; go_simp; try (with_reducible rfl)
      try simp only [Act.put, List.setIfInBounds_toArray, List.set_cons_zero, List.set_cons_succ]
      refine wpAnyH_done (by kernel_rfl) ?_ _
      by_cases hgt : h.height < g.height
      · have hgtI : (h.height : Int) < (g.height : Int) := by omega
        have HE := Lib.hid (show bestN hs (i + 1) = i by rw [HBN.out, if_pos (by rw [H1.out, H2.out]; exact hgt)])
        go_wp2
        go_roundw
        case rel => exact ⟨i + 1, by omega, by go_num, by rw [HE.out], hHeld.1, hHeld.2.1, hHeld.2.2.1, hHeld.2.2.2⟩
        case measure => simp [intOf]; omega
      · have hgtI : ¬ (h.height : Int) < (g.height : Int) := by omega
        have HE := Lib.hid (show bestN hs (i + 1) = k by rw [HBN.out, if_neg (by rw [H1.out, H2.out]; exact hgt)])
        go_wp2
        go_roundw
        case rel => exact ⟨i + 1, by omega, by go_num, by rw [HE.out], hHeld.1, hHeld.2.1, hHeld.2.2.1, hHeld.2.2.2⟩
        case measure => simp [intOf]; omega
    · obtain rfl : i = hs.length := by omega
      have HBI := Lib.hid (show bestN hs hs.length = best hs from rfl)
      obtain ⟨k, hk⟩ : ∃ k, bestN hs hs.length = k := ⟨_, rfl⟩
      rw [hk] at hkl HBI ⊢
      clear hk
      obtain ⟨b, off, cap', e0, r0⟩ := J3.out.at k hkl
      cases e0
      obtain ⟨g, hg⟩ : ∃ g, hs[k]'hkl = g := ⟨_, rfl⟩
      have OKG := Lib.hid (show g.Ok from by rw [← hg]; exact HOK.out _ (List.getElem_mem hkl))
      have HRG := Lib.hid (show wr.rangeAt b (off + k * 66) g.cells from hg ▸ r0)
      have HID := Lib.hid (show bestId hs = mainId g by unfold bestId; rw [← HBI.out, List.getElem?_eq_getElem hkl, hg]; rfl)
      have hklI : (k : Int) < (hs.length : Int) := by omega
      have h0K : (0 : Int) ≤ (k : Int) := by omega
      clear hg r0
      go_wp2_with (first
        | (with_reducible refine wpList_load_mid rfl _ _ rfl b (off + k * 66) rfl g.cells _ HRG.out Tryz.underlying41 rfl (szH OKG.out) ?_))
      refine (ref_mainId_calls wr g OKG.out J3.out.t).mono ?_
      rintro e w5 ⟨rfl, b5⟩
      obtain ⟨m, hm⟩ : ∃ m, mainId g = m := ⟨_, rfl⟩
      have HML := Lib.hid (show m.length = 32 by rw [← hm]; exact mainId_length g)
      have HMI := Lib.hid hm
      have hs4 := J4.out.size
      have K5 := Lib.hid (J2.out.below b5)
      have B5 := Lib.hid (J4.out.trans (b5.mono (by omega)))
      have hs5 := b5.size
      rw [hm]
      clear hm b5
      go_wp2_with (first
        | ((with_reducible refine wpList_put rfl _ _ _ rfl gr (m.map byt) _ rfl rfl K5.out (szD HML.out) (by simp [HML.out]) (one_dig m) (fun wc kc fc zc => ?_)); have KC := Lib.hid kc; have BC := Lib.hid (B5.out.trans (fc.below (by omega) (fun k hk => by omega))); clear kc fc))
      exact bodyPost_ret (v := dv m) (results_row1 Tryz.results23 _ _ gr (m.map byt) _ rfl KC.out Tryz.underlying24 rfl (szD HML.out)) rfl ⟨by rw [HID.out, HMI.out], BC.out⟩

/-- what the way down keeps -/
structure RD (D : Nat → Prop) (w : World) (v : Value) (hs : List Hd) (id over : Dg) (gi go : Nat) (wx : World) : Prop where
  t : Blk wx w.heap.size [v] 37
  i : Blk wx gi (id.map byt) 24
  o : Blk wx go (over.map byt) 24
  r : RT D wx v hs
  b : Below w.heap.size w wx
theorem RD.below {D : Nat → Prop} {w : World} {v : Value} {hs : List Hd} {id over : Dg} {gi go : Nat} {a c : World} (h : RD D w v hs id over gi go a) (hb : Below a.heap.size a c) : RD D w v hs id over gi go c := ⟨h.t.below hb, h.i.below hb, h.o.below hb, h.r.below hb, h.b.trans (hb.mono h.b.size)⟩
set_option maxHeartbeats 16000000 in
set_option maxRecDepth 100000 in
theorem rdepth_calls (D : Nat → Prop) (w : World) (v : Value) (hs : List Hd) (T : Trk hs) (id over : Dg) (hid : id.length = 32) (hov : over.length = 32) (hD : ∀ k, D k → k < w.heap.size) (H : RT D w v hs) :
    Calls Tryz.prog 30 #[rv v, dv id, dv over] w fun e w' => e = .returned (.tuple #[.int .u64 (((depth hs id over).getD 0 : Nat) : Int), .bool (depth hs id over).isSome]) ∧ Below w.heap.size w w' := by
  obtain ⟨a, cap, rfl, hcap, hmax, _⟩ := H.form
  unfold maxLen at hmax
  have HT := Lib.hid T
  have HR := Lib.hid H
  have HIL := Lib.hid hid
  have HOL := Lib.hid hov
  have HDD := Lib.hid hD
  have hlt0 := Lib.hid (show 0 < w.heap.size from (Array.getElem?_eq_some_iff.1 HR.out.t.choose_spec.choose_spec).1)
  obtain ⟨d0, hd0⟩ : ∃ d, depth hs id over = d := ⟨_, rfl⟩
  rw [hd0]
  have HD0 := Lib.hid hd0
  clear hid hov T H hD hd0
  go_enter Tryz.func30, Tryz.ntmps30
  go_upto_region 1 with (first
    | ((with_reducible refine wpList_box rfl _ _ rfl [.slice a hs.length cap] rfl (fun w1 k1 b1 z1 => ?_)); have K1 := Lib.hid k1; have B1 := Lib.hid b1; clear k1 b1)
    | ((with_reducible refine wpList_box rfl _ _ rfl (id.map byt) rfl (fun w2 k2 b2 z2 => ?_)); have K2 := Lib.hid k2; have B2 := Lib.hid b2; clear k2 b2)
    | ((with_reducible refine wpList_box rfl _ _ rfl (over.map byt) rfl (fun w3 k3 b3 z3 => ?_)); have K3 := Lib.hid k3; have B3 := Lib.hid b3; clear k3 b3))
  have HS := Lib.hid (show RD D w (.slice a hs.length cap) hs id over w1.heap.size w2.heap.size w3 from ⟨(K1.out.below B2.out).below B3.out, K2.out.below B3.out, K3.out, ((HR.out.below B1.out).below B2.out).below B3.out, B1.out.trans ((B2.out.trans (B3.out.mono (by omega))).mono (by omega))⟩)
  have g1 : w.heap.size < w1.heap.size := by omega
  have g2 : w1.heap.size < w2.heap.size := by omega
  clear HR K1 B1 K2 B2 K3 B3
  generalize w2.heap.size = go at *
  generalize w1.heap.size = gi at *
  go_wp2_with (first
    | (with_reducible refine wpList_load_blk rfl _ _ rfl w.heap.size [.slice a hs.length cap] rfl HS.out.t _ Tryz.underlying37 rfl (szRT _) ?_)
    | (with_reducible refine wpList_load_blk rfl _ _ rfl go (over.map byt) rfl HS.out.o _ Tryz.underlying24 rfl (szD HOL.out) ?_))
  refine (at_calls D w3 _ hs HT.out.ok over HOL.out HS.out.r).mono ?_
  rintro e w4 ⟨rfl, b4⟩
  have S4 := Lib.hid (HS.out.below b4)
  clear b4 HS
  go_wp2
  go_loopw [8, 9] (fun q r wx => ∃ n : Nat, q = .int .u64 (n : Int) ∧ ((r = .int .i64 (-1) ∧ d0 = none ∧ Below w.heap.size w wx) ∨ ∃ (k : Nat) (h : Hd), r = .int .i64 (k : Int) ∧ hs[k]? = some h ∧ d0 = (dep hs id (k + 1) k).map (n + ·) ∧ n + k ≤ hs.length ∧ RD D w (.slice a hs.length cap) hs id (mainId h) gi go wx)) (fun _ r _ => (intOf r + 1).toNat)
  case atStart =>
    rcases look_cases hs over with ⟨c1, c2⟩ | ⟨k, h, c1, c2, c3, c4⟩
    · exact ⟨0, rfl, .inl ⟨by unfold atI; rw [c1], by rw [← HD0.out]; unfold depth; rw [c1], S4.out.b⟩⟩
    · have hkl := (List.getElem?_eq_some_iff.1 c2).1
      exact ⟨0, rfl, .inr ⟨k, h, by unfold atI; rw [c1], c2, by rw [← HD0.out]; unfold depth; rw [c1]; simp, by omega, by rw [c3]; exact S4.out⟩⟩
  case round =>
    obtain ⟨n, rfl, ⟨rfl, hd, hb⟩ | ⟨k, h, rfl, hk, hd, hnk, hS⟩⟩ := hrel
    · have HDN := Lib.hid hd
      have HBB := Lib.hid hb
      clear hd hb
      go_wp2
      go_ret2
      exact ⟨by rw [HDN.out]; rfl, HBB.out⟩
    · have HK := Lib.hid hk
      have HDK := Lib.hid hd
      have hkl : k < hs.length := (List.getElem?_eq_some_iff.1 hk).1
      have OKH := Lib.hid (HT.out.ok h (List.mem_of_getElem? hk))
      have HDE := Lib.hid (HT.out.dep_eq id hk)
      obtain ⟨m, hm⟩ : ∃ m, mainId h = m := ⟨_, rfl⟩
      rw [hm] at hS
      have HM := Lib.hid hm
      have HML := Lib.hid (show m.length = 32 by rw [← hm]; exact mainId_length h)
      have SX := Lib.hid hS
      have c0 := hS.t.cell (i := 0) rfl
      have h0K : (0 : Int) ≤ (k : Int) := by omega
      have hklI : (k : Int) < (hs.length : Int) := by omega
      clear hk hd hS hm
      by_cases heq : m = id
      · have hq : ∀ w, (Op.equalIn 10000 24 (.agg (m.map byt).toArray) (.agg (id.map byt).toArray)).run Tryz.prog w = .ok true w := fun w => by rw [run_equal_u8 Tryz.underlying24 (i := _) rfl (by kernel_rfl) Tryz.underlying5 w m id HML.out HIL.out]; simp [heq]
        have HRR := Lib.hid (show d0 = some n by rw [HDK.out, HDE.out, if_pos (by rw [HM.out]; exact heq)]; rfl)
        clear heq
        go_wp2_with (first
          | (with_reducible refine wpList_load_blk rfl _ _ rfl go (m.map byt) rfl SX.out.o _ Tryz.underlying24 rfl (szD HML.out) ?_)
          | (with_reducible refine wpList_load_blk rfl _ _ rfl gi (id.map byt) rfl SX.out.i _ Tryz.underlying24 rfl (szD HIL.out) ?_))
        go_ret2
        exact ⟨by rw [HRR.out]; rfl, SX.out.b⟩
      · have hq : ∀ w, (Op.equalIn 10000 24 (.agg (m.map byt).toArray) (.agg (id.map byt).toArray)).run Tryz.prog w = .ok false w := fun w => by rw [run_equal_u8 Tryz.underlying24 (i := _) rfl (by kernel_rfl) Tryz.underlying5 w m id HML.out HIL.out]; simp [heq]
        have HNE := Lib.hid heq
        clear heq
        by_cases hk0 : k = 0
        · have HRR := Lib.hid (show d0 = none by rw [HDK.out, HDE.out, if_neg (by rw [HM.out]; exact HNE.out), if_pos hk0]; rfl)
          have hkz : ((k : Int) == 0) = true := by simp [hk0]
          clear hk0
          go_wp2_with (first
            | (with_reducible refine wpList_load_blk rfl _ _ rfl go (m.map byt) rfl SX.out.o _ Tryz.underlying24 rfl (szD HML.out) ?_)
            | (with_reducible refine wpList_load_blk rfl _ _ rfl gi (id.map byt) rfl SX.out.i _ Tryz.underlying24 rfl (szD HIL.out) ?_))
          go_ret2
          exact ⟨by rw [HRR.out]; rfl, SX.out.b⟩
        · obtain ⟨j, g2', q1, q2, q3, q4⟩ := HT.out.prev HK.out (by omega)
          have HRR := Lib.hid (show d0 = (dep hs id (j + 1) j).map (n + 1 + ·) by rw [HDK.out, HDE.out, if_neg (by rw [HM.out]; exact HNE.out), if_neg hk0]; unfold depth; rw [q1]; simp only [Option.map_map]; congr 1; funext x; simp only [Function.comp]; omega)
          have hkz : ((k : Int) == 0) = false := by simp; omega
          obtain ⟨pv, hpv⟩ : ∃ pv, h.prev = pv := ⟨_, rfl⟩
          have HPL := Lib.hid (show pv.length = 32 by rw [← hpv]; exact OKH.out.1)
          have HAI := Lib.hid (show atI hs pv = (j : Int) by unfold atI; rw [← hpv, q1])
          have HG2 := Lib.hid (show mainId g2' = pv by rw [q3, hpv])
          have HQ2 := Lib.hid q2
          obtain ⟨b, off, cap', e0, r0⟩ := SX.out.r.at k hkl
          cases e0
          have HGE : hs[k]'hkl = h := by have := HK.out; rw [List.getElem?_eq_getElem hkl] at this; exact Option.some.inj this
          have HRG := Lib.hid (show wr.rangeAt b (off + k * 66) (pv.map byt) from by
            rw [HGE] at r0
            intro j v hv
            have := Hd.at_prev (h := h) (by rw [hpv]; exact hv)
            rw [Nat.zero_add] at this
            exact r0 j v this)
          clear q1 q2 q3 hpv hk0 r0 HGE
          go_wp2_with (first
            | (with_reducible refine wpList_load_blk rfl _ _ rfl go (m.map byt) rfl SX.out.o _ Tryz.underlying24 rfl (szD HML.out) ?_)
            | (with_reducible refine wpList_load_blk rfl _ _ rfl gi (id.map byt) rfl SX.out.i _ Tryz.underlying24 rfl (szD HIL.out) ?_)
            | (with_reducible refine wpList_load_mid rfl _ _ rfl b (off + k * 66) rfl (pv.map byt) _ HRG.out Tryz.underlying24 rfl (szD HPL.out) ?_)
            | ((with_reducible refine wpList_put rfl _ _ _ rfl go (pv.map byt) _ rfl rfl SX.out.o (szD HPL.out) (by simp [HML.out, HPL.out]) (one_dig pv) (fun wc kc fc zc => ?_)); have SC := Lib.hid (show RD D w (.slice (some ⟨b, off, none⟩) hs.length cap) hs id pv gi go wc from ⟨SX.out.t.fr fc (by omega), SX.out.i.fr fc (by omega), kc, SX.out.r.fr fc (fun k _ hk e => by have h1 := HDD.out k hk; have h2 : k = go := e; omega) (by have := hlt0.out; show ¬ 0 = go; omega), SX.out.b.trans (fc.below SX.out.b.size (fun k hk => by omega))⟩); clear kc fc)
            | (with_reducible refine wpList_load_blk rfl _ _ rfl w.heap.size [.slice (some ⟨b, off, none⟩) hs.length cap] rfl SC.out.t _ Tryz.underlying37 rfl (szRT _) ?_)
            | (with_reducible refine wpList_load_blk rfl _ _ rfl go (pv.map byt) rfl SC.out.o _ Tryz.underlying24 rfl (szD HPL.out) ?_))
          refine (at_calls D wc _ hs HT.out.ok pv HPL.out SC.out.r).mono ?_
          rintro e w6 ⟨rfl, b6⟩
          have S6 := Lib.hid (SC.out.below b6)
          rw [HAI.out]
          clear b6
          go_wp2
          go_roundw
          case rel => exact ⟨n + 1, by go_num, .inr ⟨j, g2', rfl, HQ2.out, HRR.out, by omega, by rw [HG2.out]; exact S6.out⟩⟩
          case measure => simp [intOf]; omega

/-- what the reference's Add leaves -/
def RAddT (D : Nat → Prop) (w : World) (hs : List Hd) (h : Hd) (e : Ending) (w' : World) : Prop :=
  ∃ v, e = .returned (.tuple #[rv v, .int .i64 (addE hs h)]) ∧ RT (fun k => D k ∨ w.heap.size ≤ k) w' v (addL hs h) ∧ Below w.heap.size w w'
theorem RAddT.same {D : Nat → Prop} {w w' : World} {hs : List Hd} {h : Hd} {v : Value} (n : Int) (hn : addE hs h = n) (h0 : n ≠ 0) (r : RT D w' v hs) (b : Below w.heap.size w w') : RAddT D w hs h (.returned (.tuple #[rv v, .int .i64 n])) w' := by
  refine ⟨v, by rw [hn], ?_, b⟩
  unfold addL
  rw [if_neg (by rw [hn]; exact h0)]
  exact r.mono (fun _ _ h => .inl h)
set_option maxHeartbeats 32000000 in
set_option maxRecDepth 100000 in
theorem radd_calls (D : Nat → Prop) (w : World) (v : Value) (hs : List Hd) (hok : ∀ h ∈ hs, h.Ok) (h : Hd) (ok : h.Ok) (hn : (hs.length + 1) * 80 ≤ 140737488355328) (hD : ∀ k, D k → k < w.heap.size) (H : RT D w v hs) :
    Calls Tryz.prog 22 #[rv v, hv h] w (RAddT D w hs h) := by
  obtain ⟨a, cap, rfl, hcap, hmax, _⟩ := H.form
  unfold maxLen at hmax
  have HOK := Lib.hid hok
  have HR := Lib.hid H
  have HDD := Lib.hid hD
  have OK := Lib.hid ok
  have HL := Lib.hid ok.len
  have HSZ := Lib.hid (ok_size ok)
  have hlt0 := Lib.hid (show 0 < w.heap.size from (Array.getElem?_eq_some_iff.1 HR.out.t.choose_spec.choose_spec).1)
  have hno := ok.2.2.1
  clear hok H ok hD
  go_enter Tryz.func22, Tryz.ntmps22
  go_upto_region 1 with (first
    | ((with_reducible refine wpList_box rfl _ _ rfl [.slice a hs.length cap] rfl (fun w1 k1 b1 z1 => ?_)); have K1 := Lib.hid k1; have B1 := Lib.hid b1; clear k1 b1)
    | ((with_reducible refine wpList_box rfl _ _ rfl h.cells rfl (fun w2 k2 b2 z2 => ?_)); have K2 := Lib.hid k2; have B2 := Lib.hid b2; clear k2 b2)
    | ((with_reducible refine wpList_alloc rfl _ rfl _ (zeroT _) (fun w3 k3 b3 z3 => ?_)); have K3 := Lib.hid k3; have B3 := Lib.hid b3; clear k3 b3))
  have KT := Lib.hid ((K1.out.below B2.out).below B3.out)
  have KX := Lib.hid (K2.out.below B3.out)
  have RR := Lib.hid (((HR.out.below B1.out).below B2.out).below B3.out)
  have BB := Lib.hid (B1.out.trans ((B2.out.trans (B3.out.mono (by omega))).mono (by omega)))
  have g1 : w.heap.size < w1.heap.size := by omega
  have g2 : w1.heap.size < w2.heap.size := by omega
  clear HR K1 B1 K2 B2 B3
  generalize w2.heap.size = gr at *
  generalize w1.heap.size = gx at *
  refine wp_region_held_drew (S := (fun w' => Blk w' w.heap.size [.slice a hs.length cap] 37 ∧ Blk w' gx h.cells 41 ∧ Blk w' gr [.slice none 0 0] 37 ∧ RT D w' (.slice a hs.length cap) hs ∧ Below w.heap.size w w')) (by kernel_rfl) ⟨KT.out.drew, KX.out.drew, K3.out.drew, RR.out.drew, below_drew BB.out⟩ (fun hHeld => ?_)
  refine wpAnyH_take (i := 0) (oi := ⟨_, _, _, _, _, _⟩) rfl (by kernel_rfl) (by kernel_rfl) (by kernel_rfl) (fun _ _ _ h => h) (yieldsIf_load_mid (by rfl) _ _ rfl w.heap.size 0 rfl [.slice a hs.length cap] _ (fun _ h => blk_range h.1) Tryz.underlying37 rfl (szRT _)) (by assumption) ?_
  try simp only [Act.put, List.setIfInBounds_toArray, List.set_cons_zero, List.set_cons_succ]
  refine wpAnyH_take (i := 1) (oi := ⟨_, _, _, _, _, _⟩) rfl (by kernel_rfl) (by kernel_rfl) (by kernel_rfl) (fun _ _ _ h => h) (yieldsIf_load_mid (by rfl) _ _ rfl gx 0 rfl h.cells _ (fun _ h => blk_range h.2.1) Tryz.underlying41 rfl (szH OK.out)) (by assumption) ?_
  try simp only [Act.put, List.setIfInBounds_toArray, List.set_cons_zero, List.set_cons_succ]
  refine wpAnyH_ready (rs := [2]) (by kernel_rfl) (by simp) ?_
  refine AllReadyH.cons (o := ⟨_, _, _, _, _, _⟩) rfl (fun K hK => ?_) AllReadyH.nil
  go_simp
  refine (ref_mainId_calls _ h OK.out hHeld.2.2.2.1.t).mono ?_
  rintro e wz ⟨rfl, gz⟩
  refine hK.out _ _ (by exact ⟨hHeld.1.below gz, hHeld.2.1.below gz, hHeld.2.2.1.below gz, hHeld.2.2.2.1.below gz, hHeld.2.2.2.2.trans (gz.mono hHeld.2.2.2.2.size)⟩) (fun hHeld => ?_)
  clear hK
  try simp only [Act.put, List.setIfInBounds_toArray, List.set_cons_zero, List.set_cons_succ]
  clear gz
  refine wpAnyH_ready (rs := [3]) (by kernel_rfl) (by simp) ?_
  refine AllReadyH.cons (o := ⟨_, _, _, _, _, _⟩) rfl (fun K hK => ?_) AllReadyH.nil
  go_simp
  refine (at_calls D _ _ hs HOK.out (mainId h) (mainId_length h) hHeld.2.2.2.1).mono ?_
  rintro e wz ⟨rfl, gz⟩
  refine hK.out _ _ (by exact ⟨hHeld.1.below gz, hHeld.2.1.below gz, hHeld.2.2.1.below gz, hHeld.2.2.2.1.below gz, hHeld.2.2.2.2.trans (gz.mono hHeld.2.2.2.2.size)⟩) (fun hHeld => ?_)
  clear hK
  try simp only [Act.put, List.setIfInBounds_toArray, List.set_cons_zero, List.set_cons_succ]
  clear gz
  obtain ⟨at1, hat1⟩ : ∃ x, atI hs (mainId h) = x := ⟨_, rfl⟩
  rw [hat1]
  have HA1 := Lib.hid hat1
  clear hat1
  refine wpAnyH_take (i := 4) (oi := ⟨_, _, _, _, _, _⟩) (v := ?_) rfl (by kernel_rfl) (by kernel_rfl) (by kernel_rfl) (fun _ _ _ h => h) (Or.inl ⟨by rfl, ?_⟩) (by assumption) ?_
  rotate_left
  · intro w hSw; go_simp; try (with_reducible rfl)
  try simp only [Act.put, List.setIfInBounds_toArray, List.set_cons_zero, List.set_cons_succ]
  refine wpAnyH_done (by kernel_rfl) ?_ _
  clear KT KX K3 RR BB
  rcases look_cases hs (mainId h) with ⟨c1, c2⟩ | ⟨k, h', c1, c2, c3, c4⟩
  rotate_left
  · obtain rfl : at1 = (k : Int) := by rw [← HA1.out]; unfold atI; rw [c1]
    have HE := Lib.hid (show addE hs h = 170 by unfold addE; rw [c1]; rfl)
    clear c1 c2 c3 c4
    go_wp2_with (first
      | (with_reducible refine wpList_load_blk rfl _ _ rfl w.heap.size [.slice a hs.length cap] rfl hHeld.1 _ Tryz.underlying37 rfl (szRT _) ?_)
      | ((with_reducible refine wpList_put rfl _ _ _ rfl gr [.slice a hs.length cap] _ rfl rfl hHeld.2.2.1 (szRT _) rfl (one_slice _ _ _) (fun wc kc fc zc => ?_)); have KC := Lib.hid kc; have RC := Lib.hid (hHeld.2.2.2.1.fr fc (fun k _ hk e => by have h1 := HDD.out k hk; have h2 : k = gr := e; omega) (by have := hlt0.out; show ¬ 0 = gr; omega)); have hbs := hHeld.2.2.2.2.size; have BC := Lib.hid (hHeld.2.2.2.2.trans (fc.below hbs (fun k hk => by have h2 : k = gr := hk; omega))); clear kc fc))
    exact bodyPost_ret (v := .tuple #[rv _, .int .i64 170]) (results_row2 Tryz.results22 _ _ gr _ _ rfl KC.out Tryz.underlying37 rfl (szRT _) _ rfl) rfl (RAddT.same 170 HE.out (by decide) RC.out BC.out)
  obtain rfl : at1 = -1 := by rw [← HA1.out]; unfold atI; rw [c1]
  have C1 := Lib.hid c1
  have HHH := Lib.hid hHeld
  clear c1 c2 HA1 hHeld
  obtain ⟨pv, hpv⟩ : ∃ pv, h.prev = pv := ⟨_, rfl⟩
  have HPV := Lib.hid hpv
  have HPL := Lib.hid (show pv.length = 32 by rw [← hpv]; exact OK.out.1)
  have HRP := Lib.hid (show World.rangeAt _ gx 0 (pv.map byt) from hpv ▸ range_prev HHH.out.2.1)
  clear hpv
  go_wp2_with (first
    | (with_reducible refine wpList_load_blk rfl _ _ rfl w.heap.size [.slice a hs.length cap] rfl HHH.out.1 _ Tryz.underlying37 rfl (szRT _) ?_)
    | (with_reducible refine wpList_load_mid rfl _ _ rfl gx 0 rfl (pv.map byt) _ HRP.out Tryz.underlying24 rfl (szD HPL.out) ?_))
  refine (at_calls D _ _ hs HOK.out pv HPL.out HHH.out.2.2.2.1).mono ?_
  rintro e w5 ⟨rfl, b5⟩
  have HHH2 := Lib.hid (show (fun w' => Blk w' w.heap.size [.slice a hs.length cap] 37 ∧ Blk w' gx h.cells 41 ∧ Blk w' gr [.slice none 0 0] 37 ∧ RT D w' (.slice a hs.length cap) hs ∧ Below w.heap.size w w') w5 from by have hHeld := HHH.out; exact ⟨hHeld.1.below b5, hHeld.2.1.below b5, hHeld.2.2.1.below b5, hHeld.2.2.2.1.below b5, hHeld.2.2.2.2.trans (b5.mono hHeld.2.2.2.2.size)⟩)
  clear b5 HHH HRP
  rcases look_cases hs pv with ⟨c1, c2⟩ | ⟨k, g, c1, c2, c3, c4⟩
  · have HE := Lib.hid (show addE hs h = 171 by unfold addE; rw [C1.out, HPV.out, c1]; rfl)
    have HA2 := Lib.hid (show atI hs pv = -1 by unfold atI; rw [c1])
    clear c1 c2
    rw [HA2.out]
    have hHeld := HHH2.out
    have HH := Lib.hid hHeld
    clear hHeld
    go_wp2_with (first
      | (with_reducible refine wpList_load_blk rfl _ _ rfl w.heap.size [.slice a hs.length cap] rfl HH.out.1 _ Tryz.underlying37 rfl (szRT _) ?_)
      | ((with_reducible refine wpList_put rfl _ _ _ rfl gr [.slice a hs.length cap] _ rfl rfl HH.out.2.2.1 (szRT _) rfl (one_slice _ _ _) (fun wc kc fc zc => ?_)); have KC := Lib.hid kc; have RC := Lib.hid (HH.out.2.2.2.1.fr fc (fun k _ hk e => by have h1 := HDD.out k hk; have h2 : k = gr := e; omega) (by have := hlt0.out; show ¬ 0 = gr; omega)); have hbs := HH.out.2.2.2.2.size; have BC := Lib.hid (HH.out.2.2.2.2.trans (fc.below hbs (fun k hk => by have h2 : k = gr := hk; omega))); clear kc fc))
    exact bodyPost_ret (v := .tuple #[rv _, .int .i64 171]) (results_row2 Tryz.results22 _ _ gr _ _ rfl KC.out Tryz.underlying37 rfl (szRT _) _ rfl) rfl (RAddT.same 171 HE.out (by decide) RC.out BC.out)
  · have hkl : k < hs.length := (List.getElem?_eq_some_iff.1 c2).1
    have HE0 := Lib.hid (show addE hs h = if h.height = 0 ∨ g.height + 1 ≠ h.height then 172 else 0 by unfold addE; rw [C1.out, HPV.out]; simp [c1, c2])
    have HA2 := Lib.hid (show atI hs pv = (k : Int) by unfold atI; rw [c1])
    have OKG := Lib.hid (HOK.out g (List.mem_of_getElem? c2))
    have HGE := Lib.hid (show hs[k]'hkl = g by rw [List.getElem?_eq_getElem hkl] at c2; exact Option.some.inj c2)
    have hng := OKG.out.2.2.1
    clear c1 c2 c3 c4
    obtain ⟨b, off, cap', e0, _⟩ := HHH2.out.2.2.2.1.at k hkl
    cases e0
    rw [HA2.out]
    have h0K : (0 : Int) ≤ (k : Int) := by omega
    have hklI : (k : Int) < (hs.length : Int) := by omega
    obtain ⟨x, hx⟩ : ∃ x : Nat, (g.height + 1) % 18446744073709551616 = x := ⟨_, rfl⟩
    have hwx : IntKind.u64.wrap ((g.height : Int) + 1) = (x : Int) := by rw [IntKind.wrap_u64]; omega
    have HS5 := Lib.hid HHH2.out
    have c0 := HS5.out.1.cell (i := 0) rfl
    clear HHH2
    by_cases hq : x = h.height
    rotate_left
    · have hq1 : ((x : Int) != (h.height : Int)) = true := by simp; omega
      have HE := Lib.hid (show addE hs h = 172 by rw [HE0.out, if_pos (by omega)])
      clear hq hx
      go_wp2
      refine wp_region_held_drew (S := (fun w' => Blk w' w.heap.size [.slice (some ⟨b, off, none⟩) hs.length cap] 37 ∧ Blk w' gx h.cells 41 ∧ Blk w' gr [.slice none 0 0] 37 ∧ RT D w' (.slice (some ⟨b, off, none⟩) hs.length cap) hs ∧ Below w.heap.size w w')) (by kernel_rfl) ⟨HS5.out.1.drew, HS5.out.2.1.drew, HS5.out.2.2.1.drew, HS5.out.2.2.2.1.drew, below_drew HS5.out.2.2.2.2⟩ (fun hHeld => ?_)
      refine wpAnyH_take (i := 0) (oi := ⟨_, _, _, _, _, _⟩) (v := ?_) rfl (by kernel_rfl) (by kernel_rfl) (by kernel_rfl) (fun _ _ _ h => h) (Or.inl ⟨by rfl, ?_⟩) (by assumption) ?_
      rotate_left
      · intro w hSw; go_simp; try (with_reducible rfl)
      try simp only [Act.put, List.setIfInBounds_toArray, List.set_cons_zero, List.set_cons_succ]
      refine wpAnyH_take (i := 1) (oi := ⟨_, _, _, _, _, _⟩) (v := .slice (some ⟨b, off, none⟩) hs.length cap) rfl (by kernel_rfl) (by kernel_rfl) (by kernel_rfl) (fun _ _ _ h => h) (Or.inl ⟨by rfl, fun w hSw => (by have c := hSw.1.cell (i := 0) rfl; go_simp; try (with_reducible rfl))⟩) (by assumption) ?_
      try simp only [Act.put, List.setIfInBounds_toArray, List.set_cons_zero, List.set_cons_succ]
      refine wpAnyH_take (i := 2) (oi := ⟨_, _, _, _, _, _⟩) (v := ?_) rfl (by kernel_rfl) (by kernel_rfl) (by kernel_rfl) (fun _ _ _ h => h) (Or.inl ⟨by rfl, ?_⟩) (by assumption) ?_
      rotate_left
      · intro w hSw; go_simp; try (with_reducible rfl)
      try simp only [Act.put, List.setIfInBounds_toArray, List.set_cons_zero, List.set_cons_succ]
      refine wpAnyH_take (i := 3) (oi := ⟨_, _, _, _, _, _⟩) (v := ?_) rfl (by kernel_rfl) (by kernel_rfl) (by kernel_rfl) (fun _ _ _ h => h) (Or.inl ⟨by rfl, ?_⟩) (by assumption) ?_
      rotate_left
      · intro w hSw; go_simp; try (with_reducible rfl)
      try simp only [Act.put, List.setIfInBounds_toArray, List.set_cons_zero, List.set_cons_succ]
      refine wpAnyH_take (i := 4) (oi := ⟨_, _, _, _, _, _⟩) (v := ?_) rfl (by kernel_rfl) (by kernel_rfl) (by kernel_rfl) (fun _ _ _ h => h) (Or.inl ⟨by rfl, ?_⟩) (by assumption) ?_
      rotate_left
      · intro w hSw; go_simp; try (with_reducible rfl)
      try simp only [Act.put, List.setIfInBounds_toArray, List.set_cons_zero, List.set_cons_succ]
      refine wpAnyH_take (i := 5) (oi := ⟨_, _, _, _, _, _⟩) (v := .int .u64 (g.height : Int)) rfl (by kernel_rfl) (by kernel_rfl) (by kernel_rfl) (fun _ _ _ h => h) (Or.inl ⟨by rfl, fun w hSw => (by have c := (hSw.2.2.2.1.range k hkl) 64 _ (Hd.cell_height (HGE.out ▸ OKG.out)); rw [HGE.out] at c; go_simp; try (with_reducible rfl))⟩) (by assumption) ?_
      try simp only [Act.put, List.setIfInBounds_toArray, List.set_cons_zero, List.set_cons_succ]
      refine wpAnyH_take (i := 6) (oi := ⟨_, _, _, _, _, _⟩) (v := ?_) rfl (by kernel_rfl) (by kernel_rfl) (by kernel_rfl) (fun _ _ _ h => h) (Or.inl ⟨by rfl, ?_⟩) (by assumption) ?_
      rotate_left
      · intro w hSw; go_simp; try (with_reducible rfl)
      try simp only [Act.put, List.setIfInBounds_toArray, List.set_cons_zero, List.set_cons_succ]
      refine wpAnyH_take (i := 7) (oi := ⟨_, _, _, _, _, _⟩) (v := ?_) rfl (by kernel_rfl) (by kernel_rfl) (by kernel_rfl) (fun _ _ _ h => h) (Or.inl ⟨by rfl, ?_⟩) (by assumption) ?_
      rotate_left
      · intro w hSw; go_simp; try (with_reducible rfl)
      try simp only [Act.put, List.setIfInBounds_toArray, List.set_cons_zero, List.set_cons_succ]
      refine wpAnyH_take (i := 8) (oi := ⟨_, _, _, _, _, _⟩) (v := .int .u64 (h.height : Int)) rfl (by kernel_rfl) (by kernel_rfl) (by kernel_rfl) (fun _ _ _ h => h) (Or.inl ⟨by rfl, fun w hSw => (by have c := hSw.2.1.cell (Hd.cell_height OK.out); go_simp; try (with_reducible rfl))⟩) (by assumption) ?_
      try simp only [Act.put, List.setIfInBounds_toArray, List.set_cons_zero, List.set_cons_succ]
      refine wpAnyH_take (i := 9) (oi := ⟨_, _, _, _, _, _⟩) (v := ?_) rfl (by kernel_rfl) (by kernel_rfl) (by kernel_rfl) (fun _ _ _ h => h) (Or.inl ⟨by rfl, ?_⟩) (by assumption) ?_
      rotate_left
      · intro w hSw; go_simp; try (with_reducible rfl)
      try simp only [Act.put, List.setIfInBounds_toArray, List.set_cons_zero, List.set_cons_succ]
      refine wpAnyH_take (i := 10) (oi := ⟨_, _, _, _, _, _⟩) (v := ?_) rfl (by kernel_rfl) (by kernel_rfl) (by kernel_rfl) (fun _ _ _ h => h) (Or.inl ⟨by rfl, ?_⟩) (by assumption) ?_
      rotate_left
      · intro w hSw; go_simp; try (with_reducible rfl)
      try simp only [Act.put, List.setIfInBounds_toArray, List.set_cons_zero, List.set_cons_succ]
      refine wpAnyH_take (i := 11) (oi := ⟨_, _, _, _, _, _⟩) (v := undef) rfl (by kernel_rfl) (by kernel_rfl) (by kernel_rfl) (fun _ _ _ h => h) (Or.inr ⟨by rfl, rfl⟩) (by assumption) ?_
      try simp only [Act.put, List.setIfInBounds_toArray, List.set_cons_zero, List.set_cons_succ]
      refine wpAnyH_take (i := 12) (oi := ⟨_, _, _, _, _, _⟩) (v := undef) rfl (by kernel_rfl) (by kernel_rfl) (by kernel_rfl) (fun _ _ _ h => h) (Or.inr ⟨by rfl, rfl⟩) (by assumption) ?_
      try simp only [Act.put, List.setIfInBounds_toArray, List.set_cons_zero, List.set_cons_succ]
      refine wpAnyH_take (i := 13) (oi := ⟨_, _, _, _, _, _⟩) (v := undef) rfl (by kernel_rfl) (by kernel_rfl) (by kernel_rfl) (fun _ _ _ h => h) (Or.inr ⟨by rfl, rfl⟩) (by assumption) ?_
      try simp only [Act.put, List.setIfInBounds_toArray, List.set_cons_zero, List.set_cons_succ]
      refine wpAnyH_take (i := 14) (oi := ⟨_, _, _, _, _, _⟩) (v := ?_) rfl (by kernel_rfl) (by kernel_rfl) (by kernel_rfl) (fun _ _ _ h => h) (Or.inl ⟨by rfl, ?_⟩) (by assumption) ?_
      rotate_left
      · intro w hSw; go_simp; try (with_reducible rfl)
      try simp only [Act.put, List.setIfInBounds_toArray, List.set_cons_zero, List.set_cons_succ]
      refine wpAnyH_done (by kernel_rfl) ?_ _
      go_wp2_with (first
        | (with_reducible refine wpList_load_blk rfl _ _ rfl w.heap.size [.slice (some ⟨b, off, none⟩) hs.length cap] rfl hHeld.1 _ Tryz.underlying37 rfl (szRT _) ?_)
        | ((with_reducible refine wpList_put rfl _ _ _ rfl gr [.slice (some ⟨b, off, none⟩) hs.length cap] _ rfl rfl hHeld.2.2.1 (szRT _) rfl (one_slice _ _ _) (fun wc kc fc zc => ?_)); have KC := Lib.hid kc; have RC := Lib.hid (hHeld.2.2.2.1.fr fc (fun k _ hk e => by have h1 := HDD.out k hk; have h2 : k = gr := e; omega) (by have := hlt0.out; show ¬ 0 = gr; omega)); have hbs := hHeld.2.2.2.2.size; have BC := Lib.hid (hHeld.2.2.2.2.trans (fc.below hbs (fun k hk => by have h2 : k = gr := hk; omega))); clear kc fc))
      exact bodyPost_ret (v := .tuple #[rv _, .int .i64 172]) (results_row2 Tryz.results22 _ _ gr _ _ rfl KC.out Tryz.underlying37 rfl (szRT _) _ rfl) rfl (RAddT.same 172 HE.out (by decide) RC.out BC.out)

    by_cases hz0 : h.height = 0
    · have hq1 : ((x : Int) != (h.height : Int)) = false := by simp [hq]
      have hq2 : ((h.height : Int) == 0) = true := by simp [hz0]
      have HE := Lib.hid (show addE hs h = 172 by rw [HE0.out, if_pos (.inl hz0)])
      clear hq hx hz0
      go_wp2
      refine wp_region_held_drew (S := (fun w' => Blk w' w.heap.size [.slice (some ⟨b, off, none⟩) hs.length cap] 37 ∧ Blk w' gx h.cells 41 ∧ Blk w' gr [.slice none 0 0] 37 ∧ RT D w' (.slice (some ⟨b, off, none⟩) hs.length cap) hs ∧ Below w.heap.size w w')) (by kernel_rfl) ⟨HS5.out.1.drew, HS5.out.2.1.drew, HS5.out.2.2.1.drew, HS5.out.2.2.2.1.drew, below_drew HS5.out.2.2.2.2⟩ (fun hHeld => ?_)
      refine wpAnyH_take (i := 0) (oi := ⟨_, _, _, _, _, _⟩) (v := ?_) rfl (by kernel_rfl) (by kernel_rfl) (by kernel_rfl) (fun _ _ _ h => h) (Or.inl ⟨by rfl, ?_⟩) (by assumption) ?_
      rotate_left
      · intro w hSw; go_simp; try (with_reducible rfl)
      try simp only [Act.put, List.setIfInBounds_toArray, List.set_cons_zero, List.set_cons_succ]
      refine wpAnyH_take (i := 1) (oi := ⟨_, _, _, _, _, _⟩) (v := .slice (some ⟨b, off, none⟩) hs.length cap) rfl (by kernel_rfl) (by kernel_rfl) (by kernel_rfl) (fun _ _ _ h => h) (Or.inl ⟨by rfl, fun w hSw => (by have c := hSw.1.cell (i := 0) rfl; go_simp; try (with_reducible rfl))⟩) (by assumption) ?_
      try simp only [Act.put, List.setIfInBounds_toArray, List.set_cons_zero, List.set_cons_succ]
      refine wpAnyH_take (i := 2) (oi := ⟨_, _, _, _, _, _⟩) (v := ?_) rfl (by kernel_rfl) (by kernel_rfl) (by kernel_rfl) (fun _ _ _ h => h) (Or.inl ⟨by rfl, ?_⟩) (by assumption) ?_
      rotate_left
      · intro w hSw; go_simp; try (with_reducible rfl)
      try simp only [Act.put, List.setIfInBounds_toArray, List.set_cons_zero, List.set_cons_succ]
      refine wpAnyH_take (i := 3) (oi := ⟨_, _, _, _, _, _⟩) (v := ?_) rfl (by kernel_rfl) (by kernel_rfl) (by kernel_rfl) (fun _ _ _ h => h) (Or.inl ⟨by rfl, ?_⟩) (by assumption) ?_
      rotate_left
      · intro w hSw; go_simp; try (with_reducible rfl)
      try simp only [Act.put, List.setIfInBounds_toArray, List.set_cons_zero, List.set_cons_succ]
      refine wpAnyH_take (i := 4) (oi := ⟨_, _, _, _, _, _⟩) (v := ?_) rfl (by kernel_rfl) (by kernel_rfl) (by kernel_rfl) (fun _ _ _ h => h) (Or.inl ⟨by rfl, ?_⟩) (by assumption) ?_
      rotate_left
      · intro w hSw; go_simp; try (with_reducible rfl)
      try simp only [Act.put, List.setIfInBounds_toArray, List.set_cons_zero, List.set_cons_succ]
      refine wpAnyH_take (i := 5) (oi := ⟨_, _, _, _, _, _⟩) (v := .int .u64 (g.height : Int)) rfl (by kernel_rfl) (by kernel_rfl) (by kernel_rfl) (fun _ _ _ h => h) (Or.inl ⟨by rfl, fun w hSw => (by have c := (hSw.2.2.2.1.range k hkl) 64 _ (Hd.cell_height (HGE.out ▸ OKG.out)); rw [HGE.out] at c; go_simp; try (with_reducible rfl))⟩) (by assumption) ?_
      try simp only [Act.put, List.setIfInBounds_toArray, List.set_cons_zero, List.set_cons_succ]
      refine wpAnyH_take (i := 6) (oi := ⟨_, _, _, _, _, _⟩) (v := ?_) rfl (by kernel_rfl) (by kernel_rfl) (by kernel_rfl) (fun _ _ _ h => h) (Or.inl ⟨by rfl, ?_⟩) (by assumption) ?_
      rotate_left
      · intro w hSw; go_simp; try (with_reducible rfl)
      try simp only [Act.put, List.setIfInBounds_toArray, List.set_cons_zero, List.set_cons_succ]
      refine wpAnyH_take (i := 7) (oi := ⟨_, _, _, _, _, _⟩) (v := ?_) rfl (by kernel_rfl) (by kernel_rfl) (by kernel_rfl) (fun _ _ _ h => h) (Or.inl ⟨by rfl, ?_⟩) (by assumption) ?_
      rotate_left
      · intro w hSw; go_simp; try (with_reducible rfl)
      try simp only [Act.put, List.setIfInBounds_toArray, List.set_cons_zero, List.set_cons_succ]
      refine wpAnyH_take (i := 8) (oi := ⟨_, _, _, _, _, _⟩) (v := .int .u64 (h.height : Int)) rfl (by kernel_rfl) (by kernel_rfl) (by kernel_rfl) (fun _ _ _ h => h) (Or.inl ⟨by rfl, fun w hSw => (by have c := hSw.2.1.cell (Hd.cell_height OK.out); go_simp; try (with_reducible rfl))⟩) (by assumption) ?_
      try simp only [Act.put, List.setIfInBounds_toArray, List.set_cons_zero, List.set_cons_succ]
      refine wpAnyH_take (i := 9) (oi := ⟨_, _, _, _, _, _⟩) (v := ?_) rfl (by kernel_rfl) (by kernel_rfl) (by kernel_rfl) (fun _ _ _ h => h) (Or.inl ⟨by rfl, ?_⟩) (by assumption) ?_
      rotate_left
      · intro w hSw; go_simp; try (with_reducible rfl)
      try simp only [Act.put, List.setIfInBounds_toArray, List.set_cons_zero, List.set_cons_succ]
      refine wpAnyH_take (i := 10) (oi := ⟨_, _, _, _, _, _⟩) (v := ?_) rfl (by kernel_rfl) (by kernel_rfl) (by kernel_rfl) (fun _ _ _ h => h) (Or.inl ⟨by rfl, ?_⟩) (by assumption) ?_
      rotate_left
      · intro w hSw; go_simp; try (with_reducible rfl)
      try simp only [Act.put, List.setIfInBounds_toArray, List.set_cons_zero, List.set_cons_succ]
      refine wpAnyH_take (i := 11) (oi := ⟨_, _, _, _, _, _⟩) (v := ?_) rfl (by kernel_rfl) (by kernel_rfl) (by kernel_rfl) (fun _ _ _ h => h) (Or.inl ⟨by rfl, ?_⟩) (by assumption) ?_
      rotate_left
      · intro w hSw; go_simp; try (with_reducible rfl)
      try simp only [Act.put, List.setIfInBounds_toArray, List.set_cons_zero, List.set_cons_succ]
      refine wpAnyH_take (i := 12) (oi := ⟨_, _, _, _, _, _⟩) (v := .int .u64 (h.height : Int)) rfl (by kernel_rfl) (by kernel_rfl) (by kernel_rfl) (fun _ _ _ h => h) (Or.inl ⟨by rfl, fun w hSw => (by have c := hSw.2.1.cell (Hd.cell_height OK.out); go_simp; try (with_reducible rfl))⟩) (by assumption) ?_
      try simp only [Act.put, List.setIfInBounds_toArray, List.set_cons_zero, List.set_cons_succ]
      refine wpAnyH_take (i := 13) (oi := ⟨_, _, _, _, _, _⟩) (v := ?_) rfl (by kernel_rfl) (by kernel_rfl) (by kernel_rfl) (fun _ _ _ h => h) (Or.inl ⟨by rfl, ?_⟩) (by assumption) ?_
      rotate_left
      · intro w hSw; go_simp; try (with_reducible rfl)
      try simp only [Act.put, List.setIfInBounds_toArray, List.set_cons_zero, List.set_cons_succ]
      refine wpAnyH_take (i := 14) (oi := ⟨_, _, _, _, _, _⟩) (v := ?_) rfl (by kernel_rfl) (by kernel_rfl) (by kernel_rfl) (fun _ _ _ h => h) (Or.inl ⟨by rfl, ?_⟩) (by assumption) ?_
      rotate_left
      · intro w hSw; go_simp; try (with_reducible rfl)
      try simp only [Act.put, List.setIfInBounds_toArray, List.set_cons_zero, List.set_cons_succ]
      refine wpAnyH_done (by kernel_rfl) ?_ _
      go_wp2_with (first
        | (with_reducible refine wpList_load_blk rfl _ _ rfl w.heap.size [.slice (some ⟨b, off, none⟩) hs.length cap] rfl hHeld.1 _ Tryz.underlying37 rfl (szRT _) ?_)
        | ((with_reducible refine wpList_put rfl _ _ _ rfl gr [.slice (some ⟨b, off, none⟩) hs.length cap] _ rfl rfl hHeld.2.2.1 (szRT _) rfl (one_slice _ _ _) (fun wc kc fc zc => ?_)); have KC := Lib.hid kc; have RC := Lib.hid (hHeld.2.2.2.1.fr fc (fun k _ hk e => by have h1 := HDD.out k hk; have h2 : k = gr := e; omega) (by have := hlt0.out; show ¬ 0 = gr; omega)); have hbs := hHeld.2.2.2.2.size; have BC := Lib.hid (hHeld.2.2.2.2.trans (fc.below hbs (fun k hk => by have h2 : k = gr := hk; omega))); clear kc fc))
      exact bodyPost_ret (v := .tuple #[rv _, .int .i64 172]) (results_row2 Tryz.results22 _ _ gr _ _ rfl KC.out Tryz.underlying37 rfl (szRT _) _ rfl) rfl (RAddT.same 172 HE.out (by decide) RC.out BC.out)

    · have hq1 : ((x : Int) != (h.height : Int)) = false := by simp [hq]
      have hq2 : ((h.height : Int) == 0) = false := by simp; omega
      have HE := Lib.hid (show addE hs h = 0 by rw [HE0.out, if_neg (by omega)])
      have HAL := Lib.hid (show rows (addL hs h) = rows hs ++ [h.cells] by unfold addL; rw [if_pos HE.out]; simp [rows])
      clear hq hx hz0
      go_wp2
      refine wp_region_held_drew (S := (fun w' => Blk w' w.heap.size [.slice (some ⟨b, off, none⟩) hs.length cap] 37 ∧ Blk w' gx h.cells 41 ∧ Blk w' gr [.slice none 0 0] 37 ∧ RT D w' (.slice (some ⟨b, off, none⟩) hs.length cap) hs ∧ Below w.heap.size w w')) (by kernel_rfl) ⟨HS5.out.1.drew, HS5.out.2.1.drew, HS5.out.2.2.1.drew, HS5.out.2.2.2.1.drew, below_drew HS5.out.2.2.2.2⟩ (fun hHeld => ?_)
      refine wpAnyH_take (i := 0) (oi := ⟨_, _, _, _, _, _⟩) (v := ?_) rfl (by kernel_rfl) (by kernel_rfl) (by kernel_rfl) (fun _ _ _ h => h) (Or.inl ⟨by rfl, ?_⟩) (by assumption) ?_
      rotate_left
      · intro w hSw; go_simp; try (with_reducible rfl)
      try simp only [Act.put, List.setIfInBounds_toArray, List.set_cons_zero, List.set_cons_succ]
      refine wpAnyH_take (i := 1) (oi := ⟨_, _, _, _, _, _⟩) (v := .slice (some ⟨b, off, none⟩) hs.length cap) rfl (by kernel_rfl) (by kernel_rfl) (by kernel_rfl) (fun _ _ _ h => h) (Or.inl ⟨by rfl, fun w hSw => (by have c := hSw.1.cell (i := 0) rfl; go_simp; try (with_reducible rfl))⟩) (by assumption) ?_
      try simp only [Act.put, List.setIfInBounds_toArray, List.set_cons_zero, List.set_cons_succ]
      refine wpAnyH_take (i := 2) (oi := ⟨_, _, _, _, _, _⟩) (v := ?_) rfl (by kernel_rfl) (by kernel_rfl) (by kernel_rfl) (fun _ _ _ h => h) (Or.inl ⟨by rfl, ?_⟩) (by assumption) ?_
      rotate_left
      · intro w hSw; go_simp; try (with_reducible rfl)
      try simp only [Act.put, List.setIfInBounds_toArray, List.set_cons_zero, List.set_cons_succ]
      refine wpAnyH_take (i := 3) (oi := ⟨_, _, _, _, _, _⟩) (v := ?_) rfl (by kernel_rfl) (by kernel_rfl) (by kernel_rfl) (fun _ _ _ h => h) (Or.inl ⟨by rfl, ?_⟩) (by assumption) ?_
      rotate_left
      · intro w hSw; go_simp; try (with_reducible rfl)
      try simp only [Act.put, List.setIfInBounds_toArray, List.set_cons_zero, List.set_cons_succ]
      refine wpAnyH_take (i := 4) (oi := ⟨_, _, _, _, _, _⟩) (v := ?_) rfl (by kernel_rfl) (by kernel_rfl) (by kernel_rfl) (fun _ _ _ h => h) (Or.inl ⟨by rfl, ?_⟩) (by assumption) ?_
      rotate_left
      · intro w hSw; go_simp; try (with_reducible rfl)
      try simp only [Act.put, List.setIfInBounds_toArray, List.set_cons_zero, List.set_cons_succ]
      refine wpAnyH_take (i := 5) (oi := ⟨_, _, _, _, _, _⟩) (v := .int .u64 (g.height : Int)) rfl (by kernel_rfl) (by kernel_rfl) (by kernel_rfl) (fun _ _ _ h => h) (Or.inl ⟨by rfl, fun w hSw => (by have c := (hSw.2.2.2.1.range k hkl) 64 _ (Hd.cell_height (HGE.out ▸ OKG.out)); rw [HGE.out] at c; go_simp; try (with_reducible rfl))⟩) (by assumption) ?_
      try simp only [Act.put, List.setIfInBounds_toArray, List.set_cons_zero, List.set_cons_succ]
      refine wpAnyH_take (i := 6) (oi := ⟨_, _, _, _, _, _⟩) (v := ?_) rfl (by kernel_rfl) (by kernel_rfl) (by kernel_rfl) (fun _ _ _ h => h) (Or.inl ⟨by rfl, ?_⟩) (by assumption) ?_
      rotate_left
      · intro w hSw; go_simp; try (with_reducible rfl)
      try simp only [Act.put, List.setIfInBounds_toArray, List.set_cons_zero, List.set_cons_succ]
      refine wpAnyH_take (i := 7) (oi := ⟨_, _, _, _, _, _⟩) (v := ?_) rfl (by kernel_rfl) (by kernel_rfl) (by kernel_rfl) (fun _ _ _ h => h) (Or.inl ⟨by rfl, ?_⟩) (by assumption) ?_
      rotate_left
      · intro w hSw; go_simp; try (with_reducible rfl)
      try simp only [Act.put, List.setIfInBounds_toArray, List.set_cons_zero, List.set_cons_succ]
      refine wpAnyH_take (i := 8) (oi := ⟨_, _, _, _, _, _⟩) (v := .int .u64 (h.height : Int)) rfl (by kernel_rfl) (by kernel_rfl) (by kernel_rfl) (fun _ _ _ h => h) (Or.inl ⟨by rfl, fun w hSw => (by have c := hSw.2.1.cell (Hd.cell_height OK.out); go_simp; try (with_reducible rfl))⟩) (by assumption) ?_
      try simp only [Act.put, List.setIfInBounds_toArray, List.set_cons_zero, List.set_cons_succ]
      refine wpAnyH_take (i := 9) (oi := ⟨_, _, _, _, _, _⟩) (v := ?_) rfl (by kernel_rfl) (by kernel_rfl) (by kernel_rfl) (fun _ _ _ h => h) (Or.inl ⟨by rfl, ?_⟩) (by assumption) ?_
      rotate_left
      · intro w hSw; go_simp; try (with_reducible rfl)
      try simp only [Act.put, List.setIfInBounds_toArray, List.set_cons_zero, List.set_cons_succ]
      refine wpAnyH_take (i := 10) (oi := ⟨_, _, _, _, _, _⟩) (v := ?_) rfl (by kernel_rfl) (by kernel_rfl) (by kernel_rfl) (fun _ _ _ h => h) (Or.inl ⟨by rfl, ?_⟩) (by assumption) ?_
      rotate_left
      · intro w hSw; go_simp; try (with_reducible rfl)
      try simp only [Act.put, List.setIfInBounds_toArray, List.set_cons_zero, List.set_cons_succ]
      refine wpAnyH_take (i := 11) (oi := ⟨_, _, _, _, _, _⟩) (v := ?_) rfl (by kernel_rfl) (by kernel_rfl) (by kernel_rfl) (fun _ _ _ h => h) (Or.inl ⟨by rfl, ?_⟩) (by assumption) ?_
      rotate_left
      · intro w hSw; go_simp; try (with_reducible rfl)
      try simp only [Act.put, List.setIfInBounds_toArray, List.set_cons_zero, List.set_cons_succ]
      refine wpAnyH_take (i := 12) (oi := ⟨_, _, _, _, _, _⟩) (v := .int .u64 (h.height : Int)) rfl (by kernel_rfl) (by kernel_rfl) (by kernel_rfl) (fun _ _ _ h => h) (Or.inl ⟨by rfl, fun w hSw => (by have c := hSw.2.1.cell (Hd.cell_height OK.out); go_simp; try (with_reducible rfl))⟩) (by assumption) ?_
      try simp only [Act.put, List.setIfInBounds_toArray, List.set_cons_zero, List.set_cons_succ]
      refine wpAnyH_take (i := 13) (oi := ⟨_, _, _, _, _, _⟩) (v := ?_) rfl (by kernel_rfl) (by kernel_rfl) (by kernel_rfl) (fun _ _ _ h => h) (Or.inl ⟨by rfl, ?_⟩) (by assumption) ?_
      rotate_left
      · intro w hSw; go_simp; try (with_reducible rfl)
      try simp only [Act.put, List.setIfInBounds_toArray, List.set_cons_zero, List.set_cons_succ]
      refine wpAnyH_take (i := 14) (oi := ⟨_, _, _, _, _, _⟩) (v := ?_) rfl (by kernel_rfl) (by kernel_rfl) (by kernel_rfl) (fun _ _ _ h => h) (Or.inl ⟨by rfl, ?_⟩) (by assumption) ?_
      rotate_left
      · intro w hSw; go_simp; try (with_reducible rfl)
      try simp only [Act.put, List.setIfInBounds_toArray, List.set_cons_zero, List.set_cons_succ]
      refine wpAnyH_done (by kernel_rfl) ?_ _
      have HH := Lib.hid hHeld
      have hb5 := hHeld.2.2.2.2.size
      have hl5 := hHeld.2.2.1.lt
      have hx5 := hHeld.2.1.lt
      have c1 := hHeld.1.cell (i := 0) rfl
      have HA5 := Lib.hid (show Arr 66 D w5.drew (.slice (some ⟨b, off, none⟩) hs.length cap) (rows hs) from hHeld.2.2.2.1.a)
      have HT5 := Lib.hid hHeld.2.2.2.1.t
      have hrl := rows_len hs
      have HRL := Lib.hid hrl
      clear hHeld c0 HS5 hrl
      go_wp2_with (at_builtin; refine wpList_append_arr _ rfl (.tmp 37) (.tmp 39) 22 rfl w5.drew.heap.size 41 elemH _ [] rfl (OwnA.nil _ _ _ _) _ (rows hs) rfl HA5.out (rows_one hs) (by rw [HRL.out]; unfold maxLen; simp; omega) (by rw [HRL.out]; simp; omega) (Nat.le_refl _) hs.length (by rw [HRL.out]; simp) ?_)
      intro va vc w6 o1 o2 o3
      have B6 := Lib.hid (show Below w5.drew.heap.size w5.drew w6 from (Below.refl _ _).grown o2 (Nat.le_refl _) (fun k hk => by cases hk))
      have O6 := Lib.hid o1
      have hs6 := B6.out.size
      clear o1 o2 o3
      have X6 := Lib.hid (HH.out.2.1.below B6.out)
      have HBA := Lib.hid (show Below w6.heap.size w6 (w6.alloc (.cells h.cells.toArray 41)) from below_alloc _ _)
      have HAR := Lib.hid (arr_one (k := 66) (D := Any) w6 h.cells.toArray 41 (0, 0) h.cells HL.out rfl trivial)
      obtain ⟨w7, hw7⟩ : ∃ x, w6.alloc (.cells h.cells.toArray 41) = x := ⟨_, rfl⟩
      rw [hw7] at HBA HAR
      have O7 := Lib.hid (O6.out.below HBA.out)
      have hs7 := HBA.out.size
      have B7 := Lib.hid (B6.out.trans (HBA.out.mono hs6))
      have HROW := Lib.hid (show ([] : List (List Value)) ++ rows hs = rows hs from rfl)
      have HSC := Lib.hid (show ∀ x ∈ [h.cells], ∀ c ∈ x, c.oneCell' = true from fun x hx c hc => by rw [List.mem_singleton.1 hx] at hc; exact h.one c hc)
      go_wp2_with (first
        | (with_reducible refine wpList_load_blk rfl _ _ rfl gx h.cells rfl X6.out _ Tryz.underlying41 rfl (szH OK.out) ?_)
        | ((with_reducible refine wpList_buildSlice1 _ rfl elemH _ rfl _ rfl HSZ.out (by decide) ?_); rw [hw7])
        | (at_builtin; refine wpList_append_arr _ rfl (.tmp 41) (.tmp 43) 22 rfl w5.drew.heap.size 41 elemH _ (rows hs) rfl O7.out _ [h.cells] rfl HAR.out HSC.out (by rw [HRL.out]; unfold maxLen; simp; omega) (by rw [HRL.out]; simp; omega) (by omega) (hs.length + 1) (by rw [HRL.out]; simp) ?_))
      clear hw7
      intro va2 vc2 w8 o1 o2 o3
      have B8 := Lib.hid (show Below w5.drew.heap.size w5.drew w8 from B7.out.grown o2 (by omega) (fun k hk => (O7.out.lt k hk).1))
      have O8 := Lib.hid o1
      have hs8 := B8.out.size
      have K8 := Lib.hid (HH.out.2.2.1.below B8.out)
      have T8 := Lib.hid (HT5.out.below B8.out)
      have BW := Lib.hid (HH.out.2.2.2.2.trans (B8.out.mono hb5))
      have P5 := Lib.hid (show w.heap.size ≤ w5.drew.heap.size from hb5)
      have P1 := Lib.hid (show w.heap.size ≤ w8.heap.size by omega)
      have P2 := Lib.hid (show ∀ k, w5.drew.heap.size ≤ k → ¬ k = gr by intro k h1 h2; omega)
      have P3 := Lib.hid (show w.heap.size ≤ gr by omega)
      have P4 := Lib.hid (show ¬ 0 = gr by have := hlt0.out; omega)
      clear o1 o2 o3 HH HA5 HT5 B6 O6 X6 HBA HAR O7 B7
      go_wp2_with (first
        | ((with_reducible refine wpList_put rfl _ _ _ rfl gr [.slice va2 (hs.length + 1) vc2] _ rfl rfl K8.out (szRT _) rfl (one_slice _ _ _) (fun wc kc fc zc => ?_)); have KC := Lib.hid kc; have OC := Lib.hid (O8.out.fr fc (fun k hk => P2.out k (O8.out.lt k hk).1)); have TC := Lib.hid (T8.out.fr fc P4.out); have BC := Lib.hid (BW.out.trans (fc.below P1.out (fun k (hk : k = gr) => hk ▸ P3.out))); clear kc fc))
      refine bodyPost_ret (v := .tuple #[rv (.slice va2 (hs.length + 1) vc2), .int .i64 0]) (results_row2 Tryz.results22 _ _ gr _ _ rfl KC.out Tryz.underlying37 rfl (szRT _) _ rfl) rfl ⟨_, by rw [HE.out], ⟨?_, TC.out⟩, BC.out⟩
      rw [HAL.out]
      exact OC.out.arr.mono (by omega) (fun k _ hk => .inr (Nat.le_trans P5.out hk.2))
end Go.Proofs.YtmenchnjajpkmaaGreatDoor.Tr
end
