/- DiskMemory: the walk of the law. Condition: the text is within reach. -/
import Derived.Test.YtjdohjoljobinaaBgA
namespace Go.Proofs.Ytjdohjoljobinaa.Lw
open Go Go.RowKit Mem Maps Ops Reps Dx
set_option linter.unusedVariables false
set_option linter.unusedSimpArgs false

/-- what is made in between is none of a disk's -/
theorem skip {D : Nat → Prop} {w w2 : World} {q b : Nat} {d : Disk} (h : DkIs D w q b d) (hb : Below w.heap.size w w2) : DkIs (fun k => (k < w.heap.size ∧ D k) ∨ w2.heap.size ≤ k) w2 q b d := by
  have hlt := h.lt
  have hs := hb.size
  have h2 := h.below hb
  obtain ⟨l, m1, m2⟩ := h.m
  exact ⟨h2.k, ⟨l, m1.fr (Fr.ofBelow hb) (by omega), (m2.lt.fr (Fr.ofBelow hb) (fun k hk _ e => by omega)).mono (fun k _ hk => .inl hk)⟩, h.ne,
    ⟨fun e => by rcases e with e | e; exact h.nd.1 e.2; omega, fun e => by rcases e with e | e; exact h.nd.2 e.2; omega⟩, fun k hk => .inr hk⟩
theorem skipE {D : Nat → Prop} {w w2 : World} {q b : Nat} {d : Disk} (h : DkIs D w q b d) (hb : Below w.heap.size w w2) : ∃ E : Nat → Prop, (∀ g, w.heap.size ≤ g → g < w2.heap.size → ¬ E g) ∧ DkIs E w2 q b d :=
  ⟨_, fun g h1 h2 e => by rcases e with e | e <;> omega, skip h hb⟩
theorem own_put {base : Nat} {e : TypeId} {w : World} {a : Option Addr} {n c : Nat} {l : List UInt8} (h : OwnB base e w (.slice a n c) l) {g : Nat} (ha : a = some ⟨g, 0, none⟩) (i : Nat) (hi : i < l.length) (b : UInt8) :
    OwnB base e (w.setCell ⟨g, i, none⟩ (.int .u8 (b.toNat : Int))) (.slice a n c) (l.set i b) := by
  subst ha
  unfold OwnB at h ⊢
  refine ⟨by simp, ?_⟩
  rcases h.2 with ⟨hv, _⟩ | ⟨g', cap, cur, hv, hg, hh, hc, hm, hs, ht⟩
  · cases hv
  · simp only [Value.slice.injEq, Option.some.injEq, Addr.mk.injEq] at hv
    obtain ⟨⟨rfl, _⟩, rfl, rfl⟩ := hv
    refine .inr ⟨g, c, cur.setIfInBounds i (.int .u8 (b.toNat : Int)), by simp, hg, ?_, by simpa using hc, hm, by simpa using hs, ?_⟩
    · have hlt := (Array.getElem?_eq_some_iff.1 hh).1
      simp [World.setCell, Array.getElem?_modify, hh]
    · rw [List.length_set, Array.toList_setIfInBounds, List.take_set, ht, List.map_set]
theorem add_u8 (x : UInt8) (k : Nat) : ∃ c : UInt8, ((x.toNat : Int) + (k : Int)) % 256 = (c.toNat : Int) :=
  ⟨UInt8.ofNat (x.toNat + k), by rw [UInt8.toNat_ofNat']; omega⟩
def dM (x : List UInt8) : Disk := ⟨x.length, 1, -1, false, [([102], x, 0)]⟩
theorem append_dM (x : List UInt8) : appendD (newD (x.length : Int)) [102] x = (dM x, 0) := by
  have e : newD (x.length : Int) = ⟨x.length, 0, -1, false, []⟩ := by unfold newD; rw [if_neg (by omega)]
  rw [e]
  unfold appendD
  rw [if_neg (by simp), if_neg (by decide), if_neg (by simp [freeD, usedF])]
  simp [stepD, laidD, dM, putF, bytesF, lastF, lookF]
set_option maxRecDepth 100000 in
theorem elemB : ElemT Try.prog 23 5 (.int .u8 0) 1 1 :=
  ⟨Try.underlying23, ⟨_, rfl, by kernel_rfl, by kernel_rfl, by kernel_rfl⟩, by simp [Value.cells], by decide⟩
def OI (B : Nat) (E : Nat → Prop) (w0 : World) (v : Value) (L q b : Nat) (d : Disk) (l : List UInt8) (wx : World) : Prop :=
  OwnB B 5 wx v l ∧ l.length = L ∧ DkIs E wx q b d ∧ Below B w0 wx ∧ w0.heap.size ≤ wx.heap.size
theorem OI.put {B : Nat} {E : Nat → Prop} {w0 : World} {a : Option Addr} {c L q b : Nat} {d : Disk} {l : List UInt8} {wx : World} (h : OI B E w0 (.slice a L c) L q b d l wx) {g : Nat} (ha : a = some ⟨g, 0, none⟩) (he : ¬ E g) (hg : B ≤ g) (hq : q < B) (hb : b < B) (i : Nat) (hi : i < L) (x : UInt8) :
    OI B E w0 (.slice a L c) L q b d (l.set i x) (wx.setCell ⟨g, i, none⟩ (.int .u8 (x.toNat : Int))) := by
  obtain ⟨h1, h2, h3, h4, h5⟩ := h
  have hf : Fr (fun k => k = g) wx (wx.setCell ⟨g, i, none⟩ (.int .u8 (x.toNat : Int))) := Fr.setCell (S := fun k => k = g) (Fr.refl _ wx) (.inr rfl) _
  refine ⟨own_put h1 ha i (by omega) x, by simpa using h2, h3.fr hf (by omega) (by omega) (fun k _ hk e => by have e : k = g := e; subst e; exact he hk), h4.setCell hg _, by simpa using h5⟩

set_option maxHeartbeats 16000000 in
set_option maxRecDepth 100000 in
theorem memory_calls (w : World) (v : Value) (x : List UInt8) {D : Nat → Prop} (hB : Byt D w v x) (hl : x.length ≤ 140737488351232) :
    Calls Try.prog 4 #[v] w fun e w' => e = .returned (.bool true) ∧ Below w.heap.size w w' := by
  obtain ⟨va, vc, rfl, hkv, hrest⟩ := id hB
  obtain ⟨L, hL⟩ : ∃ n, x.length = n := ⟨_, rfl⟩
  have HL := Lib.hid hL
  have hB2 := hB.lt.mono (E := fun k => k < w.heap.size) (fun _ h _ => h)
  clear hkv hrest hB
  rw [hL] at hl hB2 ⊢
  have HB := Lib.hid hB2
  clear hL hB2
  go_enter Try.func4, Try.ntmps4
  go_wp2_with fail
  refine (begun_calls w (fun k => w.heap.size ≤ k) (fun _ h => h) L).mono ?_
  rintro e w1 ⟨q, b, rfl, hq, hb, h1, g1⟩
  have H1 := Lib.hid h1
  have G1 := Lib.hid g1
  have V1 := Lib.hid (HB.out.below g1)
  have hs1 := g1.size
  have hlt1 := h1.lt
  clear h1 g1 HB
  go_wp2_with (at_builtin; go_loud (refine wpList_append_byt _ rfl (.const (.slice none 0 0)) (.tmp 22) 23 rfl w1.heap.size 5 Lw.elemB _ [] rfl (OwnB.nil _ _ _) _ x rfl V1.out (by simp; have := HL.out; omega) (Nat.le_refl _) ?_))
  intro oa oc w2 o1 o2 _
  have O2 := Lib.hid (show OwnB w1.heap.size 5 w2 (.slice oa L oc) x from by simpa [HL.out] using o1)
  have g2 : Below w1.heap.size w1 w2 := (Below.refl _ _).grown o2 (Nat.le_refl _) (by intro k hk; cases hk)
  have HM := Lib.hid (show (([] : List UInt8).length + x.length) = L from by rw [HL.out]; simp)
  simp only [List.length_nil, Nat.zero_add, HL.out]
  have H2 := Lib.hid (skip H1.out g2)
  have G2 := Lib.hid (G1.out.trans (g2.mono hs1))
  have V2 := Lib.hid (V1.out.below g2)
  have hs2 := g2.size
  clear o1 o2 g2 H1 G1 V1
  go_wp2_with fail
  have HN := Lib.hid (show newD (L : Int) = ⟨L, 0, -1, false, []⟩ from by unfold newD; rw [if_neg (by omega)])
  have a3 := append_calls w2 q b (newD L) [102] _ x H2.out (by unfold maxLen; decide) O2.out.byt.any (by have := HL.out; rw [HN.out]; simp [usedF]; omega) (by rw [HN.out]; simp) (by rw [HN.out]; simp; omega) (by rw [HN.out]; simp) (by rw [HN.out]; simp) (by rw [HN.out]; simp)
  have hdm := append_dM x
  rw [HL.out] at hdm
  rw [hdm] at a3
  refine a3.mono ?_
  rintro e w3 ⟨rfl, h3, f3⟩
  have hso := O2.out.lt
  have H3 := Lib.hid h3
  have G3 := Lib.hid (G2.out.trans (f3.below G2.out.size (fun k hk => by rcases hk with rfl | rfl <;> assumption)))
  have O3 := Lib.hid (O2.out.fr f3 (fun k hk e => by have := hso k hk; omega))
  have V3 := Lib.hid (V2.out.fr f3 (fun k _ h e => by omega))
  have hs3 := f3.size
  clear a3 hdm h3 f3 H2 G2 O2 V2 HN
  have I3 := Lib.hid (show OI w1.heap.size _ w3 (.slice oa L oc) L q b (dM x) x w3 from ⟨O3.out, HL.out, H3.out, Below.refl _ _, Nat.le_refl _⟩)
  go_wp2
  go_loopw [30] (fun i wx => ∃ (n : Nat) (l : List UInt8), n ≤ L ∧ i = .int .i64 n ∧ OI w1.heap.size (fun k => (k < w1.heap.size ∧ ((fun k => w.heap.size ≤ k) k ∧ k ≠ q ∧ k ≠ b)) ∨ w2.heap.size ≤ k) w3 (.slice oa L oc) L q b (dM x) l wx) (fun i _ => L - (intOf i).toNat)
  case atStart => exact ⟨0, x, by omega, rfl, I3.out⟩
  case round =>
    obtain ⟨n, l, hn, rfl, hR⟩ := hrel
    have HR := Lib.hid hR
    by_cases hlt : n < L
    · obtain ⟨g, cap, hv, hg1, hg2, hcp, hmx, hly, hfz⟩ := hR.1.shape (by intro e; have := hR.2.1; subst e; simp at this; omega)
      simp only [Value.slice.injEq] at hv
      have HA := Lib.hid hv.1
      have hll := HR.out.2.1
      have hnl : n < l.length := by rw [hll]; exact hlt
      have hcell := hly n hnl
      obtain ⟨y, hy⟩ : ∃ y, l[n]'hnl = y := ⟨_, rfl⟩
      rw [Nat.zero_add, hy] at hcell
      have hfr := hfz n
      have hgo := hso g (by rw [hv.1]; rfl)
      obtain ⟨rfl, hv2⟩ := hv
      clear hv2
      clear hso
      obtain ⟨c, hc⟩ := add_u8 y 1
      have HC := Lib.hid hc
      clear hly hfz hR hmx hcp hc hy hnl hll hg2
      go_wp2
      refine ⟨⟨n + 1, l.set n c, by omega, by go_num, ?_⟩, by simp [intOf]; omega⟩
      rw [show ((y.toNat : Int) + 1) % 256 = (c.toNat : Int) from HC.out]
      exact HR.out.put rfl (by rintro (e | e) <;> omega) hg1 hlt1.1 hlt1.2 n hlt c
    obtain rfl : L = n := by omega
    clear hn hlt
    obtain ⟨-, -, k4, b4, z4⟩ := hR
    obtain ⟨w4, hw4⟩ : ∃ u, u = wr := ⟨_, rfl⟩
    subst hw4
    have H4 := Lib.hid k4
    have G4 := Lib.hid (G3.out.trans (b4.mono hs1))
    have V4 := Lib.hid (V3.out.fr (Fr.ofBelow b4) (fun k _ h e => by omega))
    have hs4 : w2.heap.size ≤ w4.heap.size := by omega
    clear k4 b4 z4 HR I3 H3 G3 O3 V3 hso
    go_wp2_with fail
    have hbf : bytesF (dM x).fs [102] = x := rfl
    have hlf : (lookF (dM x).fs [102]).isSome = true := rfl
    have hxl := HL.out
    refine (readO_calls w4 q b (dM x) [102] H4.out (by unfold maxLen; decide) (by rw [hbf]; omega)).mono ?_
    rintro e w5 ⟨xa, xc, rfl, o5, g5⟩
    rw [hbf, hxl] at o5
    rw [hbf, hlf, hxl]
    obtain ⟨E5, he5, h5⟩ := skipE H4.out g5
    have HE5 := Lib.hid he5
    have H5 := Lib.hid h5
    have G5 := Lib.hid (G4.out.trans (g5.mono G4.out.size))
    have hs5 := g5.size
    have V5 := Lib.hid (V4.out.below g5)
    have HX5 := Lib.hid o5.lt
    have I5 := Lib.hid (show OI w4.heap.size E5 w5 (.slice xa L xc) L q b (dM x) x w5 from ⟨o5, hxl, h5, Below.refl _ _, Nat.le_refl _⟩)
    have e1 := run_convert_byt o5.byt Try.underlying23 Try.underlying5 Try.underlying9
    have e2 := run_convert_byt V5.out Try.underlying23 Try.underlying5 Try.underlying9
    clear o5 g5 he5 h5 H4 G4 V4 hxl hbf hlf
    go_wp2
    go_loopw [52] (fun i wx => ∃ (n : Nat) (l : List UInt8), n ≤ L ∧ i = .int .i64 n ∧ OI w4.heap.size E5 w5 (.slice xa L xc) L q b (dM x) l wx) (fun i _ => L - (intOf i).toNat)
    case atStart => exact ⟨0, x, by omega, rfl, I5.out⟩
    case round =>
      obtain ⟨n, l, hn, rfl, hR⟩ := hrel
      have HR := Lib.hid hR
      by_cases hlt : n < L
      · obtain ⟨g, cap, hv, hg1, hg2, hcp, hmx, hly, hfz⟩ := hR.1.shape (by intro e; have := hR.2.1; subst e; simp at this; omega)
        simp only [Value.slice.injEq] at hv
        have hll := HR.out.2.1
        have hnl : n < l.length := by rw [hll]; exact hlt
        have hcell := hly n hnl
        obtain ⟨y, hy⟩ : ∃ y, l[n]'hnl = y := ⟨_, rfl⟩
        rw [Nat.zero_add, hy] at hcell
        have hfr := hfz n
        have hgo := (HX5.out g (by rw [hv.1]; rfl))
        obtain ⟨rfl, hv2⟩ := hv
        clear hv2
        obtain ⟨c, hc⟩ := add_u8 y 2
        have HC := Lib.hid hc
        clear hly hfz hR hmx hcp hc hy hnl hll hg2 e1 e2
        go_wp2
        refine ⟨⟨n + 1, l.set n c, by omega, by go_num, ?_⟩, by simp [intOf]; omega⟩
        rw [show ((y.toNat : Int) + 2) % 256 = (c.toNat : Int) from HC.out]
        exact HR.out.put rfl (HE5.out g hgo.1 hgo.2) hg1 (by omega) (by omega) n hlt c
      obtain rfl : L = n := by omega
      clear hn hlt e1 e2
      obtain ⟨o6, l6, k6, b6, z6⟩ := hR
      obtain ⟨w6, hw6⟩ : ∃ u, u = wr := ⟨_, rfl⟩
      subst hw6
      have O6 := Lib.hid o6
      have L6 := Lib.hid l6
      have H6 := Lib.hid k6
      have G6 := Lib.hid (G5.out.trans (b6.mono (by omega)))
      have V6 := Lib.hid (V5.out.fr (Fr.ofBelow b6) (fun k _ h e => by omega))
      have hs6 := b6.size
      clear o6 l6 k6 b6 z6 HR I5 H5 G5 V5
      go_wp2_with (at_builtin; refine wpList_append_one _ rfl (.tmp 62) (.tmp 63) 23 rfl w4.heap.size 5 Lw.elemB _ l rfl O6.out _ 9 rfl rfl (by have := L6.out; omega) (by omega) ?_)
      intro ya yc w7 o7 f7 _
      simp only [L6.out]
      have H7 := Lib.hid (H6.out.fr f7 (fun e => by have := HX5.out q e; omega) (fun e => by have := HX5.out b e; omega) (fun k _ hk e => by have := HX5.out k e; exact HE5.out k this.1 this.2 hk))
      have G7 := Lib.hid (G6.out.trans (f7.below G6.out.size (fun k hk => by have := HX5.out k hk; omega)))
      have V7 := Lib.hid (V6.out.fr f7 (fun k _ h e => by have := HX5.out k e; omega))
      clear o7 f7 H6 G6 V6 HX5 O6
      go_wp2_with fail
      have hbf : bytesF (dM x).fs [102] = x := rfl
      have hlf : (lookF (dM x).fs [102]).isSome = true := rfl
      have hxl := HL.out
      refine (readO_calls w7 q b (dM x) [102] H7.out (by unfold maxLen; decide) (by rw [hbf]; omega)).mono ?_
      rintro e w8 ⟨za, zc, rfl, o8, g8⟩
      rw [hbf, hxl] at o8
      rw [hbf, hlf, hxl]
      have H8 := Lib.hid (H7.out.below g8)
      have G8 := Lib.hid (G7.out.trans (g8.mono G7.out.size))
      have V8 := Lib.hid (V7.out.below g8)
      have Z8 := Lib.hid o8.byt.any
      clear o8 g8 H7 G7 V7 hbf hlf hxl
      go_wp2_with fail
      have hnm : namesF (dM x).fs = [[102]] := by simp [dM, namesF]
      refine (Names_calls w8 q b (dM x) H8.out (by simp [dM])).mono ?_
      rintro e w9 ⟨v9, rfl, o9, g9⟩
      rw [hnm] at o9
      obtain ⟨E9, he9, h9⟩ := skipE H8.out g9
      obtain ⟨g, cap, rfl, hg1, hg2, hc9⟩ := Row.OwnV.at (n := 1) o9 (by decide)
      have hfz := World.ownsRow.frozenAt o9 0
      have hcell : w9.cell? ⟨g, 0, none⟩ = some (.string ⟨#[102]⟩) := hc9 0 (by decide)
      have H9 := Lib.hid h9
      have HE9 := Lib.hid he9
      have G9 := Lib.hid (G8.out.trans (g9.mono G8.out.size))
      have V9 := Lib.hid (V8.out.below g9)
      have Z9 := Lib.hid (Z8.out.lt.below g9)
      have G8s := Lib.hid (show q < w8.heap.size ∧ b < w8.heap.size ∧ w.heap.size ≤ w8.heap.size from ⟨H8.out.lt.1, H8.out.lt.2, G8.out.size⟩)
      clear hc9 o9 h9 he9 g9 H8 G8 V8 Z8
      have hb9 : w8.heap.size ≤ w9.heap.size := by omega
      have f10 : Fr (fun k => k = g) w9 (w9.setCell ⟨g, 0, none⟩ (.string ⟨#[103]⟩)) := Fr.setCell (S := fun k => k = g) (Fr.refl _ w9) (.inr rfl) _
      have hlt9 := H9.out.lt
      have hq9 : ¬ E9 g := HE9.out g hg1 hg2
      have hqg : q ≠ g ∧ b ≠ g := by
        have := G8s.out
        omega
      have H10 := Lib.hid (H9.out.fr f10 hqg.1 hqg.2 (fun k _ hk e => by have e : k = g := e; subst e; exact hq9 hk))
      have G10 := Lib.hid (G9.out.trans (f10.below G9.out.size (fun k hk => by have hk : k = g := hk; have := G8s.out; omega)))
      have e3 := run_convert_byt (Z9.out.fr f10 (fun k _ h e => by have e : k = g := e; omega)) Try.underlying23 Try.underlying5 Try.underlying9
      have e4 := run_convert_byt (V9.out.fr f10 (fun k _ h e => by have e : k = g := e; have := G8s.out; omega)) Try.underlying23 Try.underlying5 Try.underlying9
      clear hq9 f10 H9 HE9 G9 V9 Z9 hqg hlt9
      go_wp2_with fail
      obtain ⟨w10, hw10⟩ : ∃ u, w9.setCell ⟨g, 0, none⟩ (.string ⟨#[103]⟩) = u := ⟨_, rfl⟩
      rw [hw10] at H10 G10 ⊢
      clear e3 e4 hcell hfz hw10
      refine (Names_calls w10 q b (dM x) H10.out (by simp [dM])).mono ?_
      rintro e w11 ⟨v11, rfl, o11, g11⟩
      rw [hnm] at o11
      obtain ⟨g2, cap2, rfl, u1, u2, u3⟩ := Row.OwnV.at (n := 1) o11 (by decide)
      have H11 := Lib.hid (H10.out.below g11)
      have G11 := Lib.hid (G10.out.trans (g11.mono G10.out.size))
      clear u1 u2 u3 o11 g11 H10 G10
      go_wp2_with fail
      refine (Names_calls w11 q b (dM x) H11.out (by simp [dM])).mono ?_
      rintro e w12 ⟨v12, rfl, o12, g12⟩
      rw [hnm] at o12
      obtain ⟨g3, cap3, rfl, u1, u2, hc12⟩ := Row.OwnV.at (n := 1) o12 (by decide)
      have hcell : w12.cell? ⟨g3, 0, none⟩ = some (.string ⟨#[102]⟩) := hc12 0 (by decide)
      have G12 := Lib.hid (G11.out.trans (g12.mono G11.out.size))
      clear u1 u2 o12 hc12 g12 G11 H11
      go_wp2
      go_ret
      exact ⟨rfl, G12.out⟩
end Go.Proofs.Ytjdohjoljobinaa.Lw
namespace Go.Proofs.Ytjdohjoljobinaa.diskMemory
open Go Go.RowKit Mem
theorem walk (w : World) (v : Value) (l : List UInt8) {D : Nat → Prop} (hB : Byt D w v l) (hl : l.length ≤ 140737488351232) :
    Calls Try.prog 4 #[v] w fun e w' => e = .returned (.bool true) ∧ Below w.heap.size w w' := Lw.memory_calls w v l hB hl
end Go.Proofs.Ytjdohjoljobinaa.diskMemory
