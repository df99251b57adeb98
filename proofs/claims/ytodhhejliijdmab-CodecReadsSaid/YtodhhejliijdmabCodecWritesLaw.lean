/- CodecWrites: whatever is written, one thing behind the other, stands in the bytes as the document says; what was handed in may be written over. Condition: the things together are of at most 2^40 bytes. -/
import Derived.Test.YtodhhejliijdmabCodecWr
namespace Go.Proofs.Ytodhhejliijdmab.codecWrites
open Go Go.RowKit Mem Codec CodecW CodecL CodecTh CodecN
set_option linter.unusedVariables false

/-- what the law keeps from thing to thing -/
def WRel (B : Nat) (w : World) (q : Nat) (v : Value) (m : List UInt8) (wx : World) : Prop :=
  ∃ S : Nat → Prop, WriterIs S wx q m ∧ (∀ k, S k → B ≤ k ∧ k < wx.heap.size) ∧ OwnB B 5 wx v m ∧ (∀ k, v.ownBlock = some k → ¬ S k) ∧ Below B w wx
def joined (ts : List Th) : List UInt8 := (ts.map tbytes).flatten
theorem joined_le (ts : List Th) : (joined ts).length ≤ (ts.map (fun t => t.b.length + 9)).sum := by
  unfold joined
  induction ts with
  | nil => simp
  | cons t r ih =>
    have := tbytes_length t
    simp only [List.map_cons, List.flatten_cons, List.length_append, List.sum_cons]
    omega
theorem joined_succ (ts : List Th) (n : Nat) (h : n < ts.length) : joined (ts.take (n + 1)) = joined (ts.take n) ++ tbytes ts[n] := by
  unfold joined
  rw [List.take_add_one, List.getElem?_eq_getElem h, List.map_append, List.flatten_append]
  simp
theorem sum_take (ts : List Th) (f : Th → Nat) (n : Nat) : ((ts.take n).map f).sum ≤ (ts.map f).sum := by
  conv => rhs; rw [← List.take_append_drop n ts, List.map_append, List.sum_append]
  omega

/-- a copy whose bytes are turned -/
def OwnU (g g2 : Nat) (w3 : World) (xa : Option Addr) (n : Nat) (wx : World) : Prop :=
  Fr (fun k => g ≤ k ∧ k < g2) w3 wx ∧ (n = 0 ∨ ∃ b, xa = some ⟨b, 0, none⟩ ∧ g ≤ b ∧ b < g2 ∧ (∀ i, i < n → ∃ c : UInt8, wx.cell? ⟨b, i, none⟩ = some (.int .u8 (c.toNat : Int))) ∧ ∀ i, wx.frozen? ⟨b, i, none⟩ = false)
theorem OwnU.start {base g g2 : Nat} {w2 w3 : World} {xa : Option Addr} {n c : Nat} {l : List UInt8} {S : Nat → Prop} (h : OwnB base 5 w2 (.slice xa n c) l) (hn : n = l.length) (hb : g ≤ base) (hg : w2.heap.size ≤ g2) (hf : Fr S w2 w3) (hS : ∀ k, g ≤ k → ¬ S k) : OwnU g g2 w3 xa n w3 := by
  refine ⟨Fr.refl _ _, ?_⟩
  by_cases h0 : n = 0
  · exact .inl h0
  · right
    obtain ⟨b, cap, he, h1, h2, _, _, hl, hz⟩ := h.shape (by rintro rfl; simp at hn; exact h0 hn)
    cases he
    refine ⟨b, rfl, by omega, by omega, fun i hi => ?_, fun i => ?_⟩
    · have := hl i (by omega)
      rw [Nat.zero_add] at this
      exact ⟨_, hf.cell this (hS b (by omega))⟩
    · rw [hf.frozen h2 (hS b (by omega))]; exact hz i
theorem u8_succ (c : UInt8) : ((c.toNat : Int) + 1) % 256 = ((c + 1).toNat : Int) := by
  rw [UInt8.toNat_add]
  simp
theorem OwnU.set {g g2 : Nat} {w3 wx : World} {b n i : Nat} (h : OwnU g g2 w3 (some ⟨b, 0, none⟩) n wx) (h0 : i < n) (c : UInt8) : OwnU g g2 w3 (some ⟨b, 0, none⟩) n (wx.setCell ⟨b, i, none⟩ (.int .u8 (c.toNat : Int))) := by
  obtain ⟨h1, h2⟩ := h
  rcases h2 with h2 | ⟨b', he, h3, h4, h5, h6⟩
  · omega
  · cases he
    refine ⟨h1.setCell (.inr ⟨h3, h4⟩) _, .inr ⟨b, rfl, h3, h4, fun j hj => ?_, fun j => ?_⟩⟩
    · obtain ⟨u, hu⟩ := h5 j hj
      obtain ⟨u2, hu2⟩ := h5 i h0
      by_cases e : j = i
      · subst e; exact ⟨c, World.cell?_setCell_same _ _ _ hu2⟩
      · exact ⟨u, by rw [World.cell?_setCell_other _ _ _ _ (by intro q; injection q; omega)]; exact hu⟩
    · rw [World.frozen?_setCell]; exact h6 j

set_option maxHeartbeats 4000000 in
set_option maxRecDepth 100000 in
theorem walk0 (w : World) (va : Value) (ts : List Th) (hA : Things w va ts) (hsum : (ts.map (fun t => t.b.length + 9)).sum ≤ 1099511627776) (hn : ts.length ≤ 1099511627776) :
    Calls Try.prog 4 #[va] w fun e w' => e = .returned (.bool true) ∧ Below w.heap.size w w' := by
  obtain ⟨a1, a2, rfl, hka, _⟩ := id hA
  have HA := Lib.hid hA
  have HSUM := Lib.hid hsum
  clear hA hsum
  go_enter Try.func4, Try.ntmps4
  go_wp2_with fail
  refine (CodecW.new_calls w).mono ?_
  rintro e w1 ⟨q, rfl, hq, hW, hb⟩
  have HB := Lib.hid hb
  have HW := Lib.hid hW
  have hs1 := hb.size
  clear hW hb
  go_wp2_with fail
  refine (alive_calls w1).mono ?_
  rintro e w2 ⟨rfl, g2⟩
  have hs2 := g2.size
  have hql := HW.out.lt
  have HP := Lib.hid (show WRel w.heap.size w q (.slice none 0 0) [] w2 from ⟨(fun k => k = q), HW.out.below g2, (fun k hk => by omega), OwnB.nil _ _ _, (fun k hk => by cases hk), HB.out.trans (g2.mono (by omega))⟩)
  clear g2 HW HB
  go_wp2
  go_loopw [4, 21] (fun v i wx => ∃ (n : Nat) (m : List UInt8), n ≤ ts.length ∧ i = .int .i64 n ∧ m = joined (ts.take n) ∧ WRel w.heap.size w q v m wx) (fun _ i _ => ts.length - (intOf i).toNat)
  case atStart => exact ⟨0, [], by omega, rfl, by simp [joined], HP.out⟩
  case round =>
    obtain ⟨n, m, hn1, rfl, hm, hP⟩ := hrel
    obtain ⟨S, h1, h2, h3, h4, h5⟩ := hP
    obtain ⟨xa, xc, rfl, hxk, _⟩ := id h3.byt
    have hmn : m.length ≤ 1099511627776 := by rw [hm]; exact Nat.le_trans (joined_le _) (Nat.le_trans (sum_take ts _ n) HSUM.out)
    have HM := Lib.hid hm
    have HW := Lib.hid h1
    have HS := Lib.hid h2
    have HV := Lib.hid h3
    have HVS := Lib.hid h4
    have HB := Lib.hid h5
    have hsz := h5.size
    clear hm h1 h2 h3 h4 h5 HP
    by_cases hlt : n < ts.length
    · obtain ⟨pb, po, rfl, hth⟩ := HA.out.at n hlt
      have hX : joined (ts.take (n + 1)) = m ++ tbytes ts[n] := by rw [HM.out]; exact joined_succ ts n hlt
      have hsum1 : (m ++ tbytes ts[n]).length ≤ 1099511627776 := by rw [← hX]; exact Nat.le_trans (joined_le _) (Nat.le_trans (sum_take ts _ (n + 1)) HSUM.out)
      have hsum2 : m.length + 9 + (ts[n]).b.length ≤ 1099511627776 + 1099511627776 + 9 := by
        have h1 := sum_take (ts.drop n) (fun t => t.b.length + 9) 1
        have h2 : ((ts.drop n).map (fun t => t.b.length + 9)).sum ≤ (ts.map (fun t => t.b.length + 9)).sum := by
          conv => rhs; rw [← List.take_append_drop n ts, List.map_append, List.sum_append]
          omega
        rw [List.drop_eq_getElem_cons hlt] at h1 h2
        simp only [List.take_succ_cons, List.take_zero, List.map_cons, List.map_nil, List.sum_cons, List.sum_nil] at h1 h2
        have := HSUM.out
        omega
      have HX := Lib.hid hX
      rw [List.length_append] at hsum1
      clear hX HM
      generalize ts[n] = t at *
      obtain ⟨hwf, d0, d1, d2, bv, d3, hby⟩ := hth
      obtain ⟨ba, bc, rfl, _⟩ := id hby
      have HBY := Lib.hid hby
      have kB : ∀ o, wr.cell? ⟨pb, o, none⟩ = w.cell? ⟨pb, o, none⟩ := fun o => World.cell?_of_block (w := w) (HB.out.block pb (World.block_lt_of_cell? w _ d0))
      have c0 := (kB _).trans d0
      have c1 := (kB _).trans d1
      have c2 := (kB _).trans d2
      have c3 := (kB _).trans d3
      clear hby d0 d1 d2 d3 kB
      go_upto_region 9 with fail
      have hk1 : Blk ((wr.alloc (.cells #[.int .i64 t.kind, .int .u64 (t.n : Int), .int .u64 (t.m : Int), .slice ba t.b.length bc] 39)).alloc (.cells #[.int .i64 t.kind, .int .u64 (t.n : Int), .int .u64 (t.m : Int), .slice ba t.b.length bc] 39)) wr.heap.size [.int .i64 t.kind, .int .u64 (t.n : Int), .int .u64 (t.m : Int), .slice ba t.b.length bc] 39 := (Blk.new wr _ _ _ rfl).alloc _
      have hk2 : Blk ((wr.alloc (.cells #[.int .i64 t.kind, .int .u64 (t.n : Int), .int .u64 (t.m : Int), .slice ba t.b.length bc] 39)).alloc (.cells #[.int .i64 t.kind, .int .u64 (t.n : Int), .int .u64 (t.m : Int), .slice ba t.b.length bc] 39)) (wr.heap.size + 1) [.int .i64 t.kind, .int .u64 (t.n : Int), .int .u64 (t.m : Int), .slice ba t.b.length bc] 39 := by
        have := Blk.new (wr.alloc (.cells #[.int .i64 t.kind, .int .u64 (t.n : Int), .int .u64 (t.m : Int), .slice ba t.b.length bc] 39)) _ 39 [.int .i64 t.kind, .int .u64 (t.n : Int), .int .u64 (t.m : Int), .slice ba t.b.length bc] rfl
        rwa [World.size_alloc] at this
      have hb3 : Below wr.heap.size wr ((wr.alloc (.cells #[.int .i64 t.kind, .int .u64 (t.n : Int), .int .u64 (t.m : Int), .slice ba t.b.length bc] 39)).alloc (.cells #[.int .i64 t.kind, .int .u64 (t.n : Int), .int .u64 (t.m : Int), .slice ba t.b.length bc] 39)) := ((Below.refl _ _).alloc (Nat.le_refl _) _).alloc (by simp) _
      have hs3 : ((wr.alloc (.cells #[.int .i64 t.kind, .int .u64 (t.n : Int), .int .u64 (t.m : Int), .slice ba t.b.length bc] 39)).alloc (.cells #[.int .i64 t.kind, .int .u64 (t.n : Int), .int .u64 (t.m : Int), .slice ba t.b.length bc] 39)).heap.size = wr.heap.size + 2 := by simp
      generalize ((wr.alloc (.cells #[.int .i64 t.kind, .int .u64 (t.n : Int), .int .u64 (t.m : Int), .slice ba t.b.length bc] 39)).alloc (.cells #[.int .i64 t.kind, .int .u64 (t.n : Int), .int .u64 (t.m : Int), .slice ba t.b.length bc] 39)) = w3 at *
      have HBW := Lib.hid hb3
      have HBY3 := Lib.hid (HBY.out.below (HB.out.trans (hb3.mono hsz)))
      have HVL := Lib.hid (fun k hk => (HV.out.lt k hk).2)
      have HK1 := Lib.hid hk1
      have HK2 := Lib.hid hk2
      have c4 := hk1.cell (i := 3) rfl
      clear c0 c1 c2 c3 hb3 hk1 hk2
      have hbl : t.b.length ≤ 2199023255552 := by omega
      go_wp2_with (at_builtin; refine wpList_append_byt _ rfl (.const (.slice none 0 0)) (.tmp 27) 22 rfl w3.heap.size 5 elemB _ [] rfl (OwnB.nil _ _ _) _ t.b rfl HBY3.out (by simp; omega) (Nat.le_refl _) ?_)
      intro va1 vc1 w4 o1 o2 o3
      have hb4 : Below w3.heap.size w3 w4 := (Below.refl _ _).grown o2 (Nat.le_refl _) (fun k hk => by cases hk)
      have hk2 := HK2.out.below hb4
      have hf2 := hk2.free 3
      have c5 := hk2.cell (i := 3) rfl
      have hs4 := hb4.size
      have HO4 := Lib.hid o1
      have HB4 := Lib.hid hb4
      have HK4 := Lib.hid (hk2.set 3 (.slice va1 t.b.length vc1))
      clear o1 o2 o3 hk2 hb4 c4
      go_upto_region 10 with fail
      have hk5 := HK4.out
      simp only [List.set_cons_succ, List.set_cons_zero] at hk5
      have hk15 := (HK1.out.below HB4.out).other (a := ⟨wr.heap.size + 1, 3, none⟩) (by show wr.heap.size + 1 ≠ wr.heap.size; omega) (.slice va1 t.b.length vc1)
      have ho5 := HO4.out.set1 (a := ⟨wr.heap.size + 1, 3, none⟩) (by show wr.heap.size + 1 < _; omega) (.slice va1 t.b.length vc1)
      have hb5 : Below wr.heap.size wr (w4.setCell ⟨wr.heap.size + 1, 3, none⟩ (.slice va1 t.b.length vc1)) := (HBW.out.trans (HB4.out.mono (by omega))).setCell (by show wr.heap.size ≤ wr.heap.size + 1; omega) _
      have hs5 : (w4.setCell ⟨wr.heap.size + 1, 3, none⟩ (.slice va1 t.b.length vc1)).heap.size = w4.heap.size := by simp [World.setCell]
      generalize (w4.setCell ⟨wr.heap.size + 1, 3, none⟩ (.slice va1 t.b.length vc1)) = w5 at *
      have HW5 := Lib.hid (HW.out.below hb5)
      have HV5 := Lib.hid (HV.out.below hb5)
      have HB5 := Lib.hid (HB.out.trans (hb5.mono hsz))
      have HK5 := Lib.hid hk5
      have HK15 := Lib.hid hk15
      have HO5 := Lib.hid ho5
      have c0 := hk5.cell (i := 0) rfl
      have c1 := hk5.cell (i := 1) rfl
      have c2 := hk5.cell (i := 2) rfl
      have c3 := hk5.cell (i := 3) rfl
      clear hk5 hk15 ho5 hb5 HK4 HK1 HK2 HB4 HO4 HBW HBY3 hf2 c5 HW HV HB
      have hdis : ∀ k, k < w5.heap.size → (wr.heap.size + 2 ≤ k) → ¬ S k := fun k _ h1 h2 => by have := (HS.out k h2).2; omega
      go_wp2_with fail
      refine (write_calls S (fun k => wr.heap.size + 2 ≤ k) w5 q m t (.slice va1 t.b.length vc1) hwf HW5.out (HO5.out.byt.mono (fun k _ h => by have := h.2; omega)) hdis (by omega)).mono ?_
      rintro e w6 ⟨rfl, g1, g2⟩
      have hs6 := g2.size
      have HW6 := Lib.hid g1
      have HF6 := Lib.hid g2
      have hnS : ∀ k, wr.heap.size ≤ k → ¬ S k := fun k h1 h2 => by have := (HS.out k h2).2; omega
      have HK6 := Lib.hid (HK5.out.fr g2 (hnS _ (by omega)))
      have HK16 := Lib.hid (HK15.out.fr g2 (hnS _ (by omega)))
      have HOU := Lib.hid (OwnU.start (g := wr.heap.size + 2) (g2 := w5.heap.size) HO5.out rfl (by omega) (Nat.le_refl _) g2 (fun k h => hnS k (by omega)))
      have HV6 := Lib.hid (HV5.out.fr g2 (fun k hk h => HVS.out k hk h))
      have HB6 := Lib.hid (HB5.out.trans (g2.below (by omega) (fun k h => (HS.out k h).1)))
      have c3 := HK6.out.cell (i := 3) rfl
      clear g1 g2 c0 c1 c2 HK5 HK15 HO5 HW5 HV5 hdis hnS
      go_wp2
      go_loopw [36] (fun i wx => ∃ k : Nat, k ≤ t.b.length ∧ i = .int .i64 k ∧ OwnU (wr.heap.size + 2) w5.heap.size w6 va1 t.b.length wx) (fun i _ => t.b.length - (intOf i).toNat)
      case atStart => exact ⟨0, by omega, rfl, HOU.out⟩
      case round =>
        obtain ⟨k, hk, rfl, hR⟩ := hrel
        have HOW := Lib.hid hR
        have hk6 := HK6.out.fr hR.1 (by omega)
        have c4 := hk6.cell (i := 3) rfl
        by_cases hlk : k < t.b.length
        · obtain ⟨b, rfl, _, _, hcc, hzz⟩ := hR.2.resolve_left (by omega)
          obtain ⟨u, hu⟩ := hcc k hlk
          have hz := hzz k
          have HU := Lib.hid (u8_succ u)
          clear hcc hzz hR hk6
          go_wp2
          go_roundw
          case rel => exact ⟨k + 1, by omega, by go_num, by rw [HU.out]; exact HOW.out.set hlk (u + 1)⟩
          case measure => simp [intOf]; omega
        · obtain rfl : k = t.b.length := by omega
          have hF := hR.1
          have hsr := hF.size
          obtain ⟨S5, hW7, hSB, hSV⟩ : ∃ S5 : Nat → Prop, WriterIs S5 wr q (m ++ tbytes t) ∧ (∀ k, S5 k → w.heap.size ≤ k ∧ k < wr.heap.size) ∧ (∀ k, (Value.slice xa m.length xc).ownBlock = some k → ¬ S5 k) := by
            refine ⟨_, HW6.out.fr hF (fun k hk h1 h2 => ?_), fun k hk => ?_, fun k hk h => ?_⟩
            · rcases h1 with h1 | h1
              · have := (HS.out k h1).2; omega
              · omega
            · rcases hk with hk | hk
              · have := HS.out k hk; omega
              · omega
            · rcases h with h | h
              · exact HVS.out k hk h
              · have := HVL.out k hk; omega
          have HB7 := Lib.hid (HB6.out.trans (hF.below (by omega) (fun k h => by omega)))
          have HV7 := Lib.hid (HV6.out.fr hF (fun k hk h => by have := HVL.out k hk; omega))
          have hk16 := HK16.out.fr hF (by omega)
          have d0 := hk16.cell (i := 0) rfl
          have d1 := hk16.cell (i := 1) rfl
          have d2 := hk16.cell (i := 2) rfl
          have d3 := hk16.cell (i := 3) rfl
          have HW7 := Lib.hid hW7
          have HSB := Lib.hid hSB
          have HSV := Lib.hid hSV
          have hsw := HB7.out.size
          clear hR hF hk6 hk16 hW7 hSB hSV HOW HOU HW6 HV6 HB6 HB5 HK6 HK16 HF6 HS HVS
          go_wp2_with fail
          refine (CodecN.bytes_calls Any wr t (.slice ba t.b.length bc) hwf (HBY.out.below HB7.out) (by omega)).mono ?_
          rintro e w8 ⟨v8, rfl, g1, g2⟩
          have hs8 := g2.size
          have HY8 := Lib.hid g1
          have HW8 := Lib.hid (HW7.out.below g2)
          have HV8 := Lib.hid (HV7.out.below g2)
          have HB8 := Lib.hid (HB7.out.trans (g2.mono hsw))
          clear g1 g2 d0 d1 d2 d3 c4 HW7 HV7 HB7
          go_wp2_with (at_builtin; refine wpList_append_byt _ rfl (.tmp 47) (.tmp 49) 22 rfl w.heap.size 5 elemB _ m rfl HV8.out _ (tbytes t) rfl HY8.out (by omega) (by omega) ?_)
          intro va2 vc2 w9 o1 o2 o3
          have HW9 := Lib.hid (HW8.out.fr (Fr.ofGrown o2) (fun k _ h1 h2 => HSV.out k h2 h1))
          have HB9 := Lib.hid (HB8.out.grown o2 (by omega) (fun k hk => (HV8.out.lt k hk).1))
          have HV9 := Lib.hid o1
          have hs9 := o2.size
          have HSV9 := Lib.hid (show ∀ k, (Value.slice va2 (m.length + (tbytes t).length) vc2).ownBlock = some k → ¬ S5 k from fun k hk h => by
            rcases o3 with o3 | o3
            · rw [o3] at hk; exact HSV.out k hk h
            · rw [o3] at hk; cases hk; have := (HSB.out _ h).2; omega)
          clear o1 o2 o3 HW8 HV8 HB8 HSV
          go_wp2_with fail
          refine (CodecW.len_calls _ w9 q _ HW9.out).mono ?_
          rintro e wz ⟨rfl, rfl⟩
          have hlx : (m ++ tbytes t).length = m.length + (tbytes t).length := List.length_append
          go_wp2
          go_roundw
          case rel => exact ⟨n + 1, m ++ tbytes t, by omega, by go_num, HX.out.symm, S5, HW9.out, fun k hk => by have := HSB.out k hk; omega, HV9.out, HSV9.out, HB9.out⟩
          case measure => simp [intOf]; omega
    · obtain rfl : n = ts.length := by omega
      go_wp2_with fail
      refine (CodecR.bytes_calls _ wr q m HW.out (by omega)).mono ?_
      rintro e w3 ⟨ya, yc, rfl, g1, g2⟩
      have hs3 := g2.size
      have HO3 := Lib.hid g1
      have HW3 := Lib.hid (HW.out.below g2)
      have HV3 := Lib.hid (HV.out.below g2)
      have HB3 := Lib.hid (HB.out.trans (g2.mono hsz))
      have HVL := Lib.hid (fun k hk => (HV.out.lt k hk).2)
      clear g1 g2 HW HV HB
      go_wp2_with fail
      refine (same_calls _ _ w3 _ _ m m HO3.out.byt HV3.out.byt).mono ?_
      rintro e wz ⟨rfl, rfl⟩
      rw [beq_self_eq_true]
      have HOU := Lib.hid (OwnU.start (g := wr.heap.size) (g2 := w3.heap.size) (S := fun _ => False) HO3.out rfl (by omega) (Nat.le_refl _) (Fr.refl _ w3) (fun k _ h => h))
      go_wp2
      go_loopw [64] (fun i wx => ∃ k : Nat, k ≤ m.length ∧ i = .int .i64 k ∧ OwnU wr.heap.size w3.heap.size w3 ya m.length wx) (fun i _ => m.length - (intOf i).toNat)
      case atStart => exact ⟨0, by omega, rfl, HOU.out⟩
      case round =>
        obtain ⟨k, hk, rfl, hR⟩ := hrel
        have HOW := Lib.hid hR
        by_cases hlk : k < m.length
        · obtain ⟨b, rfl, _, _, hcc, hzz⟩ := hR.2.resolve_left (by omega)
          obtain ⟨u, hu⟩ := hcc k hlk
          have hz := hzz k
          have HU := Lib.hid (u8_succ u)
          clear hcc hzz hR
          go_wp2
          go_roundw
          case rel => exact ⟨k + 1, by omega, by go_num, by rw [HU.out]; exact HOW.out.set hlk (u + 1)⟩
          case measure => simp [intOf]; omega
        · obtain rfl : k = m.length := by omega
          have hF := hR.1
          have hsr := hF.size
          have HW4 := Lib.hid (HW3.out.fr hF (fun k hk h1 h2 => by have := (HS.out k h1).2; omega))
          have HV4 := Lib.hid (HV3.out.fr hF (fun k hk h => by have := HVL.out k hk; omega))
          have HB4 := Lib.hid (HB3.out.trans (hF.below (by omega) (fun k h => by omega)))
          clear hF hR HOW HOU HW3 HV3 HB3 HO3
          go_wp2_with fail
          refine (CodecR.bytes_calls _ _ q m HW4.out (by omega)).mono ?_
          rintro e w5 ⟨za, zc, rfl, g1, g2⟩
          have HO5 := Lib.hid g1
          have HV5 := Lib.hid (HV4.out.below g2)
          have HB5 := Lib.hid (HB4.out.trans (g2.mono (by omega)))
          clear g1 g2 HW4 HV4 HB4
          go_wp2_with fail
          refine (same_calls _ _ w5 _ _ m m HO5.out.byt HV5.out.byt).mono ?_
          rintro e wz ⟨rfl, rfl⟩
          rw [beq_self_eq_true]
          go_wp2
          go_ret
          exact ⟨rfl, HB5.out⟩
theorem nine (ts : List Th) : (ts.map (fun t => t.b.length + 9)).sum ≤ 9 * (ts.map (fun t => t.b.length + 1)).sum := by
  induction ts with
  | nil => simp
  | cons t r ih => simp only [List.map_cons, List.sum_cons]; omega
theorem walk (w : World) (va : Value) (ts : List Th) (hA : Things w va ts) (hsum : (ts.map (fun t => t.b.length + 1)).sum + 1 ≤ 1048576) (hn : ts.length + 1 ≤ 1048576) :
    Calls Try.prog 4 #[va] w fun e w' => e = .returned (.bool true) ∧ Below w.heap.size w w' :=
  walk0 w va ts hA (by have := nine ts; omega) (by omega)
end Go.Proofs.Ytodhhejliijdmab.codecWrites
