/- CodecReads: whatever bytes are read, by whatever calls, each one tells what the document says, and where it fails, first. Condition: the text is of at most 2^47 - 4096 bytes. -/
import Derived.Test.YtodhhejliijdmabCodecAsk
import Derived.Test.YtodhhejliijdmabCodecWritesLaw
namespace Go.Proofs.Ytodhhejliijdmab.codecReads
open Go Go.RowKit Mem Codec CodecW CodecR CodecL CodecTh CodecN CodecRef CodecAsk codecWrites
set_option linter.unusedVariables false

theorem u8_flip (c : UInt8) : bits .xor .u8 (c.toNat : Int) 255 = ((c ^^^ 255).toNat : Int) := by
  have h := c.toNat_lt
  show bits .xor .u8 (c.toNat : Int) ((255 : Nat) : Int) = _
  rw [u8_xor_nat _ _ h (by omega), UInt8.toNat_xor]; rfl
theorem start2 {base g g2 : Nat} {w2 w3 : World} {xa : Option Addr} {n c : Nat} {l : List UInt8} (h : OwnB base 5 w2 (.slice xa n c) l) (hn : n = l.length) (hb : g ≤ base) (hg : w2.heap.size ≤ g2) (hf : Below w2.heap.size w2 w3) : OwnU g g2 w3 xa n w3 := by
  refine ⟨Fr.refl _ _, ?_⟩
  by_cases h0 : n = 0
  · exact .inl h0
  · right
    obtain ⟨b, cap, he, h1, h2, _, _, hl, hz⟩ := h.shape (by rintro rfl; simp at hn; exact h0 hn)
    cases he
    have hff := Fr.ofBelow hf
    refine ⟨b, rfl, by omega, by omega, fun i hi => ?_, fun i => ?_⟩
    · have := hl i (by omega)
      rw [Nat.zero_add] at this
      exact ⟨_, hff.cell this (by show ¬ (w2.heap.size ≤ b); omega)⟩
    · rw [hff.frozen h2 (by show ¬ (w2.heap.size ≤ b); omega)]; exact hz i
/-- what the law keeps from thing to thing: the program's reader, the reference's -/
def RRel (w0 : Nat) (w : World) (q p : Nat) (a : Option Addr) (c : Nat) (B : List UInt8) (z : Nat) (e : Int) (wx : World) : Prop :=
  ReaderIs (fun k => w0 ≤ k ∧ k < q) wx q ⟨B.drop z, e⟩ ∧ Blk wx p [.slice a B.length c, .int .i64 (z : Int), .int .i64 e] 44 ∧ Below w.heap.size w wx ∧ z ≤ B.length ∧ p < wx.heap.size

set_option maxHeartbeats 4000000 in
set_option maxRecDepth 100000 in
theorem walk (w : World) (vb : Value) (B : List UInt8) (hB : Byt Any w vb B) (hl : B.length ≤ 140737488351232) (va : Value) (ts : List Th) (hA : Things w va ts) :
    Calls Try.prog 5 #[vb, va] w fun e w' => e = .returned (.bool true) ∧ Below w.heap.size w w' := by
  obtain ⟨a1, a2, rfl, hka, _⟩ := id hA
  obtain ⟨b1, b2, rfl, hkb, _⟩ := id hB
  have hml : ts.length ≤ 9223372036854775807 := Nat.le_trans hka.1 hka.2.1
  have HA := Lib.hid hA
  have HB0 := Lib.hid hB
  clear hA hB
  go_enter Try.func5, Try.ntmps5
  go_wp2_with (at_builtin; refine wpList_append_byt _ rfl (.const (.slice none 0 0)) (.tmp 12) 22 rfl w.heap.size 5 elemB _ [] rfl (OwnB.nil _ _ _) _ B rfl HB0.out (by simp; omega) (Nat.le_refl _) ?_)
  intro va1 vc1 w1 o1 o2 o3
  have hb1 : Below w.heap.size w w1 := (Below.refl _ _).grown o2 (Nat.le_refl _) (fun k hk => by cases hk)
  have hs1 := hb1.size
  have HO1 := Lib.hid o1
  have HB1 := Lib.hid hb1
  clear o1 o2 o3 hb1
  go_wp2_with fail
  refine (CodecR.read_calls _ w1 _ B HO1.out.byt (by omega)).mono ?_
  rintro e w2 ⟨q, rfl, hq, g1, g2⟩
  have hs2 := g2.size
  have hql := g1.lt
  have HR := Lib.hid g1
  have HG2 := Lib.hid g2
  have HB2 := Lib.hid (HB1.out.trans (g2.mono hs1))
  clear g1 g2 HB1
  go_wp2_with fail
  refine (alive_calls w2).mono ?_
  rintro e w3 ⟨rfl, g2⟩
  have hs3 := g2.size
  have HR3 := Lib.hid (HR.out.below g2)
  have HOU := Lib.hid (start2 (g := w.heap.size) (g2 := w1.heap.size) (w3 := w3) HO1.out rfl (Nat.le_refl _) (Nat.le_refl _) (HG2.out.trans (g2.mono hs2)))
  have HB3 := Lib.hid (HB2.out.trans (g2.mono (by omega)))
  clear g2 HR HG2 HO1 HB2
  go_wp2
  go_loopw [24] (fun i wx => ∃ k : Nat, k ≤ B.length ∧ i = .int .i64 k ∧ OwnU w.heap.size w1.heap.size w3 va1 B.length wx) (fun i _ => B.length - (intOf i).toNat)
  case atStart => exact ⟨0, by omega, rfl, HOU.out⟩
  case round =>
    obtain ⟨k, hk, rfl, hR⟩ := hrel
    have HOW := Lib.hid hR
    by_cases hlk : k < B.length
    · obtain ⟨b, rfl, _, _, hcc, hzz⟩ := hR.2.resolve_left (by omega)
      obtain ⟨u, hu⟩ := hcc k hlk
      have hz := hzz k
      have HU := Lib.hid (u8_flip u)
      clear hcc hzz hR
      go_wp2
      go_roundw
      case rel => exact ⟨k + 1, by omega, by go_num, by rw [HU.out]; exact HOW.out.set hlk (u ^^^ 255)⟩
      case measure => simp [intOf]; omega
    · obtain rfl : k = B.length := by omega
      have hF := hR.1
      have hsr := hF.size
      have HR4 := Lib.hid (HR3.out.fr hF (by omega) (fun k hk h1 h2 => by omega))
      have HB4 := Lib.hid (HB3.out.trans (hF.below (by omega) (fun k h => by omega)))
      clear hF hR HOW HOU HR3 HB3
      have hsw := HB4.out.size
      have HP := Lib.hid (show RRel w1.heap.size w q wr.heap.size b1 b2 B 0 0 (wr.alloc (.cells [.slice b1 B.length b2, .int .i64 0, .int .i64 0].toArray 44)) from
        ⟨HR4.out.below ((Below.refl _ _).alloc (Nat.le_refl _) _), Blk.new _ _ _ _ rfl, HB4.out.alloc hsw _, Nat.zero_le _, by simp⟩)
      go_upto_region 11 with fail
      generalize (wr.alloc (.cells [.slice b1 B.length b2, .int .i64 0, .int .i64 0].toArray 44)) = w5 at *
      obtain ⟨p, hp⟩ : ∃ p, wr.heap.size = p := ⟨_, rfl⟩
      rw [hp] at HP hsr hsw ⊢
      clear hp HR4 HB4
      have hpq : q < p := by omega
      go_wp2
      go_loopw [38] (fun i wx => ∃ (n z : Nat) (e : Int), n ≤ ts.length ∧ i = .int .i64 n ∧ RRel w1.heap.size w q p b1 b2 B z e wx) (fun i _ => ts.length - (intOf i).toNat)
      case atStart => exact ⟨0, 0, 0, Nat.zero_le _, rfl, HP.out⟩
      case round =>
        obtain ⟨n, z, e, hn, rfl, hR, hblk, hbel, hz, hpx⟩ := hrel
        have hsx := hbel.size
        by_cases hlt : n < ts.length
        · obtain ⟨pb, po, rfl, hth⟩ := HA.out.at n hlt
          generalize ts[n] = t at *
          obtain ⟨hwf, d0, d1, d2, bv, d3, hby⟩ := hth
          obtain ⟨ba, bc, rfl, _⟩ := id hby
          have kB : ∀ o, wr.cell? ⟨pb, o, none⟩ = w.cell? ⟨pb, o, none⟩ := fun o => World.cell?_of_block (w := w) (hbel.block pb (World.block_lt_of_cell? w _ d0))
          have c0 := (kB _).trans d0
          have c1 := (kB _).trans d1
          have c2 := (kB _).trans d2
          have c3 := (kB _).trans d3
          have hal : Below wr.heap.size wr (wr.alloc (.cells [.int .i64 t.kind, .int .u64 (t.n : Int), .int .u64 (t.m : Int), .slice ba t.b.length bc].toArray 39)) := (Below.refl _ _).alloc (Nat.le_refl _) _
          have hblk2 := hblk.below hal
          have k0 := hblk2.cell (i := 0) rfl
          have k1 := hblk2.cell (i := 1) rfl
          have k2 := hblk2.cell (i := 2) rfl
          have HR6 := Lib.hid (hR.below hal)
          have HK6 := Lib.hid hblk2
          have HB6 := Lib.hid (hbel.trans (hal.mono hsx))
          have tn : Blk (wr.alloc (.cells [.int .i64 t.kind, .int .u64 (t.n : Int), .int .u64 (t.m : Int), .slice ba t.b.length bc].toArray 39)) wr.heap.size [.int .i64 t.kind, .int .u64 (t.n : Int), .int .u64 (t.m : Int), .slice ba t.b.length bc] 39 := Blk.new _ _ _ _ rfl
          have t0 := tn.cell (i := 0) rfl
          have t1 := tn.cell (i := 1) rfl
          have t2 := tn.cell (i := 2) rfl
          have t3 := tn.cell (i := 3) rfl
          have hs6 := hal.size
          clear hby d0 d1 d2 d3 kB hal hblk hblk2 hR hbel tn
          go_upto_region 15 with fail
          generalize (wr.alloc (.cells [.int .i64 t.kind, .int .u64 (t.n : Int), .int .u64 (t.m : Int), .slice ba t.b.length bc].toArray 39)) = w6 at *
          clear c0 c1 c2 c3
          go_wp2_with fail
          refine (asked_calls _ w6 q b1 b2 B z e t (.slice ba t.b.length bc) hwf HR6.out ((HB0.out.under HB6.out (Nat.le_refl _)).mono (fun k _ h => by omega)) hz (by omega)).mono ?_
          rintro x w8 ⟨rfl, g1, g2⟩
          have hsuf := suf_at (step_suf (⟨B.drop z, e⟩ : Rd) t) hz
          obtain ⟨s, hs⟩ : ∃ s, CodecAsk.step (⟨B.drop z, e⟩ : Rd) t = s := ⟨_, rfl⟩
          rw [hs] at hsuf g1 ⊢
          obtain ⟨l2, e2⟩ := s
          dsimp only at hsuf g1 ⊢
          obtain ⟨z2, hz2⟩ : ∃ z2, B.length - l2.length = z2 := ⟨_, rfl⟩
          rw [hz2] at hsuf ⊢
          have hs8 := g2.size
          have hk8 := HK6.out.fr g2 (by omega)
          have k0 := hk8.cell (i := 0) rfl
          have k1 := hk8.cell (i := 1) rfl
          have k2 := hk8.cell (i := 2) rfl
          have f0 := hk8.free
          have hfs : Fr (fun k => k = p) w8 (((w8.setCell ⟨p, 0, none⟩ (.slice b1 B.length b2)).setCell ⟨p, 1, none⟩ (.int .i64 (z2 : Int))).setCell ⟨p, 2, none⟩ (.int .i64 e2)) := (((Fr.refl (fun k => k = p) w8).setCell (p := ⟨p, 0, none⟩) (.inr rfl) _).setCell (p := ⟨p, 1, none⟩) (.inr rfl) _).setCell (p := ⟨p, 2, none⟩) (.inr rfl) _
          have HP9 := Lib.hid (show RRel w1.heap.size w q p b1 b2 B z2 e2 (((w8.setCell ⟨p, 0, none⟩ (.slice b1 B.length b2)).setCell ⟨p, 1, none⟩ (.int .i64 (z2 : Int))).setCell ⟨p, 2, none⟩ (.int .i64 e2)) from
            ⟨by rw [← hsuf.1]; exact g1.fr hfs (by omega) (fun k _ h1 h2 => by omega), Blk.set3 hk8 _ _ _, HB6.out.trans ((g2.below (by omega) (fun k h => by omega)).trans (hfs.below (by omega) (fun k h => by omega))), hsuf.2.1, by have := hfs.size; omega⟩)
          clear g1 g2 hk8 hfs hsuf hs t0 t1 t2 t3
          go_wp2
          go_roundw
          case rel => exact ⟨n + 1, z2, e2, by omega, by go_num, HP9.out⟩
          case measure => simp [intOf]; omega
        · obtain rfl : n = ts.length := by omega
          have hz1 : (⟨B.drop z, e⟩ : Rd) = ⟨B.drop z, e⟩ := rfl
          have HR := Lib.hid hR
          have HK := Lib.hid hblk
          have HBL := Lib.hid hbel
          have k0 := hblk.cell (i := 0) rfl
          have k1 := hblk.cell (i := 1) rfl
          have k2 := hblk.cell (i := 2) rfl
          have HEND := Lib.hid (fun w' (hw : Below wr.heap.size wr w') => CodecR.end_calls (fun k => w1.heap.size ≤ k ∧ k < q) w' q ⟨B.drop z, e⟩ (hR.below hw))
          have HREF := Lib.hid (show ∀ w', Below wr.heap.size wr w' → Calls Try.prog 24 #[rv b1 B.length b2 z e] w' fun x w'' => x = .returned (.int .i64 (Rd.fin ⟨B.drop z, e⟩)) ∧ w''.cell? ⟨p, 0, none⟩ = some (.slice b1 B.length b2) ∧ w''.cell? ⟨p, 1, none⟩ = some (.int .i64 (z : Int)) ∧ w''.cell? ⟨p, 2, none⟩ = some (.int .i64 e) ∧ Below wr.heap.size wr w'' from
            fun w' hw => (CodecRef.end_calls w' b1 b2 B z e hz).mono fun x w'' h => by
              have hb := hw.trans (h.2.mono hw.size)
              have hk := hblk.below hb
              exact ⟨h.1, hk.cell (i := 0) rfl, hk.cell (i := 1) rfl, hk.cell (i := 2) rfl, hb⟩)
          generalize Rd.fin ⟨B.drop z, e⟩ = fv at *
          clear hR hblk
          go_wp2_with fail
          go_region_held3 (fun w' => w'.cell? ⟨p, 0, none⟩ = some (.slice b1 B.length b2) ∧ w'.cell? ⟨p, 1, none⟩ = some (.int .i64 (z : Int)) ∧ w'.cell? ⟨p, 2, none⟩ = some (.int .i64 e) ∧ Below wr.heap.size wr w')
            (first | exact ⟨by assumption, by assumption, by assumption, by first | assumption | exact (Below.refl _ _).drew⟩)
            (first
              | (go_at_call 23; refine (HEND.out _ (by first | assumption | exact (Below.refl _ _).drew)).mono ?_; rintro x wv ⟨rfl, rfl⟩)
              | (go_at_call 24; refine (HREF.out _ (by first | assumption | exact (Below.refl _ _).drew)).mono ?_; rintro x wv ⟨rfl, q1, q2, q3, q4⟩))
          go_wp2
          go_ret
          exact ⟨rfl, HBL.out.trans (q4.mono hsx)⟩
end Go.Proofs.Ytodhhejliijdmab.codecReads
