/- Walks of SHA-256's Hash: New, Write, Sum, Len, Clone, Of. Conditions: the texts together are shorter than 2^50 bytes. -/
import Derived.Test.YtmenchnjajpkmaaDoorShaA
import Derived.Deep.DeepCutAuto
import Derived.Deep.CutBlock
namespace Go.Proofs.YtmenchnjajpkmaaDoor.ShaW
open Go Go.RowKit Mem Sha

theorem elemB : ElemT Tryd.prog 56 5 (.int .u8 0) 1 1 :=
  ⟨Tryd.underlying56, ⟨_, (info_parts (P := Tryd.prog) (e := 5) (z := .int .u8 0) (size := 1) (bytes := 1) (by kernel_rfl)).choose_spec⟩, rfl, by decide⟩

/-- the object: at block h, its blocks in S -/
def HashRaw (S : Nat → Prop) (w : World) (h : Nat) (st : St) (rest : List UInt8) (n : Nat) : Prop :=
  S h ∧ ∃ rv, Blk w h (st.l.map word ++ [rv, .int .i64 (n : Int)]) 92 ∧ OwnB 0 5 w rv rest ∧ ∀ k, rv.ownBlock = some k → S k ∧ k ≠ h
def HashIs (S : Nat → Prop) (w : World) (h : Nat) (l : List UInt8) : Prop := HashRaw S w h (feed ini l) (left l) l.length
theorem HashRaw.fr {S T : Nat → Prop} {w w' : World} {h : Nat} {st : St} {rest : List UInt8} {n : Nat} (H : HashRaw S w h st rest n) (hf : Fr T w w') (hn : ∀ k, k < w.heap.size → S k → ¬ T k) : HashRaw S w' h st rest n := by
  obtain ⟨h1, rv, h2, h3, h4⟩ := H
  exact ⟨h1, rv, h2.fr hf (hn h h2.lt h1), h3.fr hf (fun k hk => hn k (h3.lt k hk).2 (h4 k hk).1), h4⟩
theorem HashRaw.mono {S T : Nat → Prop} {w : World} {h : Nat} {st : St} {rest : List UInt8} {n : Nat} (H : HashRaw S w h st rest n) (hn : ∀ k, k < w.heap.size → S k → T k) : HashRaw T w h st rest n := by
  obtain ⟨h1, rv, h2, h3, h4⟩ := H
  exact ⟨hn h h2.lt h1, rv, h2, h3, fun k hk => ⟨hn k (h3.lt k hk).2 (h4 k hk).1, (h4 k hk).2⟩⟩
/-- the blocks of S, and those that were made between two worlds -/
def Plus (S : Nat → Prop) (w w' : World) : Nat → Prop := fun k => S k ∨ (w.heap.size ≤ k ∧ k < w'.heap.size)

theorem HashRaw.drew {S : Nat → Prop} {w : World} {h : Nat} {st : St} {rest : List UInt8} {n : Nat} (H : HashRaw S w h st rest n) : HashRaw S w.drew h st rest n := H
theorem HashRaw.opened {S : Nat → Prop} {w : World} {h : Nat} {st : St} {rest : List UInt8} {n : Nat} (H : HashRaw S w h st rest n) :
    ∃ ra rc, Blk w h (st.l.map word ++ [.slice ra rest.length rc, .int .i64 (n : Int)]) 92 ∧ OwnB 0 5 w (.slice ra rest.length rc) rest ∧ (∀ k, (Value.slice ra rest.length rc).ownBlock = some k → S k ∧ k ≠ h) ∧ S h ∧
      w.cell? ⟨h, 8, none⟩ = some (.slice ra rest.length rc) ∧ w.cell? ⟨h, 9, none⟩ = some (.int .i64 (n : Int)) ∧ (∀ j, w.frozen? ⟨h, j, none⟩ = false) ∧ h < w.heap.size := by
  obtain ⟨h1, rv, h2, h3, h4⟩ := H
  obtain ⟨ra, rc, rfl, _⟩ := id h3.byt
  exact ⟨ra, rc, h2, h3, h4, h1, h2.cell rfl, h2.cell rfl, h2.free, h2.lt⟩
/-- behind 'h.rest = append(h.rest, ..)' -/
theorem HashRaw.appended {S : Nat → Prop} {w w2 : World} {h : Nat} {st : St} {rest r2 : List UInt8} {n : Nat} (H : HashRaw S w h st rest n) {rv v2 : Value} (hrv : w.cell? ⟨h, 8, none⟩ = some rv)
    (o1 : OwnB 0 5 w2 v2 r2) (o2 : w.grownBy w2 rv.ownBlock) (o3 : v2.ownBlock = rv.ownBlock ∨ v2.ownBlock = some w.heap.size) :
    HashRaw (Plus S w (w2.setCell ⟨h, 8, none⟩ v2)) (w2.setCell ⟨h, 8, none⟩ v2) h st r2 n ∧ Fr S w (w2.setCell ⟨h, 8, none⟩ v2) ∧ w2.cell? ⟨h, 8, none⟩ = some rv ∧ w2.frozen? ⟨h, 8, none⟩ = false := by
  obtain ⟨h1, rv', h2, h3, h4⟩ := H
  obtain rfl : rv' = rv := by
    have := h2.cell (i := 8) (v := rv') rfl
    rw [hrv] at this; exact (Option.some.inj this).symm
  have hg := Fr.ofGrown o2
  have hne : ¬ rv'.ownBlock = some h := fun e => (h4 h e).2 rfl
  have hb2 := h2.fr hg hne
  have hv2 : ∀ k, v2.ownBlock = some k → Plus S w (w2.setCell ⟨h, 8, none⟩ v2) k ∧ k ≠ h := by
    intro k hk
    rcases o3 with o3 | o3
    · rw [o3] at hk; exact ⟨.inl (h4 k hk).1, (h4 k hk).2⟩
    · have hlt := (o1.lt k hk).2
      rw [o3] at hk
      simp only [Option.some.injEq] at hk; subst hk
      have := h2.lt
      exact ⟨.inr ⟨Nat.le_refl _, by simpa using hlt⟩, by omega⟩
  refine ⟨⟨.inl h1, v2, hb2.set 8 v2, ?_, hv2⟩, ?_, hb2.cell rfl, hb2.free 8⟩
  · exact o1.fr (S := fun k => k = h) (Fr.setCell (S := fun k => k = h) (p := ⟨h, 8, none⟩) (Fr.refl _ w2) (.inr rfl) v2) (fun k hk => (hv2 k hk).2)
  · exact Fr.setCell (S := S) (p := ⟨h, 8, none⟩) (hg.mono fun k _ e => (h4 k e).1) (.inr h1) v2
/-- behind a store of a state -/
theorem HashRaw.turned {S : Nat → Prop} {w : World} {h : Nat} {st : St} {rest : List UInt8} {n : Nat} (H : HashRaw S w h st rest n) (s2 : St) :
    HashRaw S ((((((((w.setCell ⟨h, 0, none⟩ (word s2.a)).setCell ⟨h, 1, none⟩ (word s2.b)).setCell ⟨h, 2, none⟩ (word s2.c)).setCell ⟨h, 3, none⟩ (word s2.d)).setCell ⟨h, 4, none⟩ (word s2.e)).setCell ⟨h, 5, none⟩ (word s2.f)).setCell ⟨h, 6, none⟩ (word s2.g)).setCell ⟨h, 7, none⟩ (word s2.h)) h s2 rest n ∧
    Fr S w ((((((((w.setCell ⟨h, 0, none⟩ (word s2.a)).setCell ⟨h, 1, none⟩ (word s2.b)).setCell ⟨h, 2, none⟩ (word s2.c)).setCell ⟨h, 3, none⟩ (word s2.d)).setCell ⟨h, 4, none⟩ (word s2.e)).setCell ⟨h, 5, none⟩ (word s2.f)).setCell ⟨h, 6, none⟩ (word s2.g)).setCell ⟨h, 7, none⟩ (word s2.h)) := by
  obtain ⟨h1, rv, h2, h3, h4⟩ := H
  have fr : ∀ {T : Nat → Prop} (_ : T h), Fr T w ((((((((w.setCell ⟨h, 0, none⟩ (word s2.a)).setCell ⟨h, 1, none⟩ (word s2.b)).setCell ⟨h, 2, none⟩ (word s2.c)).setCell ⟨h, 3, none⟩ (word s2.d)).setCell ⟨h, 4, none⟩ (word s2.e)).setCell ⟨h, 5, none⟩ (word s2.f)).setCell ⟨h, 6, none⟩ (word s2.g)).setCell ⟨h, 7, none⟩ (word s2.h)) := by
    intro T ht
    iterate 8 (refine Fr.setCell ?_ (.inr ht) _)
    exact Fr.refl _ _
  refine ⟨⟨h1, rv, ?_, h3.fr (S := fun k => k = h) (fr rfl) (fun k hk => (h4 k hk).2), h4⟩, fr h1⟩
  exact (((((((h2.set 0 (word s2.a)).set 1 (word s2.b)).set 2 (word s2.c)).set 3 (word s2.d)).set 4 (word s2.e)).set 5 (word s2.f)).set 6 (word s2.g)).set 7 (word s2.h)
theorem HashRaw.cells {S : Nat → Prop} {w : World} {h : Nat} {st : St} {rest : List UInt8} {n : Nat} (H : HashRaw S w h st rest n) :
    w.cell? ⟨h, 0, none⟩ = some (.int .u32 (st.a.toNat : Int)) ∧ w.cell? ⟨h, 1, none⟩ = some (.int .u32 (st.b.toNat : Int)) ∧ w.cell? ⟨h, 2, none⟩ = some (.int .u32 (st.c.toNat : Int)) ∧ w.cell? ⟨h, 3, none⟩ = some (.int .u32 (st.d.toNat : Int)) ∧
    w.cell? ⟨h, 4, none⟩ = some (.int .u32 (st.e.toNat : Int)) ∧ w.cell? ⟨h, 5, none⟩ = some (.int .u32 (st.f.toNat : Int)) ∧ w.cell? ⟨h, 6, none⟩ = some (.int .u32 (st.g.toNat : Int)) ∧ w.cell? ⟨h, 7, none⟩ = some (.int .u32 (st.h.toNat : Int)) := by
  obtain ⟨h1, rv, h2, h3, h4⟩ := H
  exact ⟨h2.cell rfl, h2.cell rfl, h2.cell rfl, h2.cell rfl, h2.cell rfl, h2.cell rfl, h2.cell rfl, h2.cell rfl⟩
theorem Plus.trans {S : Nat → Prop} {a b c : World} (h1 : a.heap.size ≤ b.heap.size) (h2 : b.heap.size ≤ c.heap.size) (k : Nat) (h : Plus (Plus S a b) b c k) : Plus S a c k := by
  rcases h with (h | h) | h
  · exact .inl h
  · exact .inr ⟨h.1, by omega⟩
  · exact .inr ⟨by omega, h.2⟩
theorem Plus.fr {S : Nat → Prop} {a b c : World} (h1 : Fr S a b) (h2 : Fr (Plus S a b) b c) : Fr S a c :=
  h1.trans' h2 (fun i hi h => by rcases h with h | h; exact h; omega)

abbrev set8 (w : World) (h : Nat) (s2 : St) : World :=
  (((((((w.setCell ⟨h, 0, none⟩ (word s2.a)).setCell ⟨h, 1, none⟩ (word s2.b)).setCell ⟨h, 2, none⟩ (word s2.c)).setCell ⟨h, 3, none⟩ (word s2.d)).setCell ⟨h, 4, none⟩ (word s2.e)).setCell ⟨h, 5, none⟩ (word s2.f)).setCell ⟨h, 6, none⟩ (word s2.g)).setCell ⟨h, 7, none⟩ (word s2.h)
/-- behind 'h.rest = nil' -/
theorem HashRaw.cleared {S : Nat → Prop} {w : World} {h : Nat} {st : St} {rest : List UInt8} {n : Nat} (H : HashRaw S w h st rest n) :
    HashRaw S (w.setCell ⟨h, 8, none⟩ (.slice none 0 0)) h st [] n ∧ Fr S w (w.setCell ⟨h, 8, none⟩ (.slice none 0 0)) := by
  obtain ⟨h1, rv, h2, h3, h4⟩ := H
  exact ⟨⟨h1, .slice none 0 0, h2.set 8 _, OwnB.nil _ _ _, fun k hk => by cases hk⟩, Fr.setCell (S := S) (p := ⟨h, 8, none⟩) (Fr.refl _ w) (.inr h1) _⟩
/-- behind 'h.s = h.s.mixed(..)' -/
theorem HashRaw.mixes {S : Nat → Prop} {w wc w5 : World} {q : Nat} {st : St} {rest : List UInt8} {N : Nat} (F : Fr S w wc) (H : HashRaw (Plus S w wc) wc q st rest N) (hb : Below wc.drew.heap.size wc.drew w5) (r : St) :
    HashRaw (Plus S w (set8 w5 q r)) (set8 w5 q r) q r rest N ∧ Fr S w (set8 w5 q r) ∧ Fr (Plus S w wc) wc (set8 w5 q r) := by
  have H5 := H.drew.fr (Fr.ofBelow hb) (fun k h1 _ h2 => by omega)
  obtain ⟨t1, t2⟩ := H5.turned r
  have hz : wc.heap.size ≤ w5.heap.size := hb.size
  have hz2 : (set8 w5 q r).heap.size = w5.heap.size := by simp
  have hf2 : Fr (Plus S w wc) wc (set8 w5 q r) := ((Fr.refl _ wc).drew.trans (Fr.ofBelowAll hb (Nat.le_refl _))).trans t2
  refine ⟨t1.mono ?_, Plus.fr F hf2, hf2⟩
  intro k _ hp
  rcases hp with hp | hp
  · exact .inl hp
  · exact .inr ⟨hp.1, by omega⟩

theorem mixed8 (s : St) (v : Value) (l : List UInt8) (w : World) {D : Nat → Prop} (hB : Byt D w v l) (hl : l.length = 64) (hT : TabB w 1) :
    Calls Tryd.prog 45 #[.agg #[.int .u32 (s.a.toNat : Int), .int .u32 (s.b.toNat : Int), .int .u32 (s.c.toNat : Int), .int .u32 (s.d.toNat : Int), .int .u32 (s.e.toNat : Int), .int .u32 (s.f.toNat : Int), .int .u32 (s.g.toNat : Int), .int .u32 (s.h.toNat : Int)], v] w
      fun e w' => (∃ r, r = mixed s l ∧ e = .returned (.agg #[.int .u32 (r.a.toNat : Int), .int .u32 (r.b.toNat : Int), .int .u32 (r.c.toNat : Int), .int .u32 (r.d.toNat : Int), .int .u32 (r.e.toNat : Int), .int .u32 (r.f.toNat : Int), .int .u32 (r.g.toNat : Int), .int .u32 (r.h.toNat : Int)])) ∧ Below w.heap.size w w' :=
  (mixed_calls s v l w hB hl hT).mono fun _ _ h => ⟨⟨_, rfl, h.1⟩, h.2⟩

theorem begun_calls (w : World) :
    Calls Tryd.prog 44 #[] w fun e w' => e = .returned (.agg (ini.l.map word).toArray) ∧ Below w.heap.size w w' := by
  go_enter Tryd.func44, Tryd.ntmps44
  go_wp2
  exact bodyPost_ret (v := .agg (ini.l.map word).toArray) (by simp [results, Tryd.results44, go_sem]; rfl) rfl ⟨rfl, (Below.refl _ _).alloc (Nat.le_refl _) _⟩

theorem new_calls (w : World) :
    Calls Tryd.prog 37 #[] w fun e w' => ∃ h, e = .returned (.pointer (some ⟨h, 0, none⟩)) ∧ w.heap.size ≤ h ∧ HashIs (fun k => k = h) w' h [] ∧ Below w.heap.size w w' := by
  go_enter Tryd.func37, Tryd.ntmps37
  go_wp2_with fail
  refine (begun_calls w).mono ?_
  rintro e w1 ⟨rfl, hb⟩
  go_wp2
  go_ret
  refine ⟨w1.heap.size, rfl, hb.size, ⟨rfl, .slice none 0 0, ?_, OwnB.cast (OwnB.nil _ _ _) ?_, fun k hk => by cases hk⟩, hb.alloc hb.size _⟩
  · exact Blk.new _ _ _ _ (by rw [feed_short _ _ (by simp)]; rfl)
  · rw [left_short _ (by simp)]

/-- what the ways through Write keep -/
def WRel (S D : Nat → Prop) (w : World) (q : Nat) (F : St) (Lf : List UInt8) (N nb : Nat) (v : Value) (wx : World) : Prop :=
  ∃ (st : St) (bs : List UInt8), HashRaw (Plus S w wx) wx q st [] N ∧ Byt (fun k => k < w.heap.size ∧ D k) wx v bs ∧ feed st bs = F ∧ left bs = Lf ∧ bs.length ≤ nb ∧ Fr S w wx
def slen : Value → Nat | .slice _ n _ => n | _ => 0

set_option maxHeartbeats 4000000 in
set_option maxRecDepth 100000 in
theorem write_calls (S D : Nat → Prop) (w : World) (q : Nat) (l : List UInt8) (v : Value) (b : List UInt8) (H : HashIs S w q l) (hB : Byt D w v b) (hD : ∀ k, k < w.heap.size → D k → ¬ S k)
    (hlen : l.length + b.length ≤ 1125899906842624) (hT : TabB w 1) (hTS : ¬ S 1) :
    Calls Tryd.prog 38 #[.pointer (some ⟨q, 0, none⟩), v] w fun e w' => e = .returned (.tuple #[]) ∧ HashIs (Plus S w w') w' q (l ++ b) ∧ Fr S w w' := by
  obtain ⟨hS, rv, hblk, hown, hown2⟩ := H
  obtain ⟨ra, rc, rfl, hrk, hrx⟩ := id hown.byt
  clear hrx
  obtain ⟨a, c, rfl, hk, hby⟩ := id hB
  have hn := hblk.cell (i := 9) (v := .int .i64 (l.length : Int)) rfl
  have hr := hblk.cell (i := 8) (v := .slice ra (left l).length rc) rfl
  have hfz := hblk.free
  have hb9 := hblk.set 9 (.int .i64 ((l.length + b.length : Nat) : Int))
  have hf9 : Fr S w (w.setCell ⟨q, 9, none⟩ (.int .i64 ((l.length + b.length : Nat) : Int))) := (Fr.refl S w).setCell (.inr hS) _
  have hraw : HashRaw S (w.setCell ⟨q, 9, none⟩ (.int .i64 ((l.length + b.length : Nat) : Int))) q (feed ini l) (left l) (l.length + b.length) :=
    ⟨hS, _, hb9, hown.fr (S := fun k => k = q) (Fr.setCell (S := fun k => k = q) (p := ⟨q, 9, none⟩) (Fr.refl (fun k => k = q) w) (.inr rfl) _) (fun k hk => (hown2 k hk).2), hown2⟩
  have hBD := hB.lt
  have hDS : ∀ k, (k < w.heap.size ∧ D k) → ¬ S k := fun k hk => hD k hk.1 hk.2
  clear hD
  have hr1 : (w.setCell ⟨q, 9, none⟩ (.int .i64 ((l.length + b.length : Nat) : Int))).cell? ⟨q, 8, none⟩ = some (.slice ra (left l).length rc) :=
    (World.cell?_setCell_other _ _ _ _ (by intro e; injection e with _ e2 _; omega)).trans hr
  have hll := left_lt l
  have HH := Lib.hid hraw
  have HF := Lib.hid hf9
  clear hb9 hraw hf9 hblk hown hown2 hby
  go_enter Tryd.func38, Tryd.ntmps38
  go_upto_if 19 with fail
  rw [← Int.natCast_add]
  generalize w.setCell ⟨q, 9, none⟩ (.int .i64 ((l.length + b.length : Nat) : Int)) = w1 at *
  go_cut [1] (fun s1 wx => WRel S D w q (feed (feed ini l) (left l ++ b)) (left (left l ++ b)) (l.length + b.length) b.length s1 wx)
  case first =>
    by_cases h0 : 0 < (left l).length
    · rw [decide_eq_true h0]
      obtain ⟨n, hn⟩ : ∃ n, n = min b.length (64 - (left l).length) := ⟨_, rfl⟩
      have hn1 : n ≤ b.length := by omega
      have hn2 : n ≤ 64 - (left l).length := by omega
      have hn3 : n = b.length ∨ n = 64 - (left l).length := by omega
      have HN := Lib.hid hn
      clear hn
      go_upto_region 2 with fail
      go_cut [4] (fun s4 wx => s4 = .int .i64 (n : Int) ∧ w1 = wx)
      case first =>
        go_wp2
        all_goals go_meet
        case rel => exact ⟨by rw [HN.out]; congr 1; omega, rfl⟩
        case rel => exact ⟨by rw [HN.out]; congr 1; omega, rfl⟩
      case rest =>
        obtain ⟨rfl, rfl⟩ := hcut
        obtain ⟨sa, scap, hs2, hs3⟩ := run_slice_hi elemB hBD n hn1
        obtain ⟨sb, sbc, ht2, ht3⟩ := run_slice_lo elemB hBD n hn1
        have hnl : (b.take n).length = n := by simp; omega
        have hs3 := hs3.fr HF.out (fun k _ hk => hDS k hk)
        have HNL := Lib.hid hnl
        clear hnl
        obtain ⟨ra', rc', _, ho, ho2, _, hr8, _, hfz1, hqlt⟩ := HH.out.opened
        rw [hr1] at hr8
        obtain ⟨rfl, rfl⟩ : ra = ra' ∧ rc = rc' := by simpa using hr8
        have HO := Lib.hid ho
        clear ho ho2 hr8
        go_upto_region 3 with fail
        go_cut [4] (fun s4 wx => s4 = .int .i64 (n : Int) ∧ HashRaw (Plus S w1 wx) wx q (feed ini l) (left l ++ b.take n) (l.length + b.length) ∧ Fr S w1 wx)
        case first =>
          go_region_law ((refine step_append_byt rfl (.tmp 33) (.tmp 36) 56 rfl 0 5 elemB _ (left l) (by simp [Act.eval]) HO.out.drew _ _ (by simp [Act.eval]) hs3.drew (by simp; omega) (Nat.zero_le _) ?_; intro va vc w2 o1 o2 o3; rw [HNL.out] at o1 o3 ⊢; obtain ⟨p1, p2, p3, p4⟩ := HH.out.drew.appended hr1 o1 o2 o3; have P1 := Lib.hid p1; have P2 := Lib.hid p2; clear p1 p2))
          go_wp2_with fail
          go_meet
          case rel =>
            exact ⟨rfl, P1.out, (Fr.refl S w1).drew.trans P2.out⟩
        case rest =>
          obtain ⟨rfl, hH2, hF2⟩ := hcut
          have hE := feed_app (feed ini l) (left l) b
          have hF3 : Fr S w wc := HF.out.trans hF2
          have hlen2 : (left l ++ b.take n).length = (left l).length + n := by simp; omega
          generalize hr2 : left l ++ b.take n = r2 at hH2 hlen2
          have hHp : HashRaw (Plus S w wc) wc q (feed ini l) r2 (l.length + b.length) := hH2.mono fun k hk hp => by
            rcases hp with hp | hp
            · exact .inl hp
            · exact .inr ⟨by have := HF.out.size; omega, hp.2⟩
          obtain ⟨ra2, rc2, _, ho2, hs22, hS2, hr82, hr92, hfz2, hqlt2⟩ := hHp.opened
          obtain ⟨g0, g1, g2, g3, g4, g5, g6, g7⟩ := hHp.cells
          have hby2 := ho2.byt
          have HL2 := Lib.hid hlen2
          have HE := Lib.hid hr2
          have HF4 := Lib.hid hF3
          have HHp := Lib.hid hHp
          have HO2 := Lib.hid hby2
          by_cases h64 : r2.length < 64
          · have hres : HashIs (Plus S w wc) wc q (l ++ b) := by
              have hnb : n = b.length := by omega
              subst hnb
              rw [List.take_length] at hr2
              unfold HashIs
              rw [feed_app, left_app, hr2, feed_short _ _ h64, left_short _ h64, List.length_append]
              exact hHp
            have HR := Lib.hid hres
            clear hlen2 hr2 hF3 hF2 hH2 hHp hby2 ho2 hE hres HE HHp HO2
            go_wp2
            exact bodyPost_ret (v := .tuple #[]) (by simp [results, Tryd.results38, go_sem]) rfl ⟨rfl, HR.out, HF4.out⟩
          · have h64' : 64 ≤ r2.length := by omega
            clear hlen2 hr2 hF3 hF2 hH2 hHp hby2 ho2
            have hr64 : r2.length = 64 := by have := HL2.out; omega
            have HR64 := Lib.hid hr64
            clear hr64
            have hTw : TabB wc 1 := hT.fr HF4.out hTS
            have HTw := Lib.hid hTw
            clear hTw
            go_upto_region 6 with fail
            go_cut [1] (fun s1 wx => s1 = .slice sb (b.length - n) sbc ∧ HashRaw (Plus S w wx) wx q (mixed (feed ini l) r2) r2 (l.length + b.length) ∧ Fr S w wx)
            case first =>
              go_region_law ((go_simp; go_at_call 45; refine (mixed8 _ _ r2 _ HO2.out.drew HR64.out HTw.out).mono ?_; rintro e w5 ⟨⟨r, hr, rfl⟩, hbw⟩; have HQ := Lib.hid (HHp.out.drew.fr (Fr.ofBelow hbw) (fun k h1 _ h2 => by omega)); have HBW := Lib.hid hbw; have HRR := Lib.hid hr; clear hbw hr; obtain ⟨k0, k1, k2, k3, k4, k5, k6, k7⟩ := HQ.out.cells; have kf := (HQ.out.opened.choose_spec.choose_spec.2.2.2.2.2.2.1)))
              all_goals go_wp2_with fail
              all_goals go_meet
              all_goals (obtain ⟨t1, t2, _⟩ := HHp.out.mixes HF4.out HBW.out r; rw [← HRR.out]; exact ⟨rfl, t1, t2⟩)
            case rest =>
              obtain ⟨rfl, hH6, hF6⟩ := hcut
              obtain ⟨ra6, rc6, hb6, ho6, hs6, hS6, hr86, _, hfz6, hqlt6⟩ := hH6.opened
              have HB6 := Lib.hid hb6
              have HE6 := Lib.hid hE
              clear hb6 ho6 hs6 hE
              go_wp2
              go_meet
              case rel =>
                obtain ⟨c1, c2⟩ := hH6.cleared
                have hfr : Fr S w (wc.setCell ⟨q, 8, none⟩ (.slice none 0 0)) := Plus.fr hF6 c2
                have he : left l ++ b = r2 ++ b.drop n := by rw [← HE.out, List.append_assoc, List.take_append_drop]
                refine ⟨mixed (feed ini l) r2, b.drop n, c1.mono ?_, ?_, ?_, ?_, by simp, hfr⟩
                · intro k _ hp
                  rcases hp with hp | hp
                  · exact .inl hp
                  · exact .inr ⟨hp.1, by simpa using hp.2⟩
                · exact ht3.fr hfr (fun k _ hk => hDS k hk)
                · rw [he, feed_long _ (r2 ++ b.drop n) (by rw [List.length_append, HR64.out]; omega), List.take_left' HR64.out, List.drop_left' HR64.out]
                · rw [he, left_long (r2 ++ b.drop n) (by rw [List.length_append, HR64.out]; omega), List.drop_left' HR64.out]
    · have h1 : (left l).length = 0 := by omega
      have h2 : left l = [] := List.length_eq_zero_iff.1 h1
      rw [decide_eq_false h0]
      have hraw := HH.out
      rw [h2] at hraw
      have hE : feed (feed ini l) b = feed (feed ini l) (left l ++ b) ∧ left b = left (left l ++ b) := by rw [h2]; exact ⟨rfl, rfl⟩
      clear h1 h2
      go_wp2
      go_meet
      case rel => exact ⟨feed ini l, b, hraw.mono fun k hk hs => .inl hs, hBD.fr HF.out (fun k _ hk => hDS k hk), hE.1, hE.2, Nat.le_refl _, HF.out⟩
  case rest =>
    have hEf := feed_app ini l b
    have hEl := left_app l b
    rw [← hEf, ← hEl] at hcut
    have HC := Lib.hid hcut
    have hwl := hT
    clear hcut hEf hEl hr1 HH HF hn hr hfz hrk hk hB hll
    go_wp2
    go_loopw [1] (fun v wr => WRel S D w q (feed ini (l ++ b)) (left (l ++ b)) (l.length + b.length) b.length v wr) (fun v _ => slen v)
    case atStart => exact HC.out
    case round =>
      obtain ⟨st, bs, hH, hBs, hE, hE1, hlb, hF⟩ := hrel
      obtain ⟨ba, bc, rfl, hbk, _⟩ := id hBs
      obtain ⟨g0, g1, g2, g3, g4, g5, g6, g7⟩ := hH.cells
      have hTw := hT.fr hF hTS
      by_cases h64 : 64 ≤ bs.length
      · obtain ⟨sa, scap, hs2, hs3⟩ := run_slice_hi elemB hBs 64 h64
        obtain ⟨sb, sbc, ht2, ht3⟩ := run_slice_lo elemB hBs 64 h64
        have hs2 : ∀ (kh : IntKind) (w' : World), (Instr.sliceAt 56 (.slice ba bs.length bc) none (some (.int kh 64)) none).run Tryd.prog w' = .ok (.slice sa 64 scap) w' := hs2
        have ht2 : ∀ (kh : IntKind) (w' : World), (Instr.sliceAt 56 (.slice ba bs.length bc) (some (.int kh 64)) none none).run Tryd.prog w' = .ok (.slice sb (bs.length - 64) sbc) w' := ht2
        go_upto_region 9 with fail
        have HH9 := Lib.hid hH
        have HF9 := Lib.hid hF
        have HE9 := Lib.hid hE
        have HE19 := Lib.hid hE1
        have hl64 : (bs.take 64).length = 64 := by simp; omega
        have HL64 := Lib.hid hl64
        have HTw := Lib.hid hTw
        clear hH hF hE hE1 hl64 hTw
        go_cut [1] (fun s1 wx => s1 = .slice ba bs.length bc ∧ HashRaw (Plus S w wx) wx q (mixed st (bs.take 64)) [] (l.length + b.length) ∧ Fr S w wx ∧ Fr (Plus S w wr) wr wx)
        case first =>
          go_region_law ((go_simp; go_at_call 45; refine (mixed8 _ _ (bs.take 64) _ hs3.drew HL64.out HTw.out).mono ?_; rintro e w5 ⟨⟨r, hr, rfl⟩, hbw⟩; have HQ := Lib.hid (HH9.out.drew.fr (Fr.ofBelow hbw) (fun k h1 _ h2 => by omega)); have HBW := Lib.hid hbw; have HRR := Lib.hid hr; clear hbw hr; obtain ⟨k0, k1, k2, k3, k4, k5, k6, k7⟩ := HQ.out.cells; have kf := (HQ.out.opened.choose_spec.choose_spec.2.2.2.2.2.2.1)))
          all_goals go_wp2_with fail
          all_goals go_meet
          all_goals (obtain ⟨t1, t2, t3⟩ := HH9.out.mixes HF9.out HBW.out r; rw [← HRR.out]; exact ⟨rfl, t1, t2, t3⟩)
        case rest =>
          obtain ⟨rfl, hH6, hF6, hF7⟩ := hcut
          have HH6 := Lib.hid hH6
          have HF6 := Lib.hid hF6
          have HF7 := Lib.hid hF7
          clear hH6 hF6 hF7
          go_wp2
          go_roundw
          case rel =>
            refine ⟨mixed st (bs.take 64), bs.drop 64, HH6.out, ht3.fr HF7.out ?_, ?_, ?_, by simp; omega, HF6.out⟩
            · intro k _ hk hp
              rcases hp with hp | hp
              · exact hDS k hk hp
              · omega
            · rw [← HE9.out, feed_long st bs h64]
            · rw [← HE19.out, left_long bs h64]
          case measure => simp [slen]; omega
      · have hbs : bs.length < 64 := by omega
        obtain ⟨ra0, rc0, _, ho0, _, _, hr80, _, hfz0, _⟩ := hH.opened
        have HH9 := Lib.hid hH
        have HF9 := Lib.hid hF
        have HE9 := Lib.hid hE
        have HE19 := Lib.hid hE1
        have HO9 := Lib.hid ho0
        clear hH hF hE hE1 ho0
        go_upto_region 11 with fail
        go_wp2_with (at_builtin; refine wpList_append_byt _ rfl (.tmp 83) (.tmp 84) 56 rfl 0 5 elemB _ [] rfl HO9.out _ bs rfl hBs (by simp; omega) (Nat.zero_le _) ?_)
        intro va vc w2 o1 o2 o3
        obtain ⟨p1, p2, p3, p4⟩ := HH9.out.appended hr80 o1 o2 o3
        have P1 := Lib.hid p1
        have P2 := Lib.hid p2
        clear p1 p2
        go_wp2
        go_end0
        refine ⟨rfl, ?_, Plus.fr HF9.out P2.out⟩
        have h1 : st = feed ini (l ++ b) := by rw [← HE9.out, feed_short st bs hbs]
        have h2 : bs = left (l ++ b) := by rw [← HE19.out, left_short bs hbs]
        unfold HashIs
        rw [← h1, ← h2, List.length_append]
        exact P1.out.mono fun k _ hp => Plus.trans HF9.out.size P2.out.size k hp
end Go.Proofs.YtmenchnjajpkmaaDoor.ShaW
