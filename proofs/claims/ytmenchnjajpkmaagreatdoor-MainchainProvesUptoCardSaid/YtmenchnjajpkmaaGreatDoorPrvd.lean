/- Walks of SHA-256's Hash: New, Write, Sum, Len, Clone, Of. Conditions: the texts together are shorter than 2^50 bytes. Walks of SHA-256's Hash: Sum, Len, Clone, Of. Conditions: the texts together are shorter than 2^50 bytes. What walks about digests use: a digest's cells, a text of the call's own beside them. No condition. The walk of the reference's Text: a digest's bytes. No condition. Walks of the reference's W (layer 12): raw, number, digest. Condition: the bytes together are at most 2^47. Words for the wire's writer, and walks of its digest and of the codec's Bytes. Condition: the bytes together are at most 2^47. Words for the reference's writer (layer 12) on its way, and walks of its raw, number, digest. Condition: the bytes together are at most 2^47. Walks of the reference of SHA-256. No condition. A loop over a great frame: the slots that are forgotten are one function, not a letter each. Program-independent; no condition. -/
import Derived.Test.YtmenchnjajpkmaaGreatDoorPrvc
import Derived.Deep.DeepCutAuto
import Derived.Deep.CutBlock
import Derived.Test.YtmenchnjajpkmaaGreatDoorPrva
import Derived.Lib.SlBytesConst
import Derived.Test.YtmenchnjajpkmaaGreatDoorPrvb
import Derived.StillTailTactics
import Derived.Deep.MidRow
import Derived.WalkKit
section
namespace Go.Proofs.YtmenchnjajpkmaaGreatDoor.ShaW
open Go Go.RowKit Mem Sha

theorem elemB : ElemT Tryz.prog 25 5 (.int .u8 0) 1 1 :=
  ⟨Tryz.underlying25, ⟨_, (info_parts (P := Tryz.prog) (e := 5) (z := .int .u8 0) (size := 1) (bytes := 1) (by kernel_rfl)).choose_spec⟩, rfl, by decide⟩

/-- the object: at block h, its blocks in S -/
def HashRaw (S : Nat → Prop) (w : World) (h : Nat) (st : St) (rest : List UInt8) (n : Nat) : Prop :=
  S h ∧ ∃ rv, Blk w h (st.l.map word ++ [rv, .int .i64 (n : Int)]) 144 ∧ OwnB 0 5 w rv rest ∧ ∀ k, rv.ownBlock = some k → S k ∧ k ≠ h
def HashIs (S : Nat → Prop) (w : World) (h : Nat) (l : List UInt8) : Prop := HashRaw S w h (feed ini l) (left l) l.length
theorem HashRaw.fr {S T : Nat → Prop} {w w' : World} {h : Nat} {st : St} {rest : List UInt8} {n : Nat} (H : HashRaw S w h st rest n) (hf : Fr T w w') (hn : ∀ k, k < w.heap.size → S k → ¬ T k) : HashRaw S w' h st rest n := by
  obtain ⟨h1, rv, h2, h3, h4⟩ := H
  exact ⟨h1, rv, h2.fr hf (hn h h2.lt h1), h3.fr hf (fun k hk => hn k (h3.lt k hk).2 (h4 k hk).1), h4⟩
theorem HashRaw.mono {S T : Nat → Prop} {w : World} {h : Nat} {st : St} {rest : List UInt8} {n : Nat} (H : HashRaw S w h st rest n) (hn : ∀ k, k < w.heap.size → S k → T k) : HashRaw T w h st rest n := by
  obtain ⟨h1, rv, h2, h3, h4⟩ := H
  exact ⟨hn h h2.lt h1, rv, h2, h3, fun k hk => ⟨hn k (h3.lt k hk).2 (h4 k hk).1, (h4 k hk).2⟩⟩
/-- the blocks of S, and those that were made between two worlds -/
def Plus (S : Nat → Prop) (w w' : World) : Nat → Prop := fun k => S k ∨ (w.heap.size ≤ k ∧ k < w'.heap.size)

theorem HashRaw.drew {S : Nat → Prop} {w : World} {h : Nat} {st : St} {rest : List UInt8} {n : Nat} (H : HashRaw S w h st rest n) : HashRaw S w.drew h st rest n := H
theorem HashRaw.opened {S : Nat → Prop} {w : World} {h : Nat} {st : St} {rest : List UInt8} {n : Nat} (H : HashRaw S w h st rest n) :
    ∃ ra rc, Blk w h (st.l.map word ++ [.slice ra rest.length rc, .int .i64 (n : Int)]) 144 ∧ OwnB 0 5 w (.slice ra rest.length rc) rest ∧ (∀ k, (Value.slice ra rest.length rc).ownBlock = some k → S k ∧ k ≠ h) ∧ S h ∧
      w.cell? ⟨h, 8, none⟩ = some (.slice ra rest.length rc) ∧ w.cell? ⟨h, 9, none⟩ = some (.int .i64 (n : Int)) ∧ (∀ j, w.frozen? ⟨h, j, none⟩ = false) ∧ h < w.heap.size := by
  obtain ⟨h1, rv, h2, h3, h4⟩ := H
  obtain ⟨ra, rc, rfl, _⟩ := id h3.byt
  exact ⟨ra, rc, h2, h3, h4, h1, h2.cell rfl, h2.cell rfl, h2.free, h2.lt⟩
/-- behind 'h.rest = append(h.rest, ..)' -/
theorem HashRaw.appended {S : Nat → Prop} {w w2 : World} {h : Nat} {st : St} {rest r2 : List UInt8} {n : Nat} (H : HashRaw S w h st rest n) {rv v2 : Value} (hrv : w.cell? ⟨h, 8, none⟩ = some rv)
    (o1 : OwnB 0 5 w2 v2 r2) (o2 : w.grownBy w2 rv.ownBlock) (o3 : v2.ownBlock = rv.ownBlock ∨ v2.ownBlock = some w.heap.size) :
    HashRaw (Plus S w (w2.setCell ⟨h, 8, none⟩ v2)) (w2.setCell ⟨h, 8, none⟩ v2) h st r2 n ∧ Fr S w (w2.setCell ⟨h, 8, none⟩ v2) ∧ w2.cell? ⟨h, 8, none⟩ = some rv ∧ w2.frozen? ⟨h, 8, none⟩ = false := by
  obtain ⟨h1, rv', h2, h3, h4⟩ := H
  obtain rfl : rv' = rv := by
    have := h2.cell (i := 8) (v := rv') rfl
    rw [hrv] at this; exact (Option.some.inj this).symm
  have hg := Fr.ofGrown o2
  have hne : ¬ rv'.ownBlock = some h := fun e => (h4 h e).2 rfl
  have hb2 := h2.fr hg hne
  have hv2 : ∀ k, v2.ownBlock = some k → Plus S w (w2.setCell ⟨h, 8, none⟩ v2) k ∧ k ≠ h := by
    intro k hk
    rcases o3 with o3 | o3
    · rw [o3] at hk; exact ⟨.inl (h4 k hk).1, (h4 k hk).2⟩
    · have hlt := (o1.lt k hk).2
      rw [o3] at hk
      simp only [Option.some.injEq] at hk; subst hk
      have := h2.lt
      exact ⟨.inr ⟨Nat.le_refl _, by simpa using hlt⟩, by omega⟩
  refine ⟨⟨.inl h1, v2, hb2.set 8 v2, ?_, hv2⟩, ?_, hb2.cell rfl, hb2.free 8⟩
  · exact o1.fr (S := fun k => k = h) (Fr.setCell (S := fun k => k = h) (p := ⟨h, 8, none⟩) (Fr.refl _ w2) (.inr rfl) v2) (fun k hk => (hv2 k hk).2)
  · exact Fr.setCell (S := S) (p := ⟨h, 8, none⟩) (hg.mono fun k _ e => (h4 k e).1) (.inr h1) v2
/-- behind a store of a state -/
theorem HashRaw.turned {S : Nat → Prop} {w : World} {h : Nat} {st : St} {rest : List UInt8} {n : Nat} (H : HashRaw S w h st rest n) (s2 : St) :
    HashRaw S ((((((((w.setCell ⟨h, 0, none⟩ (word s2.a)).setCell ⟨h, 1, none⟩ (word s2.b)).setCell ⟨h, 2, none⟩ (word s2.c)).setCell ⟨h, 3, none⟩ (word s2.d)).setCell ⟨h, 4, none⟩ (word s2.e)).setCell ⟨h, 5, none⟩ (word s2.f)).setCell ⟨h, 6, none⟩ (word s2.g)).setCell ⟨h, 7, none⟩ (word s2.h)) h s2 rest n ∧
    Fr S w ((((((((w.setCell ⟨h, 0, none⟩ (word s2.a)).setCell ⟨h, 1, none⟩ (word s2.b)).setCell ⟨h, 2, none⟩ (word s2.c)).setCell ⟨h, 3, none⟩ (word s2.d)).setCell ⟨h, 4, none⟩ (word s2.e)).setCell ⟨h, 5, none⟩ (word s2.f)).setCell ⟨h, 6, none⟩ (word s2.g)).setCell ⟨h, 7, none⟩ (word s2.h)) := by
  obtain ⟨h1, rv, h2, h3, h4⟩ := H
  have fr : ∀ {T : Nat → Prop} (_ : T h), Fr T w ((((((((w.setCell ⟨h, 0, none⟩ (word s2.a)).setCell ⟨h, 1, none⟩ (word s2.b)).setCell ⟨h, 2, none⟩ (word s2.c)).setCell ⟨h, 3, none⟩ (word s2.d)).setCell ⟨h, 4, none⟩ (word s2.e)).setCell ⟨h, 5, none⟩ (word s2.f)).setCell ⟨h, 6, none⟩ (word s2.g)).setCell ⟨h, 7, none⟩ (word s2.h)) := by
    intro T ht
    iterate 8 (refine Fr.setCell ?_ (.inr ht) _)
    exact Fr.refl _ _
  refine ⟨⟨h1, rv, ?_, h3.fr (S := fun k => k = h) (fr rfl) (fun k hk => (h4 k hk).2), h4⟩, fr h1⟩
  exact (((((((h2.set 0 (word s2.a)).set 1 (word s2.b)).set 2 (word s2.c)).set 3 (word s2.d)).set 4 (word s2.e)).set 5 (word s2.f)).set 6 (word s2.g)).set 7 (word s2.h)
theorem HashRaw.cells {S : Nat → Prop} {w : World} {h : Nat} {st : St} {rest : List UInt8} {n : Nat} (H : HashRaw S w h st rest n) :
    w.cell? ⟨h, 0, none⟩ = some (.int .u32 (st.a.toNat : Int)) ∧ w.cell? ⟨h, 1, none⟩ = some (.int .u32 (st.b.toNat : Int)) ∧ w.cell? ⟨h, 2, none⟩ = some (.int .u32 (st.c.toNat : Int)) ∧ w.cell? ⟨h, 3, none⟩ = some (.int .u32 (st.d.toNat : Int)) ∧
    w.cell? ⟨h, 4, none⟩ = some (.int .u32 (st.e.toNat : Int)) ∧ w.cell? ⟨h, 5, none⟩ = some (.int .u32 (st.f.toNat : Int)) ∧ w.cell? ⟨h, 6, none⟩ = some (.int .u32 (st.g.toNat : Int)) ∧ w.cell? ⟨h, 7, none⟩ = some (.int .u32 (st.h.toNat : Int)) := by
  obtain ⟨h1, rv, h2, h3, h4⟩ := H
  exact ⟨h2.cell rfl, h2.cell rfl, h2.cell rfl, h2.cell rfl, h2.cell rfl, h2.cell rfl, h2.cell rfl, h2.cell rfl⟩
theorem Plus.trans {S : Nat → Prop} {a b c : World} (h1 : a.heap.size ≤ b.heap.size) (h2 : b.heap.size ≤ c.heap.size) (k : Nat) (h : Plus (Plus S a b) b c k) : Plus S a c k := by
  rcases h with (h | h) | h
  · exact .inl h
  · exact .inr ⟨h.1, by omega⟩
  · exact .inr ⟨by omega, h.2⟩
theorem Plus.fr {S : Nat → Prop} {a b c : World} (h1 : Fr S a b) (h2 : Fr (Plus S a b) b c) : Fr S a c :=
  h1.trans' h2 (fun i hi h => by rcases h with h | h; exact h; omega)

abbrev set8 (w : World) (h : Nat) (s2 : St) : World :=
  (((((((w.setCell ⟨h, 0, none⟩ (word s2.a)).setCell ⟨h, 1, none⟩ (word s2.b)).setCell ⟨h, 2, none⟩ (word s2.c)).setCell ⟨h, 3, none⟩ (word s2.d)).setCell ⟨h, 4, none⟩ (word s2.e)).setCell ⟨h, 5, none⟩ (word s2.f)).setCell ⟨h, 6, none⟩ (word s2.g)).setCell ⟨h, 7, none⟩ (word s2.h)
/-- behind 'h.rest = nil' -/
theorem HashRaw.cleared {S : Nat → Prop} {w : World} {h : Nat} {st : St} {rest : List UInt8} {n : Nat} (H : HashRaw S w h st rest n) :
    HashRaw S (w.setCell ⟨h, 8, none⟩ (.slice none 0 0)) h st [] n ∧ Fr S w (w.setCell ⟨h, 8, none⟩ (.slice none 0 0)) := by
  obtain ⟨h1, rv, h2, h3, h4⟩ := H
  exact ⟨⟨h1, .slice none 0 0, h2.set 8 _, OwnB.nil _ _ _, fun k hk => by cases hk⟩, Fr.setCell (S := S) (p := ⟨h, 8, none⟩) (Fr.refl _ w) (.inr h1) _⟩
/-- behind 'h.s = h.s.mixed(..)' -/
theorem HashRaw.mixes {S : Nat → Prop} {w wc w5 : World} {q : Nat} {st : St} {rest : List UInt8} {N : Nat} (F : Fr S w wc) (H : HashRaw (Plus S w wc) wc q st rest N) (hb : Below wc.drew.heap.size wc.drew w5) (r : St) :
    HashRaw (Plus S w (set8 w5 q r)) (set8 w5 q r) q r rest N ∧ Fr S w (set8 w5 q r) ∧ Fr (Plus S w wc) wc (set8 w5 q r) := by
  have H5 := H.drew.fr (Fr.ofBelow hb) (fun k h1 _ h2 => by omega)
  obtain ⟨t1, t2⟩ := H5.turned r
  have hz : wc.heap.size ≤ w5.heap.size := hb.size
  have hz2 : (set8 w5 q r).heap.size = w5.heap.size := by simp
  have hf2 : Fr (Plus S w wc) wc (set8 w5 q r) := ((Fr.refl _ wc).drew.trans (Fr.ofBelowAll hb (Nat.le_refl _))).trans t2
  refine ⟨t1.mono ?_, Plus.fr F hf2, hf2⟩
  intro k _ hp
  rcases hp with hp | hp
  · exact .inl hp
  · exact .inr ⟨hp.1, by omega⟩

theorem mixed8 (s : St) (v : Value) (l : List UInt8) (w : World) {D : Nat → Prop} (hB : Byt D w v l) (hl : l.length = 64) (hT : TabB w 1) :
    Calls Tryz.prog 77 #[.agg #[.int .u32 (s.a.toNat : Int), .int .u32 (s.b.toNat : Int), .int .u32 (s.c.toNat : Int), .int .u32 (s.d.toNat : Int), .int .u32 (s.e.toNat : Int), .int .u32 (s.f.toNat : Int), .int .u32 (s.g.toNat : Int), .int .u32 (s.h.toNat : Int)], v] w
      fun e w' => (∃ r, r = mixed s l ∧ e = .returned (.agg #[.int .u32 (r.a.toNat : Int), .int .u32 (r.b.toNat : Int), .int .u32 (r.c.toNat : Int), .int .u32 (r.d.toNat : Int), .int .u32 (r.e.toNat : Int), .int .u32 (r.f.toNat : Int), .int .u32 (r.g.toNat : Int), .int .u32 (r.h.toNat : Int)])) ∧ Below w.heap.size w w' :=
  (mixed_calls s v l w hB hl hT).mono fun _ _ h => ⟨⟨_, rfl, h.1⟩, h.2⟩

theorem begun_calls (w : World) :
    Calls Tryz.prog 76 #[] w fun e w' => e = .returned (.agg (ini.l.map word).toArray) ∧ Below w.heap.size w w' := by
  go_enter Tryz.func76, Tryz.ntmps76
  go_wp2
  exact bodyPost_ret (v := .agg (ini.l.map word).toArray) (by simp [results, Tryz.results76, go_sem]; rfl) rfl ⟨rfl, (Below.refl _ _).alloc (Nat.le_refl _) _⟩

theorem new_calls (w : World) :
    Calls Tryz.prog 52 #[] w fun e w' => ∃ h, e = .returned (.pointer (some ⟨h, 0, none⟩)) ∧ w.heap.size ≤ h ∧ HashIs (fun k => k = h) w' h [] ∧ Below w.heap.size w w' := by
  go_enter Tryz.func52, Tryz.ntmps52
  go_wp2_with fail
  refine (begun_calls w).mono ?_
  rintro e w1 ⟨rfl, hb⟩
  go_wp2
  go_ret
  refine ⟨w1.heap.size, rfl, hb.size, ⟨rfl, .slice none 0 0, ?_, OwnB.cast (OwnB.nil _ _ _) ?_, fun k hk => by cases hk⟩, hb.alloc hb.size _⟩
  · exact Blk.new _ _ _ _ (by rw [feed_short _ _ (by simp)]; rfl)
  · rw [left_short _ (by simp)]

/-- what the ways through Write keep -/
def WRel (S D : Nat → Prop) (w : World) (q : Nat) (F : St) (Lf : List UInt8) (N nb : Nat) (v : Value) (wx : World) : Prop :=
  ∃ (st : St) (bs : List UInt8), HashRaw (Plus S w wx) wx q st [] N ∧ Byt (fun k => k < w.heap.size ∧ D k) wx v bs ∧ feed st bs = F ∧ left bs = Lf ∧ bs.length ≤ nb ∧ Fr S w wx
def slen : Value → Nat | .slice _ n _ => n | _ => 0

set_option maxHeartbeats 4000000 in
set_option maxRecDepth 100000 in
theorem write_calls (S D : Nat → Prop) (w : World) (q : Nat) (l : List UInt8) (v : Value) (b : List UInt8) (H : HashIs S w q l) (hB : Byt D w v b) (hD : ∀ k, k < w.heap.size → D k → ¬ S k)
    (hlen : l.length + b.length ≤ 1125899906842624) (hT : TabB w 1) (hTS : ¬ S 1) :
    Calls Tryz.prog 53 #[.pointer (some ⟨q, 0, none⟩), v] w fun e w' => e = .returned (.tuple #[]) ∧ HashIs (Plus S w w') w' q (l ++ b) ∧ Fr S w w' := by
  obtain ⟨hS, rv, hblk, hown, hown2⟩ := H
  obtain ⟨ra, rc, rfl, hrk, hrx⟩ := id hown.byt
  clear hrx
  obtain ⟨a, c, rfl, hk, hby⟩ := id hB
  have hn := hblk.cell (i := 9) (v := .int .i64 (l.length : Int)) rfl
  have hr := hblk.cell (i := 8) (v := .slice ra (left l).length rc) rfl
  have hfz := hblk.free
  have hb9 := hblk.set 9 (.int .i64 ((l.length + b.length : Nat) : Int))
  have hf9 : Fr S w (w.setCell ⟨q, 9, none⟩ (.int .i64 ((l.length + b.length : Nat) : Int))) := (Fr.refl S w).setCell (.inr hS) _
  have hraw : HashRaw S (w.setCell ⟨q, 9, none⟩ (.int .i64 ((l.length + b.length : Nat) : Int))) q (feed ini l) (left l) (l.length + b.length) :=
    ⟨hS, _, hb9, hown.fr (S := fun k => k = q) (Fr.setCell (S := fun k => k = q) (p := ⟨q, 9, none⟩) (Fr.refl (fun k => k = q) w) (.inr rfl) _) (fun k hk => (hown2 k hk).2), hown2⟩
  have hBD := hB.lt
  have hDS : ∀ k, (k < w.heap.size ∧ D k) → ¬ S k := fun k hk => hD k hk.1 hk.2
  clear hD
  have hr1 : (w.setCell ⟨q, 9, none⟩ (.int .i64 ((l.length + b.length : Nat) : Int))).cell? ⟨q, 8, none⟩ = some (.slice ra (left l).length rc) :=
    (World.cell?_setCell_other _ _ _ _ (by intro e; injection e with _ e2 _; omega)).trans hr
  have hll := left_lt l
  have HH := Lib.hid hraw
  have HF := Lib.hid hf9
  clear hb9 hraw hf9 hblk hown hown2 hby
  go_enter Tryz.func53, Tryz.ntmps53
  go_upto_if 19 with fail
  rw [← Int.natCast_add]
  generalize w.setCell ⟨q, 9, none⟩ (.int .i64 ((l.length + b.length : Nat) : Int)) = w1 at *
  go_cut [1] (fun s1 wx => WRel S D w q (feed (feed ini l) (left l ++ b)) (left (left l ++ b)) (l.length + b.length) b.length s1 wx)
  case first =>
    by_cases h0 : 0 < (left l).length
    · rw [decide_eq_true h0]
      obtain ⟨n, hn⟩ : ∃ n, n = min b.length (64 - (left l).length) := ⟨_, rfl⟩
      have hn1 : n ≤ b.length := by omega
      have hn2 : n ≤ 64 - (left l).length := by omega
      have hn3 : n = b.length ∨ n = 64 - (left l).length := by omega
      have HN := Lib.hid hn
      clear hn
      go_upto_region 2 with fail
      go_cut [4] (fun s4 wx => s4 = .int .i64 (n : Int) ∧ w1 = wx)
      case first =>
        go_wp2
        all_goals go_meet
        case rel => exact ⟨by rw [HN.out]; congr 1; omega, rfl⟩
        case rel => exact ⟨by rw [HN.out]; congr 1; omega, rfl⟩
      case rest =>
        obtain ⟨rfl, rfl⟩ := hcut
        obtain ⟨sa, scap, hs2, hs3⟩ := run_slice_hi elemB hBD n hn1
        obtain ⟨sb, sbc, ht2, ht3⟩ := run_slice_lo elemB hBD n hn1
        have hnl : (b.take n).length = n := by simp; omega
        have hs3 := hs3.fr HF.out (fun k _ hk => hDS k hk)
        have HNL := Lib.hid hnl
        clear hnl
        obtain ⟨ra', rc', _, ho, ho2, _, hr8, _, hfz1, hqlt⟩ := HH.out.opened
        rw [hr1] at hr8
        obtain ⟨rfl, rfl⟩ : ra = ra' ∧ rc = rc' := by simpa using hr8
        have HO := Lib.hid ho
        clear ho ho2 hr8
        go_upto_region 3 with fail
        go_cut [4] (fun s4 wx => s4 = .int .i64 (n : Int) ∧ HashRaw (Plus S w1 wx) wx q (feed ini l) (left l ++ b.take n) (l.length + b.length) ∧ Fr S w1 wx)
        case first =>
          go_region_law ((refine step_append_byt rfl (.tmp 33) (.tmp 36) 25 rfl 0 5 elemB _ (left l) (by simp [Act.eval]) HO.out.drew _ _ (by simp [Act.eval]) hs3.drew (by simp; omega) (Nat.zero_le _) ?_; intro va vc w2 o1 o2 o3; rw [HNL.out] at o1 o3 ⊢; obtain ⟨p1, p2, p3, p4⟩ := HH.out.drew.appended hr1 o1 o2 o3; have P1 := Lib.hid p1; have P2 := Lib.hid p2; clear p1 p2))
          go_wp2_with fail
          go_meet
          case rel =>
            exact ⟨rfl, P1.out, (Fr.refl S w1).drew.trans P2.out⟩
        case rest =>
          obtain ⟨rfl, hH2, hF2⟩ := hcut
          have hE := feed_app (feed ini l) (left l) b
          have hF3 : Fr S w wc := HF.out.trans hF2
          have hlen2 : (left l ++ b.take n).length = (left l).length + n := by simp; omega
          generalize hr2 : left l ++ b.take n = r2 at hH2 hlen2
          have hHp : HashRaw (Plus S w wc) wc q (feed ini l) r2 (l.length + b.length) := hH2.mono fun k hk hp => by
            rcases hp with hp | hp
            · exact .inl hp
            · exact .inr ⟨by have := HF.out.size; omega, hp.2⟩
          obtain ⟨ra2, rc2, _, ho2, hs22, hS2, hr82, hr92, hfz2, hqlt2⟩ := hHp.opened
          obtain ⟨g0, g1, g2, g3, g4, g5, g6, g7⟩ := hHp.cells
          have hby2 := ho2.byt
          have HL2 := Lib.hid hlen2
          have HE := Lib.hid hr2
          have HF4 := Lib.hid hF3
          have HHp := Lib.hid hHp
          have HO2 := Lib.hid hby2
          by_cases h64 : r2.length < 64
          · have hres : HashIs (Plus S w wc) wc q (l ++ b) := by
              have hnb : n = b.length := by omega
              subst hnb
              rw [List.take_length] at hr2
              unfold HashIs
              rw [feed_app, left_app, hr2, feed_short _ _ h64, left_short _ h64, List.length_append]
              exact hHp
            have HR := Lib.hid hres
            clear hlen2 hr2 hF3 hF2 hH2 hHp hby2 ho2 hE hres HE HHp HO2
            go_wp2
            exact bodyPost_ret (v := .tuple #[]) (by simp [results, Tryz.results53, go_sem]) rfl ⟨rfl, HR.out, HF4.out⟩
          · have h64' : 64 ≤ r2.length := by omega
            clear hlen2 hr2 hF3 hF2 hH2 hHp hby2 ho2
            have hr64 : r2.length = 64 := by have := HL2.out; omega
            have HR64 := Lib.hid hr64
            clear hr64
            have hTw : TabB wc 1 := hT.fr HF4.out hTS
            have HTw := Lib.hid hTw
            clear hTw
            go_upto_region 6 with fail
            go_cut [1] (fun s1 wx => s1 = .slice sb (b.length - n) sbc ∧ HashRaw (Plus S w wx) wx q (mixed (feed ini l) r2) r2 (l.length + b.length) ∧ Fr S w wx)
            case first =>
              go_region_law ((go_simp; go_at_call 77; refine (mixed8 _ _ r2 _ HO2.out.drew HR64.out HTw.out).mono ?_; rintro e w5 ⟨⟨r, hr, rfl⟩, hbw⟩; have HQ := Lib.hid (HHp.out.drew.fr (Fr.ofBelow hbw) (fun k h1 _ h2 => by omega)); have HBW := Lib.hid hbw; have HRR := Lib.hid hr; clear hbw hr; obtain ⟨k0, k1, k2, k3, k4, k5, k6, k7⟩ := HQ.out.cells; have kf := (HQ.out.opened.choose_spec.choose_spec.2.2.2.2.2.2.1)))
              all_goals go_wp2_with fail
              all_goals go_meet
              all_goals (obtain ⟨t1, t2, _⟩ := HHp.out.mixes HF4.out HBW.out r; rw [← HRR.out]; exact ⟨rfl, t1, t2⟩)
            case rest =>
              obtain ⟨rfl, hH6, hF6⟩ := hcut
              obtain ⟨ra6, rc6, hb6, ho6, hs6, hS6, hr86, _, hfz6, hqlt6⟩ := hH6.opened
              have HB6 := Lib.hid hb6
              have HE6 := Lib.hid hE
              clear hb6 ho6 hs6 hE
              go_wp2
              go_meet
              case rel =>
                obtain ⟨c1, c2⟩ := hH6.cleared
                have hfr : Fr S w (wc.setCell ⟨q, 8, none⟩ (.slice none 0 0)) := Plus.fr hF6 c2
                have he : left l ++ b = r2 ++ b.drop n := by rw [← HE.out, List.append_assoc, List.take_append_drop]
                refine ⟨mixed (feed ini l) r2, b.drop n, c1.mono ?_, ?_, ?_, ?_, by simp, hfr⟩
                · intro k _ hp
                  rcases hp with hp | hp
                  · exact .inl hp
                  · exact .inr ⟨hp.1, by simpa using hp.2⟩
                · exact ht3.fr hfr (fun k _ hk => hDS k hk)
                · rw [he, feed_long _ (r2 ++ b.drop n) (by rw [List.length_append, HR64.out]; omega), List.take_left' HR64.out, List.drop_left' HR64.out]
                · rw [he, left_long (r2 ++ b.drop n) (by rw [List.length_append, HR64.out]; omega), List.drop_left' HR64.out]
    · have h1 : (left l).length = 0 := by omega
      have h2 : left l = [] := List.length_eq_zero_iff.1 h1
      rw [decide_eq_false h0]
      have hraw := HH.out
      rw [h2] at hraw
      have hE : feed (feed ini l) b = feed (feed ini l) (left l ++ b) ∧ left b = left (left l ++ b) := by rw [h2]; exact ⟨rfl, rfl⟩
      clear h1 h2
      go_wp2
      go_meet
      case rel => exact ⟨feed ini l, b, hraw.mono fun k hk hs => .inl hs, hBD.fr HF.out (fun k _ hk => hDS k hk), hE.1, hE.2, Nat.le_refl _, HF.out⟩
  case rest =>
    have hEf := feed_app ini l b
    have hEl := left_app l b
    rw [← hEf, ← hEl] at hcut
    have HC := Lib.hid hcut
    have hwl := hT
    clear hcut hEf hEl hr1 HH HF hn hr hfz hrk hk hB hll
    go_wp2
    go_loopw [1] (fun v wr => WRel S D w q (feed ini (l ++ b)) (left (l ++ b)) (l.length + b.length) b.length v wr) (fun v _ => slen v)
    case atStart => exact HC.out
    case round =>
      obtain ⟨st, bs, hH, hBs, hE, hE1, hlb, hF⟩ := hrel
      obtain ⟨ba, bc, rfl, hbk, _⟩ := id hBs
      obtain ⟨g0, g1, g2, g3, g4, g5, g6, g7⟩ := hH.cells
      have hTw := hT.fr hF hTS
      by_cases h64 : 64 ≤ bs.length
      · obtain ⟨sa, scap, hs2, hs3⟩ := run_slice_hi elemB hBs 64 h64
        obtain ⟨sb, sbc, ht2, ht3⟩ := run_slice_lo elemB hBs 64 h64
        have hs2 : ∀ (kh : IntKind) (w' : World), (Instr.sliceAt 25 (.slice ba bs.length bc) none (some (.int kh 64)) none).run Tryz.prog w' = .ok (.slice sa 64 scap) w' := hs2
        have ht2 : ∀ (kh : IntKind) (w' : World), (Instr.sliceAt 25 (.slice ba bs.length bc) (some (.int kh 64)) none none).run Tryz.prog w' = .ok (.slice sb (bs.length - 64) sbc) w' := ht2
        go_upto_region 9 with fail
        have HH9 := Lib.hid hH
        have HF9 := Lib.hid hF
        have HE9 := Lib.hid hE
        have HE19 := Lib.hid hE1
        have hl64 : (bs.take 64).length = 64 := by simp; omega
        have HL64 := Lib.hid hl64
        have HTw := Lib.hid hTw
        clear hH hF hE hE1 hl64 hTw
        go_cut [1] (fun s1 wx => s1 = .slice ba bs.length bc ∧ HashRaw (Plus S w wx) wx q (mixed st (bs.take 64)) [] (l.length + b.length) ∧ Fr S w wx ∧ Fr (Plus S w wr) wr wx)
        case first =>
          go_region_law ((go_simp; go_at_call 77; refine (mixed8 _ _ (bs.take 64) _ hs3.drew HL64.out HTw.out).mono ?_; rintro e w5 ⟨⟨r, hr, rfl⟩, hbw⟩; have HQ := Lib.hid (HH9.out.drew.fr (Fr.ofBelow hbw) (fun k h1 _ h2 => by omega)); have HBW := Lib.hid hbw; have HRR := Lib.hid hr; clear hbw hr; obtain ⟨k0, k1, k2, k3, k4, k5, k6, k7⟩ := HQ.out.cells; have kf := (HQ.out.opened.choose_spec.choose_spec.2.2.2.2.2.2.1)))
          all_goals go_wp2_with fail
          all_goals go_meet
          all_goals (obtain ⟨t1, t2, t3⟩ := HH9.out.mixes HF9.out HBW.out r; rw [← HRR.out]; exact ⟨rfl, t1, t2, t3⟩)
        case rest =>
          obtain ⟨rfl, hH6, hF6, hF7⟩ := hcut
          have HH6 := Lib.hid hH6
          have HF6 := Lib.hid hF6
          have HF7 := Lib.hid hF7
          clear hH6 hF6 hF7
          go_wp2
          go_roundw
          case rel =>
            refine ⟨mixed st (bs.take 64), bs.drop 64, HH6.out, ht3.fr HF7.out ?_, ?_, ?_, by simp; omega, HF6.out⟩
            · intro k _ hk hp
              rcases hp with hp | hp
              · exact hDS k hk hp
              · omega
            · rw [← HE9.out, feed_long st bs h64]
            · rw [← HE19.out, left_long bs h64]
          case measure => simp [slen]; omega
      · have hbs : bs.length < 64 := by omega
        obtain ⟨ra0, rc0, _, ho0, _, _, hr80, _, hfz0, _⟩ := hH.opened
        have HH9 := Lib.hid hH
        have HF9 := Lib.hid hF
        have HE9 := Lib.hid hE
        have HE19 := Lib.hid hE1
        have HO9 := Lib.hid ho0
        clear hH hF hE hE1 ho0
        go_upto_region 11 with fail
        go_wp2_with (at_builtin; refine wpList_append_byt _ rfl (.tmp 83) (.tmp 84) 25 rfl 0 5 elemB _ [] rfl HO9.out _ bs rfl hBs (by simp; omega) (Nat.zero_le _) ?_)
        intro va vc w2 o1 o2 o3
        obtain ⟨p1, p2, p3, p4⟩ := HH9.out.appended hr80 o1 o2 o3
        have P1 := Lib.hid p1
        have P2 := Lib.hid p2
        clear p1 p2
        go_wp2
        go_end0
        refine ⟨rfl, ?_, Plus.fr HF9.out P2.out⟩
        have h1 : st = feed ini (l ++ b) := by rw [← HE9.out, feed_short st bs hbs]
        have h2 : bs = left (l ++ b) := by rw [← HE19.out, left_short bs hbs]
        unfold HashIs
        rw [← h1, ← h2, List.length_append]
        exact P1.out.mono fun k _ hp => Plus.trans HF9.out.size P2.out.size k hp
end Go.Proofs.YtmenchnjajpkmaaGreatDoor.ShaW
end

section
namespace Go.Proofs.YtmenchnjajpkmaaGreatDoor.ShaW
open Go Go.RowKit Mem Sha

/-- the relation of Sum's first loops: b holds bs; the result's block is as it was made -/
def PadRel (B : Nat) (w : World) (v : Value) (bs : List UInt8) (wx : World) : Prop :=
  OwnB (B + 1) 5 wx v bs ∧ Below B w wx ∧ Blk wx B (List.replicate 32 (.int .u8 0)) 24
theorem PadRel.grows {B : Nat} {w w1 w2 : World} {v v2 : Value} {bs b2 : List UInt8} (hB : B ≤ w1.heap.size) (h : PadRel B w v bs w1) (o1 : OwnB (B + 1) 5 w2 v2 b2) (o2 : Fr (fun k => v.ownBlock = some k) w1 w2) : PadRel B w v2 b2 w2 := by
  obtain ⟨h1, h2, h3⟩ := h
  have hn : ∀ k, k ≤ B → ¬ v.ownBlock = some k := fun k hk e => by have := (h1.lt k e).1; omega
  refine ⟨o1, h2.trans (o2.below hB (fun k hk => by have := (h1.lt k hk).1; omega)), h3.fr o2 (hn B (Nat.le_refl _))⟩
/-- the relation of Sum's third loop -/
def FeedRel (B g : Nat) (w : World) (v : Value) (st : St) (cs : List UInt8) (wx : World) : Prop :=
  Blk wx g (st.l.map word) 141 ∧ Byt (fun k => B + 1 ≤ k ∧ k < g) wx v cs ∧ Below B w wx ∧ Blk wx B (List.replicate 32 (.int .u8 0)) 24 ∧ B < g
theorem feed_start {B : Nat} {w wr : World} {v : Value} {cs : List UInt8} (h : PadRel B w v cs wr) (st : St) (hB : B = w.heap.size) : FeedRel B wr.heap.size w v st cs (wr.alloc (.cells (st.l.map word).toArray 141)) := by
  obtain ⟨h1, h2, h3⟩ := h
  refine ⟨Blk.new _ _ _ _ rfl, ?_, h2.alloc (by have := h2.size; omega) _, h3.alloc _, h3.lt⟩
  refine (h1.byt.below ((Below.refl _ _).alloc (Nat.le_refl _) _)).mono ?_
  intro k _ hk
  exact ⟨hk.2, (h1.lt k hk.1).2⟩
theorem feed_below {B g : Nat} {w wx w5 : World} {v : Value} {st : St} {cs : List UInt8} (h : FeedRel B g w v st cs wx) (hb : Below wx.drew.heap.size wx.drew w5) (hB : B ≤ wx.heap.size) : FeedRel B g w v st cs w5 := by
  obtain ⟨h1, h2, h3, h4, h5⟩ := h
  have hb' : Below wx.heap.size wx w5 := ((Below.refl _ wx).drew).trans hb
  exact ⟨h1.below hb', h2.below hb', h3.trans (hb'.mono hB), h4.below hb', h5⟩
theorem set8_fr {S : Nat → Prop} (w : World) (g : Nat) (r : St) (hs : S g) : Fr S w (set8 w g r) := by
  unfold set8
  iterate 8 (refine Fr.setCell ?_ (.inr hs) _)
  exact Fr.refl _ _
theorem feed_next {B g : Nat} {wx w5 : World} {v : Value} {cs : List UInt8} (h : Byt (fun k => B + 1 ≤ k ∧ k < g) wx v cs) (hb : Below wx.drew.heap.size wx.drew w5) (r : St) : Byt (fun k => B + 1 ≤ k ∧ k < g) (set8 w5 g r) v cs := by
  have hb' : Below wx.heap.size wx w5 := ((Below.refl _ wx).drew).trans hb
  exact (h.below hb').fr (set8_fr (S := fun k => k = g) w5 g r rfl) (fun k _ hk e => by omega)
theorem feed_set {B g : Nat} {w wx : World} {v : Value} {st : St} {cs : List UInt8} (h : FeedRel B g w v st cs wx) (r : St) : FeedRel B g w v r cs (set8 wx g r) := by
  obtain ⟨h1, h2, h3, h4, h5⟩ := h
  have fr := set8_fr (S := fun k => k = g) wx g r rfl
  refine ⟨?_, h2.fr fr (fun k _ hk e => by omega), ?_, h4.fr fr (by omega), h5⟩
  · exact (((((((h1.set 0 (word r.a)).set 1 (word r.b)).set 2 (word r.c)).set 3 (word r.d)).set 4 (word r.e)).set 5 (word r.f)).set 6 (word r.g)).set 7 (word r.h)
  · unfold set8
    iterate 8 (refine Below.setCell ?_ (by show B ≤ g; omega) _)
    exact h3
theorem out_get (st : St) (i k : Nat) (hi : i < 8) (hk : k < 4) : (out st)[4 * i + k]? = some (UInt8.ofNat ((st.l.getD i 0).toNat / 2 ^ (24 - 8 * k))) := by
  rcases (by omega : i = 0 ∨ i = 1 ∨ i = 2 ∨ i = 3 ∨ i = 4 ∨ i = 5 ∨ i = 6 ∨ i = 7) with rfl | rfl | rfl | rfl | rfl | rfl | rfl | rfl <;>
    rcases (by omega : k = 0 ∨ k = 1 ∨ k = 2 ∨ k = 3) with rfl | rfl | rfl | rfl <;> rfl
set_option maxRecDepth 100000 in
theorem index_st (st : St) (i : Nat) (hi : i < 8) (w : World) :
    (Instr.index 141 (.agg #[.int .u32 (st.a.toNat : Int), .int .u32 (st.b.toNat : Int), .int .u32 (st.c.toNat : Int), .int .u32 (st.d.toNat : Int), .int .u32 (st.e.toNat : Int), .int .u32 (st.f.toNat : Int), .int .u32 (st.g.toNat : Int), .int .u32 (st.h.toNat : Int)]) (.int .i64 (i : Int))).run Tryz.prog w = .ok (.int .u32 ((st.l.getD i 0).toNat : Int)) w := by
  rcases (by omega : i = 0 ∨ i = 1 ∨ i = 2 ∨ i = 3 ∨ i = 4 ∨ i = 5 ∨ i = 6 ∨ i = 7) with rfl | rfl | rfl | rfl | rfl | rfl | rfl | rfl <;> rfl
theorem byte_of (n m : Nat) : ((n : Int) / 2 ^ m % 256) = ((UInt8.ofNat (n / 2 ^ m)).toNat : Int) := by
  rw [UInt8.toNat_ofNat', Int.natCast_emod, Int.natCast_ediv, Int.natCast_pow]; rfl
/-- the relation of Sum's last loops -/
def OutRel (B g d : Nat) (w : World) (st : St) (n : Nat) (wx : World) : Prop :=
  Below B w wx ∧ Blk wx B (List.replicate 32 (.int .u8 0)) 24 ∧ Blk wx d (((out st).take n).map byt ++ List.replicate (32 - n) (.int .u8 0)) 24 ∧ B < g ∧ g < d
theorem out_step {B g d : Nat} {w wx : World} {st : St} {i k : Nat} (hi : i < 8) (hk : k < 4) (h : OutRel B g d w st (4 * i + k) wx) :
    OutRel B g d w st (4 * i + k + 1) (wx.setCell ⟨d, 4 * i + k, none⟩ (.int .u8 ((UInt8.ofNat ((st.l.getD i 0).toNat / 2 ^ (24 - 8 * k))).toNat : Int))) := by
  obtain ⟨h1, h2, h3, h4, h5⟩ := h
  refine ⟨h1.setCell (by show B ≤ d; omega) _, h2.other (by show d ≠ B; omega) _, ?_, h4, h5⟩
  have := h3.set (4 * i + k) (.int .u8 ((UInt8.ofNat ((st.l.getD i 0).toNat / 2 ^ (24 - 8 * k))).toNat : Int))
  have hg := out_get st i k hi hk
  have hl : (out st).length = 32 := out_length st
  rw [List.set_append_right _ _ (by simp [hl]; omega)] at this
  have ez : 4 * i + k - (((out st).take (4 * i + k)).map byt).length = 0 := by simp [hl]; omega
  rw [ez] at this
  obtain ⟨m, hm⟩ : ∃ m, 32 - (4 * i + k) = m + 1 := ⟨31 - (4 * i + k), by omega⟩
  rw [hm, List.replicate_succ, List.set_cons_zero] at this
  rw [show 32 - (4 * i + k + 1) = m from by omega, List.take_add_one, hg, List.map_append, List.append_assoc]
  exact this
theorem out_cell {B g d : Nat} {w wx : World} {st : St} {n : Nat} (hn : n < 32) (h : OutRel B g d w st n wx) : wx.cell? ⟨d, n, none⟩ = some (.int .u8 0) := by
  refine h.2.2.1.cell ?_
  have hl : (out st).length = 32 := out_length st
  rw [List.getElem?_append_right (by simp [hl]; omega)]
  simp [hl, List.getElem?_replicate]; omega
theorem byte_int (n m : Nat) : (8 * (n : Int) / 2 ^ m % 256) = ((UInt8.ofNat (8 * n / 2 ^ m)).toNat : Int) := by
  rw [UInt8.toNat_ofNat']
  rw [Int.natCast_emod, Int.natCast_ediv, Int.natCast_mul, Int.natCast_pow]; rfl
theorem be8_take (v k : Nat) (h : k < 8) : (be8 v).take (k + 1) = (be8 v).take k ++ [UInt8.ofNat (v / 2 ^ (56 - 8 * k))] := by
  rw [List.take_succ_eq_append_getElem (by rw [be8_length]; exact h)]
  simp [be8]
def vlen : Value → Nat | .slice _ n _ => n | _ => 0
def zs (l : List UInt8) : Nat := (119 - l.length % 64) % 64

set_option maxHeartbeats 4000000 in
set_option maxRecDepth 100000 in
theorem sum_calls (S : Nat → Prop) (w : World) (q : Nat) (l : List UInt8) (H : HashIs S w q l) (hlen : l.length ≤ 1125899906842624) (hT : TabB w 1) :
    Calls Tryz.prog 54 #[.pointer (some ⟨q, 0, none⟩)] w fun e w' => e = .returned (.agg ((sha l).map byt).toArray) ∧ Below w.heap.size w w' := by
  obtain ⟨ra, rc, _, ho, _, _, h8, h9, hfz, hq⟩ := H.opened
  obtain ⟨g0, g1, g2, g3, g4, g5, g6, g7⟩ := H.cells
  have hll := left_lt l
  have hby := ho.byt.any
  have HO := Lib.hid (hby.below ((Below.refl _ _).alloc (Nat.le_refl _) (.cells (List.replicate 32 (.int .u8 0)).toArray 24)))
  clear ho hby
  go_enter Tryz.func54, Tryz.ntmps54
  go_upto_region 1 with fail
  have hP0 : PadRel w.heap.size w (.slice none 0 0) [] (w.alloc (.cells (List.replicate 32 (.int .u8 0)).toArray 24)) :=
    ⟨OwnB.nil _ _ _, (Below.refl _ _).alloc (Nat.le_refl _) _, Blk.new w _ _ _ rfl⟩
  go_wp2_with (at_builtin; refine wpList_append_byt _ rfl (.const (.slice none 0 0)) (.tmp 13) 25 rfl (w.heap.size + 1) 5 elemB _ [] rfl (OwnB.nil _ _ _) _ (left l) rfl HO.out (by simp; omega) (by simp) ?_)
  intro va vc w1 o1 o2 o3
  have hP1 := hP0.grows (by simp) o1 (Fr.ofGrown o2)
  clear o1 o2 o3 hP0
  have HP1 := Lib.hid hP1
  have hz1 : w.heap.size < w1.heap.size := hP1.2.2.lt
  clear hP1
  go_wp2_with (at_builtin; refine wpList_append_one _ rfl (.tmp 15) (.tmp 16) 25 rfl (w.heap.size + 1) 5 elemB _ (left l) rfl HP1.out.1 _ 128 rfl rfl (by omega) (by omega) ?_)
  intro va2 vc2 w2 o1 o2 o3
  have hP2 := HP1.out.grows (by omega) o1 o2
  clear o1 o2 o3 HP1
  have HP2 := Lib.hid hP2
  clear hP2 HO
  go_wp2
  go_loopw [3] (fun v wx => ∃ j bs, j ≤ zs l ∧ bs = left l ++ [128] ++ List.replicate j 0 ∧ PadRel w.heap.size w v bs wx) (fun v _ => 200 - vlen v)
  case atStart => exact ⟨0, _, Nat.zero_le _, by simp, HP2.out⟩
  case round =>
    obtain ⟨j, bs, hj, hbs, hP⟩ := hrel
    obtain ⟨xa, xc, rfl, _⟩ := id hP.1.byt
    have hz := hP.2.2.lt
    have hll2 := left_length _ l rfl
    have hb1 : bs.length = l.length % 64 + 1 + j := by rw [hbs]; simp; omega
    have hb2 : bs.length ≤ l.length % 64 + 1 + j := by omega
    have hb3 : l.length % 64 + 1 + j ≤ bs.length := by omega
    have hzs : zs l = (119 - l.length % 64) % 64 := rfl
    have hz63 : zs l ≤ 63 := by omega
    have hl63 : l.length % 64 ≤ 63 := by omega
    have HBS := Lib.hid hbs
    have HP := Lib.hid hP
    by_cases hjz : j = zs l
    · have ht : ((bs.length : Int) % 64 != 56) = false := by rw [bne_eq_false_iff_eq]; omega
      have hbz : bs = left l ++ [128] ++ List.replicate (zs l) 0 := by rw [hbs, hjz]
      have hb4 : bs.length ≤ 128 := by omega
      have HBZ := Lib.hid hbz
      clear hbs hP hb1 hzs hll2 hjz HBS hbz hb2 hb3
      go_wp2
      go_loopw [3, 4, 25] (fun v _ i wx => ∃ (k : Nat) (cs : List UInt8), k ≤ 8 ∧ i = .int .i64 k ∧ cs = bs ++ (be8 (8 * l.length)).take k ∧ PadRel w.heap.size w v cs wx) (fun _ _ i _ => 8 - (intOf i).toNat)
      case atStart => exact ⟨0, _, by omega, rfl, by simp, HP.out⟩
      case round =>
        obtain ⟨k, cs, hk8, rfl, hcs, hP⟩ := hrel
        obtain ⟨ya, yc, rfl, _⟩ := id hP.1.byt
        have hz2 := hP.2.2.lt
        have hcl : cs.length ≤ 200 := by rw [hcs]; simp; omega
        have h9r := (hP.2.1.cell (p := ⟨q, 9, none⟩) hq).trans h9
        have HP2 := Lib.hid hP
        have HCS := Lib.hid hcs
        clear hP hcs HP
        by_cases hlt : k < 8
        · go_wp2_with (at_builtin; refine wpList_append_one _ rfl (.tmp 28) (.tmp 40) 25 rfl (w.heap.size + 1) 5 elemB _ cs rfl HP2.out.1 _ (UInt8.ofNat (8 * l.length / 2 ^ (56 - 8 * k))) (byte_int _ _) rfl (by omega) (by omega) ?_)
          intro va2 vc2 w2 o1 o2 o3
          have hP3 := HP2.out.grows (by omega) o1 o2
          clear o1 o2 o3 HP2
          have HP3 := Lib.hid hP3
          clear hP3
          go_wp2
          go_roundw
          case rel => exact ⟨k + 1, _, by omega, by go_num, by rw [HCS.out, be8_take _ k hlt, ← List.append_assoc], HP3.out⟩
          case measure => simp [intOf]; omega
        · obtain rfl : k = 8 := by omega
          have hfin : cs = left l ++ padTail l.length := by
            rw [HCS.out, HBZ.out]
            unfold padTail zs
            rw [show 8 * l.length % 18446744073709551616 = 8 * l.length from by omega, show (be8 (8 * l.length)).take 8 = be8 (8 * l.length) from List.take_of_length_le (by rw [be8_length]; omega)]
            simp
          have HFIN := Lib.hid hfin
          have hPz := HP2.out
          have ga0 := (hPz.2.1.cell (p := ⟨q, 0, none⟩) hq).trans g0
          have ga1 := (hPz.2.1.cell (p := ⟨q, 1, none⟩) hq).trans g1
          have ga2 := (hPz.2.1.cell (p := ⟨q, 2, none⟩) hq).trans g2
          have ga3 := (hPz.2.1.cell (p := ⟨q, 3, none⟩) hq).trans g3
          have ga4 := (hPz.2.1.cell (p := ⟨q, 4, none⟩) hq).trans g4
          have ga5 := (hPz.2.1.cell (p := ⟨q, 5, none⟩) hq).trans g5
          have ga6 := (hPz.2.1.cell (p := ⟨q, 6, none⟩) hq).trans g6
          have ga7 := (hPz.2.1.cell (p := ⟨q, 7, none⟩) hq).trans g7
          clear hPz hfin HBZ HCS
          have hst := feed_start HP2.out (feed ini l) rfl
          have hgB : w.heap.size < wr.heap.size := HP2.out.2.2.lt
          have hcsl : cs.length % 64 = 0 := by rw [HFIN.out, List.length_append, left_length _ l rfl]; have := padTail_length l.length; omega
          have HST := Lib.hid hst
          have HCSL := Lib.hid hcsl
          clear hst hcsl
          go_wp2
          clear ga0 ga1 ga2 ga3 ga4 ga5 ga6 ga7 HP2 g0 g1 g2 g3 g4 g5 g6 g7 h8 h9 hfz
          generalize wr.heap.size = g at *
          go_loopw [3] (fun v wx => ∃ (st : St) (ds : List UInt8), feed st ds = feed (feed ini l) cs ∧ ds.length % 64 = 0 ∧ ds.length ≤ 200 ∧ FeedRel w.heap.size g w v st ds wx) (fun v _ => vlen v)
          case atStart => exact ⟨_, cs, rfl, HCSL.out, hcl, HST.out⟩
          case round =>
            obtain ⟨st, ds, hE, hmod, hdl, hF⟩ := hrel
            obtain ⟨xb, xbc, rfl, hxk, _⟩ := id hF.2.1
            have hTw := hT.fr (Fr.ofBelow hF.2.2.1) (by have := hT.choose_spec.choose_spec; have := (Array.getElem?_eq_some_iff.1 this).1; omega)
            have HTw := Lib.hid hTw
            have HE := Lib.hid hE
            have HF := Lib.hid hF
            have HMOD := Lib.hid hmod
            clear hTw
            by_cases h0 : 0 < ds.length
            · have h64 : 64 ≤ ds.length := by omega
              obtain ⟨sa, scap, hs2, hs3⟩ := run_slice_hi elemB hF.2.1 64 h64
              obtain ⟨sb, sbc, ht2, ht3⟩ := run_slice_lo elemB hF.2.1 64 h64
              have hs2 : ∀ (kh : IntKind) (w' : World), (Instr.sliceAt 25 (.slice xb ds.length xbc) none (some (.int kh 64)) none).run Tryz.prog w' = .ok (.slice sa 64 scap) w' := hs2
              have ht2 : ∀ (kh : IntKind) (w' : World), (Instr.sliceAt 25 (.slice xb ds.length xbc) (some (.int kh 64)) none none).run Tryz.prog w' = .ok (.slice sb (ds.length - 64) sbc) w' := ht2
              obtain ⟨k0, k1, k2, k3, k4, k5, k6, k7⟩ := St.cells hF.1
              have hl64 : (ds.take 64).length = 64 := by simp; omega
              have HL64 := Lib.hid hl64
              have hgw := hF.2.2.2.2
              clear hF hmod hl64 hE
              go_upto_region 12 with fail
              go_cut [3] (fun s3 wx => s3 = .slice xb ds.length xbc ∧ FeedRel w.heap.size g w (.slice xb ds.length xbc) (mixed st (ds.take 64)) ds wx ∧ Byt (fun k => w.heap.size + 1 ≤ k ∧ k < g) wx (.slice sb (ds.length - 64) sbc) (ds.drop 64))
              case first =>
                go_region_law ((go_simp; go_at_call 77; refine (mixed8 _ _ (ds.take 64) _ hs3.drew HL64.out HTw.out).mono ?_; rintro e w5 ⟨⟨r, hr, rfl⟩, hbw⟩; have HQ := Lib.hid (feed_below HF.out hbw (by have := HF.out.2.2.2.1.lt; omega)); have HBW := Lib.hid hbw; have HRR := Lib.hid hr; clear hbw hr k0 k1 k2 k3 k4 k5 k6 k7; obtain ⟨k0, k1, k2, k3, k4, k5, k6, k7⟩ := St.cells HQ.out.1; have kf := HQ.out.1.free))
                all_goals go_wp2_with fail
                all_goals go_meet
                all_goals (rw [← HRR.out]; exact ⟨rfl, feed_set HQ.out r, feed_next ht3 HBW.out r⟩)
              case rest =>
                obtain ⟨rfl, hF, hB⟩ := hcut
                have HF2 := Lib.hid hF
                have HB2 := Lib.hid hB
                clear hF hB HF
                go_wp2
                go_roundw
                case rel =>
                  refine ⟨mixed st (ds.take 64), ds.drop 64, ?_, ?_, by simp; omega, ?_⟩
                  · rw [← HE.out, feed_long st ds h64]
                  · have := HMOD.out; simp; omega
                  · obtain ⟨f1, _, f3, f4, f5⟩ := HF2.out
                    exact ⟨f1, HB2.out, f3, f4, f5⟩
                case measure => simp [vlen]; omega
            · have hd0 : ds = [] := List.length_eq_zero_iff.1 (by omega)
              have hst2 : st = feed (feed ini l) cs := by rw [← HE.out, hd0, feed_short _ _ (by simp)]
              have hsh : sha l = out st := by rw [sha_left, hst2, HFIN.out]
              have HSH := Lib.hid hsh
              obtain ⟨k0, k1, k2, k3, k4, k5, k6, k7⟩ := St.cells hF.1
              have hgw := hF.2.2.2.2
              clear hF hE hd0 hst2 hsh hmod
              have hglt : g < wr.heap.size := HF.out.1.lt
              have hO : OutRel w.heap.size g wr.heap.size w st 0 (wr.alloc (.cells (List.replicate 32 (.int .u8 0)).toArray 24)) :=
                ⟨HF.out.2.2.1.alloc (by omega) _, HF.out.2.2.2.1.alloc _, by simpa using Blk.new wr _ 24 (List.replicate 32 (.int .u8 0)) rfl, hgw, hglt⟩
              have HO2 := Lib.hid hO
              clear hO HF
              go_wp2
              generalize wr.heap.size = d at *
              go_loopw [7, 8, 9, 57, 61] (fun _ _ _ i _ wx => ∃ k : Nat, k ≤ 8 ∧ i = .int .i64 k ∧ OutRel w.heap.size g d w st (4 * k) wx) (fun _ _ _ i _ _ => 8 - (intOf i).toNat)
              case atStart => exact ⟨0, by omega, rfl, HO2.out⟩
              case round =>
                obtain ⟨k, hk8, rfl, hR⟩ := hrel
                by_cases hlt : k < 8
                · have hix := fun w => index_st st k hlt w
                  have HR := Lib.hid hR
                  clear hR
                  go_wp2
                  go_loopw [9, 61] (fun _ i wx => ∃ m : Nat, m ≤ 4 ∧ i = .int .i64 m ∧ OutRel w.heap.size g d w st (4 * k + m) wx) (fun _ i _ => 4 - (intOf i).toNat)
                  case atStart => exact ⟨0, by omega, rfl, HR.out⟩
                  case round =>
                    obtain ⟨m, hm4, rfl, hR2⟩ := hrel
                    by_cases hlm : m < 4
                    · have hcell := out_cell (by omega) hR2
                      have hfree := hR2.2.2.1.free (4 * k + m)
                      have HS := Lib.hid (out_step hlt hlm hR2)
                      clear hR2 HR
                      go_wp2
                      go_roundw
                      case rel =>
                        refine ⟨m + 1, by omega, by go_num, ?_⟩
                        rw [byte_of]
                        exact HS.out
                      case measure => simp [intOf]; omega
                    · obtain rfl : m = 4 := by omega
                      have HR2 := Lib.hid hR2
                      clear hR2 HR
                      go_wp2
                      go_roundw
                      case rel => exact ⟨k + 1, by omega, by go_num, HR2.out⟩
                      case measure => simp [intOf]; omega
                · obtain rfl : k = 8 := by omega
                  have hD : Blk wr d ((out st).map byt) 24 := by
                    have := hR.2.2.1
                    rw [show 4 * 8 = 32 from rfl, List.take_of_length_le (by rw [out_length]; omega)] at this
                    simpa using this
                  have hBl := hR.2.1
                  have hBe := hR.1
                  have hone : ∀ v ∈ (out st).map byt, v.oneCell' = true := by
                    intro v hv; obtain ⟨c, _, rfl⟩ := List.mem_map.1 hv; rfl
                  have HD := Lib.hid hD
                  have HBL := Lib.hid hBl
                  have HBE := Lib.hid hBe
                  have HONE := Lib.hid hone
                  clear hR hD hBl hBe hone
                  go_wp2_with (first
                    | (with_reducible refine wpList_load_blk rfl _ _ rfl d _ rfl HD.out _ Tryz.underlying24 rfl (by kernel_rfl) ?_)
                    | (with_reducible refine wpList_store_blk rfl _ _ _ rfl w.heap.size ((out st).map byt) _ rfl _ rfl rfl HBL.out (by kernel_rfl) (by simp [out_length]) HONE.out ?_))
                  refine bodyPost_ret (v := .agg ((out st).map byt).toArray) (results_cell_row Tryz.results54 _ _ w.heap.size 24 _ (0, 0) _ rfl (HBL.out.row _) Tryz.underlying24 rfl (by kernel_rfl)) rfl ⟨by rw [HSH.out], below_setRow HBE.out (Nat.le_refl _) _⟩
    · have ht : ((bs.length : Int) % 64 != 56) = true := by rw [bne_iff_ne]; omega
      have hm1 : j + 1 ≤ zs l := by omega
      clear hbs hP hb1 hzs hll2
      go_wp2_with (at_builtin; refine wpList_append_one _ rfl (.tmp 22) (.tmp 23) 25 rfl (w.heap.size + 1) 5 elemB _ bs rfl HP.out.1 _ 0 rfl rfl (by omega) (by omega) ?_)
      intro va2 vc2 w2 o1 o2 o3
      have hP2 := HP.out.grows (by omega) o1 o2
      clear o1 o2 o3 HP
      have HP2 := Lib.hid hP2
      clear hP2
      go_wp2
      go_roundw
      case rel => exact ⟨j + 1, _, hm1, by rw [HBS.out, List.replicate_succ', ← List.append_assoc], HP2.out⟩
      case measure => simp [vlen]; omega

theorem of_calls (w : World) (D : Nat → Prop) (v : Value) (b : List UInt8) (hB : Byt D w v b) (hlen : b.length ≤ 1125899906842624) (hT : TabB w 1) :
    Calls Tryz.prog 51 #[v] w fun e w' => e = .returned (.agg ((sha b).map byt).toArray) ∧ Below w.heap.size w w' := by
  obtain ⟨a, c, rfl, _⟩ := id hB
  have hz : (List.replicate 32 (Value.int .u8 0)).toArray = #[.int .u8 0, .int .u8 0, .int .u8 0, .int .u8 0, .int .u8 0, .int .u8 0, .int .u8 0, .int .u8 0, .int .u8 0, .int .u8 0, .int .u8 0, .int .u8 0, .int .u8 0, .int .u8 0, .int .u8 0, .int .u8 0,
    .int .u8 0, .int .u8 0, .int .u8 0, .int .u8 0, .int .u8 0, .int .u8 0, .int .u8 0, .int .u8 0, .int .u8 0, .int .u8 0, .int .u8 0, .int .u8 0, .int .u8 0, .int .u8 0, .int .u8 0, .int .u8 0] := rfl
  have hblk := Blk.new w _ 24 (List.replicate 32 (.int .u8 0)) rfl
  have hb0 : Below w.heap.size w (w.alloc (.cells (List.replicate 32 (.int .u8 0)).toArray 24)) := (Below.refl _ _).alloc (Nat.le_refl _) _
  have hB0 := hB.lt.below hb0
  have hT0 := hT.below hb0
  have hgl : 1 < w.heap.size := (Array.getElem?_eq_some_iff.1 hT.choose_spec.choose_spec).1
  rw [hz] at hblk hb0 hB0 hT0
  clear hz
  have HBLK := Lib.hid hblk
  have HB0 := Lib.hid hb0
  clear hblk hb0
  go_enter Tryz.func51, Tryz.ntmps51
  go_upto_region 1 with fail
  generalize (w.alloc (.cells #[.int .u8 0, .int .u8 0, .int .u8 0, .int .u8 0, .int .u8 0, .int .u8 0, .int .u8 0, .int .u8 0, .int .u8 0, .int .u8 0, .int .u8 0, .int .u8 0, .int .u8 0, .int .u8 0, .int .u8 0, .int .u8 0,
    .int .u8 0, .int .u8 0, .int .u8 0, .int .u8 0, .int .u8 0, .int .u8 0, .int .u8 0, .int .u8 0, .int .u8 0, .int .u8 0, .int .u8 0, .int .u8 0, .int .u8 0, .int .u8 0, .int .u8 0, .int .u8 0] 24)) = w0 at *
  go_wp2_with fail
  refine (new_calls w0).mono ?_
  rintro e w1 ⟨q, rfl, hq, hH, hb1⟩
  have HH := Lib.hid hH
  have HB1 := Lib.hid hb1
  clear hH hb1
  go_wp2_with fail
  refine (write_calls (fun k => k = q) (fun k => k < w.heap.size ∧ D k) w1 q [] _ b HH.out (hB0.below HB1.out) (fun k _ hk e => by have := HBLK.out.lt; omega) (by simpa using hlen) (hT0.below HB1.out) (by have := HBLK.out.lt; omega)).mono ?_
  rintro e w2 ⟨rfl, hH, hf⟩
  rw [List.nil_append] at hH
  have HH2 := Lib.hid hH
  have HF2 := Lib.hid hf
  clear hH hf
  go_wp2_with fail
  have hT2 : TabB w2 1 := (hT0.below HB1.out).fr HF2.out (by have := HBLK.out.lt; omega)
  refine (sum_calls _ w2 q b HH2.out hlen hT2).mono ?_
  rintro e w3 ⟨rfl, hb3⟩
  have hbl3 : Blk w3 w.heap.size (List.replicate 32 (.int .u8 0)) 24 := (((HBLK.out.below HB1.out).fr HF2.out (by have := HBLK.out.lt; omega)).below hb3)
  have hbe : Below w.heap.size w w3 := by
    refine (HB0.out.trans (HB1.out.mono ?_)).trans ((HF2.out.below (B := w.heap.size) ?_ ?_).trans (hb3.mono ?_))
    · have := HBLK.out.lt; omega
    · have := HB1.out.size; have := HBLK.out.lt; omega
    · intro k hk; have := HBLK.out.lt; omega
    · have := HF2.out.size; have := HB1.out.size; have := HBLK.out.lt; omega
  have hone : ∀ v ∈ (sha b).map byt, v.oneCell' = true := by
    intro v hv; obtain ⟨c, _, rfl⟩ := List.mem_map.1 hv; rfl
  have HD := Lib.hid hbl3
  have HE := Lib.hid hbe
  have HONE := Lib.hid hone
  clear hbl3 hbe hone hb3
  go_wp2_with (with_reducible refine wpList_store_blk rfl _ _ _ rfl w.heap.size ((sha b).map byt) _ rfl _ rfl rfl HD.out (by kernel_rfl) (by simp [sha_length]) HONE.out ?_)
  exact bodyPost_ret (v := .agg ((sha b).map byt).toArray) (results_cell_row Tryz.results51 _ _ w.heap.size 24 _ (0, 0) _ rfl (HD.out.row _) Tryz.underlying24 rfl (by kernel_rfl)) rfl ⟨rfl, below_setRow HE.out (Nat.le_refl _) _⟩
end Go.Proofs.YtmenchnjajpkmaaGreatDoor.ShaW
end

section
namespace Go.Proofs.YtmenchnjajpkmaaGreatDoor.ShaW
open Go Go.RowKit Mem Sha

theorem one_cells (l : List UInt8) : ∀ v ∈ l.map byt, v.oneCell' = true := by
  intro v hv; obtain ⟨c, _, rfl⟩ := List.mem_map.1 hv; rfl

theorem new32 (w : World) : Blk (w.alloc (.cells #[.int .u8 0, .int .u8 0, .int .u8 0, .int .u8 0, .int .u8 0, .int .u8 0, .int .u8 0, .int .u8 0, .int .u8 0, .int .u8 0, .int .u8 0, .int .u8 0, .int .u8 0, .int .u8 0, .int .u8 0, .int .u8 0, .int .u8 0, .int .u8 0, .int .u8 0, .int .u8 0, .int .u8 0, .int .u8 0, .int .u8 0, .int .u8 0, .int .u8 0, .int .u8 0, .int .u8 0, .int .u8 0, .int .u8 0, .int .u8 0, .int .u8 0, .int .u8 0] 24)) w.heap.size (List.replicate 32 (.int .u8 0)) 24 := Blk.new w _ _ _ rfl
theorem made32 (w : World) (m : List UInt8) : Blk ((w.alloc (.cells #[.int .u8 0, .int .u8 0, .int .u8 0, .int .u8 0, .int .u8 0, .int .u8 0, .int .u8 0, .int .u8 0, .int .u8 0, .int .u8 0, .int .u8 0, .int .u8 0, .int .u8 0, .int .u8 0, .int .u8 0, .int .u8 0, .int .u8 0, .int .u8 0, .int .u8 0, .int .u8 0, .int .u8 0, .int .u8 0, .int .u8 0, .int .u8 0, .int .u8 0, .int .u8 0, .int .u8 0, .int .u8 0, .int .u8 0, .int .u8 0, .int .u8 0, .int .u8 0] 24)).setRow w.heap.size (m.map byt).toArray) w.heap.size (m.map byt) 24 ∧ Below w.heap.size w ((w.alloc (.cells #[.int .u8 0, .int .u8 0, .int .u8 0, .int .u8 0, .int .u8 0, .int .u8 0, .int .u8 0, .int .u8 0, .int .u8 0, .int .u8 0, .int .u8 0, .int .u8 0, .int .u8 0, .int .u8 0, .int .u8 0, .int .u8 0, .int .u8 0, .int .u8 0, .int .u8 0, .int .u8 0, .int .u8 0, .int .u8 0, .int .u8 0, .int .u8 0, .int .u8 0, .int .u8 0, .int .u8 0, .int .u8 0, .int .u8 0, .int .u8 0, .int .u8 0, .int .u8 0] 24)).setRow w.heap.size (m.map byt).toArray) :=
  ⟨(new32 w).row _, below_setRow ((Below.refl _ _).alloc (Nat.le_refl _) _) (Nat.le_refl _) _⟩
/-- what the reference's Mac keeps: its result's block, the key's copy -/
def MacK (B : Nat) (w : World) (v : Value) (q : List UInt8) (wx : World) : Prop :=
  Below B w wx ∧ Blk wx B (List.replicate 32 (.int .u8 0)) 24 ∧ OwnB (B + 1) 5 wx v q ∧ B < wx.heap.size
theorem MacK.grows {B : Nat} {w w1 w2 : World} {q q2 : List UInt8} {v v2 : Value} (h : MacK B w v q w1) (o1 : OwnB (B + 1) 5 w2 v2 q2) (o2 : Fr (fun k => v.ownBlock = some k) w1 w2) : MacK B w v2 q2 w2 := by
  have hne : ∀ k, v.ownBlock = some k → B + 1 ≤ k := fun k hk => (h.2.2.1.lt k hk).1
  exact ⟨h.1.trans (o2.below (Nat.le_of_lt h.2.2.2) (fun k hk => by have := hne k hk; omega)), h.2.1.fr o2 (fun e => by have := hne B e; omega), o1, by have := o2.size; have := h.2.2.2; omega⟩

end Go.Proofs.YtmenchnjajpkmaaGreatDoor.ShaW
end

section
namespace Go.Proofs.YtmenchnjajpkmaaGreatDoor.ShaW
open Go Go.RowKit Mem Sha

def TextRel (B : Nat) (w : World) (m q : List UInt8) (v : Value) (wx : World) : Prop :=
  Below B w wx ∧ Blk wx B (m.map byt) 24 ∧ OwnB (B + 1) 5 wx v q ∧ B < wx.heap.size
theorem TextRel.grows {B : Nat} {w w1 w2 : World} {m q q2 : List UInt8} {v v2 : Value} (h : TextRel B w m q v w1) (o1 : OwnB (B + 1) 5 w2 v2 q2) (o2 : Fr (fun k => v.ownBlock = some k) w1 w2) : TextRel B w m q2 v2 w2 := by
  have hne : ∀ k, v.ownBlock = some k → B + 1 ≤ k := fun k hk => (h.2.2.1.lt k hk).1
  exact ⟨h.1.trans (o2.below (Nat.le_of_lt h.2.2.2) (fun k hk => by have := hne k hk; omega)), h.2.1.fr o2 (fun e => by have := hne B e; omega), o1, by have := o2.size; have := h.2.2.2; omega⟩

theorem text_calls (w : World) (m : List UInt8) (hm : m.length = 32) :
    Calls Tryz.prog 55 #[.agg (m.map byt).toArray] w fun e w' => ∃ a c, e = .returned (.slice a 32 c) ∧ OwnB (w.heap.size + 1) 5 w' (.slice a 32 c) m ∧ Below w.heap.size w w' := by
  have h0 : TextRel w.heap.size w m [] (.slice none 0 0) (w.alloc (.cells (m.map byt).toArray 24)) :=
    ⟨(Below.refl _ _).alloc (Nat.le_refl _) _, Blk.new _ _ _ _ rfl, OwnB.nil _ _ _, by simp⟩
  have H0 := Lib.hid h0
  have HM := Lib.hid hm
  have hs : ((m.map byt).toArray).size = 32 := by simp [hm]
  clear h0 hm
  generalize (m.map byt).toArray = cs at *
  go_enter Tryz.func55, Tryz.ntmps55
  go_wp2
  go_loopw [3, 4] (fun v i wx => ∃ (n : Nat) (q : List UInt8), n ≤ 32 ∧ i = .int .i64 n ∧ q = m.take n ∧ q.length = n ∧ TextRel w.heap.size w m q v wx) (fun _ i _ => 32 - (intOf i).toNat)
  case atStart => exact ⟨0, [], by omega, rfl, rfl, rfl, H0.out⟩
  case round =>
    obtain ⟨n, q, hn, rfl, hq, hl, hR⟩ := hrel
    obtain ⟨xa, xc, rfl, hxk, _⟩ := id hR.2.2.1.byt
    have HR := Lib.hid hR
    have HQ := Lib.hid hq
    have hl1 : q.length ≤ n := by omega
    have hl2 : n ≤ q.length := by omega
    clear hq hl
    by_cases hlt : n < 32
    · have hn1 : n < m.length := by rw [HM.out]; exact hlt
      have c1 : wr.cell? ⟨w.heap.size, n, none⟩ = some (.int .u8 ((m[n]'hn1).toNat : Int)) := hR.2.1.cell (by simp [hn1])
      clear hR
      go_wp2_with (at_builtin; refine wpList_append_one _ rfl (.tmp 9) (.tmp 13) 25 rfl (w.heap.size + 1) 5 elemB _ q rfl HR.out.2.2.1 _ (m[n]'hn1) rfl rfl (by omega) (by have := HR.out.2.2.2; omega) ?_)
      intro va vc w2 o1 o2 o3
      have HR2 := Lib.hid (HR.out.grows o1 o2)
      clear o1 o2 o3 HR
      go_wp2
      go_roundw
      case rel => exact ⟨n + 1, _, by omega, by go_num, by rw [HQ.out, List.take_add_one, List.getElem?_eq_getElem hn1]; rfl, by simp; omega, HR2.out⟩
      case measure => simp [intOf]; omega
    · obtain rfl : n = 32 := by omega
      have hq2 : q = m := by rw [HQ.out]; exact List.take_of_length_le (by rw [HM.out]; omega)
      have h32 : q.length = 32 := by omega
      have HQ2 := Lib.hid hq2
      have H32 := Lib.hid h32
      clear hq2 h32 hR
      go_wp2
      go_ret
      refine ⟨xa, xc, by rw [H32.out]; rfl, ?_, HR.out.1⟩
      have := HR.out.2.2.1
      rw [H32.out, HQ2.out] at this
      exact this
end Go.Proofs.YtmenchnjajpkmaaGreatDoor.ShaW
end

section
namespace Go.Proofs.YtmenchnjajpkmaaGreatDoor.RfW
open Go Go.RowKit Mem Codec CodecW CodecN
set_option linter.unusedVariables false

/-- the reference's W at block q, its blocks in S, that has m; bad: something may not be -/
def RefIs (S : Nat → Prop) (w : World) (q : Nat) (m : List UInt8) (bad : Bool) : Prop :=
  S q ∧ ∃ wv, Blk w q [wv, .bool bad] 91 ∧ OwnB 0 5 w wv m ∧ ∀ k, wv.ownBlock = some k → S k ∧ k ≠ q
section
variable {S T : Nat → Prop} {w w' : World} {q : Nat} {m : List UInt8} {bad : Bool}
theorem RefIs.fr (H : RefIs S w q m bad) (hf : Fr T w w') (hn : ∀ k, k < w.heap.size → S k → ¬ T k) : RefIs S w' q m bad := by
  obtain ⟨h1, wv, h2, h3, h4⟩ := H
  exact ⟨h1, wv, h2.fr hf (hn q h2.lt h1), h3.fr hf (fun k hk => hn k (h3.lt k hk).2 (h4 k hk).1), h4⟩
theorem RefIs.mono (H : RefIs S w q m bad) (hn : ∀ k, k < w.heap.size → S k → T k) : RefIs T w q m bad := by
  obtain ⟨h1, wv, h2, h3, h4⟩ := H
  exact ⟨hn q h2.lt h1, wv, h2, h3, fun k hk => ⟨hn k (h3.lt k hk).2 (h4 k hk).1, (h4 k hk).2⟩⟩
theorem RefIs.below (H : RefIs S w q m bad) (hb : Below w.heap.size w w') : RefIs S w' q m bad := H.fr (Fr.ofBelow hb) (fun k hk _ h => by omega)
theorem RefIs.drew (H : RefIs S w q m bad) : RefIs S w.drew q m bad := H
theorem RefIs.lt (H : RefIs S w q m bad) : q < w.heap.size := H.2.choose_spec.1.lt
theorem RefIs.opened (H : RefIs S w q m bad) : ∃ a c, Blk w q [.slice a m.length c, .bool bad] 91 ∧ OwnB 0 5 w (.slice a m.length c) m ∧ (∀ k, (Value.slice a m.length c).ownBlock = some k → S k ∧ k ≠ q) ∧ S q ∧ q < w.heap.size := by
  obtain ⟨h1, wv, h2, h3, h4⟩ := H
  obtain ⟨a, c, rfl, _⟩ := id h3.byt
  exact ⟨a, c, h2, h3, h4, h1, h2.lt⟩
theorem RefIs.new (w : World) : RefIs (fun k => k = w.heap.size) (w.alloc (.cells #[.slice none 0 0, .bool false] 91)) w.heap.size [] false :=
  ⟨rfl, _, Blk.new _ _ _ _ rfl, OwnB.nil _ _ _, fun k hk => by cases hk⟩
/-- behind 'w.B = append(w.B, ..)' -/
theorem appended {w2 : World} {rv v2 : Value} {m2 : List UInt8} (h1 : S q) (h2 : Blk w q [rv, .bool bad] 91) (h4 : ∀ k, rv.ownBlock = some k → S k ∧ k ≠ q)
    (o1 : OwnB 0 5 w2 v2 m2) (o2 : Fr (fun k => rv.ownBlock = some k) w w2) (o3 : v2.ownBlock = rv.ownBlock ∨ ∃ k, v2.ownBlock = some k ∧ w.heap.size ≤ k ∧ k < w2.heap.size) :
    RefIs (Plus S w (w2.setCell ⟨q, 0, none⟩ v2)) (w2.setCell ⟨q, 0, none⟩ v2) q m2 bad ∧ Fr S w (w2.setCell ⟨q, 0, none⟩ v2) ∧ w2.cell? ⟨q, 0, none⟩ = some rv ∧ w2.frozen? ⟨q, 0, none⟩ = false := by
  have hne : ¬ rv.ownBlock = some q := fun e => (h4 q e).2 rfl
  have hb2 := h2.fr o2 hne
  have hv2 : ∀ k, v2.ownBlock = some k → Plus S w (w2.setCell ⟨q, 0, none⟩ v2) k ∧ k ≠ q := by
    intro k hk
    have hkl := (o1.lt k hk).2
    rcases o3 with o3 | ⟨k', o3, o4, o5⟩
    · rw [o3] at hk; exact ⟨.inl (h4 k hk).1, (h4 k hk).2⟩
    · rw [o3] at hk; cases hk
      exact ⟨.inr ⟨o4, by simpa [World.setCell] using o5⟩, by have := h2.lt; omega⟩
  refine ⟨⟨.inl h1, v2, by simpa using hb2.set 0 v2, ?_, hv2⟩, ?_, hb2.cell rfl, hb2.free 0⟩
  · exact o1.fr (S := fun k => k = q) (Fr.setCell (S := fun k => k = q) (p := ⟨q, 0, none⟩) (Fr.refl _ w2) (.inr rfl) v2) (fun k hk => (hv2 k hk).2)
  · exact Fr.setCell (S := S) (p := ⟨q, 0, none⟩) (o2.mono fun k _ e => (h4 k e).1) (.inr h1) v2
end
set_option maxHeartbeats 4000000 in
theorem raw_calls (S D : Nat → Prop) (w : World) (q : Nat) (m : List UInt8) (bad : Bool) (v : Value) (b : List UInt8) (H : RefIs S w q m bad) (hB : Byt D w v b) (hlen : m.length + b.length ≤ 140737488355328) :
    Calls Tryz.prog 80 #[.pointer (some ⟨q, 0, none⟩), v] w fun e w' => e = .returned (.tuple #[]) ∧ RefIs (Plus S w w') w' q (m ++ b) bad ∧ Fr S w w' := by
  obtain ⟨a, c, h1, h2, h3, h4, h5⟩ := H.opened
  obtain ⟨va, vc, rfl, _⟩ := id hB
  have c0 := h1.cell (i := 0) rfl
  have H1 := Lib.hid h1
  have H2 := Lib.hid h2
  have H3 := Lib.hid h3
  have H4 := Lib.hid h4
  have HB := Lib.hid hB
  clear h1 h2 h3 h4 H hB
  go_enter Tryz.func80, Tryz.ntmps80
  go_wp2_with (at_builtin; refine wpList_append_byt _ rfl (.tmp 8) (.tmp 9) 25 rfl 0 5 elemB _ m rfl H2.out _ b rfl HB.out hlen (Nat.zero_le _) ?_)
  intro va2 vc2 w2 o1 o2 o3
  obtain ⟨g1, g2, g3, g4⟩ := appended H4.out H1.out H3.out o1 (Fr.ofGrown o2) (o3.imp_right fun o3 => ⟨_, o3, Nat.le_refl _, by have := (o1.lt _ o3).2; exact this⟩)
  have G1 := Lib.hid g1
  have G2 := Lib.hid g2
  clear o1 o2 o3 g1 g2 c0
  go_wp2
  go_end0
  exact ⟨rfl, G1.out, G2.out⟩
theorem Plus.le {S : Nat → Prop} {a b c : World} (hb : b.heap.size ≤ c.heap.size) {k : Nat} (h : Plus S a b k) : Plus S a c k := h.imp_right fun h => ⟨h.1, by omega⟩
theorem Plus.join {S : Nat → Prop} {a b c : World} (h1 : a.heap.size ≤ b.heap.size) (h2 : b.heap.size ≤ c.heap.size) (k : Nat) (h : Plus (Plus S a b) b c k) : Plus S a c k := by
  rcases h with (h | h) | h
  · exact .inl h
  · exact .inr ⟨h.1, by omega⟩
  · exact .inr ⟨by omega, h.2⟩
/-- two steps, one behind the other -/
theorem Fr.join {S : Nat → Prop} {a b c : World} (h1 : Fr S a b) (h2 : Fr (Plus S a b) b c) : Fr S a c :=
  h1.trans' h2 (fun k hk h => by rcases h with h | h; exact h; omega)
set_option maxHeartbeats 4000000 in
theorem num_calls (S : Nat → Prop) (w : World) (q : Nat) (m : List UInt8) (bad : Bool) (n k : Nat) (hn : n < 18446744073709551616) (hk : k ≤ 8) (H : RefIs S w q m bad) (hlen : m.length + k ≤ 140737488355328) :
    Calls Tryz.prog 57 #[.pointer (some ⟨q, 0, none⟩), .int .u64 (n : Int), .int .i64 (k : Int)] w fun e w' => e = .returned (.tuple #[]) ∧ RefIs (Plus S w w') w' q (m ++ num n k) bad ∧ Fr S w w' := by
  have H1 := Lib.hid H
  clear H
  go_enter Tryz.func57, Tryz.ntmps57
  go_wp2_with fail
  refine (number_calls w n k hn hk).mono ?_
  rintro e w1 ⟨a, c, rfl, g1, g2⟩
  have hnl : (num n k).length = k := num_length n k
  have HO := Lib.hid g1
  have HB := Lib.hid g2
  have H2 := Lib.hid (H1.out.below g2)
  clear g1 g2
  go_wp2_with fail
  refine (raw_calls S _ w1 q m bad _ (num n k) H2.out HO.out.byt (by omega)).mono ?_
  rintro e w2 ⟨rfl, g1, g2⟩
  have R2 := Lib.hid (show RefIs (Plus S w w2) w2 q (m ++ num n k) bad from g1.mono (fun k _ h => by
    rcases h with h | h
    · exact .inl h
    · exact .inr ⟨by have := HB.out.size; omega, h.2⟩))
  have F2 := Lib.hid ((Fr.ofBelowAll HB.out (Nat.le_refl _) : Fr S w w1).trans' g2 (fun k _ h => h))
  clear g1 g2
  go_wp2
  go_end0
  exact ⟨rfl, R2.out, F2.out⟩
end Go.Proofs.YtmenchnjajpkmaaGreatDoor.RfW
end

section
namespace Go.Proofs.YtmenchnjajpkmaaGreatDoor.Ww
open Go Go.RowKit Mem Codec CodecW
set_option linter.unusedVariables false

/-- the wire's writer at block q, its blocks in S, that has m; bad: something may not be written -/
def WwIs (S : Nat → Prop) (w : World) (q : Nat) (m : List UInt8) (bad : Bool) : Prop :=
  S q ∧ ∃ p, Blk w q [.pointer (some ⟨p, 0, none⟩), .bool bad] 166 ∧ WriterIs (fun k => S k ∧ k ≠ q) w p m
section
variable {S T : Nat → Prop} {w w' : World} {q : Nat} {m : List UInt8} {bad : Bool}
theorem WwIs.fr (H : WwIs S w q m bad) (hf : Fr T w w') (hn : ∀ k, k < w.heap.size → S k → ¬ T k) : WwIs S w' q m bad := by
  obtain ⟨h1, p, h2, h3⟩ := H
  exact ⟨h1, p, h2.fr hf (hn q h2.lt h1), h3.fr hf (fun k hk h => hn k hk h.1)⟩
theorem WwIs.mono (H : WwIs S w q m bad) (hn : ∀ k, k < w.heap.size → S k → T k) : WwIs T w q m bad := by
  obtain ⟨h1, p, h2, h3⟩ := H
  exact ⟨hn q h2.lt h1, p, h2, h3.mono (fun k hk h => ⟨hn k hk h.1, h.2⟩)⟩
theorem WwIs.below (H : WwIs S w q m bad) (hb : Below w.heap.size w w') : WwIs S w' q m bad := H.fr (Fr.ofBelow hb) (fun k hk _ h => by omega)
theorem WwIs.drew (H : WwIs S w q m bad) : WwIs S w.drew q m bad := H
theorem WwIs.lt (H : WwIs S w q m bad) : q < w.heap.size := H.2.choose_spec.1.lt
end
/-- on the way from w0 on: the writer, its blocks being S's and new ones; nothing else has turned -/
def At (S : Nat → Prop) (w0 w : World) (q : Nat) (m : List UInt8) (bad : Bool) : Prop := WwIs (Plus S w0 w) w q m bad ∧ Fr S w0 w ∧ ∀ k, S k → k < w0.heap.size
section
variable {S : Nat → Prop} {w0 w w' : World} {q : Nat} {m : List UInt8} {bad : Bool}
theorem At.start (H : WwIs S w q m bad) (hS : ∀ k, S k → k < w.heap.size) : At S w w q m bad := ⟨H.mono (fun k _ h => .inl h), Fr.refl _ _, hS⟩
theorem At.out (H : At S w0 w q m bad) : ∀ k, Plus S w0 w k → k < w.heap.size := fun k h => by
  have h1 := H.2.1.size
  rcases h with h | h
  · have := H.2.2 k h; omega
  · exact h.2
theorem At.lt (H : At S w0 w q m bad) : q < w.heap.size := H.1.lt
theorem At.drew (H : At S w0 w q m bad) : At S w0 w.drew q m bad := ⟨H.1.drew, H.2.1.drew, H.2.2⟩
/-- what the callee has made for itself is no block of the writer's -/
theorem At.enter (H : At S w0 w q m bad) (o : Obj) : At (Plus S w0 w) (w.alloc o) (w.alloc o) q m bad :=
  At.start (H.1.below ((Below.refl _ _).alloc (Nat.le_refl _) _)) (fun k h => by have := H.out k h; simp; omega)
theorem At.leave {o : Obj} {m' : List UInt8} {bad' : Bool} (H : At S w0 w q m bad) (K : At (Plus S w0 w) (w.alloc o) w' q m' bad') : At S w0 w' q m' bad' := by
  have h1 := H.2.1.size
  have h2 := K.2.1.size
  have hz : (w.alloc o).heap.size = w.heap.size + 1 := by simp
  refine ⟨K.1.mono (fun k hk h => ?_), H.2.1.trans' (((Fr.refl _ w).alloc o).trans K.2.1) (fun i hi h => ?_), H.2.2⟩
  · rcases h with (h | h) | h
    · exact .inl h
    · exact .inr ⟨h.1, by omega⟩
    · exact .inr ⟨by omega, h.2⟩
  · rcases h with h | h
    · exact h
    · omega
theorem At.enter0 (H : At S w0 w q m bad) : At (Plus S w0 w) w w q m bad := At.start H.1 H.out
theorem At.leave0 {m' : List UInt8} {bad' : Bool} (H : At S w0 w q m bad) (K : At (Plus S w0 w) w w' q m' bad') : At S w0 w' q m' bad' := by
  have h1 := H.2.1.size
  have h2 := K.2.1.size
  refine ⟨K.1.mono (fun k hk h => ?_), H.2.1.trans' K.2.1 (fun i hi h => ?_), H.2.2⟩
  · rcases h with (h | h) | h
    · exact .inl h
    · exact .inr ⟨h.1, by omega⟩
    · exact .inr ⟨by omega, h.2⟩
  · rcases h with h | h
    · exact h
    · omega
/-- the codec's writer under it, and back -/
theorem At.opened (H : At S w0 w q m bad) : ∃ p, Blk w q [.pointer (some ⟨p, 0, none⟩), .bool bad] 166 ∧ WriterIs (fun k => Plus S w0 w k ∧ k ≠ q) w p m ∧ Plus S w0 w q := by
  obtain ⟨⟨h1, p, h2, h3⟩, _, _⟩ := H
  exact ⟨p, h2, h3, h1⟩
theorem At.shut {p : Nat} {m' : List UInt8} (H : At S w0 w q m bad) (hB : Blk w q [.pointer (some ⟨p, 0, none⟩), .bool bad] 166)
    (h : WriterIs (Plus (fun k => Plus S w0 w k ∧ k ≠ q) w w') w' p m') (hf : Fr (fun k => Plus S w0 w k ∧ k ≠ q) w w') : At S w0 w' q m' bad := by
  have h1 := H.2.1.size
  have h2 := hf.size
  have hq := hB.lt
  refine ⟨⟨?_, p, hB.fr hf (fun h => h.2 rfl), h.mono (fun k hk h => ?_)⟩, H.2.1.trans' hf (fun i hi h => ?_), H.2.2⟩
  · rcases H.1.1 with h | h
    · exact .inl h
    · exact .inr ⟨h.1, by omega⟩
  · rcases h with ⟨h | h, hne⟩ | h
    · exact ⟨.inl h, hne⟩
    · exact ⟨.inr ⟨h.1, by omega⟩, hne⟩
    · exact ⟨.inr ⟨by omega, h.2⟩, by omega⟩
  · rcases h.1 with h | h
    · exact h
    · omega
/-- the box that the callee has made stays -/
theorem At.box {o : Obj} {m' : List UInt8} {bad' : Bool} {l : List Value} {e : TypeId} (H : At S w0 w q m bad) (K : At (Plus S w0 w) (w.alloc o) w' q m' bad') (h : Blk (w.alloc o) w.heap.size l e) : Blk w' w.heap.size l e :=
  h.fr K.2.1 (fun h => by have := H.out _ h; omega)
/-- data that lie elsewhere stay -/
theorem At.blk {b : Nat} {l : List Value} {e : TypeId} (H : At S w0 w q m bad) (h : Blk w0 b l e) (hn : ¬ S b) : Blk w b l e := h.fr H.2.1 hn
theorem At.byt {D : Nat → Prop} {v : Value} {l : List UInt8} (H : At S w0 w q m bad) (h : Byt D w0 v l) (hn : ∀ k, k < w0.heap.size → D k → ¬ S k) : Byt D w v l := h.fr H.2.1 hn
end
theorem szD {d : List UInt8} (hd : d.length = 32) : (Tryz.prog.info? 24).map (·.size) = some (d.map byt).length := by rw [List.length_map, hd]; kernel_rfl

set_option maxHeartbeats 4000000 in
set_option maxRecDepth 100000 in
theorem digest_calls (S : Nat → Prop) (w0 w : World) (q : Nat) (m : List UInt8) (bad : Bool) (d : List UInt8) (hd : d.length = 32) (H : At S w0 w q m bad) (hlen : m.length + 32 ≤ 140737488355328) :
    Calls Tryz.prog 101 #[.pointer (some ⟨q, 0, none⟩), .agg (d.map byt).toArray] w fun e w' => e = .returned (.tuple #[]) ∧ At S w0 w' q (m ++ d) bad := by
  obtain ⟨cs, hcs⟩ : ∃ cs, (d.map byt).toArray = cs := ⟨_, rfl⟩
  have HB := Lib.hid (show Blk (w.alloc (.cells cs 24)) w.heap.size (d.map byt) 24 from Blk.new w _ _ _ hcs.symm)
  have H1 := Lib.hid (H.enter (.cells cs 24))
  have HL := Lib.hid (fun w' m' => @At.leave S w0 w w' q m bad (.cells cs 24) m' bad H)
  have hnw : ¬ Plus S w0 w w.heap.size ∨ True := .inr trivial
  have hql := H.lt
  have hz : (w.alloc (.cells cs 24)).heap.size = w.heap.size + 1 := by simp
  have hd32 : d.length ≤ 32 := by omega
  rw [hcs]
  clear H hcs hnw
  go_enter Tryz.func101, Tryz.ntmps101
  go_upto_region 1 with fail
  generalize (w.alloc (.cells cs 24)) = w1 at *
  obtain ⟨p, h1, h2, h3⟩ := H1.out.drew.opened
  have H2 := Lib.hid h2
  have HQ := Lib.hid h1
  have c0 := h1.cell (i := 0) rfl
  have c1 : w1.cell? ⟨q, 0, none⟩ = some (.pointer (some ⟨p, 0, none⟩)) := c0
  clear h1 h2 h3
  go_still_tail 5, (by kernel_rfl)
  change wpList _ _ _ _ _ w1.drew
  go_wp2_with fail
  refine (raw_calls _ Any w1.drew p m _ d H2.out (((HB.out.byt hd (by unfold maxLen; omega) trivial).drew)) (by omega)).mono ?_
  rintro e w2 ⟨rfl, g1, g2⟩
  have HF := Lib.hid (HL.out _ _ (H1.out.drew.shut HQ.out g1 g2))
  clear g1 g2 HL H1 H2 HB HQ c0 c1
  go_wp2
  go_end0
  exact ⟨rfl, HF.out⟩
end Go.Proofs.YtmenchnjajpkmaaGreatDoor.Ww
end

section
namespace Go.Proofs.YtmenchnjajpkmaaGreatDoor.Rw
open Go Go.RowKit Mem Codec CodecW RfW
set_option linter.unusedVariables false

/-- on the way from w0 on: the writer, its blocks being S's and new ones; nothing else has turned -/
def RAt (S : Nat → Prop) (w0 w : World) (q : Nat) (m : List UInt8) (bad : Bool) : Prop := RefIs (Plus S w0 w) w q m bad ∧ Fr S w0 w ∧ ∀ k, S k → k < w0.heap.size
section
variable {S : Nat → Prop} {w0 w w' : World} {q : Nat} {m : List UInt8} {bad : Bool}
theorem RAt.start (H : RefIs S w q m bad) (hS : ∀ k, S k → k < w.heap.size) : RAt S w w q m bad := ⟨H.mono (fun k _ h => .inl h), Fr.refl _ _, hS⟩
theorem RAt.out (H : RAt S w0 w q m bad) : ∀ k, Plus S w0 w k → k < w.heap.size := fun k h => by
  have h1 := H.2.1.size
  rcases h with h | h
  · have := H.2.2 k h; omega
  · exact h.2
theorem RAt.lt (H : RAt S w0 w q m bad) : q < w.heap.size := H.1.lt
theorem RAt.drew (H : RAt S w0 w q m bad) : RAt S w0 w.drew q m bad := ⟨H.1.drew, H.2.1.drew, H.2.2⟩
/-- what the callee has made for itself is no block of the writer's -/
theorem RAt.enter (H : RAt S w0 w q m bad) (o : Obj) : RAt (Plus S w0 w) (w.alloc o) (w.alloc o) q m bad :=
  RAt.start (H.1.below ((Below.refl _ _).alloc (Nat.le_refl _) _)) (fun k h => by have := H.out k h; simp; omega)
theorem RAt.leave {o : Obj} {m' : List UInt8} {bad' : Bool} (H : RAt S w0 w q m bad) (K : RAt (Plus S w0 w) (w.alloc o) w' q m' bad') : RAt S w0 w' q m' bad' := by
  have h1 := H.2.1.size
  have h2 := K.2.1.size
  have hz : (w.alloc o).heap.size = w.heap.size + 1 := by simp
  refine ⟨K.1.mono (fun k hk h => ?_), H.2.1.trans' (((Fr.refl _ w).alloc o).trans K.2.1) (fun i hi h => ?_), H.2.2⟩
  · rcases h with (h | h) | h
    · exact .inl h
    · exact .inr ⟨h.1, by omega⟩
    · exact .inr ⟨by omega, h.2⟩
  · rcases h with h | h
    · exact h
    · omega
theorem RAt.enter0 (H : RAt S w0 w q m bad) : RAt (Plus S w0 w) w w q m bad := RAt.start H.1 H.out
theorem RAt.leave0 {m' : List UInt8} {bad' : Bool} (H : RAt S w0 w q m bad) (K : RAt (Plus S w0 w) w w' q m' bad') : RAt S w0 w' q m' bad' := by
  have h1 := H.2.1.size
  have h2 := K.2.1.size
  refine ⟨K.1.mono (fun k hk h => ?_), H.2.1.trans' K.2.1 (fun i hi h => ?_), H.2.2⟩
  · rcases h with (h | h) | h
    · exact .inl h
    · exact .inr ⟨h.1, by omega⟩
    · exact .inr ⟨by omega, h.2⟩
  · rcases h with h | h
    · exact h
    · omega
/-- the box that the callee has made stays -/
theorem RAt.box {o : Obj} {m' : List UInt8} {bad' : Bool} {l : List Value} {e : TypeId} (H : RAt S w0 w q m bad) (K : RAt (Plus S w0 w) (w.alloc o) w' q m' bad') (h : Blk (w.alloc o) w.heap.size l e) : Blk w' w.heap.size l e :=
  h.fr K.2.1 (fun h => by have := H.out _ h; omega)
/-- data that lie elsewhere stay -/
theorem RAt.blk {b : Nat} {l : List Value} {e : TypeId} (H : RAt S w0 w q m bad) (h : Blk w0 b l e) (hn : ¬ S b) : Blk w b l e := h.fr H.2.1 hn
theorem RAt.byt {D : Nat → Prop} {v : Value} {l : List UInt8} (H : RAt S w0 w q m bad) (h : Byt D w0 v l) (hn : ∀ k, k < w0.heap.size → D k → ¬ S k) : Byt D w v l := h.fr H.2.1 hn
end
theorem RAt.put {m' : List UInt8} {S : Nat → Prop} {w0 w w' : World} {q : Nat} {m : List UInt8} {bad bad' : Bool} (H : RAt S w0 w q m bad) (h : RefIs (Plus (Plus S w0 w) w w') w' q m' bad') (hf : Fr (Plus S w0 w) w w') : RAt S w0 w' q m' bad' :=
  H.leave0 ⟨h, hf, H.out⟩
theorem RAt.below {S : Nat → Prop} {w0 w w' : World} {q : Nat} {m : List UInt8} {bad : Bool} (H : RAt S w0 w q m bad) (hb : Below w.heap.size w w') : RAt S w0 w' q m bad :=
  H.put (H.1.below hb |>.mono (fun k hk h => .inl h)) (Fr.ofBelowAll hb (Nat.le_refl _))
theorem raw_to (S D : Nat → Prop) (w0 w : World) (q : Nat) (m : List UInt8) (bad : Bool) (v : Value) (b : List UInt8) (H : RAt S w0 w q m bad) (hB : Byt D w v b) (hlen : m.length + b.length ≤ 140737488355328) :
    Calls Tryz.prog 80 #[.pointer (some ⟨q, 0, none⟩), v] w fun e w' => e = .returned (.tuple #[]) ∧ RAt S w0 w' q (m ++ b) bad :=
  (RfW.raw_calls _ D w q m bad v b H.1 hB hlen).mono fun e w' ⟨h1, h2, h3⟩ => ⟨h1, H.put h2 h3⟩
theorem num_to (S : Nat → Prop) (w0 w : World) (q : Nat) (m : List UInt8) (bad : Bool) (n k : Nat) (hn : n < 18446744073709551616) (hk : k ≤ 8) (H : RAt S w0 w q m bad) (hlen : m.length + k ≤ 140737488355328) :
    Calls Tryz.prog 57 #[.pointer (some ⟨q, 0, none⟩), .int .u64 (n : Int), .int .i64 (k : Int)] w fun e w' => e = .returned (.tuple #[]) ∧ RAt S w0 w' q (m ++ num n k) bad :=
  (RfW.num_calls _ w q m bad n k hn hk H.1 hlen).mono fun e w' ⟨h1, h2, h3⟩ => ⟨h1, H.put h2 h3⟩
theorem szD {d : List UInt8} (hd : d.length = 32) : (Tryz.prog.info? 24).map (·.size) = some (d.map byt).length := by rw [List.length_map, hd]; kernel_rfl

set_option maxHeartbeats 4000000 in
set_option maxRecDepth 100000 in
theorem digest_to (S : Nat → Prop) (w0 w : World) (q : Nat) (m : List UInt8) (bad : Bool) (d : List UInt8) (hd : d.length = 32) (H : RAt S w0 w q m bad) (hlen : m.length + 32 ≤ 140737488355328) :
    Calls Tryz.prog 59 #[.pointer (some ⟨q, 0, none⟩), .agg (d.map byt).toArray] w fun e w' => e = .returned (.tuple #[]) ∧ RAt S w0 w' q (m ++ d) bad := by
  obtain ⟨cs, hcs⟩ : ∃ cs, (d.map byt).toArray = cs := ⟨_, rfl⟩
  have HB := Lib.hid (show Blk (w.alloc (.cells cs 24)) w.heap.size (d.map byt) 24 from Blk.new w _ _ _ hcs.symm)
  have H1 := Lib.hid (H.enter (.cells cs 24))
  have HL := Lib.hid (fun w' m' => @RAt.leave S w0 w w' q m bad (.cells cs 24) m' bad H)
  have HS := Lib.hid (szD hd)
  have HC := Lib.hid hcs
  have hz : (w.alloc (.cells cs 24)).heap.size = w.heap.size + 1 := by simp
  rw [hcs]
  clear H hcs
  go_enter Tryz.func59, Tryz.ntmps59
  go_upto_region 1 with fail
  generalize (w.alloc (.cells cs 24)) = w1 at *
  go_wp2_with (first | (with_reducible refine wpList_load_blk rfl _ _ rfl w.heap.size (d.map byt) rfl HB.out _ Tryz.underlying24 rfl HS.out ?_))
  refine (ShaW.text_calls w1 d hd).mono ?_
  rintro e w2 ⟨a, c, rfl, g1, g2⟩
  have H2 := Lib.hid (H1.out.below g2)
  have HO := Lib.hid g1.byt
  have hl2 : d.length ≤ 32 := by omega
  clear g1 g2
  have HO2 := Lib.hid (show Byt Any w2 (.slice a 32 c) d from HO.out.any)
  go_wp2_with fail
  refine (raw_to _ _ _ w2 q m bad _ d H2.out HO2.out (by omega)).mono ?_
  rintro e w3 ⟨rfl, g1⟩
  have HF := Lib.hid (HL.out _ _ g1)
  clear g1 HL H1 H2 HB HC HO HO2
  go_wp2
  go_end0
  exact ⟨rfl, HF.out⟩
end Go.Proofs.YtmenchnjajpkmaaGreatDoor.Rw
end

section
namespace Go.Proofs.YtmenchnjajpkmaaGreatDoor.ShaW
open Go Go.RowKit Mem Sha

theorem rot (x : W) (k : Int) (w : World) (h1 : 1 ≤ k) (h2 : k ≤ 31) :
    Calls Tryz.prog 79 #[.int .u32 (x.toNat : Int), .int .i64 k] w fun e w' => e = .returned (.int .u32 ((rotr x k.toNat).toNat : Int)) ∧ ∃ n, w' = w.drewN n := by
  have hx := x.isLt
  obtain ⟨n, rfl⟩ := Int.eq_ofNat_of_zero_le (by omega : 0 ≤ k)
  go_enter Tryz.func79, Tryz.ntmps79
  go_wp2
  go_quiet (fail)
  go_wp2
  go_ret
  exact ⟨ret_int (by rw [shl_int, shr_int, or_int, BitVec.or_comm]; rfl), _, rfl⟩

def PadR (B : Nat) (w : World) (v : Value) (bs : List UInt8) (wx : World) : Prop := OwnB B 5 wx v bs ∧ Below B w wx ∧ B ≤ wx.heap.size
theorem PadR.grows {B : Nat} {w w1 w2 : World} {v v2 : Value} {bs b2 : List UInt8} (h : PadR B w v bs w1) (o1 : OwnB B 5 w2 v2 b2) (o2 : Fr (fun k => v.ownBlock = some k) w1 w2) : PadR B w v2 b2 w2 :=
  ⟨o1, h.2.1.trans (o2.below h.2.2 (fun k hk => (h.1.lt k hk).1)), Nat.le_trans h.2.2 o2.size⟩

set_option maxHeartbeats 4000000 in
set_option maxRecDepth 100000 in
theorem padded_calls (w : World) (D : Nat → Prop) (v : Value) (l : List UInt8) (hB : Byt D w v l) (hlen : l.length ≤ 140737488355200) :
    Calls Tryz.prog 78 #[v] w fun e w' => ∃ a n c, e = .returned (.slice a n c) ∧ Byt (fun k => w.heap.size ≤ k) w' (.slice a n c) (l ++ padTail l.length) ∧ Below w.heap.size w w' := by
  obtain ⟨a, c, rfl, hk, _⟩ := id hB
  have HB0 := Lib.hid (hB.lt.below ((Below.refl _ _).alloc (Nat.le_refl _) (.cells #[] 5)))
  have hP0 : PadR w.heap.size w (.slice (some ⟨w.heap.size, 0, none⟩) 0 0) [] (w.alloc (.cells #[] 5)) :=
    ⟨World.ownsRow_lit w #[] 0 (Nat.le_refl _) (Nat.zero_le _) rfl, (Below.refl _ _).alloc (Nat.le_refl _) _, by simp⟩
  have HP0 := Lib.hid hP0
  clear hP0 hB
  go_enter Tryz.func78, Tryz.ntmps78
  go_wp2_with (at_builtin; refine wpList_append_byt _ rfl (.tmp 6) (.tmp 7) 25 rfl w.heap.size 5 elemB _ [] rfl HP0.out.1 _ l rfl HB0.out (by simp; omega) (by simp) ?_)
  intro va vc w1 o1 o2 o3
  have HP1 := Lib.hid (HP0.out.grows o1 (Fr.ofGrown o2))
  clear o1 o2 o3 HP0
  go_wp2_with (at_builtin; refine wpList_append_one _ rfl (.tmp 9) (.tmp 10) 25 rfl w.heap.size 5 elemB _ l rfl HP1.out.1 _ 128 rfl rfl (by omega) (by have := HP1.out.2.2; omega) ?_)
  intro va2 vc2 w2 o1 o2 o3
  have HP2 := Lib.hid (HP1.out.grows o1 o2)
  clear o1 o2 o3 HP1
  go_wp2
  go_loopw [3] (fun v wx => ∃ j bs, j ≤ zs l ∧ bs = l ++ [128] ++ List.replicate j 0 ∧ PadR w.heap.size w v bs wx) (fun v _ => l.length + 200 - vlen v)
  case atStart => exact ⟨0, _, Nat.zero_le _, by simp, HP2.out⟩
  case round =>
    obtain ⟨j, bs, hj, hbs, hP⟩ := hrel
    obtain ⟨xa, xc, rfl, _⟩ := id hP.1.byt
    have hz := hP.2.2
    have hb1 : bs.length = l.length + 1 + j := by rw [hbs]; simp; omega
    have hb2 : bs.length ≤ l.length + 1 + j := by omega
    have hb3 : l.length + 1 + j ≤ bs.length := by omega
    have hzs : zs l = (119 - l.length % 64) % 64 := rfl
    have hz63 : zs l ≤ 63 := by omega
    have HBS := Lib.hid hbs
    have HP := Lib.hid hP
    by_cases hjz : j = zs l
    · have ht : ((bs.length : Int) % 64 != 56) = false := by rw [bne_eq_false_iff_eq]; omega
      have hbz : bs = l ++ [128] ++ List.replicate (zs l) 0 := by rw [hbs, hjz]
      have hb4 : bs.length ≤ l.length + 64 := by omega
      have HBZ := Lib.hid hbz
      clear hbs hP hb1 hzs hjz HBS hbz hb2 hb3
      go_wp2
      go_loopw [3, 5] (fun v i wx => ∃ (k : Nat) (cs : List UInt8), k ≤ 8 ∧ i = .int .i64 k ∧ cs = bs ++ (be8 (8 * l.length)).take k ∧ PadR w.heap.size w v cs wx) (fun _ i _ => 8 - (intOf i).toNat)
      case atStart => exact ⟨0, _, by omega, rfl, by simp, HP.out⟩
      case round =>
        obtain ⟨k, cs, hk8, rfl, hcs, hP⟩ := hrel
        obtain ⟨ya, yc, rfl, _⟩ := id hP.1.byt
        have hz2 := hP.2.2
        have hcl : cs.length ≤ l.length + 72 := by rw [hcs]; simp; omega
        have HP2 := Lib.hid hP
        have HCS := Lib.hid hcs
        clear hP hcs HP
        by_cases hlt : k < 8
        · go_wp2_with (at_builtin; refine wpList_append_one _ rfl (.tmp 27) (.tmp 34) 25 rfl w.heap.size 5 elemB _ cs rfl HP2.out.1 _ (UInt8.ofNat (8 * l.length / 2 ^ (56 - 8 * k))) (byte_int _ _) rfl (by omega) (by omega) ?_)
          intro va2 vc2 w2 o1 o2 o3
          have HP3 := Lib.hid (HP2.out.grows o1 o2)
          clear o1 o2 o3 HP2
          go_wp2
          go_roundw
          case rel => exact ⟨k + 1, _, by omega, by go_num, by rw [HCS.out, be8_take _ k hlt, ← List.append_assoc], HP3.out⟩
          case measure => simp [intOf]; omega
        · obtain rfl : k = 8 := by omega
          have hfin : cs = l ++ padTail l.length := by
            rw [HCS.out, HBZ.out]
            unfold padTail zs
            rw [show 8 * l.length % 18446744073709551616 = 8 * l.length from by omega, show (be8 (8 * l.length)).take 8 = be8 (8 * l.length) from List.take_of_length_le (by rw [be8_length]; omega)]
            simp
          have HFIN := Lib.hid hfin
          clear hfin HBZ HCS
          go_wp2
          go_ret
          refine ⟨ya, cs.length, yc, rfl, ?_, HP2.out.2.1⟩
          rw [← HFIN.out]
          exact HP2.out.1.byt.mono fun k _ h => h.2
    · have ht : ((bs.length : Int) % 64 != 56) = true := by rw [bne_iff_ne]; omega
      have hm1 : j + 1 ≤ zs l := by omega
      clear hbs hP hb1 hzs
      go_wp2_with (at_builtin; refine wpList_append_one _ rfl (.tmp 16) (.tmp 17) 25 rfl w.heap.size 5 elemB _ bs rfl HP.out.1 _ 0 rfl rfl (by omega) (by omega) ?_)
      intro va2 vc2 w2 o1 o2 o3
      have HP2 := Lib.hid (HP.out.grows o1 o2)
      clear o1 o2 o3 HP
      go_wp2
      go_roundw
      case rel => exact ⟨j + 1, _, hm1, by rw [HBS.out, List.replicate_succ', ← List.append_assoc], HP2.out⟩
      case measure => simp [vlen]; omega
end Go.Proofs.YtmenchnjajpkmaaGreatDoor.ShaW
end

section
namespace Go.Proofs.YtmenchnjajpkmaaGreatDoor.Mem
open Go
theorem wp_loop_fr {P : Program} {c : Code} {Q : Exit → Act → World → Prop} (F : (Nat → Value) → Act) (R : Act → World → Prop) (μ : Act → Nat) {a : Act} {w : World} (ha : a = F (fun j => a.tmps.getD j undef)) (h0 : R a w)
    (round : ∀ u w, R (F u) w → c.wp P (Exit.then (fun a' w' => (R a' w' ∧ μ a' < μ (F u)) ∧ a' = F (fun j => a'.tmps.getD j undef)) Q) (F u) w) : (Code.loop c).wp P Q a w := by
  refine wp_loop (fun a w => R a w ∧ a = F (fun j => a.tmps.getD j undef)) (fun a _ => μ a) ⟨h0, ha⟩ ?_
  rintro a w ⟨hR, hF⟩
  have := round (fun j => a.tmps.getD j undef) w (by rw [← hF]; exact hR)
  rw [← hF] at this
  have e : (fun a' w' => (R a' w' ∧ a' = F (fun j => a'.tmps.getD j undef)) ∧ μ a' < μ a) = (fun a' w' => (R a' w' ∧ μ a' < μ a) ∧ a' = F (fun j => a'.tmps.getD j undef)) := by
    funext a' w'
    exact propext ⟨fun h => ⟨⟨h.1.1, h.2⟩, h.1.2⟩, fun h => ⟨⟨h.1.1, h.2⟩, h.1.2⟩⟩
  rw [e]
  exact this
end Go.Proofs.YtmenchnjajpkmaaGreatDoor.Mem
end
