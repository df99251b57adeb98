/- CodecItems: a list that is gone through one by one gives all things up to the first one that fails; one that is left leaves the rest unread. Condition: the text is of at most 2^20 bytes. -/
import Derived.Test.YtodhhejliijdmabCodecListsLaw
import Derived.StillTailTactics
namespace Go.Proofs.Ytodhhejliijdmab.codecItems
open Go Go.RowKit Mem Codec CodecW CodecR CodecL CodecN CodecRef CodecIt CodecListed Row Iter codecLists
set_option linter.unusedVariables false

theorem still_eq {P : Program} {f : FuncId} {args : Array Value} {w : World} {v : Value} (h : Calls P f args w fun e w' => e = .returned v ∧ w = w') : Calls P f args w fun e w'' => e = .returned v ∧ w'' = w :=
  h.mono fun _ _ ⟨he, hm⟩ => ⟨he, hm.symm⟩
/-- what the law keeps from round to round: its own variables, in blocks from g on -/
structure LawI (w : World) (g7 g8 q : Nat) (b1 : Option Addr) (b2 : Nat) (B : List UInt8) (stop : Int) (n : Nat) (r1 : Rd) (va2 : Option Addr) (vc2 : Nat) (mm : List (List UInt8)) (z : Nat) (er : Int) (w4 : World) (s : List (List UInt8) × Rd) (A : World) : Prop where
  x0 : Blk A w.heap.size [.int .i64 stop] 3
  x1 : Blk A (w.heap.size + 1) [.bool false] 4
  g7' : Blk A g7 [.pointer (some ⟨q, 0, none⟩)] 24
  y0 : Blk A g8 [.slice va2 mm.length vc2] 51
  y1 : Blk A (g8 + 1) [.slice b1 B.length b2, .int .i64 (z : Int), .int .i64 er] 44
  y2 : Blk A (g8 + 1 + 1) [.int .i64 (s.1.length : Int)] 3
  f4 : Fr (fun k => k = q) w4 A
  below : Below w.heap.size w A
  at' : At one n r1 s
theorem LawI.fr {w : World} {g7 g8 q : Nat} {b1 : Option Addr} {b2 : Nat} {B : List UInt8} {stop : Int} {n : Nat} {r1 : Rd} {va2 : Option Addr} {vc2 : Nat} {mm : List (List UInt8)} {z : Nat} {er : Int} {w4 : World} {l : Nat} {s : List (List UInt8) × Rd} {A C : World}
    (h : LawI w g7 g8 q b1 b2 B stop n r1 va2 vc2 mm z er w4 s A) (hf : Fr (fun k => k = q ∨ k = l) A C) (h1 : w.heap.size + 2 ≤ q) (h2 : q < g7) (h3 : g7 < g8) (h4 : w4.heap.size = g8) (h5 : g8 + 3 ≤ l) : LawI w g7 g8 q b1 b2 B stop n r1 va2 vc2 mm z er w4 s C :=
  ⟨h.x0.fr hf (by omega), h.x1.fr hf (by omega), h.g7'.fr hf (by omega), h.y0.fr hf (by omega), h.y1.fr hf (by omega), h.y2.fr hf (by omega), h.f4.trans' hf (fun k hk h => by omega), h.below.trans (hf.below (by have := h.below.size; omega) (fun k h => by omega)), h.at'⟩
/-- how the law is left from inside a round -/
def LawX (w : World) (s : List (List UInt8) × Rd) (A : World) : Prop := Blk A (w.heap.size + 1) [.bool true] 4 ∧ Below w.heap.size w A

theorem World.heap_lt {w : World} {k : Nat} {o : Obj} (h : w.heap[k]? = some o) : k < w.heap.size := (Array.getElem?_eq_some_iff.1 h).1
/-- leaving the law's function: its result lies in a block of its own -/
theorem leave {w A : World} {m : Nat} {tmps : Array Value} (hm : w.heap.size + 1 < m) (hk : A.heap[m]? = some (.deferred (some []))) (h1 : Blk A (w.heap.size + 1) [.bool true] 4) (h2 : Below w.heap.size w A) (h6 : tmps.getD 6 undef = .pointer (some ⟨w.heap.size + 1, 0, none⟩)) :
    bodyPostM Fence.wide 0 Try.prog Try.f8 (fun e w' => e = .returned (.bool true) ∧ Below w.heap.size w w') .ret { tmps := tmps, defers := [{ target := .collected m, args := #[] }] } A := by
  refine ⟨by simp, .inl ⟨_, _, rfl, run_takeDeferred hk, ?_⟩⟩
  have hf : Fr (fun k => k = m) A (A.putObj m (.deferred none)) := Fr.putObj A _ _ rfl
  have hb : Below w.heap.size w (A.putObj m (.deferred none)) := h2.trans (hf.below h2.size (fun k h => by omega))
  have hc := (h1.fr hf (by omega)).cell (i := 0) rfl
  refine ⟨.bool true, ?_, rfl, hb⟩
  simp only [results, Try.results8]
  have h6' : tmps[6]?.getD undef = .pointer (some ⟨w.heap.size + 1, 0, none⟩) := by simpa using h6
  simp [Result.andThen, asAddr, h6', hc, go_sem]
attribute [local go_sem] Oper.semAt_some
set_option maxHeartbeats 4000000 in
set_option maxRecDepth 100000 in
theorem walk (w : World) (vb : Value) (B : List UInt8) (hB : Byt Any w vb B) (hl : B.length ≤ 140737488351232) (most : Int) (hm : (Lit.int .i64 most).wf = true) (stop : Int) (hst : (Lit.int .i64 stop).wf = true) (hbk : B.length ≤ 1048576) :
    Calls Try.prog 8 #[vb, .int .i64 most, .int .i64 stop] w fun e w' => e = .returned (.bool true) ∧ Below w.heap.size w w' := by
  obtain ⟨hm1, hm2⟩ := bounds_i64 hm
  obtain ⟨b1, b2, rfl, hkb, _⟩ := id hB
  have HB0 := Lib.hid hB
  have hrl := Nat.le_trans (lst_len (Rd.room ⟨B, 0⟩ most).2 (Rd.room ⟨B, 0⟩ most).1) (Nat.le_trans (Rd.room_len ⟨B, 0⟩ most) hbk)
  clear hB hm hst
  refine (callsIn_wide (n := 0)).1 (callsIn_of_wp_marks Try.func8 rfl trivial ?_ rfl)
  simp only [Try.ntmps8, List.size_toArray, List.length_cons, List.length_nil, Nat.reduceAdd, Nat.reduceSub, Array.replicate_succ, Array.replicate_zero, List.push_toArray, List.append_toArray, List.nil_append, List.cons_append]
  have x0 : Blk ((w.alloc (.cells #[.int .i64 stop] 3)).alloc (.cells #[.bool false] 4)) w.heap.size [.int .i64 stop] 3 := (Blk.new w _ _ _ rfl).alloc _
  have x1 : Blk ((w.alloc (.cells #[.int .i64 stop] 3)).alloc (.cells #[.bool false] 4)) (w.heap.size + 1) [.bool false] 4 := by
    have := Blk.new (w.alloc (.cells #[.int .i64 stop] 3)) #[.bool false] 4 _ rfl
    rwa [World.size_alloc] at this
  have x2 : Below w.heap.size w ((w.alloc (.cells #[.int .i64 stop] 3)).alloc (.cells #[.bool false] 4)) := ((Below.refl _ _).alloc (Nat.le_refl _) _).alloc (by simp) _
  have hsW : ((w.alloc (.cells #[.int .i64 stop] 3)).alloc (.cells #[.bool false] 4)).heap.size = w.heap.size + 2 := by simp
  have hsW2 := Nat.le_of_eq hsW
  have hsW3 := Nat.le_of_eq hsW.symm
  clear hsW
  gi_wp2
  generalize ((w.alloc (.cells #[.int .i64 stop] 3)).alloc (.cells #[.bool false] 4)) = W at *
  have X0 := Lib.hid x0
  have X1 := Lib.hid x1
  have X2 := Lib.hid x2
  clear x0 x1 x2
  refine ⟨trivial, rfl, (callsIn_wide.2 (CodecR.read_calls _ W _ B (HB0.out.below X2.out) (by omega))).mono ?_⟩
  rintro e w1 ⟨q, rfl, hq, g1, g2⟩
  have hs1 := g2.size
  have hr1 := g1.lt
  have hal : Below w1.heap.size w1 (w1.alloc (.cells #[.pointer (some ⟨q, 0, none⟩)] 24)) := (Below.refl _ _).alloc (Nat.le_refl _) _
  have G7 := Lib.hid (Blk.new w1 #[.pointer (some ⟨q, 0, none⟩)] 24 _ rfl)
  have X0 := Lib.hid ((X0.out.below g2).below hal)
  have X1 := Lib.hid ((X1.out.below g2).below hal)
  have HB := Lib.hid (X2.out.trans ((g2.trans (hal.mono hs1)).mono (by omega)))
  have HR := Lib.hid (g1.below hal)
  have hs2 := hal.size
  have hs2' : w1.heap.size + 1 ≤ (w1.alloc (.cells #[.pointer (some ⟨q, 0, none⟩)] 24)).heap.size := by simp
  have k7 := G7.out.cell (i := 0) rfl
  clear g1 g2 hal
  gi_wp2
  generalize (w1.alloc (.cells #[.pointer (some ⟨q, 0, none⟩)] 24)) = w2 at *
  generalize w1.heap.size = g7 at *
  refine ⟨trivial, rfl, (callsIn_wide.2 (alive_calls w2)).mono ?_⟩
  rintro e w3 ⟨rfl, g2⟩
  have hs3 := g2.size
  have G7 := Lib.hid (G7.out.below g2)
  have X0 := Lib.hid (X0.out.below g2)
  have X1 := Lib.hid (X1.out.below g2)
  have HB := Lib.hid (HB.out.trans (g2.mono (by omega)))
  have HR := Lib.hid (HR.out.below g2)
  clear g2 k7
  gi_wp2
  refine ⟨trivial, rfl, (callsIn_wide.2 (listed_calls w3 b1 b2 B most (HB0.out.below HB.out) (by omega) (by omega) (by omega))).mono ?_⟩
  rintro e w4 ⟨v2, z, rfl, hz, g1, g2⟩
  have hs4 := g2.size
  obtain ⟨y, hy⟩ : ∃ y, items one (Rd.room ⟨B, 0⟩ most).2 (Rd.room ⟨B, 0⟩ most).1 = y := ⟨_, rfl⟩
  rw [hy] at hz g1 hrl ⊢
  obtain ⟨mm, r2⟩ := y
  obtain ⟨lr, er⟩ := r2
  dsimp only at hz g1 ⊢
  have HR := Lib.hid (HR.out.below g2)
  have G7 := Lib.hid (G7.out.below g2)
  have X0 := Lib.hid (X0.out.below g2)
  have X1 := Lib.hid (X1.out.below g2)
  have HB := Lib.hid (HB.out.trans (g2.mono (by omega)))
  have HT := Lib.hid g1
  have HY := Lib.hid hy
  have k7 := G7.out.cell (i := 0) rfl
  clear g1 g2 hy
  obtain ⟨va2, vc2, rfl, _⟩ := HT.out.form
  have hg7 : g7 < w4.heap.size := by omega
  have y0 : Blk (((w4.alloc (.cells #[.slice va2 mm.length vc2] 51)).alloc (.cells #[.slice b1 B.length b2, .int .i64 (z : Int), .int .i64 er] 44)).alloc (.cells #[.int .i64 0] 3)) w4.heap.size [.slice va2 mm.length vc2] 51 := ((Blk.new w4 _ _ _ rfl).alloc _).alloc _
  have y1 : Blk (((w4.alloc (.cells #[.slice va2 mm.length vc2] 51)).alloc (.cells #[.slice b1 B.length b2, .int .i64 (z : Int), .int .i64 er] 44)).alloc (.cells #[.int .i64 0] 3)) (w4.heap.size + 1) [.slice b1 B.length b2, .int .i64 (z : Int), .int .i64 er] 44 := by
    have := (Blk.new (w4.alloc (.cells #[.slice va2 mm.length vc2] 51)) #[.slice b1 B.length b2, .int .i64 (z : Int), .int .i64 er] 44 _ rfl).alloc (.cells #[.int .i64 0] 3)
    rwa [World.size_alloc] at this
  have y2 : Blk (((w4.alloc (.cells #[.slice va2 mm.length vc2] 51)).alloc (.cells #[.slice b1 B.length b2, .int .i64 (z : Int), .int .i64 er] 44)).alloc (.cells #[.int .i64 0] 3)) (w4.heap.size + 1 + 1) [.int .i64 0] 3 := by
    have := Blk.new ((w4.alloc (.cells #[.slice va2 mm.length vc2] 51)).alloc (.cells #[.slice b1 B.length b2, .int .i64 (z : Int), .int .i64 er] 44)) #[.int .i64 0] 3 _ rfl
    rwa [World.size_alloc, World.size_alloc] at this
  have hal : Below w4.heap.size w4 (((w4.alloc (.cells #[.slice va2 mm.length vc2] 51)).alloc (.cells #[.slice b1 B.length b2, .int .i64 (z : Int), .int .i64 er] 44)).alloc (.cells #[.int .i64 0] 3)) := (((Below.refl _ _).alloc (Nat.le_refl _) _).alloc (by simp) _).alloc (by simp; omega) _
  have hs5 : w4.heap.size + 3 ≤ (((w4.alloc (.cells #[.slice va2 mm.length vc2] 51)).alloc (.cells #[.slice b1 B.length b2, .int .i64 (z : Int), .int .i64 er] 44)).alloc (.cells #[.int .i64 0] 3)).heap.size := by simp
  have G7 := Lib.hid (G7.out.below hal)
  have k7 := G7.out.cell (i := 0) rfl
  have Y0 := Lib.hid y0
  have Y1 := Lib.hid y1
  have Y2 := Lib.hid y2
  have F4 := Lib.hid (Fr.ofBelowAll (S := fun k => k = q) hal (Nat.le_refl _))
  have X0 := Lib.hid (X0.out.below hal)
  have X1 := Lib.hid (X1.out.below hal)
  have HB := Lib.hid (HB.out.trans (hal.mono (by omega)))
  have HR := Lib.hid (HR.out.below hal)
  clear y0 y1 y2 hal
  gi_wp2
  generalize (((w4.alloc (.cells #[.slice va2 mm.length vc2] 51)).alloc (.cells #[.slice b1 B.length b2, .int .i64 (z : Int), .int .i64 er] 44)).alloc (.cells #[.int .i64 0] 3)) = w5 at *
  generalize hg8 : w4.heap.size = g8 at *
  have HG8 := Lib.hid hg8
  clear hg8
  refine ⟨trivial, rfl, (callsIn_wide.2 (items_calls w5 q most 32)).mono ?_⟩
  rintro e w6 ⟨rfl, g1, c1, c2, c3⟩
  have hs6 := World.block_lt_of_cell? _ _ c3
  dsimp only at hs6
  have G7 := Lib.hid (G7.out.below g1)
  have X0 := Lib.hid (X0.out.below g1)
  have X1 := Lib.hid (X1.out.below g1)
  have Y0 := Lib.hid (Y0.out.below g1)
  have Y1 := Lib.hid (Y1.out.below g1)
  have Y2 := Lib.hid (Y2.out.below g1)
  have HB := Lib.hid (HB.out.trans (g1.mono (by omega)))
  have HR := Lib.hid (HR.out.below g1)
  have HI0 := Lib.hid (show LawI w g7 g8 q b1 b2 B stop (Rd.room ⟨B, 0⟩ most).2 (Rd.room ⟨B, 0⟩ most).1 va2 vc2 mm z er w4 ([], (Rd.room ⟨B, 0⟩ most).1) w6 from
    ⟨X0.out, X1.out, G7.out, Y0.out, Y1.out, Y2.out, F4.out.trans' (Fr.ofBelow g1) (fun k hk h => by have := HG8.out; omega), HB.out, At.start one _ _⟩)
  clear g1 k7
  gi_wp2
  refine rangeSeq rfl (enters_of Try.func53 (by kernel_rfl) rfl)
    (items_seq one LV 32 (enters_of Try.func32 (by kernel_rfl) rfl) (fun k => W.heap.size ≤ k ∧ k < q) w6 q w5.heap.size (w5.heap.size + 1) (w5.heap.size + 2) ⟨B, 0⟩ most (by omega) (by omega) HR.out c1 c2 c3 (by omega) (by omega) (by omega) 1099511627776 (by dsimp only; omega) one_len
      (fun A r hr hrl hA => (short_calls _ A q r hr (by omega)).mono (fun e B h => h)))
    (fun k hk => by omega)
    (fun s A B h hf => ⟨h.1.fr hf (by omega) (fun k hk hd e => by have := hd.1; omega), hf.cell h.2.1 (by show w5.heap.size ≠ _; omega), hf.cell h.2.2.1 (by show w5.heap.size + 1 ≠ _; omega), hf.cell h.2.2.2 (by show w5.heap.size + 2 ≠ _; omega)⟩)
    (fun s s' vs A0 A B h hA hf => by obtain ⟨v, h3, h4, h5, h6, h7, h8⟩ := h; exact ⟨v, h3, h4, h5, h6, h7, OwnB.fr h8 hf (fun k hk e => by have := (OwnB.lt h8 k hk).1; omega)⟩)
    (fun s A B h hf => by obtain ⟨r2, h3, h4⟩ := h; exact ⟨r2, h3, h4.fr hf (by omega) (fun k hk hd e => by have := hd.1; omega)⟩) (fun s s' vs A0 A h => by obtain ⟨v, _, _, _, _, rfl, _⟩ := h; rfl)
    (LawI w g7 g8 q b1 b2 B stop (Rd.room ⟨B, 0⟩ most).2 (Rd.room ⟨B, 0⟩ most).1 va2 vc2 mm z er w4) (fun c s A => c = .ret ∧ LawX w s A)
    (fun s A B h hf => h.fr hf (by omega) (by omega) (by omega) HG8.out (by omega)) (fun c s A B h hf => ⟨h.1, h.2.1.fr hf (by omega), h.2.2.trans (hf.below (by have := h.2.2.size; omega) (fun k h => by omega))⟩) HI0.out
    (fun vs => { tmps := ((.slice b1 B.length b2 : Value) :: (.int .i64 most : Value) :: (.int .i64 stop : Value) :: undef :: undef :: (.pointer (some ⟨w.heap.size, 0, none⟩) : Value) :: (.pointer (some ⟨w.heap.size + 1, 0, none⟩) : Value) :: (.pointer (some ⟨g7, 0, none⟩) : Value) :: (.pointer (some ⟨g8, 0, none⟩) : Value) :: (.pointer (some ⟨g8 + 1, 0, none⟩) : Value) :: (.pointer (some ⟨g8 + 1 + 1, 0, none⟩) : Value) :: (vs.getD 0 undef : Value) :: (vs.getD 1 undef : Value) :: (.slice b1 B.length b2 : Value) :: (.pointer (some ⟨q, 0, none⟩) : Value) :: (.pointer (some ⟨q, 0, none⟩) : Value) :: (.bool false : Value) :: (.bool false : Value) :: (.bool true : Value) :: (.bool false : Value) :: (.bool false : Value) :: (.tuple #[.slice va2 mm.length vc2, rv b1 B.length b2 z er] : Value) :: (.slice b1 B.length b2 : Value) :: (.int .i64 most : Value) :: (.tuple #[.slice va2 mm.length vc2, rv b1 B.length b2 z er] : Value) :: (.slice va2 mm.length vc2 : Value) :: (rv b1 B.length b2 z er : Value) :: (.pointer (some ⟨q, 0, none⟩) : Value) :: (.int .i64 most : Value) :: (.func (.func 53) #[] #[.pointer (some ⟨w5.heap.size, 0, none⟩), .pointer (some ⟨w5.heap.size + 1, 0, none⟩), .pointer (some ⟨w5.heap.size + 2, 0, none⟩)] : Value) :: (vs.getD 0 undef : Value) :: (vs.getD 1 undef : Value) :: undef :: undef :: undef :: undef :: undef :: undef :: undef :: undef :: undef :: undef :: undef :: undef :: undef :: undef :: undef :: undef :: undef :: undef :: undef :: undef :: undef :: undef :: undef :: undef :: undef :: undef :: undef :: undef :: undef :: undef :: undef :: undef :: undef :: undef :: undef :: undef :: undef :: undef :: undef :: undef :: undef :: undef :: undef :: undef :: undef :: undef :: undef :: undef :: []).toArray, defers := [] }) ?assign ?body ?done ?stop
  case assign =>
    intro l vs W K hs hK
    obtain ⟨v0, v1, rfl⟩ := two_vals hs
    gi_wp2
    exact hK
  case body =>
    rintro ⟨pre, r⟩ s' vs A0 A hlt hI hfr ⟨x, hlen, hat, rfl, he, rfl, hv⟩ hit
    dsimp only at hlen hat he hv hit ⊢
    have hIA := hI.fr hfr (by omega) (by omega) (by omega) HG8.out (by omega)
    have hnx := At.next one hat hlen he
    have hmm : mm = (pre ++ [(one r).2]) ++ (items one ((Rd.room ⟨B, 0⟩ most).2 - (pre ++ [(one r).2]).length) (one r).1).1 := by
      have := hnx.2
      rw [HY.out] at this
      exact (Prod.mk.inj this).1
    have hkl : pre.length < mm.length := by rw [hmm]; simp only [List.length_append, List.length_singleton]; omega
    have hmk : mm[pre.length]'hkl = (one r).2 := by
      simp only [hmm]
      rw [List.getElem_append_left (by simp), List.getElem_append_right (by simp)]
      simp
    have hpl : pre.length ≤ 1099511627776 := Nat.le_trans hat.short (Nat.le_trans (Rd.room_len ⟨B, 0⟩ most) (by dsimp only; omega))
    obtain ⟨xa, xc, rfl, _⟩ := id (OwnB.byt hv)
    obtain ⟨gm, cm, xm, em, dm, tm⟩ := Texts.at (HT.out.fr hIA.f4 (fun k hk h1 h2 => by omega)) pre.length hkl
    simp only [Value.slice.injEq, true_and] at em
    obtain ⟨rfl, rfl⟩ := em
    rw [hmk] at tm
    have kA := hIA.y2.cell (i := 0) rfl
    have mA := hIA.y0.cell (i := 0) rfl
    have fA := hIA.y2.free 0
    have hltI : (pre.length : Int) < (mm.length : Int) := by omega
    have h0I : (0 : Int) ≤ (pre.length : Int) := by omega
    have hqs := same_calls _ _ A _ _ _ _ (OwnB.byt hv) tm
    rw [beq_self_eq_true] at hqs
    have HQ := Lib.hid hqs
    have HIA := Lib.hid hIA
    have HIT := Lib.hid hit
    have HNX := Lib.hid hnx
    have hsA := hfr.size
    have sA := hIA.x0.cell (i := 0) rfl
    have qA := hIA.g7'.cell (i := 0) rfl
    have rA := hIA.x1.free 0
    have rA2 := hIA.x1.cell (i := 0) rfl
    have HE := Lib.hid he
    clear hmm hmk hv tm hqs hIA hit hnx hat hI hfr he
    gi_wp2
    refine ⟨trivial, rfl, (callsIn_wide.2 HQ.out).mono ?_⟩
    rintro e wz ⟨rfl, rfl⟩
    have hF : Fr (fun k => k = g8 + 1 + 1) A (A.setCell ⟨g8 + 1 + 1, 0, none⟩ (.int .i64 ((pre.length : Int) + 1))) := (Fr.refl (fun k => k = g8 + 1 + 1) A).setCell (p := ⟨g8 + 1 + 1, 0, none⟩) (.inr rfl) _
    have HF := Lib.hid hF
    have HR2 := Lib.hid (HIT.out.1.fr hF (by omega) (fun k hk h1 h2 => by omega))
    have hgA := HIA.out.y2.lt
    clear hF
    by_cases hst : (pre.length : Int) + 1 = stop
    · have hst2 : ((pre.length : Int) + 1 == stop) = true := by simpa using hst
      clear hst
      gi_wp2
      refine ⟨trivial, rfl, (callsIn_wide.2 (err_calls _ _ q _ HR2.out)).mono ?_⟩
      rintro e wz ⟨rfl, rfl⟩
      dsimp only
      rw [HE.out]
      gi_wp2
      have hI := HIA.out
      have hf := HF.out
      have hf2 : Fr (fun k => k = g8 + 1 + 1 ∨ k = w.heap.size + 1) A ((A.setCell ⟨g8 + 1 + 1, 0, none⟩ (.int .i64 ((pre.length : Int) + 1))).setCell ⟨w.heap.size + 1, 0, none⟩ (.bool true)) := (hf.mono (fun k _ h => .inl h)).setCell (.inr (.inr rfl)) _
      exact ⟨Rec.fr hf2 (by omega) (by omega) (by omega), rfl, (hI.x1.fr hf (by omega)).set 0 _, hI.below.trans (hf2.below (by have := hI.below.size; omega) (fun k h => by omega))⟩
    · have hst2 : ((pre.length : Int) + 1 == stop) = false := by simpa using hst
      clear hst
      gi_wp2
      have hI := HIA.out
      have hT := HIT.out
      have hf := HF.out
      have hsf := hf.size
      exact ⟨Rec.fr hf (by omega) (by omega) (by omega),
        ⟨hI.x0.fr hf (by omega), hI.x1.fr hf (by omega), hI.g7'.fr hf (by omega), hI.y0.fr hf (by omega), hI.y1.fr hf (by omega), by simpa using hI.y2.set 0 (.int .i64 ((pre.length : Int) + 1)), hI.f4.trans' hf (fun k hk h => by have := HG8.out; omega), hI.below.trans (hf.below (by have := hI.below.size; omega) (fun k h => by omega)), HNX.out⟩,
        hT.1.fr hf (by omega) (fun k hk h1 h2 => by omega), hf.cell hT.2.1 (by show w5.heap.size ≠ _; omega), hf.cell hT.2.2.1 (by show w5.heap.size + 1 ≠ _; omega), hf.cell hT.2.2.2 (by show w5.heap.size + 2 ≠ _; omega)⟩
  case done =>
    rintro ⟨pre, r⟩ A ⟨r2, e1, e2⟩ hI hk
    dsimp only at e1
    rw [HY.out] at e1
    obtain ⟨rfl, rfl⟩ := Prod.mk.inj e1
    have kA := hI.y2.cell (i := 0) rfl
    have mA := hI.y0.cell (i := 0) rfl
    have qA := hI.g7'.cell (i := 0) rfl
    have s0 := hI.y1.cell (i := 0) rfl
    have s1 := hI.y1.cell (i := 1) rfl
    have s2 := hI.y1.cell (i := 2) rfl
    have fA := hI.x1.free 0
    have rA2 := hI.x1.cell (i := 0) rfl
    have hzz : (B.length : Int) - (z : Int) = (lr.length : Int) := by omega
    have HI := Lib.hid hI
    have HR2 := Lib.hid e2
    have HK := Lib.hid hk
    clear hI e1 e2 hk
    gi_wp2
    refine wpIn_wide.2 ?_
    go_still_tail 22, (by kernel_rfl)
    still_call (still_eq (err_calls _ A.drew q ⟨lr, er⟩ HR2.out))
    repeat still_step
    still_call (still_eq (left_calls _ A.drew q ⟨lr, er⟩ HR2.out))
    repeat still_step
    refine wpStill_nil ?_
    change wpList _ _ _ _ _ A.drew
    have fA2 : A.drew.frozen? ⟨w.heap.size + 1, 0, none⟩ = false := fA
    have rA3 : A.drew.cell? ⟨w.heap.size + 1, 0, none⟩ = some (.bool false) := rA2
    clear kA mA qA s0 s1 s2 fA rA2
    generalize hA2 : A.drew = A2 at *
    have HA2 := Lib.hid hA2
    clear hA2
    go_wp2
    rw [beq_self_eq_true]
    gi_wp2
    have hA2 := HA2.out
    subst hA2
    have hI := HI.out
    have hf : Fr (fun k => k = w.heap.size + 1) A (A.drew.setCell ⟨w.heap.size + 1, 0, none⟩ (.bool true)) := ((Fr.refl (fun k => k = w.heap.size + 1) A).drew).setCell (.inr rfl) _
    exact leave (by omega) ((hf.block _ (World.heap_lt HK.out) (by omega)).trans HK.out) (hI.x1.drew.set 0 (.bool true)) (hI.below.trans (hf.below (by have := hI.below.size; omega) (fun k h => by omega))) rfl
  case stop =>
    rintro c s A ⟨rfl, h1, h2⟩ hk
    have H1 := Lib.hid h1
    have H2 := Lib.hid h2
    have HK := Lib.hid hk
    clear h1 h2 hk
    gi_wp2
    exact leave (by omega) HK.out H1.out H2.out rfl
end Go.Proofs.Ytodhhejliijdmab.codecItems
