/- Walks of the wire's writer: must, kind, key, a list of keys, params. Condition: the bytes together are at most 2^47. Walks of the program's Params (bytes of a federation). Condition: the keys are read at most 2^41. Walks of the wire's reader: must, kind, digest, key. Condition: the bytes are at most 2^47. The laws of Ops, inside a fence (in the body of a function that ranges over a function, or is ranged over). Program-independent; no condition. The walk of the codec's Items at keys: what its iterator promises. Condition: one thing's reader keeps its contract. rangeSeq, where the assignment of a round's values makes memory. Program-independent; no condition. Walks of the codec's Items and List at keys, and of the closure that things hands them. Condition: the bytes are at most 2^40; at most 65536 things. -/
import Derived.Test.YtmenchnjajpkmaaGreatWPard
import Derived.Laws.CopyOwn
import Derived.Deep.RegionHeld3
import Derived.OwnWalkIn
import Derived.Test.YtmenchnjajpkmaaGreatWParc
import Derived.Shelf.Abstract
import Derived.Shelf.RegionOpen
import Derived.TacticsInMore
import Derived.LoopNIn
import Derived.LoopIn
section
namespace Go.Proofs.YtmenchnjajpkmaaGreat.Wt
open Go Go.RowKit Mem Codec CodecW Ww Arr Ops
set_option linter.unusedVariables false

section
variable {S : Nat → Prop} {w0 w w' : World} {q : Nat} {m m' : List UInt8} {bad bad' : Bool}
theorem At.below (H : At S w0 w q m bad) (hb : Below w.heap.size w w') : At S w0 w' q m bad := by
  have h1 := hb.size
  refine ⟨(H.1.below hb).mono (fun k _ h => ?_), ?_, H.2.2⟩
  · rcases h with h | h
    · exact .inl h
    · exact .inr ⟨h.1, by omega⟩
  · exact H.2.1.trans' (Fr.ofBelow hb) (fun i hi h => by have := H.2.1.size; have h : w.heap.size ≤ i := h; omega)
/-- a call that leaves other memory behind than the writer's -/
theorem At.back (H : At S w0 w q m bad) (K : At (Plus S w0 w) w w' q m' bad') : At S w0 w' q m' bad' := Ww.At.leave0 H K
theorem At.must (H : At S w0 w q m bad) (b : Bool) : At S w0 (w.setCell ⟨q, 1, none⟩ (.bool b)) q m b ∧ w.cell? ⟨q, 1, none⟩ = some (.bool bad) ∧ w.frozen? ⟨q, 1, none⟩ = false := by
  obtain ⟨⟨h1, p, h2, h3⟩, h4, h5⟩ := H
  have hsz : (w.setCell ⟨q, 1, none⟩ (.bool b)).heap.size = w.heap.size := by simp [World.setCell]
  have hpl : ∀ k, Plus S w0 w k → Plus S w0 (w.setCell ⟨q, 1, none⟩ (.bool b)) k := fun k h => by
    rcases h with h | h
    · exact .inl h
    · exact .inr ⟨h.1, by rw [hsz]; exact h.2⟩
  have hf : Fr (fun k => k = q) w (w.setCell ⟨q, 1, none⟩ (.bool b)) := Fr.setCell (S := fun k => k = q) (p := ⟨q, 1, none⟩) (Fr.refl _ w) (.inr rfl) _
  refine ⟨⟨⟨hpl q h1, p, by simpa using h2.set 1 (.bool b), ?_⟩, h4.trans' hf (fun i hi h => ?_), h5⟩, h2.cell rfl, h2.free 1⟩
  · exact (h3.fr hf (fun k _ h => h.2)).mono (fun k _ h => ⟨hpl k h.1, h.2⟩)
  · have h : i = q := h
    subst h
    rcases h1 with h1 | h1
    · exact h1
    · omega
end
theorem szK {d : List UInt8} (hd : d.length = 32) : (Tryz.prog.info? 134).map (·.size) = some (d.map byt).length := by rw [List.length_map, hd]; kernel_rfl
set_option maxHeartbeats 4000000 in
theorem must_calls (S : Nat → Prop) (w0 w : World) (q : Nat) (m : List UInt8) (bad ok : Bool) (H : At S w0 w q m bad) :
    Calls Tryz.prog 84 #[.pointer (some ⟨q, 0, none⟩), .bool ok] w fun e w' => e = .returned (.tuple #[]) ∧ At S w0 w' q m (bad || !ok) := by
  obtain ⟨h1, c1, f1⟩ := At.must H (bad || !ok)
  have H1 := Lib.hid h1
  clear h1 H
  cases bad <;> cases ok <;>
  · go_enter Tryz.func84, Tryz.ntmps84
    go_wp2
    go_end0
    exact ⟨rfl, H1.out⟩
set_option maxHeartbeats 4000000 in
theorem kind_calls (S : Nat → Prop) (w0 w : World) (q : Nat) (m : List UInt8) (bad : Bool) (n lo hi : Int) (c : UInt8) (hc : IntKind.u8.wrap n = (c.toNat : Int)) (H : At S w0 w q m bad) (hlen : m.length + 1 ≤ 140737488355328) :
    Calls Tryz.prog 74 #[.pointer (some ⟨q, 0, none⟩), .int .i64 n, .int .i64 lo, .int .i64 hi] w fun e w' => e = .returned (.tuple #[]) ∧ At S w0 w' q (m ++ [c]) (bad || !(decide (lo ≤ n) && decide (n ≤ hi))) := by
  have H1 := Lib.hid H
  obtain ⟨ok, hok⟩ : ∃ ok, (decide (lo ≤ n) && decide (n ≤ hi)) = ok := ⟨_, rfl⟩
  have HC := Lib.hid hc
  rw [hok]
  clear H hc
  go_enter Tryz.func74, Tryz.ntmps74
  have step : ∀ (K : World → Prop), (∀ w', At S w0 w' q m (bad || !ok) → K w') → Calls Tryz.prog 84 #[.pointer (some ⟨q, 0, none⟩), .bool ok] w fun e w' => e = .returned (.tuple #[]) ∧ K w' := fun K hK => (must_calls S w0 w q m bad ok H1.out).mono (fun e w' h => ⟨h.1, hK w' h.2⟩)
  by_cases h1 : lo ≤ n <;> by_cases h2 : n ≤ hi
  all_goals
    have hd1 := h1
    have hd2 := h2
    simp only [decide_true, decide_false, h1, h2, Bool.and_true, Bool.and_false] at hok
    subst hok
    go_wp2_with fail
    refine (must_calls S w0 w q m bad _ H1.out).mono ?_
    rintro e w1 ⟨rfl, g1⟩
    obtain ⟨p, k1, k2, k3⟩ := g1.opened
    have G1 := Lib.hid g1
    have HQ := Lib.hid k1
    have HW := Lib.hid k2
    have c0 := k1.cell (i := 0) rfl
    clear g1 k1 k2 k3
    go_wp2_with fail
    first | rw [HC.out] | skip
    refine (byte_calls _ w1 p m _ c (by first | rfl | exact HC.out) HW.out hlen).mono ?_
    rintro e w2 ⟨rfl, r1, r2⟩
    have GF := Lib.hid (G1.out.shut HQ.out r1 r2)
    clear r1 r2 c0 HW HQ
    go_wp2
    go_end0
    exact ⟨rfl, GF.out⟩
set_option maxHeartbeats 4000000 in
set_option maxRecDepth 100000 in
theorem key_calls (S : Nat → Prop) (w0 w : World) (q : Nat) (m : List UInt8) (bad : Bool) (d : List UInt8) (hd : d.length = 32) (H : At S w0 w q m bad) (hlen : m.length + 32 ≤ 140737488355328) :
    Calls Tryz.prog 76 #[.pointer (some ⟨q, 0, none⟩), .agg (d.map byt).toArray] w fun e w' => e = .returned (.tuple #[]) ∧ At S w0 w' q (m ++ d) bad := by
  obtain ⟨cs, hcs⟩ : ∃ cs, (d.map byt).toArray = cs := ⟨_, rfl⟩
  have HB := Lib.hid (show Blk (w.alloc (.cells cs 134)) w.heap.size (d.map byt) 134 from Blk.new w _ _ _ hcs.symm)
  have H1 := Lib.hid (H.enter (.cells cs 134))
  have HL := Lib.hid (fun w' m' => @At.leave S w0 w w' q m bad (.cells cs 134) m' bad H)
  have hnw : ¬ Plus S w0 w w.heap.size ∨ True := .inr trivial
  have hql := H.lt
  have hz : (w.alloc (.cells cs 134)).heap.size = w.heap.size + 1 := by simp
  have hd32 : d.length ≤ 32 := by omega
  rw [hcs]
  clear H hcs hnw
  go_enter Tryz.func76, Tryz.ntmps76
  go_upto_region 1 with fail
  generalize (w.alloc (.cells cs 134)) = w1 at *
  obtain ⟨p, h1, h2, h3⟩ := H1.out.drew.opened
  have H2 := Lib.hid h2
  have HQ := Lib.hid h1
  have c0 := h1.cell (i := 0) rfl
  have c1 : w1.cell? ⟨q, 0, none⟩ = some (.pointer (some ⟨p, 0, none⟩)) := c0
  clear h1 h2 h3
  go_still_tail 5, (by kernel_rfl)
  change wpList _ _ _ _ _ w1.drew
  go_wp2_with fail
  refine (raw_calls _ Any w1.drew p m _ d H2.out (((HB.out.byt hd (by unfold maxLen; omega) trivial).drew)) (by omega)).mono ?_
  rintro e w2 ⟨rfl, g1, g2⟩
  have HF := Lib.hid (HL.out _ _ (H1.out.drew.shut HQ.out g1 g2))
  clear g1 g2 HL H1 H2 HB HQ c0 c1
  go_wp2
  go_end0
  exact ⟨rfl, HF.out⟩
theorem zeroK (w : World) : (zeroValue 134).run Tryz.prog w = .ok (.agg ((List.replicate 32 (.int .u8 0)).toArray)) w := by kernel_rfl
theorem oneK (d : List UInt8) : ∀ v ∈ d.map byt, v.oneCell' = true := fun v hv => by obtain ⟨_, _, rfl⟩ := List.mem_map.1 hv; rfl

theorem var_len9 (n : Nat) : (var n).length ≤ 9 := by rw [var_length]; exact vlen_le n
set_option maxHeartbeats 8000000 in
set_option maxRecDepth 100000 in
theorem list_calls (S D : Nat → Prop) (w0 w : World) (q : Nat) (m : List UInt8) (bad : Bool) (v : Value) (l : List (List UInt8)) (hl : ∀ d ∈ l, d.length = 32) (hA : Arr 32 D w v (l.map (·.map byt))) (hD : ∀ k, k < w.heap.size → D k → ¬ Plus S w0 w k) (most : Int) (H : At S w0 w q m bad) (hlen : m.length + 9 + l.length * 32 ≤ 140737488355328) :
    Calls Tryz.prog 75 #[.pointer (some ⟨q, 0, none⟩), v, .int .i64 most, .func (.func 76) #[] #[]] w fun e w' => e = .returned (.tuple #[]) ∧ At S w0 w' q (m ++ (var l.length ++ l.flatten)) (bad || !decide ((l.length : Int) ≤ most)) := by
  obtain ⟨a, c, rfl, hc1, hc2, _⟩ := hA.form
  rw [List.length_map] at hA hc1 ⊢
  unfold maxLen at hc2
  have HL := Lib.hid (fun w' m' b' => @At.back S w0 w w' q m m' bad b' H)
  have H0 := Lib.hid H.enter0
  have HA := Lib.hid hA
  have HE := Lib.hid hl
  have HD := Lib.hid hD
  have hvl := var_len9 l.length
  obtain ⟨T, hT⟩ : ∃ T, Plus S w0 w = T := ⟨_, rfl⟩
  rw [hT] at HL H0 HD
  clear H hA hl hD hT
  obtain ⟨ok, hok⟩ : ∃ ok, decide ((l.length : Int) ≤ most) = ok := ⟨_, rfl⟩
  rw [hok]
  go_enter Tryz.func75, Tryz.ntmps75
  go_wp2_with fail
  try rw [hok]
  refine (must_calls _ _ w q m bad ok H0.out).mono ?_
  rintro e w1 ⟨rfl, g1⟩
  obtain ⟨p, k1, k2, k3⟩ := g1.opened
  have G1 := Lib.hid g1
  have HQ := Lib.hid k1
  have HW := Lib.hid k2
  have c0 := k1.cell (i := 0) rfl
  clear g1 k1 k2 k3
  go_wp2_with fail
  refine (var_calls _ w1 p m l.length (by omega) HW.out (by omega)).mono ?_
  rintro e w2 ⟨rfl, r1, r2⟩
  have G2 := Lib.hid (G1.out.shut HQ.out r1 r2)
  clear r1 r2 c0 HW HQ G1
  go_wp2
  go_loopw [26] (fun i' wx => ∃ i : Nat, i ≤ l.length ∧ i' = .int .i64 (i : Int) ∧ At T w wx q (m ++ (var l.length ++ (l.take i).flatten)) (bad || !ok)) (fun i' _ => l.length - (intOf i').toNat)
  case atStart => exact ⟨0, Nat.zero_le _, rfl, by simpa using G2.out⟩
  case round =>
    obtain ⟨i, hi, rfl, hS⟩ := hrel
    have SX := Lib.hid hS
    clear hS
    by_cases hlt : i < l.length
    · have hAx := HA.out.fr (by omega) SX.out.2.1 (fun b hb hd => HD.out b hb hd)
      obtain ⟨bi, oi, ci', e0, _, r0⟩ := hAx.at i (by simpa using hlt)
      rw [List.length_map] at e0
      cases e0
      obtain ⟨g, hg⟩ : ∃ g, l[i]'hlt = g := ⟨_, rfl⟩
      have HG := Lib.hid (show g.length = 32 from hg ▸ HE.out _ (List.getElem_mem hlt))
      have HRG := Lib.hid (show wr.rangeAt bi (oi + i * 32) (g.map byt) from by simpa [hg] using r0)
      have hflen : (l.take i).flatten.length ≤ i * 32 := by
        clear hAx r0
        have : ∀ (x : List (List UInt8)), (∀ d ∈ x, d.length = 32) → x.flatten.length = x.length * 32 := by
          intro x hx
          induction x with
          | nil => rfl
          | cons d r ih => rw [List.flatten_cons, List.length_append, hx d (by simp), ih (fun y hy => hx y (by simp [hy]))]; simp; omega
        rw [this _ (fun d hd => HE.out d (List.mem_of_mem_take hd)), List.length_take]
        exact Nat.mul_le_mul_right _ (Nat.min_le_left _ _)
      have hNX := (show (l.take (i + 1)).flatten = (l.take i).flatten ++ g by rw [List.take_add_one, List.getElem?_eq_getElem hlt, hg]; simp)
      have HNX := Lib.hid hNX
      have hltI : (i : Int) < (l.length : Int) := by omega
      have h0I : (0 : Int) ≤ (i : Int) := by omega
      clear hg r0 hAx hNX
      go_upto_region 5 with (first
        | (with_reducible refine wpList_load_mid rfl _ _ rfl bi (oi + i * 32) rfl (g.map byt) _ HRG.out Tryz.underlying134 rfl (szK HG.out) ?_)
        | ((with_reducible refine wpList_alloc rfl _ rfl _ (zeroK _) (fun wa ka ca za => ?_)); have KA := Lib.hid ka; have CA := Lib.hid ca; clear ka ca)
        | ((with_reducible refine wpList_put rfl _ _ _ rfl wr.heap.size (g.map byt) _ rfl rfl KA.out (szK HG.out) (by simp [HG.out]) (oneK g) (fun wb kb fb zb => ?_)); have KB := Lib.hid kb; have CB := Lib.hid (CA.out.trans (fb.below CA.out.size (fun k hk => by have : k = wr.heap.size := hk; omega))); have SB := Lib.hid (At.below SX.out CB.out); clear kb fb))
      clear KA CA HRG CB SX
      generalize wr.heap.size = gb at *
      go_wp2_with (first | (with_reducible refine wpList_load_blk rfl _ _ rfl gb (g.map byt) rfl KB.out _ Tryz.underlying134 rfl (szK HG.out) ?_))
      refine (key_calls _ _ wb q _ _ g HG.out SB.out (by simp only [List.length_append]; have : i * 32 + 32 ≤ l.length * 32 := by omega
                                                         omega)).mono ?_
      rintro e wc ⟨rfl, g3⟩
      have G3 := Lib.hid g3
      clear g3 SB KB
      go_wp2
      go_roundw
      case rel => exact ⟨i + 1, by omega, by go_num, by rw [HNX.out]; have := G3.out; simpa [List.append_assoc] using this⟩
      case measure => simp [intOf]; omega
    · obtain rfl : i = l.length := by omega
      have GF := Lib.hid (show At T w wr q (m ++ (var l.length ++ l.flatten)) (bad || !ok) by have := SX.out; rwa [List.take_length] at this)
      clear SX
      go_wp2
      go_end0
      exact ⟨rfl, HL.out _ _ _ GF.out⟩
end Go.Proofs.YtmenchnjajpkmaaGreat.Wt
end

section
namespace Go.Proofs.YtmenchnjajpkmaaGreat.Wt
open Go Go.RowKit Mem Codec CodecW Ww Arr Ops
set_option linter.unusedVariables false

def u8 (t : Int) : UInt8 := UInt8.ofNat (t % 256).toNat
theorem u8_wrap (t : Int) : IntKind.u8.wrap t = ((u8 t).toNat : Int) := by
  rw [IntKind.wrap_u8]
  unfold u8
  rw [UInt8.toNat_ofNat']
  omega
/-- a federation's bytes, and whether it has none -/
def encP (t : Int) (l : List (List UInt8)) : List UInt8 := u8 t :: (var l.length ++ l.flatten)
def badP (t : Int) (l : List (List UInt8)) : Bool := !(decide (0 ≤ t) && decide (t ≤ 255)) || !decide ((l.length : Int) ≤ 16)
theorem flat_len {n : Nat} : ∀ (x : List (List UInt8)), (∀ d ∈ x, d.length = n) → x.flatten.length = x.length * n
  | [], _ => by simp
  | d :: r, hx => by rw [List.flatten_cons, List.length_append, hx d (by simp), flat_len r (fun y hy => hx y (by simp [hy])), List.length_cons, Nat.succ_mul]; omega
set_option maxHeartbeats 8000000 in
set_option maxRecDepth 100000 in
theorem params_to (S D : Nat → Prop) (w0 w : World) (q : Nat) (m : List UInt8) (bad : Bool) (t : Int) (v : Value) (l : List (List UInt8)) (hl : ∀ d ∈ l, d.length = 32) (hA : Arr 32 D w v (l.map (·.map byt))) (hD : ∀ k, k < w.heap.size → D k → ¬ Plus S w0 w k) (H : At S w0 w q m bad) (hlen : m.length + 10 + l.length * 32 ≤ 140737488355328) :
    Calls Tryz.prog 41 #[.pointer (some ⟨q, 0, none⟩), .agg #[.int .i64 t, v]] w fun e w' => e = .returned (.tuple #[]) ∧ At S w0 w' q (m ++ encP t l) (bad || badP t l) := by
  obtain ⟨a, c, rfl, hc1, hc2, _⟩ := id hA.form
  rw [List.length_map] at hA hc1 ⊢
  have HB := Lib.hid (show Blk (w.alloc (.cells #[.int .i64 t, .slice a l.length c] 44)) w.heap.size [.int .i64 t, .slice a l.length c] 44 from Blk.new w _ _ _ rfl)
  have HX := Lib.hid (fun w' m' b' => @At.box S w0 w w' q m bad (.cells #[.int .i64 t, .slice a l.length c] 44) m' b' [.int .i64 t, .slice a l.length c] 44 H)
  have H1 := Lib.hid (H.enter (.cells #[.int .i64 t, .slice a l.length c] 44))
  have HL := Lib.hid (fun w' m' b' => @At.leave S w0 w w' q m bad (.cells #[.int .i64 t, .slice a l.length c] 44) m' b' H)
  have HA := Lib.hid ((hA.mono (E := fun k => k < w.heap.size ∧ D k) (by omega) (fun k h1 h2 => ⟨h1, h2⟩)).below (by omega) (below_alloc w (.cells #[.int .i64 t, .slice a l.length c] 44)))
  have HE := Lib.hid hl
  have HD := Lib.hid hD
  have hz : w.heap.size < (w.alloc (.cells #[.int .i64 t, .slice a l.length c] 44)).heap.size := by simp
  obtain ⟨T, hT⟩ : ∃ T, Plus S w0 w = T := ⟨_, rfl⟩
  rw [hT] at HL H1 HD HX
  clear H hA hl hD hT
  go_enter Tryz.func41, Tryz.ntmps41
  go_upto_region 1 with fail
  have HB0 := Lib.hid (fun w' m' b' g => HX.out w' m' b' g HB.out)
  have c0 := HB.out.cell (i := 0) rfl
  clear HX
  generalize (w.alloc (.cells #[.int .i64 t, .slice a l.length c] 44)) = w1 at *
  go_wp2_with fail
  refine (kind_calls _ _ w1 q m bad t 0 255 (u8 t) (u8_wrap t) H1.out (by omega)).mono ?_
  rintro e w2 ⟨rfl, g1⟩
  have B2 := Lib.hid (HB0.out _ _ _ g1)
  have c1 := B2.out.cell (i := 1) rfl
  have H2 := Lib.hid g1
  have HA2 := Lib.hid (HA.out.fr (by omega) g1.2.1 (fun b _ h => HD.out b h.1 h.2))
  clear g1 c0 HB0 HB
  go_wp2_with fail
  refine (list_calls _ _ _ w2 q _ _ _ l HE.out HA2.out (fun k _ h e => by rcases e with e | e; exact HD.out k h.1 h.2 e; omega) 16 H2.out (by rw [List.length_append, List.length_singleton]; omega)).mono ?_
  rintro e w3 ⟨rfl, g1⟩
  have HF := Lib.hid (HL.out _ _ _ g1)
  clear g1 HL H1 H2 HA HA2 B2 c1
  go_wp2
  go_end0
  refine ⟨rfl, ?_⟩
  have := HF.out
  rw [Bool.or_assoc, List.append_assoc] at this
  exact this
/-- what a thing's bytes are told as -/
def told (enc : List UInt8) : Bool → List UInt8
  | true => []
  | false => enc
def toldE : Bool → Int
  | true => 120
  | false => 0
def Told (B : Nat) (enc : List UInt8) (bad : Bool) (e : Ending) (w' : World) : Prop :=
  ∃ a c, e = .returned (.tuple #[.slice a (told enc bad).length c, .int .i64 (toldE bad)]) ∧ OwnB B 5 w' (.slice a (told enc bad).length c) (told enc bad)
set_option maxHeartbeats 8000000 in
set_option maxRecDepth 100000 in
theorem writtenparams_calls (w : World) (t : Int) (v : Value) (l : List (List UInt8)) (hl : ∀ d ∈ l, d.length = 32) (hA : Arr 32 Any w v (l.map (·.map byt))) (hn : l.length ≤ 4398046511000) :
    Calls Tryz.prog 40 #[.agg #[.int .i64 t, v], .func (.func 41) #[] #[]] w fun e w' => Told w.heap.size (encP t l) (badP t l) e w' ∧ Below w.heap.size w w' := by
  obtain ⟨a, c, rfl, hc1, hc2, _⟩ := id hA.form
  rw [List.length_map] at hA hc1 ⊢
  have HB := Lib.hid (show Blk (w.alloc (.cells #[.int .i64 t, .slice a l.length c] 44)) w.heap.size [.int .i64 t, .slice a l.length c] 44 from Blk.new w _ _ _ rfl)
  have B1 := Lib.hid (below_alloc w (.cells #[.int .i64 t, .slice a l.length c] 44))
  have hz : w.heap.size + 1 ≤ (w.alloc (.cells #[.int .i64 t, .slice a l.length c] 44)).heap.size := by simp
  have HA := Lib.hid (hA.mono (E := fun k => k < w.heap.size) (by omega) (fun k h1 _ => h1))
  obtain ⟨en, hen⟩ : ∃ en, encP t l = en := ⟨_, rfl⟩
  obtain ⟨bb, hbb⟩ : ∃ bb, badP t l = bb := ⟨_, rfl⟩
  have HLN := Lib.hid (show en.length ≤ 140737488355328 by rw [← hen]; unfold encP; have := var_len9 l.length; simp only [List.length_cons, List.length_append, flat_len l hl]; omega)
  rw [hen, hbb]
  have HEN := Lib.hid hen
  have HBB := Lib.hid hbb
  clear hA hen hbb
  go_enter Tryz.func40, Tryz.ntmps40
  go_upto_region 1 with fail
  generalize (w.alloc (.cells #[.int .i64 t, .slice a l.length c] 44)) = w1 at *
  go_wp2_with fail
  refine (CodecW.new_calls w1).mono ?_
  rintro e w2 ⟨p, rfl, hp1, hp2, hp3⟩
  have hs2 := hp3.size
  have H2 := Lib.hid (Wh.made_at hp2)
  have HB2 := Lib.hid ((HB.out.below hp3).alloc (.cells #[.pointer (some ⟨p, 0, none⟩), .bool false] 106))
  have B2 := Lib.hid ((B1.out.trans (hp3.mono (by omega))).alloc (by have := B1.out.size; omega) (.cells #[.pointer (some ⟨p, 0, none⟩), .bool false] 106))
  have hs3 : w2.heap.size + 1 = (w2.alloc (.cells #[.pointer (some ⟨p, 0, none⟩), .bool false] 106)).heap.size := by simp
  have hpw : w.heap.size < p := by omega
  clear hp2 hp3 HB B1
  go_upto_region 2 with fail
  generalize (w2.alloc (.cells #[.pointer (some ⟨p, 0, none⟩), .bool false] 106)) = w3 at *
  have HA3 := Lib.hid (HA.out.below (by omega) B2.out)
  go_wp2_with (first | (with_reducible refine wpList_load_blk rfl _ _ rfl w.heap.size [.int .i64 t, .slice a l.length c] rfl HB2.out _ Tryz.underlying44 rfl (by kernel_rfl) ?_))
  refine (params_to _ (fun k => k < w.heap.size) _ w3 _ [] false t _ l hl HA3.out (fun k _ h e => by rcases e with (e | e) | e <;> omega) H2.out (by simp; omega)).mono ?_
  rintro e w4 ⟨rfl, g1⟩
  obtain ⟨⟨g2, p2, g3, g4⟩, g5, g6⟩ := id g1
  have hg5 := g5.size
  have c1 := g3.cell (i := 1) rfl
  have c0 := g3.cell (i := 0) rfl
  have HW := Lib.hid g4
  have B4 := Lib.hid (B2.out.trans (show Below w.heap.size w3 w4 from g5.below (by omega) (fun k h => by omega)))
  have hb4 := B4.out.size
  rw [List.nil_append, Bool.false_or] at *
  clear g1 g2 g3 g4 g5 g6 H2 HB2 B2 HA HA3
  rw [HEN.out] at HW
  rw [HBB.out] at c1
  cases bb
  · go_wp2_with fail
    refine (CodecR.bytes_calls _ w4 p2 _ HW.out HLN.out).mono ?_
    rintro e w5 ⟨a, c, rfl, g1, g2⟩
    have G1 := Lib.hid g1
    have BF := Lib.hid (B4.out.trans (g2.mono hb4))
    clear g1 g2 c0 c1 HW B4
    go_wp2
    go_ret2
    exact ⟨⟨a, c, rfl, G1.out.mono hb4⟩, BF.out⟩
  · go_wp2
    go_ret2
    exact ⟨⟨none, 0, rfl, OwnB.nil _ _ _⟩, B4.out⟩
set_option maxHeartbeats 4000000 in
set_option maxRecDepth 100000 in
theorem params_calls (w : World) (t : Int) (v : Value) (l : List (List UInt8)) (hl : ∀ d ∈ l, d.length = 32) (hA : Arr 32 Any w v (l.map (·.map byt))) (hn : l.length ≤ 4398046511000) :
    Calls Tryz.prog 16 #[.agg #[.int .i64 t, v]] w fun e w' => Told w.heap.size (encP t l) (badP t l) e w' ∧ Below w.heap.size w w' := by
  obtain ⟨a, c, rfl, hc1, hc2, _⟩ := id hA.form
  rw [List.length_map] at hA hc1 ⊢
  have HB := Lib.hid (show Blk (w.alloc (.cells #[.int .i64 t, .slice a l.length c] 44)) w.heap.size [.int .i64 t, .slice a l.length c] 44 from Blk.new w _ _ _ rfl)
  have B1 := Lib.hid (below_alloc w (.cells #[.int .i64 t, .slice a l.length c] 44))
  have hz : w.heap.size + 1 = (w.alloc (.cells #[.int .i64 t, .slice a l.length c] 44)).heap.size := by simp
  have HA := Lib.hid (Arr.below hA (by omega) B1.out)
  clear hA
  go_enter Tryz.func16, Tryz.ntmps16
  go_upto_region 1 with fail
  generalize (w.alloc (.cells #[.int .i64 t, .slice a l.length c] 44)) = w1 at *
  go_wp2_with (first | (with_reducible refine wpList_load_blk rfl _ _ rfl w.heap.size [.int .i64 t, .slice a l.length c] rfl HB.out _ Tryz.underlying44 rfl (by kernel_rfl) ?_))
  refine (writtenparams_calls w1 t _ l hl HA.out hn).mono ?_
  rintro e w2 ⟨⟨a, c, rfl, g1⟩, g2⟩
  have G1 := Lib.hid g1
  have G2 := Lib.hid (B1.out.trans (g2.mono (by omega)))
  clear g1 g2 B1 HB HA
  go_wp2
  go_ret2
  exact ⟨⟨a, c, rfl, G1.out.mono (by omega)⟩, G2.out⟩
end Go.Proofs.YtmenchnjajpkmaaGreat.Wt
end

section
namespace Go.Proofs.YtmenchnjajpkmaaGreat.Wr
open Go Go.RowKit Mem Codec CodecR Arr Ops
set_option linter.unusedVariables false

def Rd.must (r : Rd) (ok : Bool) : Rd := if ok = true then r else r.fail 120
def Rd.kind (r : Rd) (lo hi : Int) : Rd × Int := (Rd.must (r.num 1).1 (decide (lo ≤ ((r.num 1).2 : Int)) && decide (((r.num 1).2 : Int) ≤ hi)), ((r.num 1).2 : Int))
/-- 32 bytes, noughts where there are none -/
def Rd.dig (r : Rd) : Rd × List UInt8 := ((r.raw 32).1, if (r.raw 32).2.length = 32 then (r.raw 32).2 else List.replicate 32 0)
theorem Rd.dig_len (r : Rd) : (Rd.dig r).2.length = 32 := by
  unfold Rd.dig
  dsimp only
  split
  · assumption
  · simp
section
variable {D : Nat → Prop} {w w' : World} {q : Nat} {r : Rd}
theorem rd_under {D : Nat → Prop} {w : World} {q : Nat} {r : Rd} (h : ReaderIs D w q r) : ReaderIs (fun k => k < w.heap.size ∧ D k) w q r := by
  obtain ⟨a, c, h1, h2, h3⟩ := h
  exact ⟨a, c, h1, h2.lt, fun h => h3 h.2⟩
theorem rd_back {D : Nat → Prop} {n : Nat} {w : World} {q : Nat} {r : Rd} (h : ReaderIs (fun k => k < n ∧ D k) w q r) (hq : q < n) : ReaderIs D w q r := by
  obtain ⟨a, c, h1, h2, h3⟩ := h
  exact ⟨a, c, h1, h2.mono (fun k _ h => h.2), fun h => h3 ⟨hq, h⟩⟩
theorem fr_box {o : Obj} (h : Fr (fun k => k = q) (w.alloc o) w') : Fr (fun k => k = q) w w' := ((Fr.refl _ w).alloc o).trans h
end
set_option maxHeartbeats 4000000 in
theorem must_calls (D : Nat → Prop) (w : World) (q : Nat) (r : Rd) (ok : Bool) (H : ReaderIs D w q r) :
    Calls Tryz.prog 110 #[.agg #[.pointer (some ⟨q, 0, none⟩)], .bool ok] w fun e w' => e = .returned (.tuple #[]) ∧ ReaderIs D w' q (Rd.must r ok) ∧ Fr (fun k => k = q) w w' := by
  have H1 := Lib.hid (H.below (below_alloc w (.cells #[.pointer (some ⟨q, 0, none⟩)] 68)))
  have HB := (Blk.new w #[.pointer (some ⟨q, 0, none⟩)] 68 _ rfl).cell (i := 0) rfl
  have HA := Lib.hid ((Fr.refl (fun k => k = q) w).alloc (.cells #[.pointer (some ⟨q, 0, none⟩)] 68))
  clear H
  go_enter Tryz.func110, Tryz.ntmps110
  cases ok
  · go_upto_region 2 with fail
    generalize (w.alloc (.cells #[.pointer (some ⟨q, 0, none⟩)] 68)) = w1 at *
    go_wp2_with fail
    refine (CodecR.fail_calls D w1 q r 120 H1.out).mono ?_
    rintro e w2 ⟨rfl, g1, g2⟩
    have G1 := Lib.hid g1
    have G2 := Lib.hid (HA.out.trans g2)
    clear g1 g2
    go_wp2
    go_end0
    exact ⟨rfl, G1.out, G2.out⟩
  · go_wp2
    go_end0
    exact ⟨rfl, H1.out, HA.out⟩
set_option maxHeartbeats 4000000 in
theorem kind_calls (D : Nat → Prop) (w : World) (q : Nat) (r : Rd) (lo hi : Int) (H : ReaderIs D w q r) :
    Calls Tryz.prog 78 #[.agg #[.pointer (some ⟨q, 0, none⟩)], .int .i64 lo, .int .i64 hi] w fun e w' => e = .returned (.int .i64 (Rd.kind r lo hi).2) ∧ ReaderIs D w' q (Rd.kind r lo hi).1 ∧ Fr (fun k => k = q) w w' := by
  have hql := H.lt
  have H1 := Lib.hid (H.below (below_alloc w (.cells #[.pointer (some ⟨q, 0, none⟩)] 68)))
  have HB := Lib.hid (Blk.new w #[.pointer (some ⟨q, 0, none⟩)] 68 _ rfl)
  have HA := Lib.hid ((Fr.refl (fun k => k = q) w).alloc (.cells #[.pointer (some ⟨q, 0, none⟩)] 68))
  have hn2 : (r.num 1).2 < 256 := num1_lt r
  clear H
  unfold Rd.kind
  dsimp only
  obtain ⟨r1, hr1⟩ : ∃ r1, (r.num 1).1 = r1 := ⟨_, rfl⟩
  obtain ⟨n, hn⟩ : ∃ n, (r.num 1).2 = n := ⟨_, rfl⟩
  have HBY := Lib.hid (CodecR.byte_calls D _ q r H1.out)
  rw [hr1, hn] at HBY ⊢
  rw [hn] at hn2
  obtain ⟨ok, hok⟩ : ∃ ok, (decide (lo ≤ (n : Int)) && decide ((n : Int) ≤ hi)) = ok := ⟨_, rfl⟩
  rw [hok]
  clear hr1 hn H1
  go_enter Tryz.func78, Tryz.ntmps78
  go_upto_region 1 with fail
  have c0 := HB.out.cell (i := 0) rfl
  generalize (w.alloc (.cells #[.pointer (some ⟨q, 0, none⟩)] 68)) = w1 at *
  go_wp2_with fail
  refine HBY.out.mono ?_
  rintro e w2 ⟨rfl, g1, g2⟩
  have B2 := Lib.hid (HB.out.fr g2 (by omega))
  have c1 := B2.out.cell (i := 0) rfl
  have G1 := Lib.hid g1
  have G2 := Lib.hid (HA.out.trans g2)
  have hcv : IntKind.i64.wrap (n : Int) = (n : Int) := by rw [IntKind.wrap_i64]; omega
  clear g1 g2 c0 HBY HB
  by_cases h1 : lo ≤ (n : Int) <;> by_cases h2 : (n : Int) ≤ hi
  all_goals
    simp [h1, h2] at hok
    subst hok
    go_upto_region 2 with fail
    go_wp2_with fail
    try simp only [h2, decide_true, decide_false]
    refine (must_calls D w2 q r1 _ G1.out).mono ?_
    rintro e w3 ⟨rfl, g1, g2⟩
    have G3 := Lib.hid g1
    have G4 := Lib.hid (G2.out.trans g2)
    clear g1 g2
    go_wp2
    go_ret
    first
      | exact ⟨rfl, G3.out, G4.out⟩
      | exact ⟨rfl, (by have := G3.out; rwa [show decide ((n : Int) ≤ hi) = false by simp [h2]] at this), G4.out⟩
theorem raw32_len (r : Rd) : (r.raw 32).2.length = 32 ∨ (r.raw 32).2 = [] := by
  unfold Rd.raw
  rw [if_neg (by omega)]
  unfold Rd.take
  split
  · exact .inr rfl
  · split
    · exact .inr rfl
    · left
      have : (32 : Int).toNat = 32 := rfl
      rw [this] at *
      simp; omega
theorem zeroD (w : World) : (zeroValue 27).run Tryz.prog w = .ok (.agg (List.replicate 32 (.int .u8 0)).toArray) w := by kernel_rfl
/-- what a copied text's bytes are -/
theorem byt_src {D : Nat → Prop} {w : World} {a : Option Addr} {c : Nat} {l : List UInt8} (h : Byt D w (.slice a l.length c) l) (h0 : 0 < (l.map byt).length) : ∃ ad, a = some ad ∧ ∀ j v, (l.map byt)[j]? = some v → w.cell? (ad.add j) = some v := by
  obtain ⟨a', c', e, _, h⟩ := h
  cases e
  rcases h with h | ⟨b, off, rfl, _, hl⟩
  · subst h; simp at h0
  · refine ⟨_, rfl, fun j v hv => ?_⟩
    obtain ⟨hj, rfl⟩ := List.getElem?_eq_some_iff.1 hv
    rw [List.length_map] at hj
    rw [List.getElem_map]
    have := hl j hj
    unfold Addr.add
    split
    · rename_i h0; subst h0; exact this
    · exact this
theorem splice32 (r : Rd) : splice (List.replicate 32 (.int .u8 0)) 0 ((r.raw 32).2.map byt) = (Rd.dig r).2.map byt := by
  unfold Rd.dig splice
  dsimp only
  rcases raw32_len r with h | h
  · rw [if_pos h]
    simp [h]
  · rw [h]
    simp
set_option maxHeartbeats 4000000 in
set_option maxRecDepth 100000 in
theorem digest_calls (D : Nat → Prop) (w : World) (q : Nat) (r : Rd) (H : ReaderIs D w q r) (hl : r.rest.length ≤ 140737488355328) :
    Calls Tryz.prog 70 #[.agg #[.pointer (some ⟨q, 0, none⟩)]] w fun e w' => e = .returned (.agg ((Rd.dig r).2.map byt).toArray) ∧ ReaderIs D w' q (Rd.dig r).1 ∧ Fr (fun k => k = q) w w' := by
  have hql := H.lt
  have H1 := Lib.hid ((rd_under H).below (below_alloc w (.cells #[.pointer (some ⟨q, 0, none⟩)] 68)))
  have HB := Lib.hid (Blk.new w #[.pointer (some ⟨q, 0, none⟩)] 68 _ rfl)
  have HA := Lib.hid (below_alloc w (.cells #[.pointer (some ⟨q, 0, none⟩)] 68))
  have hz : w.heap.size + 1 = (w.alloc (.cells #[.pointer (some ⟨q, 0, none⟩)] 68)).heap.size := by simp
  have HSP := Lib.hid (splice32 r)
  have HRL := Lib.hid (raw32_len r)
  have HDL := Lib.hid (Rd.dig_len r)
  have hd1 : (Rd.dig r).1 = (r.raw 32).1 := rfl
  clear H
  go_enter Tryz.func70, Tryz.ntmps70
  go_upto_region 1 with (first
    | ((with_reducible refine wpList_alloc rfl _ rfl _ (zeroD _) (fun wa ka ca za => ?_)); have KA := Lib.hid ka; have CA := Lib.hid ca; clear ka ca))
  generalize (w.alloc (.cells #[.pointer (some ⟨q, 0, none⟩)] 68)) = w1 at *
  go_upto_region 2 with (first
    | ((with_reducible refine wpList_alloc rfl _ rfl _ (zeroD _) (fun wb kb cb zb => ?_)); have KB := Lib.hid kb; have CB := Lib.hid cb; clear kb cb))
  have H2 := Lib.hid ((H1.out.below CA.out).below CB.out)
  have HB2 := Lib.hid ((HB.out.below CA.out).below CB.out)
  have KA2 := Lib.hid (KA.out.below CB.out)
  have B2 := Lib.hid ((HA.out.trans (CA.out.mono (by omega))).trans (CB.out.mono (by omega)))
  have c0 := HB2.out.cell (i := 0) rfl
  clear H1 HB HA CA CB KA c0
  have hg1 : w1.heap.size < wa.heap.size := by omega
  have hg2 : wa.heap.size < wb.heap.size := by omega
  have hg0 : w.heap.size < w1.heap.size := by omega
  obtain ⟨g1, hg1e⟩ : ∃ g, w1.heap.size = g := ⟨_, rfl⟩
  rw [hg1e] at hg1 hg0 KA2
  obtain ⟨g2, hg2e⟩ : ∃ g, wa.heap.size = g := ⟨_, rfl⟩
  rw [hg2e] at hg1 hg2 KB
  refine wp_region_held_drew (S := (fun w' => (∃ l, Blk w' g2 l 27) ∧ Blk w' g1 (List.replicate 32 (.int .u8 0)) 27 ∧ Blk w' w.heap.size [.pointer (some ⟨q, 0, none⟩)] 68 ∧ Fr (fun k => k = q) w w')) (by kernel_rfl) ⟨⟨_, KB.out.drew⟩, KA2.out.drew, HB2.out.drew, (Fr.ofBelowAll B2.out (Nat.le_refl _)).drew⟩ (fun hHeld => ?_)
  refine wpAnyH_take (i := 0) (oi := ⟨_, _, _, _, _, _⟩) (v := ?_) rfl (by kernel_rfl) (by kernel_rfl) (by kernel_rfl) (fun _ _ _ h => h) (Or.inl ⟨by rfl, ?_⟩) (by assumption) ?_
  rotate_left
  · intro w hSw; go_simp; try (with_reducible rfl)
  try simp only [Act.put, List.setIfInBounds_toArray, List.set_cons_zero, List.set_cons_succ]
  refine wpAnyH_take (i := 1) (oi := ⟨_, _, _, _, _, _⟩) (v := ?_) rfl (by kernel_rfl) (by kernel_rfl) (by kernel_rfl) (fun _ _ _ h => h) (Or.inl ⟨by rfl, ?_⟩) (by assumption) ?_
  rotate_left
  · intro w hSw; go_simp; try (with_reducible rfl)
  try simp only [Act.put, List.setIfInBounds_toArray, List.set_cons_zero, List.set_cons_succ]
  refine wpAnyH_take (i := 2) (oi := ⟨_, _, _, _, _, _⟩) (v := .pointer (some ⟨q, 0, none⟩)) rfl (by kernel_rfl) (by kernel_rfl) (by kernel_rfl) (fun _ _ _ h => h) (Or.inl ⟨by rfl, fun w hSw => (by have c := hSw.2.2.1.cell (i := 0) rfl; go_simp; try (with_reducible rfl))⟩) (by assumption) ?_
  try simp only [Act.put, List.setIfInBounds_toArray, List.set_cons_zero, List.set_cons_succ]
  refine wpAnyH_ready (rs := [3]) (by kernel_rfl) (by simp) ?_
  refine AllReadyH.cons (o := ⟨_, _, _, _, _, _⟩) rfl (fun K hK => ?_) AllReadyH.nil
  go_simp
  have k2 := KB.out.lt
  have k1 := hHeld.2.1.lt
  refine (CodecR.raw_r_calls _ wb.drew q r 32 H2.out (by omega) (by omega) hl).mono ?_
  rintro e wc ⟨a, c, rfl, o1, o2, o3⟩
  refine hK.out _ _ (by exact ⟨hHeld.1.elim fun l hl => ⟨l, hl.fr o3 (by omega)⟩, hHeld.2.1.fr o3 (by omega), hHeld.2.2.1.fr o3 (by omega), hHeld.2.2.2.trans o3⟩) (fun hHeld => ?_)
  have O1 := Lib.hid o1.byt
  have KB3 := Lib.hid (KB.out.drew.fr o3 (by omega))
  have O2 := Lib.hid o2
  clear o1 o2 o3
  try simp only [Act.put, List.setIfInBounds_toArray, List.set_cons_zero, List.set_cons_succ]
  clear hK
  refine wpAnyH_ready (rs := [4]) (by kernel_rfl) (by simp) ?_
  refine AllReadyH.cons (o := ⟨_, _, _, _, _, _⟩) rfl (fun K hK => ?_) AllReadyH.nil
  refine step_copy_splice rfl (.tmp 4) (.tmp 7) 30 30 rfl 5 Tryz.underlying30 (by kernel_rfl) (some ⟨g2, 0, none⟩) a 32 32 (r.raw 32).2.length c rfl rfl g2 0 (List.replicate 32 (.int .u8 0)) 27 KB3.out ((r.raw 32).2.map byt) (by rw [List.length_map]; rcases HRL.out with h | h <;> rw [h] <;> rfl) (fun h => ⟨rfl, byt_src O1.out h⟩) (by rw [List.length_map]; rcases HRL.out with h | h <;> rw [h] <;> simp) (Wt.oneK _) g2 wc (Below.refl _ _) (Nat.le_refl _) (fun wd kd bd => ?_)
  refine hK.out _ _ (by exact ⟨⟨_, kd.out⟩, hHeld.2.1.fr (Fr.ofBelow bd) (by show ¬ g2 ≤ g1; omega), hHeld.2.2.1.fr (Fr.ofBelow bd) (by show ¬ g2 ≤ w.heap.size; omega), hHeld.2.2.2.trans' (Fr.ofBelow bd) (fun i hi (h : g2 ≤ i) => by omega)⟩) (fun hHeld => ?_)
  have KD := kd.out
  rw [HSP.out] at KD
  have HKD := Lib.hid (show Blk wd g2 ((Rd.dig r).2.map byt) 27 from KD)
  have O3 := Lib.hid (O2.out.fr (Fr.ofBelow bd) (by show ¬ g2 ≤ q; omega) (fun k _ h (e : g2 ≤ k) => by have := h.1; omega))
  clear KD kd O2 O1 KB3
  try simp only [Act.put, List.setIfInBounds_toArray, List.set_cons_zero, List.set_cons_succ]
  clear hK
  refine wpAnyH_done (by kernel_rfl) ?_ _
  have SZ := Lib.hid (Ww.szD HDL.out)
  have K1 := Lib.hid hHeld.2.1
  have FF := Lib.hid hHeld.2.2.2
  clear hHeld
  go_wp2_with (first
    | (with_reducible refine wpList_load_blk rfl _ _ rfl g2 ((Rd.dig r).2.map byt) rfl HKD.out _ Tryz.underlying27 rfl SZ.out ?_)
    | ((with_reducible refine wpList_put rfl _ _ _ rfl g1 ((Rd.dig r).2.map byt) _ rfl rfl K1.out SZ.out (by simp [HDL.out]) (Wt.oneK _) (fun we ke fe ze => ?_)); have KE := Lib.hid ke; have FE := Lib.hid fe; clear ke fe))
  exact bodyPost_ret (v := .agg ((Rd.dig r).2.map byt).toArray) (results_row1 Tryz.results70 _ _ g1 _ _ rfl KE.out Tryz.underlying27 rfl SZ.out) rfl ⟨rfl, rd_back (O3.out.fr FE.out (by omega) (fun k _ h (e : k = g1) => by have := h.1; omega)) hql, FF.out.trans' FE.out (fun i hi (e : i = g1) => by omega)⟩
set_option maxHeartbeats 4000000 in
set_option maxRecDepth 100000 in
theorem key_calls (D : Nat → Prop) (w : World) (q : Nat) (r : Rd) (H : ReaderIs D w q r) (hl : r.rest.length ≤ 140737488355328) :
    Calls Tryz.prog 80 #[.agg #[.pointer (some ⟨q, 0, none⟩)]] w fun e w' => e = .returned (.agg ((Rd.dig r).2.map byt).toArray) ∧ ReaderIs D w' q (Rd.dig r).1 ∧ Fr (fun k => k = q) w w' := by
  have hql := H.lt
  have H1 := Lib.hid ((rd_under H).below (below_alloc w (.cells #[.pointer (some ⟨q, 0, none⟩)] 68)))
  have HB := Lib.hid (Blk.new w #[.pointer (some ⟨q, 0, none⟩)] 68 _ rfl)
  have HA := Lib.hid (below_alloc w (.cells #[.pointer (some ⟨q, 0, none⟩)] 68))
  have hz : w.heap.size + 1 = (w.alloc (.cells #[.pointer (some ⟨q, 0, none⟩)] 68)).heap.size := by simp
  obtain ⟨d, hd⟩ : ∃ d, (Rd.dig r).2 = d := ⟨_, rfl⟩
  have HDL := Lib.hid (show d.length = 32 from hd ▸ Rd.dig_len r)
  have HD := Lib.hid hd
  rw [hd]
  clear H hd
  go_enter Tryz.func80, Tryz.ntmps80
  go_upto_region 1 with (first
    | ((with_reducible refine wpList_alloc rfl _ rfl _ (Wt.zeroK _) (fun wa ka ca za => ?_)); have KA := Lib.hid ka; have CA := Lib.hid ca; clear ka ca))
  generalize (w.alloc (.cells #[.pointer (some ⟨q, 0, none⟩)] 68)) = w1 at *
  have H2 := Lib.hid (H1.out.below CA.out)
  have HB2 := Lib.hid (HB.out.below CA.out)
  have B2 := Lib.hid (HA.out.trans (CA.out.mono (by omega)))
  have hg0 : w.heap.size < w1.heap.size := by omega
  have hg2 : w1.heap.size < wa.heap.size := by omega
  generalize w1.heap.size = g1 at *
  clear H1 HB HA CA
  go_wp2_with (first | (with_reducible refine wpList_load_blk rfl _ _ rfl w.heap.size [.pointer (some ⟨q, 0, none⟩)] rfl HB2.out _ Tryz.underlying68 rfl (by kernel_rfl) ?_))
  refine (digest_calls _ wa q r H2.out hl).mono ?_
  rintro e wb ⟨rfl, o1, o2⟩
  rw [HD.out]
  have O1 := Lib.hid o1
  have K1 := Lib.hid (KA.out.fr o2 (by omega))
  have FF := Lib.hid ((Fr.ofBelowAll B2.out (Nat.le_refl _) : Fr (fun k => k = q) w wa).trans o2)
  have SZ := Lib.hid (Wt.szK HDL.out)
  clear o1 o2 H2 HB2 B2 KA
  go_wp2_with (first
    | ((with_reducible refine wpList_put rfl _ _ _ rfl g1 (d.map byt) _ rfl rfl K1.out SZ.out (by simp [HDL.out]) (Wt.oneK _) (fun we ke fe ze => ?_)); have KE := Lib.hid ke; have FE := Lib.hid fe; clear ke fe))
  exact bodyPost_ret (v := .agg (d.map byt).toArray) (results_row1 Tryz.results80 _ _ g1 _ _ rfl KE.out Tryz.underlying134 rfl SZ.out) rfl ⟨rfl, rd_back (O1.out.fr FE.out (by omega) (fun k _ h (e : k = g1) => by have := h.1; omega)) hql, FF.out.trans' FE.out (fun i hi (e : i = g1) => by omega)⟩
end Go.Proofs.YtmenchnjajpkmaaGreat.Wr
end

section
namespace Go.Proofs.YtmenchnjajpkmaaGreat.Ops
open Go Go.RowKit Mem
section
variable {F : Fence} {n : Nat} {P : Program} {w : World} {ops : Array Oper} {rest : List Oper} {o : Oper} {a : Act} {K : Act → World → Prop} {Q : Exit → Act → World → Prop}
theorem wpIn_value {v : Value} {w' : World} (hab : o.about P w a.eval = none) (hd : ∀ c, o.op ≠ .defer c) (hrun : (execOp a.eval o).run P w = .ok (.value v) w') (h : K (a.put o.dst v) w') : o.wpIn F n P a w K Q := by
  unfold Oper.wpIn
  refine ⟨fun f hf => (by rw [hab] at hf; cases hf), ?_⟩
  rw [Oper.semAt_plain F _ _ hd, hrun]
  exact h
theorem wpListIn_alloc (hgd : o.guard = none) (t : TypeId) (ho : o.op = .alloc t) (zs : List Value) (hz : (zeroValue t).run P w = .ok (.agg zs.toArray) w)
    (h : ∀ w', Blk w' w.heap.size zs t → Below w.heap.size w w' → w.heap.size + 1 = w'.heap.size → wpListIn F n P ops Q rest (a.put o.dst (.pointer (some ⟨w.heap.size, 0, none⟩))) w') : wpListIn F n P ops Q (o :: rest) a w :=
  wpListIn_plain hgd fun K hK => wpIn_value (v := .pointer (some ⟨w.heap.size, 0, none⟩)) (w' := w.alloc (.cells zs.toArray t)) (by simp [Oper.about, ho]) (by rw [ho]; intro c h; cases h)
    (by simp [execOp, ho, Instr.alloc, hz, newVar, newRow, Value.cells, Result.andThen]) (hK _ _ (h _ (Blk.new w _ _ _ rfl) (below_alloc _ _) (by simp)))
theorem wpListIn_put (hgd : o.guard = none) (ty : TypeId) (x y : Operand) (ho : o.op = .store ty x y) (g : Nat) (l old : List Value) (hx : a.eval x = .pointer (some ⟨g, 0, none⟩)) (hy : a.eval y = .agg l.toArray) {t : TypeId} (hB : Blk w g old t)
    (hi : (P.info? ty).map (·.size) = some l.length) (hl : old.length = l.length) (h1 : ∀ v ∈ l, v.oneCell' = true)
    (h : ∀ w', Blk w' g l t → Fr (fun k => k = g) w w' → w'.heap.size = w.heap.size → wpListIn F n P ops Q rest (a.put o.dst undef) w') : wpListIn F n P ops Q (o :: rest) a w := by
  refine wpListIn_plain hgd fun K hK => ?_
  unfold Oper.wpIn
  refine ⟨fun f hf => (by simp [Oper.about, ho] at hf), ?_⟩
  rw [Oper.semAt_plain F _ _ (by rw [ho]; intro c h; cases h)]
  have hr := run_storeVar_row (P := P) w g t ty old.toArray l.toArray hB (by simpa using hi) (by simpa using hl) (by rw [Array.all_eq_true']; intro v hv; exact h1 v (by simpa using hv))
  have e : (execOp a.eval o).run P w = .ok .skip (w.setRow g l.toArray) := by
    unfold execOp
    simp only [ho, hx, hy, Instr.storeAt, Instr.sureAddr, Sem.run_bind, Sem.run_pure, Result.andThen_ok, hr]
  rw [e]
  exact hK _ _ (h _ (hB.row l) (Fr.setRow (S := fun k => k = g) (Fr.refl _ w) (.inr rfl) _) (by simp))
theorem wpListIn_load_blk (hgd : o.guard = none) (ty : TypeId) (x : Operand) (ho : o.op = .load ty x) (g : Nat) (l : List Value) (hx : a.eval x = .pointer (some ⟨g, 0, none⟩)) {t : TypeId} (hB : Blk w g l t) (d : TypeDesc) (hu : P.underlying ty = some d)
    (hd : d.isRow = true) (hi : (P.info? ty).map (·.size) = some l.length) (h : wpListIn F n P ops Q rest (a.put o.dst (.agg l.toArray)) w) : wpListIn F n P ops Q (o :: rest) a w :=
  wpListIn_plain hgd fun K hK => wpIn_value (v := .agg l.toArray) (w' := w) (by simp [Oper.about, ho]) (by rw [ho]; intro c h; cases h)
    (by unfold execOp; simp only [ho, hx, Instr.loadAt, Instr.sureAddr, Sem.run_bind, Sem.run_pure, Result.andThen_ok, run_loadVar_mid w g 0 ty l d (blk_range hB) hu hd hi]) (hK _ _ h)
/-- the same of an operation behind a guard that lets it -/
theorem wpListIn_load_blkw (hw : Region.wanted o (yielded ops a.tmps) = true) (ty : TypeId) (x : Operand) (ho : o.op = .load ty x) (g : Nat) (l : List Value) (hx : a.eval x = .pointer (some ⟨g, 0, none⟩)) {t : TypeId} (hB : Blk w g l t) (d : TypeDesc) (hu : P.underlying ty = some d)
    (hd : d.isRow = true) (hi : (P.info? ty).map (·.size) = some l.length) (h : wpListIn F n P ops Q rest (a.put o.dst (.agg l.toArray)) w) : wpListIn F n P ops Q (o :: rest) a w :=
  wpListIn_step fun K hK => by
    rw [if_pos hw]
    exact wpIn_value (v := .agg l.toArray) (w' := w) (by simp [Oper.about, ho]) (by rw [ho]; intro c h; cases h)
      (by unfold execOp; simp only [ho, hx, Instr.loadAt, Instr.sureAddr, Sem.run_bind, Sem.run_pure, Result.andThen_ok, run_loadVar_mid w g 0 ty l d (blk_range hB) hu hd hi]) (hK _ _ h)
/-- a slice of one element of many cells -/
theorem wpListIn_buildSlice1 (hgd : o.guard = none) {t e : TypeId} {z : Value} {k bytes : Nat} (T : ElemT P t e z k bytes) (x : Operand) (ho : o.op = .buildSlice t 1 #[(0, x)]) (l : List Value) (hx : a.eval x = .agg l.toArray) (hs : l.length = k) (hk : k ≤ 16777216)
    (h : ∀ w', Blk w' w.heap.size l e → Below w.heap.size w w' → w.heap.size + 1 = w'.heap.size → wpListIn F n P ops Q rest (a.put o.dst (.slice (some ⟨w.heap.size, 0, none⟩) 1 1)) w') : wpListIn F n P ops Q (o :: rest) a w := by
  refine wpListIn_plain hgd fun K hK => wpIn_value (v := .slice (some ⟨w.heap.size, 0, none⟩) 1 1) (w' := w.alloc (.cells l.toArray e)) (by simp [Oper.about, ho]) (by rw [ho]; intro c h; cases h) ?_ (hK _ _ (h _ (Blk.new w _ _ _ rfl) (below_alloc _ _) (by simp)))
  have hr := Arr.run_buildSlice T [.agg l.toArray] (by simp [Value.cells, hs]) (by simpa using hk) (by simp) w
  simp at hr
  simp [execOp, ho, hx, hr, Value.cells, Result.andThen]
theorem wpListIn_append_arr (hgd : o.guard = none) (s x : Operand) (t : TypeId)
    (ho : o.op = .call { callee := .builtin .append, args := #[s, x], argTypes := #[t, t] }) (base : Nat) (e : TypeId) {z : Value} {k bytes : Nat} (T : ElemT P t e z k bytes)
    (v : Value) (xs : List (List Value)) (hs : a.eval s = v) (hown : Arr.OwnA k base e w v xs) {D : Nat → Prop} (y : Value) (ys : List (List Value)) (hx : a.eval x = y) (hy : Arr.Arr k D w y ys)
    (h1 : ∀ x ∈ ys, ∀ c ∈ x, c.oneCell' = true) (h63 : xs.length + ys.length ≤ maxLen) (hbytes : (xs.length + ys.length) * bytes ≤ 140737488355328) (hb : base ≤ w.heap.size) (m : Nat) (hn : m = xs.length + ys.length)
    (h : ∀ (a' : Option Addr) (cap' : Nat) (w' : World), Arr.OwnA k base e w' (.slice a' m cap') (xs ++ ys) → w.grownBy w' v.ownBlock → ((Value.slice a' m cap').ownBlock = v.ownBlock ∨ (Value.slice a' m cap').ownBlock = some w.heap.size) → wpListIn F n P ops Q rest (a.put o.dst (.slice a' m cap')) w') :
    wpListIn F n P ops Q (o :: rest) a w := by
  subst hn
  obtain ⟨a', cap', w', h0, q1, q2, q4⟩ := Arr.run_append_arr (P := P) w t o.type base e T v xs hown y ys hy h1 h63 hbytes hb
  refine wpListIn_plain hgd fun K hK => ?_
  unfold Oper.wpIn
  refine ⟨?_, ?_⟩
  · simp [Oper.about, ho, resolve, Target.leads, Sem.run_pure]
  · rw [Oper.semAt_plain F _ _ (by rw [ho]; intro c hc'; cases hc')]
    simp [execOp, ho, resolve, invoke, builtin, hs, hx, h0, Result.andThen]
    exact hK _ _ (h a' cap' w' q1 q2 q4)
end
end Go.Proofs.YtmenchnjajpkmaaGreat.Ops
end

section
namespace Go.Proofs.YtmenchnjajpkmaaGreat.WtIt
open Go Go.RowKit Mem Codec CodecR Iter Ops
set_option linter.unusedVariables false

/-- so many things, up to the first one that fails -/
def items {α : Type} (one : Rd → Rd × α) : Nat → Rd → List α × Rd
  | 0, r => ([], r)
  | n + 1, r => if (one r).1.e ≠ 0 then ([], (one r).1) else ((one r).2 :: (items one n (one r).1).1, (items one n (one r).1).2)
section
variable {α : Type} (one : Rd → Rd × α)
/-- where one is -/
def At (n : Nat) (r1 : Rd) (s : List α × Rd) : Prop := s.1.length ≤ n ∧ items one n r1 = (s.1 ++ (items one (n - s.1.length) s.2).1, (items one (n - s.1.length) s.2).2)
theorem At.start (n : Nat) (r1 : Rd) : At one n r1 ([], r1) := ⟨Nat.zero_le _, by simp⟩
theorem At.next {n : Nat} {r1 : Rd} {pre : List α} {r : Rd} (h : At one n r1 (pre, r)) (hl : pre.length < n) (he : (one r).1.e = 0) : At one n r1 (pre ++ [(one r).2], (one r).1) := by
  obtain ⟨_, h⟩ := h
  refine ⟨by simp; omega, ?_⟩
  rw [h]
  dsimp only
  obtain ⟨k, hk⟩ : ∃ k, n - pre.length = k + 1 := ⟨n - pre.length - 1, by omega⟩
  rw [hk, items, if_neg (by simp [he]), show n - (pre ++ [(one r).2]).length = k by simp; omega]
  simp
theorem At.fails {n : Nat} {r1 : Rd} {pre : List α} {r : Rd} (h : At one n r1 (pre, r)) (hl : pre.length < n) (he : (one r).1.e ≠ 0) : items one n r1 = (pre, (one r).1) := by
  obtain ⟨_, h⟩ := h
  rw [h]
  dsimp only
  obtain ⟨k, hk⟩ : ∃ k, n - pre.length = k + 1 := ⟨n - pre.length - 1, by omega⟩
  rw [hk, items, if_pos he]
  simp
theorem At.all {n : Nat} {r1 : Rd} {pre : List α} {r : Rd} (h : At one n r1 (pre, r)) (hl : ¬ pre.length < n) : items one n r1 = (pre, r) := by
  obtain ⟨_, h⟩ := h
  rw [h, show n - pre.length = 0 by omega]
  simp [items]
/-- what a round is told: the reader behind its thing, the thing -/
def Y (n : Nat) (r1 : Rd) (V : World → World → Value → α → Prop) (s s' : List α × Rd) (vs : Array Value) (A0 A : World) : Prop :=
  ∃ v, s.1.length < n ∧ At one n r1 s ∧ s' = (s.1 ++ [(one s.2).2], (one s.2).1) ∧ (one s.2).1.e = 0 ∧ vs = #[.int .i64 (s.1.length : Int), v] ∧ V A0 A v (one s.2).2
def It (D : Nat → Prop) (q b1 b2 b3 d1 d2 : Nat) (most : Int) (fv fk : Value) (s : List α × Rd) (A : World) : Prop :=
  ReaderIs D A q s.2 ∧ A.cell? ⟨b1, 0, none⟩ = some (.pointer (some ⟨q, 0, none⟩)) ∧ A.cell? ⟨b2, 0, none⟩ = some (.int .i64 most) ∧ A.cell? ⟨b3, 0, none⟩ = some fv ∧ A.cell? ⟨d1, 0, none⟩ = some fk ∧ A.cell? ⟨d2, 0, none⟩ = some (.pointer (some ⟨q, 0, none⟩))
def E (n : Nat) (r1 : Rd) (D : Nat → Prop) (q : Nat) (s : List α × Rd) (A : World) : Prop := ∃ r2, items one n r1 = (s.1, r2) ∧ ReaderIs D A q r2
end

def KV (A B : World) (v : Value) (x : List UInt8) : Prop := v = .agg (x.map byt).toArray ∧ x.length = 32
attribute [local go_sem] Oper.semAt_some
set_option maxHeartbeats 4000000 in
set_option maxRecDepth 100000 in
theorem items_seq (one : Rd → Rd × List UInt8) (fo : Nat) (fk : Value) (ef : ∀ args w, (callFunc fo args).run Tryz.prog w = .ok (.enter fo args) w) (D : Nat → Prop) (w : World) (q b1 b2 b3 d1 d2 : Nat) (r0 : Rd) (most : Int) (h1 : -9223372036854775808 ≤ most) (h2 : most < 9223372036854775808)
    (H : ReaderIs D w q r0) (hb1 : w.cell? ⟨b1, 0, none⟩ = some (.pointer (some ⟨q, 0, none⟩))) (hb2 : w.cell? ⟨b2, 0, none⟩ = some (.int .i64 most)) (hb3 : w.cell? ⟨b3, 0, none⟩ = some (.func (.func fo) #[] #[.pointer (some ⟨d1, 0, none⟩), .pointer (some ⟨d2, 0, none⟩)])) (he1 : w.cell? ⟨d1, 0, none⟩ = some fk) (he2 : w.cell? ⟨d2, 0, none⟩ = some (.pointer (some ⟨q, 0, none⟩))) (hn4 : d1 ≠ q) (hn5 : d2 ≠ q) (hn1 : b1 ≠ q) (hn2 : b2 ≠ q) (hn3 : b3 ≠ q)
    (L : Nat) (hl : r0.rest.length ≤ L) (hlen : ∀ r, (one r).1.rest.length ≤ r.rest.length)
    (hone : ∀ (A : World) (r : Rd), ReaderIs D A q r → r.rest.length ≤ L → A.cell? ⟨d1, 0, none⟩ = some fk → A.cell? ⟨d2, 0, none⟩ = some (.pointer (some ⟨q, 0, none⟩)) → Calls Tryz.prog fo #[.pointer (some ⟨q, 0, none⟩), .pointer (some ⟨d1, 0, none⟩), .pointer (some ⟨d2, 0, none⟩)] A fun e B => e = .returned (.agg ((one r).2.map byt).toArray) ∧ (one r).2.length = 32 ∧ ReaderIs D B q (one r).1 ∧ Fr (fun k => k = q) A B) :
    SeqC Tryz.prog 130 #[.pointer (some ⟨b1, 0, none⟩), .pointer (some ⟨b2, 0, none⟩), .pointer (some ⟨b3, 0, none⟩)] (fun k => k = q)
      (It D q b1 b2 b3 d1 d2 most (.func (.func fo) #[] #[.pointer (some ⟨d1, 0, none⟩), .pointer (some ⟨d2, 0, none⟩)]) fk) (Y one (r0.room most).2 (r0.room most).1 KV) (E one (r0.room most).2 (r0.room most).1 D q) ([], (r0.room most).1) w := by
  intro l J Jx W hW hsW hJ hY h0
  have HR := Lib.hid (H.below hW)
  have HRM := Lib.hid (CodecR.room_calls D W q r0 most HR.out h1 h2)
  have hnb := room_le r0 most h2
  have hrl := Nat.le_trans (Rd.room_len r0 most) hl
  generalize (r0.room most).1 = r1 at *
  generalize (r0.room most).2 = n at *
  have c1 := (hW.cell (World.block_lt_of_cell? _ _ hb1)).trans hb1
  have c2 := (hW.cell (World.block_lt_of_cell? _ _ hb2)).trans hb2
  have c3 := (hW.cell (World.block_lt_of_cell? _ _ hb3)).trans hb3
  have c4 := (hW.cell (World.block_lt_of_cell? _ _ he1)).trans he1
  have c5 := (hW.cell (World.block_lt_of_cell? _ _ he2)).trans he2
  have HJ := Lib.hid hJ
  have HY := Lib.hid hY
  have H0 := Lib.hid h0
  have HO := Lib.hid hone
  clear hJ hY h0 hone HR
  refine callsIn_of_wp Tryz.func130 rfl trivial ?_ rfl
  simp only [Tryz.ntmps130, List.size_toArray, List.length_cons, List.length_nil, Nat.reduceAdd, Nat.reduceSub, Array.replicate_succ, Array.replicate_zero, List.push_toArray, List.append_toArray, List.nil_append, List.cons_append]
  gi_wp2
  refine ⟨trivial, rfl, (callsIn_wide.2 HRM.out).mono ?_⟩
  rintro e w2 ⟨rfl, g1, g2⟩
  have c1 := g2.cell c1 hn1
  have c2 := g2.cell c2 hn2
  have c3 := g2.cell c3 hn3
  have c4 := g2.cell c4 hn4
  have c5 := g2.cell c5 hn5
  have hs2 := g2.size
  have HR2 := Lib.hid g1
  have HJ2 := Lib.hid (HJ.out _ _ _ H0.out g2)
  clear g1 g2 HRM H0
  gi_wp2
  gi_loopw [6] (fun i wr => ∃ (pre : List (List UInt8)) (r : Rd), i = .int .i64 (pre.length : Int) ∧ At one n r1 (pre, r) ∧ r.rest.length ≤ L ∧ W.heap.size ≤ wr.heap.size ∧ It D q b1 b2 b3 d1 d2 most (.func (.func fo) #[] #[.pointer (some ⟨d1, 0, none⟩), .pointer (some ⟨d2, 0, none⟩)]) fk (pre, r) wr ∧ J (pre, r) wr) (fun i _ => n - (intOf i).toNat)
  case atStart => exact ⟨[], r1, rfl, At.start one n r1, hrl, hs2, ⟨HR2.out, c1, c2, c3, c4, c5⟩, HJ2.out⟩
  case round =>
    obtain ⟨pre, r, rfl, hA, hrL, hsr, ⟨g1, c1, c2, c3, c4, c5⟩, g5⟩ := hrel
    have hA1 := hA.1
    have HA := Lib.hid hA
    have HJw := Lib.hid g5
    have HRw := Lib.hid g1
    dsimp only at hA1
    have hcv : IntKind.u64.wrap (pre.length : Int) = (pre.length : Int) := by rw [IntKind.wrap_u64]; omega
    clear hA g1 g5 HJ2 HR2
    by_cases hlt : pre.length < n
    · have hlt2 : ((pre.length : Int) < (n : Int)) := by omega
      have HOw := Lib.hid (HO.out wr r HRw.out hrL c4 c5)
      have HLn := Lib.hid (hlen r)
      have hcf := ef #[.pointer (some ⟨q, 0, none⟩), .pointer (some ⟨d1, 0, none⟩), .pointer (some ⟨d2, 0, none⟩)] wr
      gi_wp2
      refine ⟨trivial, rfl, (callsIn_wide.2 HOw.out).mono ?_⟩
      rintro e w3 ⟨rfl, hx, k1, k2⟩
      have HR3 := Lib.hid k1
      have HF3 := Lib.hid k2
      have hs3 := k2.size
      have c1 := k2.cell c1 hn1
      have c2 := k2.cell c2 hn2
      have c3 := k2.cell c3 hn3
      have c4 := k2.cell c4 hn4
      have c5 := k2.cell c5 hn5
      obtain ⟨xa, xc, x1, _, _⟩ := id k1
      have d9 := x1.cell (i := 1) rfl
      obtain ⟨x, hxe⟩ : ∃ x, (one r).2 = x := ⟨_, rfl⟩
      have HXE := Lib.hid hxe
      rw [hxe] at hx
      have HX := Lib.hid hx
      rw [hxe]
      clear k1 k2 x1 HOw hxe hx
      by_cases he : (one r).1.e = 0
      · rw [he] at d9
        gi_wp2_with (first
          | ((with_reducible refine wpListIn_alloc rfl _ rfl _ (Wt.zeroK _) (fun wa ka ca za => ?_)); have KA := Lib.hid ka; have CA := Lib.hid ca; clear ka ca)
          | ((with_reducible refine wpListIn_put rfl _ _ _ rfl w3.heap.size (x.map byt) _ rfl rfl KA.out (Wt.szK HX.out) (by simp [HX.out]) (Wt.oneK _) (fun wb kb fb zb => ?_)); have KB := Lib.hid kb; have CB := CA.out.trans (fb.below CA.out.size (fun k (hk : k = _) => by omega)); have FB := Lib.hid (HF3.out.trans (Fr.ofBelowAll CB (Nat.le_refl _))); have HR4 := Lib.hid (HR3.out.below CB); have c1 := CB.cell (World.block_lt_of_cell? _ _ c1) |>.trans c1; have c2 := CB.cell (World.block_lt_of_cell? _ _ c2) |>.trans c2; have c3 := CB.cell (World.block_lt_of_cell? _ _ c3) |>.trans c3; have c4 := CB.cell (World.block_lt_of_cell? _ _ c4) |>.trans c4; have c5 := CB.cell (World.block_lt_of_cell? _ _ c5) |>.trans c5; have d9 := CB.cell (World.block_lt_of_cell? _ _ d9) |>.trans d9; have hsb := CB.size; obtain ⟨fn, tmps, assign, body, hy, hR⟩ := HY.out (pre, r) (pre ++ [(one r).2], (one r).1) #[.int .i64 (pre.length : Int), .agg (x.map byt).toArray] wr wb HJw.out FB.out ⟨_, hlt, HA.out, rfl, he, rfl, by rw [HXE.out], by rw [HXE.out]; exact HX.out⟩ ⟨HR4.out, c1, c2, c3, c4, c5⟩; have HRR := Lib.hid hR; clear hR; clear kb fb CB)
          | (with_reducible refine wpListIn_load_blkw (by with_unfolding_all rfl) _ _ rfl w3.heap.size (x.map byt) rfl KB.out _ Tryz.underlying134 rfl (Wt.szK HX.out) ?_))
        refine ⟨rfl, HRR.out.mono ?_⟩
        rintro e W' (⟨rfl, k1, k2, hs4⟩ | ⟨rfl, k1⟩)
        · have HJ4 := Lib.hid k1
          have HI4 := Lib.hid k2
          have HA4 := Lib.hid (HA.out.next one hlt he)
          clear k1 k2
          gi_wp2
          go_roundw
          case rel => exact ⟨_, _, by rw [List.length_append]; rfl, HA4.out, Nat.le_trans HLn.out hrL, by omega, HI4.out, HJ4.out⟩
          case measure => simp [intOf]; omega
        · gi_wp2
          refine bodyPost_ret (results_none rfl _ _ _) rfl ?_
          exact ⟨⟨_, rfl⟩, .inr ⟨_, k1⟩⟩
      · have he2 : ((one r).1.e != 0) = true := by simpa using he
        have HEE := Lib.hid (HA.out.fails one hlt he)
        gi_wp2_with (first
          | ((with_reducible refine wpListIn_alloc rfl _ rfl _ (Wt.zeroK _) (fun wa ka ca za => ?_)); have KA := Lib.hid ka; have CA := Lib.hid ca; clear ka ca)
          | ((with_reducible refine wpListIn_put rfl _ _ _ rfl w3.heap.size (x.map byt) _ rfl rfl KA.out (Wt.szK HX.out) (by simp [HX.out]) (Wt.oneK _) (fun wb kb fb zb => ?_)); have KB := Lib.hid kb; have CB := CA.out.trans (fb.below CA.out.size (fun k (hk : k = _) => by omega)); have FB := Lib.hid (HF3.out.trans (Fr.ofBelowAll CB (Nat.le_refl _))); have HR4 := Lib.hid (HR3.out.below CB); have c1 := CB.cell (World.block_lt_of_cell? _ _ c1) |>.trans c1; have c2 := CB.cell (World.block_lt_of_cell? _ _ c2) |>.trans c2; have c3 := CB.cell (World.block_lt_of_cell? _ _ c3) |>.trans c3; have c4 := CB.cell (World.block_lt_of_cell? _ _ c4) |>.trans c4; have c5 := CB.cell (World.block_lt_of_cell? _ _ c5) |>.trans c5; have d9 := CB.cell (World.block_lt_of_cell? _ _ d9) |>.trans d9; have hsb := CB.size; skip; clear kb fb CB)
          | (with_reducible refine wpListIn_load_blkw (by with_unfolding_all rfl) _ _ rfl w3.heap.size (x.map byt) rfl KB.out _ Tryz.underlying134 rfl (Wt.szK HX.out) ?_))
        refine ⟨fun _ h => (by cases h), ?_⟩
        gi_wp2
        refine bodyPost_ret (results_none rfl _ _ _) rfl ?_
        exact ⟨⟨_, rfl⟩, .inl ⟨(pre, r), ⟨_, HEE.out, HR4.out⟩, (HJ.out _ _ _ HJw.out FB.out)⟩⟩
    · have hlt2 : ¬ ((pre.length : Int) < (n : Int)) := by omega
      have HEE := Lib.hid (HA.out.all one hlt)
      gi_wp2
      go_end0
      exact ⟨⟨_, rfl⟩, .inl ⟨pre, r, ⟨r, HEE.out, HRw.out⟩, HJw.out⟩⟩
end Go.Proofs.YtmenchnjajpkmaaGreat.WtIt
end

section
namespace Go.Proofs.YtmenchnjajpkmaaGreat.Iter
open Go Go.RowKit Mem

theorem rangeSeq2 {σ : Type} {P : Program} {g : Operand} {ps : Array Tmp} {assign body : Code} {Q : Exit → Act → World → Prop} {a : Act} {w : World} {gf : Nat} {lb : Array Value}
    (hg : a.eval g = .func (.func gf) #[] lb) (eg : ∀ args w, (callFunc gf args).run P w = .ok (.enter gf args) w)
    {T : Nat → Prop} {It : σ → World → Prop} {Y : σ → σ → Array Value → World → World → Prop} {E : σ → World → Prop} {s0 : σ} (hseq : SeqC P gf lb T It Y E s0 w)
    (hT : ∀ k, T k → k < w.heap.size)
    (hIt : ∀ s A B, It s A → Fr (fun b => b = w.heap.size + 1) A B → It s B)
    (hY : ∀ s s' vs A0 A B, Y s s' vs A0 A → w.heap.size + 1 < A0.heap.size → Fr (fun b => b = w.heap.size + 1) A B → Y s s' vs A0 B)
    (hE : ∀ s A B, E s A → Fr (fun b => b = w.heap.size + 1) A B → E s B)
    (hps : ∀ s s' vs A0 A, Y s s' vs A0 A → vs.size = ps.size)
    (I : σ → World → Prop) (Ix : Code → σ → World → Prop)
    (hI : ∀ s A B, I s A → Fr (fun b => T b ∨ b = w.heap.size + 1) A B → I s B)
    (hIx : ∀ c s A B, Ix c s A → Fr (fun b => b = w.heap.size + 1) A B → Ix c s B)
    (h0 : I s0 w) (AS : Array Value → Act → World → Prop)
    (hAS : ∀ vs a A B, AS vs a A → Fr (fun b => b = w.heap.size + 1) A B → AS vs a B)
    (hassign : ∀ (l : Nat) (s s' : σ) (vs : Array Value) (A0 W : World) (K : Act → World → Prop), Y s s' vs A0 W → w.heap.size + 1 < W.heap.size → (∀ a W', AS vs a W' → Below W.heap.size W W' → K a W') →
      assign.wpIn (Fence.wide.inRound l) 0 P (Exit.then K (fun _ _ _ => False)) { tmps := (ps.zip vs).foldl (fun t (p, v) => t.setIfInBounds p v) a.tmps, defers := [] } W)
    (hbody : ∀ (s s' : σ) (vs : Array Value) (a' : Act) (A0 A : World), w.heap.size + 1 < A0.heap.size → I s A0 → Fr (fun b => T b ∨ b = w.heap.size + 1) A0 A → Y s s' vs A0 A → It s' A → AS vs a' A →
      body.wpIn (Fence.wide.inRound (w.heap.size + 1)) 0 P (roundEnd w.heap.size It I Ix s' A) a' A)
    (hdone : ∀ (s : σ) (W : World), E s W → I s W → W.heap[w.heap.size]? = some (.deferred (some [])) → Q .normal { a with defers := { target := .collected w.heap.size, args := #[] } :: a.defers } W)
    (hstop : ∀ (c : Code) (s : σ) (W : World), Ix c s W → W.heap[w.heap.size]? = some (.deferred (some [])) → c.wpIn Fence.wide 0 P Q { a with defers := { target := .collected w.heap.size, args := #[] } :: a.defers } W) :
    (Code.rangeFunc g ps assign body).wpIn Fence.wide 0 P Q a w := by
  refine wpIn_rangeFunc ?_
  intro fn hfn
  rw [show Fence.wide.round = none from rfl]
  obtain ⟨rec, hrec⟩ : ∃ rec : LoopState → Option Code → Loop, rec = fun st pe => { state := st, pending := pe, fn, tmps := a.tmps, params := ps, assign, body, defers := w.heap.size } := ⟨_, rfl⟩
  obtain ⟨W1, hW1⟩ : ∃ W1, (w.alloc (.deferred (some []))).alloc (.loop (rec .ready none)) = W1 := ⟨_, rfl⟩
  have hL1 : W1.heap[w.heap.size + 1]? = some (.loop (rec .ready none)) := by
    rw [← hW1]; have := World.alloc_heap_new (w.alloc (.deferred (some []))) (.loop (rec .ready none)); rwa [World.size_alloc] at this
  have hK1 : W1.heap[w.heap.size]? = some (.deferred (some [])) := by
    rw [← hW1]; exact (Below.heap_alloc _ _ _ (by simp)).trans (World.alloc_heap_new w _)
  have hb1 : Below w.heap.size w W1 := by
    rw [← hW1]; exact ((Below.refl _ w).alloc (Nat.le_refl _) _).alloc (by simp) _
  have hI1 : I s0 W1 := hI _ _ _ h0 (Fr.ofBelowAll hb1 (Nat.le_refl _))
  refine ⟨w.heap.size + 1, [{ target := .collected w.heap.size, args := #[] }], W1, { target := .fn (.func gf) lb, args := #[.func (.yield (w.heap.size + 1)) #[] #[]] }, W1, gf,
    #[.func (.yield (w.heap.size + 1)) #[] #[]] ++ lb, W1, ?_, ?_, ?_, ?_, fun h => by simp [Fence.wide] at h, ?_⟩
  · rw [← hW1, hrec]; exact run_enterLoop_outer _ _ _ _ _
  · simp only [resolve, hg]
    simp [go_sem]
  · intro f' _; trivial
  · simp [invoke, go_sem, eg]
  · refine (hseq (w.heap.size + 1)
      (fun s W => I s W ∧ W.heap[w.heap.size + 1]? = some (.loop (rec .ready none)) ∧ W.heap[w.heap.size]? = some (.deferred (some [])))
      (fun s W => ∃ c, Ix c s W ∧ W.heap[w.heap.size + 1]? = some (.loop (rec .done (some c))) ∧ W.heap[w.heap.size]? = some (.deferred (some [])))
      W1 hb1 (by rw [← hW1]; simp) ?_ ?_ ⟨hI1, hL1, hK1⟩).mono ?_
    · rintro s A B ⟨h1, h2, h3⟩ hf
      have hl := (Array.getElem?_eq_some_iff.1 h2).1
      exact ⟨hI _ _ _ h1 (hf.mono (fun k _ h => .inl h)), (hf.block _ hl (fun h => by have := hT _ h; omega)).trans h2, (hf.block _ (by omega) (fun h => by have := hT _ h; omega)).trans h3⟩
    · -- one round
      rintro s s' vs W0 W ⟨hi, hl0, hk0⟩ hf0 hYs hIt1
      have hlt0 : w.heap.size + 1 < W0.heap.size := (Array.getElem?_eq_some_iff.1 hl0).1
      have hl := (hf0.block _ hlt0 (fun h => by have := hT _ h; omega)).trans hl0
      have hk := (hf0.block _ (by omega : w.heap.size < W0.heap.size) (fun h => by have := hT _ h; omega)).trans hk0
      have hlt : w.heap.size + 1 < W.heap.size := (Array.getElem?_eq_some_iff.1 hl).1
      have hy := run_yield (P := P) (args := vs) hl (by rw [hrec]; exact hps _ _ _ _ _ hYs)
      rw [hrec] at hy
      refine ⟨fn, _, assign, body, hy, roundIn_of_wpIn hfn (hassign _ _ _ vs _ W _ hYs hlt (fun aA WA hA hbA => ⟨_, run_beginRound ((hbA.block _ hlt).trans hl) (by rw [hrec]), ?_⟩))⟩
      have hlA := (hbA.block _ hlt).trans hl
      have hkA := (hbA.block _ (by omega : w.heap.size < W.heap.size)).trans hk
      have hltA : w.heap.size + 1 < WA.heap.size := Nat.lt_of_lt_of_le hlt hbA.size
      have hl2 : (WA.putObj (w.heap.size + 1) (.loop { rec .ready none with state := .busy })).heap[w.heap.size + 1]? = some (.loop { rec .ready none with state := .busy }) := World.putObj_heap_same hltA
      have hk2 : (WA.putObj (w.heap.size + 1) (.loop { rec .ready none with state := .busy })).heap[w.heap.size]? = some (.deferred (some [])) := (World.putObj_heap_other (by omega)).trans hkA
      have hfb : ∀ (X : World) (o : Obj), Fr (fun b => b = w.heap.size + 1) X (X.putObj (w.heap.size + 1) o) := fun X o => Fr.putObj X _ o rfl
      refine wpIn_mono (hbody s s' vs aA W0 _ hlt0 hi ((hf0.mono (fun k _ h => .inl h)).trans ((Fr.ofBelowAll hbA (Nat.le_refl _)).trans ((hfb _ _).mono (fun k _ h => .inr h)))) (hY _ _ _ _ _ _ hYs hlt0 ((Fr.ofBelowAll hbA (Nat.le_refl _)).trans (hfb _ _))) (hIt _ _ _ hIt1 ((Fr.ofBelowAll hbA (Nat.le_refl _)).trans (hfb _ _))) (hAS _ _ _ _ hA (hfb _ _))) ?_
      have fin : ∀ (jump : Option Code) (W3 : World), Rec w.heap.size (WA.putObj (w.heap.size + 1) (.loop { rec .ready none with state := .busy })) W3 →
          (Instr.endRound (w.heap.size + 1) jump).run P W3 = .ok (.bool jump.isNone) (W3.putObj (w.heap.size + 1) (.loop (rec (if jump.isNone then .ready else .done) jump))) ∧
          (W3.putObj (w.heap.size + 1) (.loop (rec (if jump.isNone then .ready else .done) jump))).heap[w.heap.size + 1]? = some (.loop (rec (if jump.isNone then .ready else .done) jump)) ∧
          (W3.putObj (w.heap.size + 1) (.loop (rec (if jump.isNone then .ready else .done) jump))).heap[w.heap.size]? = some (.deferred (some [])) := fun jump W3 hk3 => by
        have hl3 := hk3.2.2.trans hl2
        have := run_endRound (P := P) jump hl3
        rw [hrec] at this ⊢
        exact ⟨this, World.putObj_heap_same (Array.getElem?_eq_some_iff.1 hl3).1, (World.putObj_heap_other (by omega)).trans (hk3.2.1.trans hk2)⟩
      rintro e a3 W3 hp
      cases e with
      | normal =>
        obtain ⟨hk3, hi3, hit3⟩ := hp
        obtain ⟨hr, hl4, hk4⟩ := fin none W3 hk3
        exact ⟨_, _, hr, .inl ⟨rfl, ⟨hI _ _ _ hi3 ((hfb _ _).mono (fun k _ h => .inr h)), hl4, hk4⟩, hIt _ _ _ hit3 (hfb _ _), by have := hk3.1; have h2 := hbA.size; simp at this ⊢; omega⟩⟩
      | ret =>
        obtain ⟨hk3, hi3⟩ := hp
        obtain ⟨hr, hl4, hk4⟩ := fin (some .ret) W3 hk3
        exact ⟨_, _, hr, .inr ⟨rfl, .ret, hIx _ _ _ _ hi3 (hfb _ _), hl4, hk4⟩⟩
      | exit id =>
        obtain ⟨hk3, hi3⟩ := hp
        obtain ⟨hr, hl4, hk4⟩ := fin (some (.exit id)) W3 hk3
        exact ⟨_, _, hr, .inr ⟨rfl, .exit id, hIx _ _ _ _ hi3 (hfb _ _), hl4, hk4⟩⟩
      | goto t =>
        obtain ⟨hk3, hi3⟩ := hp
        obtain ⟨hr, hl4, hk4⟩ := fin (some (.goto t)) W3 hk3
        exact ⟨_, _, hr, .inr ⟨rfl, .goto t, hIx _ _ _ _ hi3 (hfb _ _), hl4, hk4⟩⟩
      | panic ch => exact hp.elim
      | outgrown => exact hp.elim
    · -- behind the iterator
      have hfb : ∀ (X : World) (o : Obj), Fr (fun b => b = w.heap.size + 1) X (X.putObj (w.heap.size + 1) o) := fun X o => Fr.putObj X _ o rfl
      rintro e W2 ⟨⟨v, rfl⟩, (⟨s, hS, hi, hl, hk⟩ | ⟨s, c, hi, hl, hk⟩)⟩
      · exact ⟨none, _, by have := run_endLoop (P := P) hl (by rw [hrec]; simp); rw [hrec] at this; exact this, hdone s _ (hE _ _ _ hS (hfb _ _)) (hI _ _ _ hi ((hfb _ _).mono (fun k _ h => .inr h))) ((World.putObj_heap_other (by omega)).trans hk)⟩
      · exact ⟨some c, _, by have := run_endLoop (P := P) hl (by rw [hrec]; simp); rw [hrec] at this; exact this, hstop c s _ (hIx _ _ _ _ hi (hfb _ _)) ((World.putObj_heap_other (by omega)).trans hk)⟩
end Go.Proofs.YtmenchnjajpkmaaGreat.Iter
end

section
namespace Go.Proofs.YtmenchnjajpkmaaGreat.WtIt
open Go Go.RowKit Mem Codec CodecW CodecR Iter Arr Ops Wr
set_option linter.unusedVariables false

set_option maxRecDepth 100000 in
theorem elemK : ElemT Tryz.prog 42 134 (.agg (List.replicate 32 (.int .u8 0)).toArray) 32 32 :=
  ⟨Tryz.underlying42, ⟨_, rfl, by kernel_rfl, by kernel_rfl, by kernel_rfl⟩, by simp [Value.cells], by decide⟩
theorem dig_rest (r : Rd) : (Rd.dig r).1.rest.length ≤ r.rest.length := by
  unfold Rd.dig Rd.raw
  dsimp only
  rw [if_neg (by omega)]
  exact (Rd.take_len r _).1
set_option maxHeartbeats 4000000 in
set_option maxRecDepth 100000 in
theorem thing_calls (D : Nat → Prop) (w : World) (q d1 d2 : Nat) (r : Rd) (H : ReaderIs D w q r) (hl : r.rest.length ≤ 140737488355328) (c4 : w.cell? ⟨d1, 0, none⟩ = some (.func (.func 80) #[] #[])) (c5 : w.cell? ⟨d2, 0, none⟩ = some (.pointer (some ⟨q, 0, none⟩))) :
    Calls Tryz.prog 112 #[.pointer (some ⟨q, 0, none⟩), .pointer (some ⟨d1, 0, none⟩), .pointer (some ⟨d2, 0, none⟩)] w fun e w' => e = .returned (.agg ((Rd.dig r).2.map byt).toArray) ∧ (Rd.dig r).2.length = 32 ∧ ReaderIs D w' q (Rd.dig r).1 ∧ Fr (fun k => k = q) w w' := by
  have hql := H.lt
  have H1 := Lib.hid (rd_under H)
  obtain ⟨d, hd⟩ : ∃ d, (Rd.dig r).2 = d := ⟨_, rfl⟩
  have HDL := Lib.hid (show d.length = 32 from hd ▸ Rd.dig_len r)
  have HD := Lib.hid hd
  rw [hd]
  clear H hd
  go_enter Tryz.func112, Tryz.ntmps112
  go_upto_region 1 with (first
    | ((with_reducible refine wpList_alloc rfl _ rfl _ (Wt.zeroK _) (fun wa ka ca za => ?_)); have KA := Lib.hid ka; have CA := Lib.hid ca; clear ka ca))
  have c4 := (CA.out.cell (World.block_lt_of_cell? _ _ c4)).trans c4
  have c5 := (CA.out.cell (World.block_lt_of_cell? _ _ c5)).trans c5
  have HR5 := Lib.hid (show wa.rangeAt d2 0 [.pointer (some ⟨q, 0, none⟩)] from fun j v hv => by
    match j, hv with
    | 0, hv => cases hv; exact c5)
  have H2 := Lib.hid (H1.out.below CA.out)
  have B2 := Lib.hid CA.out
  have hg2 : w.heap.size < wa.heap.size := by omega
  clear H1 CA c5
  go_wp2_with (first | (with_reducible refine wpList_load_mid rfl _ _ rfl d2 0 rfl [.pointer (some ⟨q, 0, none⟩)] _ HR5.out Tryz.underlying68 rfl (by kernel_rfl) ?_))
  refine (key_calls _ wa q r H2.out hl).mono ?_
  rintro e wb ⟨rfl, o1, o2⟩
  rw [HD.out]
  have O1 := Lib.hid o1
  have K1 := Lib.hid (KA.out.fr o2 (by omega))
  have FF := Lib.hid ((Fr.ofBelowAll B2.out (Nat.le_refl _) : Fr (fun k => k = q) w wa).trans o2)
  have SZ := Lib.hid (Wt.szK HDL.out)
  clear o1 o2 H2 B2 KA c4
  go_wp2_with (first
    | ((with_reducible refine wpList_put rfl _ _ _ rfl w.heap.size (d.map byt) _ rfl rfl K1.out SZ.out (by simp [HDL.out]) (Wt.oneK _) (fun we ke fe ze => ?_)); have KE := Lib.hid ke; have FE := Lib.hid fe; clear ke fe))
  exact bodyPost_ret (v := .agg (d.map byt).toArray) (results_row1 Tryz.results112 _ _ w.heap.size _ _ rfl KE.out Tryz.underlying134 rfl SZ.out) rfl ⟨rfl, HDL.out, rd_back (O1.out.fr FE.out (by omega) (fun k _ h (e : k = w.heap.size) => by have := h.1; omega)) hql, FF.out.trans' FE.out (fun i hi (e : i = w.heap.size) => by omega)⟩
set_option maxHeartbeats 4000000 in
set_option maxRecDepth 100000 in
theorem items_calls (w : World) (q : Nat) (most : Int) (fo d1 d2 : Nat) :
    Calls Tryz.prog 124 #[.pointer (some ⟨q, 0, none⟩), .int .i64 most, .func (.func fo) #[] #[.pointer (some ⟨d1, 0, none⟩), .pointer (some ⟨d2, 0, none⟩)]] w fun e w' => e = .returned (.func (.func 130) #[] #[.pointer (some ⟨w.heap.size, 0, none⟩), .pointer (some ⟨w.heap.size + 1, 0, none⟩), .pointer (some ⟨w.heap.size + 2, 0, none⟩)]) ∧
      Below w.heap.size w w' ∧ w'.cell? ⟨w.heap.size, 0, none⟩ = some (.pointer (some ⟨q, 0, none⟩)) ∧ w'.cell? ⟨w.heap.size + 1, 0, none⟩ = some (.int .i64 most) ∧ w'.cell? ⟨w.heap.size + 2, 0, none⟩ = some (.func (.func fo) #[] #[.pointer (some ⟨d1, 0, none⟩), .pointer (some ⟨d2, 0, none⟩)]) := by
  go_enter Tryz.func124, Tryz.ntmps124
  go_wp2
  go_ret
  have a1 := (Blk.new w #[.pointer (some ⟨q, 0, none⟩)] 66 _ rfl)
  have a2 := (Blk.new (w.alloc (.cells #[.pointer (some ⟨q, 0, none⟩)] 66)) #[.int .i64 most] 3 _ rfl)
  have a3 := (Blk.new ((w.alloc (.cells #[.pointer (some ⟨q, 0, none⟩)] 66)).alloc (.cells #[.int .i64 most] 3)) #[.func (.func fo) #[] #[.pointer (some ⟨d1, 0, none⟩), .pointer (some ⟨d2, 0, none⟩)]] 163 _ rfl)
  rw [World.size_alloc] at a2
  rw [World.size_alloc, World.size_alloc] at a3
  exact ⟨rfl, (((Below.refl _ _).alloc (Nat.le_refl _) _).alloc (by simp) _).alloc (by simp; omega) _, ((a1.alloc _).alloc _).cell (i := 0) rfl, (a2.alloc _).cell (i := 0) rfl, a3.cell (i := 0) rfl⟩
theorem two_vals {vs : Array Value} (h : vs.size = 2) : ∃ a b, vs = #[a, b] := ⟨vs[0], vs[1], by
  apply Array.ext
  · simp [h]
  · intro i h1 h2
    simp only [List.size_toArray, List.length_cons, List.length_nil] at h2
    match i, h2 with
    | 0, _ => rfl
    | 1, _ => rfl⟩
/-- all, or none -/
def lst {α : Type} (p : List α × Rd) : List α := if p.2.e ≠ 0 then [] else p.1
theorem lst_len {α : Type} (one : Rd → Rd × α) : ∀ (n : Nat) (r : Rd), (items one n r).1.length ≤ n
  | 0, r => by simp [items]
  | n + 1, r => by
    unfold items
    split
    · simp
    · have := lst_len one n (one r).1
      simp only [List.length_cons]
      omega
def digs (l : List (List UInt8)) : List (List Value) := l.map (·.map byt)
theorem digs_snoc (l : List (List UInt8)) (x : List UInt8) : digs (l ++ [x]) = digs l ++ [x.map byt] := by simp [digs]
theorem digs_len (l : List (List UInt8)) : (digs l).length = l.length := by simp [digs]
/-- what List keeps from round to round -/
def LI (w : World) (q N : Nat) (s : List (List UInt8) × Rd) (A : World) : Prop :=
  ∃ v, Blk A w.heap.size [v] 42 ∧ OwnA 32 N 134 A v (digs s.1) ∧ Fr (fun k => k = q) w A
attribute [local go_sem] Oper.semAt_some
theorem byts_inj : ∀ {d e : List UInt8}, d.map byt = e.map byt → d = e
  | [], [], _ => rfl
  | [], _ :: _, h => by cases h
  | _ :: _, [], h => by cases h
  | x :: d, y :: e, h => by
    simp only [List.map_cons, List.cons.injEq, Value.int.injEq, true_and] at h
    rw [byts_inj h.2, show x = y from UInt8.toNat_inj.1 (by omega)]
theorem arr1 {w : World} {g : Nat} {l : List Value} {e : TypeId} {k : Nat} (h : Blk w g l e) (hl : l.length = k) : Arr k Any w (.slice (some ⟨g, 0, none⟩) 1 1) [l] :=
  ⟨some ⟨g, 0, none⟩, 1, rfl, ⟨by simp, by unfold maxLen; omega, by simp⟩, by simpa using hl, .inr ⟨g, 0, rfl, trivial, fun i hi => by
    obtain rfl : i = 0 := by simpa using hi
    simpa using blk_range h⟩⟩
set_option maxHeartbeats 8000000 in
set_option maxRecDepth 100000 in
theorem list_calls (D : Nat → Prop) (w : World) (q d1 d2 : Nat) (r0 : Rd) (most : Int) (h1 : -9223372036854775808 ≤ most) (h2 : most ≤ 65536) (H : ReaderIs D w q r0) (hl : r0.rest.length ≤ 140737488355328)
    (he1 : w.cell? ⟨d1, 0, none⟩ = some (.func (.func 80) #[] #[])) (he2 : w.cell? ⟨d2, 0, none⟩ = some (.pointer (some ⟨q, 0, none⟩))) (hn4 : d1 ≠ q) (hn5 : d2 ≠ q) (hroom : (r0.room most).2 ≤ 65536) :
    Calls Tryz.prog 111 #[.pointer (some ⟨q, 0, none⟩), .int .i64 most, (.func (.func 112) #[] #[.pointer (some ⟨d1, 0, none⟩), .pointer (some ⟨d2, 0, none⟩)])] w fun e w' => ∃ v, e = .returned v ∧
      OwnA 32 w.heap.size 134 w' v (digs (lst (items Rd.dig (r0.room most).2 (r0.room most).1))) ∧ ReaderIs D w' q (items Rd.dig (r0.room most).2 (r0.room most).1).2 ∧ Fr (fun k => k = q) w w' := by
  have hql := H.lt
  have hdl1 := World.block_lt_of_cell? _ _ he1
  have hdl2 := World.block_lt_of_cell? _ _ he2
  dsimp only at hdl1 hdl2
  have HR := Lib.hid H
  clear H
  refine (callsIn_wide (n := 0)).1 (callsIn_of_wp_marks Tryz.func111 rfl trivial ?_ rfl)
  simp only [Tryz.ntmps111, List.size_toArray, List.length_cons, List.length_nil, Nat.reduceAdd, Nat.reduceSub, Array.replicate_succ, Array.replicate_zero, List.push_toArray, List.append_toArray, List.nil_append, List.cons_append]
  gi_wp2
  refine ⟨trivial, rfl, (callsIn_wide.2 (items_calls _ q most 112 d1 d2)).mono ?_⟩
  rintro e w2 ⟨rfl, g1, c1, c2, c3⟩
  rw [World.size_alloc] at c1 c2 c3
  have hs2 := World.block_lt_of_cell? _ _ c3
  dsimp only at hs2
  have HG := Lib.hid g1
  have hb0 : Below w.heap.size w w2 := ((Below.refl _ w).alloc (Nat.le_refl _) _).trans (g1.mono (by simp))
  have c4 := (hb0.cell hdl1).trans he1
  have c5 := (hb0.cell hdl2).trans he2
  have hbk : Blk w2 w.heap.size [.slice none 0 0] 42 := (Blk.new w #[.slice none 0 0] 42 [.slice none 0 0] rfl).below g1
  have HR2 := Lib.hid ((rd_under HR.out).below hb0)
  have hI0 : LI w q (w2.heap.size + 2) ([], (r0.room most).1) w2 := ⟨_, hbk, OwnA.nil _ _ _ _, Fr.ofBelowAll hb0 (Nat.le_refl _)⟩
  have HI0 := Lib.hid hI0
  clear g1 hb0 hbk hI0
  gi_wp2
  refine rangeSeq2 rfl (enters_of Tryz.func130 (by kernel_rfl) rfl)
    (items_seq Rd.dig 112 _ (enters_of Tryz.func112 (by kernel_rfl) rfl) (fun k => k < w.heap.size ∧ D k) w2 q (w.heap.size + 1) (w.heap.size + 1 + 1) (w.heap.size + 1 + 2) d1 d2 r0 most h1 (by omega) HR2.out c1 c2 c3 c4 c5 hn4 hn5 (by omega) (by omega) (by omega) 140737488355328 hl dig_rest
      (fun A r hr hrl a4 a5 => thing_calls _ A q d1 d2 r hr hrl a4 a5))
    (fun k hk => by omega)
    (fun s A B h hf => ⟨h.1.fr hf (by omega) (fun k hk hd e => by have := hd.1; omega), hf.cell h.2.1 (by show w.heap.size + 1 ≠ _; omega), hf.cell h.2.2.1 (by show w.heap.size + 1 + 1 ≠ _; omega), hf.cell h.2.2.2.1 (by show w.heap.size + 1 + 2 ≠ _; omega), hf.cell h.2.2.2.2.1 (by show d1 ≠ _; omega), hf.cell h.2.2.2.2.2 (by show d2 ≠ _; omega)⟩)
    (fun s s' vs A0 A B h hA hf => h)
    (fun s A B h hf => by obtain ⟨r2, h3, h4⟩ := h; exact ⟨r2, h3, h4.fr hf (by omega) (fun k hk hd e => by have := hd.1; omega)⟩) (fun s s' vs A0 A h => by obtain ⟨v, _, _, _, _, rfl, _⟩ := h; rfl)
    (LI w q (w2.heap.size + 2)) (fun _ _ _ => False)
    (fun s A B h hf => by obtain ⟨v, h3, h4, h5⟩ := h; exact ⟨v, h3.fr hf (by omega), h4.fr hf (fun k hk h => by have := (h4.lt k hk).1; omega), h5.trans' hf (fun k hk h => by omega)⟩) (fun _ _ _ _ h _ => h) HI0.out
    (fun vs a A => ∃ (x : List UInt8) (g : Nat), vs.getD 1 undef = .agg (x.map byt).toArray ∧ x.length = 32 ∧ Blk A g (x.map byt) 134 ∧ w2.heap.size + 2 ≤ g ∧ a = { tmps := #[.pointer (some ⟨q, 0, none⟩), .int .i64 most, (.func (.func 112) #[] #[.pointer (some ⟨d1, 0, none⟩), .pointer (some ⟨d2, 0, none⟩)]), undef, undef, undef, .slice none 0 0, .pointer (some ⟨w.heap.size, 0, none⟩), undef, .pointer (some ⟨g, 0, none⟩), .pointer (some ⟨q, 0, none⟩), .int .i64 most, (.func (.func 112) #[] #[.pointer (some ⟨d1, 0, none⟩), .pointer (some ⟨d2, 0, none⟩)]),
      .func (.func 130) #[] #[.pointer (some ⟨w.heap.size + 1, 0, none⟩), .pointer (some ⟨w.heap.size + 1 + 1, 0, none⟩), .pointer (some ⟨w.heap.size + 1 + 2, 0, none⟩)], vs.getD 0 undef, vs.getD 1 undef, undef, undef, undef, undef, undef, undef, undef, undef, undef, undef], defers := [] })
    (fun vs a A B h hf => by obtain ⟨x, g, e1, e2, e3, e4, e5⟩ := h; exact ⟨x, g, e1, e2, e3.fr hf (by show ¬ g = _; omega), e4, e5⟩) ?assign ?body ?done ?stop
  case assign =>
    rintro l s s' vs W0 W K ⟨v, _, _, _, _, rfl, hv⟩ hlt hK
    obtain ⟨rfl, hx⟩ := hv
    obtain ⟨x, hxe⟩ : ∃ x, (Rd.dig s.2).2 = x := ⟨_, rfl⟩
    rw [hxe] at hx hK ⊢
    have HX := Lib.hid hx
    clear hx hxe
    generalize hact : (Act.mk _ []) = act0
    have hlit : act0 = { tmps := #[.pointer (some ⟨q, 0, none⟩), .int .i64 most, (.func (.func 112) #[] #[.pointer (some ⟨d1, 0, none⟩), .pointer (some ⟨d2, 0, none⟩)]), undef, undef, undef, .slice none 0 0, .pointer (some ⟨w.heap.size, 0, none⟩), undef, undef, .pointer (some ⟨q, 0, none⟩), .int .i64 most, (.func (.func 112) #[] #[.pointer (some ⟨d1, 0, none⟩), .pointer (some ⟨d2, 0, none⟩)]),
      .func (.func 130) #[] #[.pointer (some ⟨w.heap.size + 1, 0, none⟩), .pointer (some ⟨w.heap.size + 1 + 1, 0, none⟩), .pointer (some ⟨w.heap.size + 1 + 2, 0, none⟩)], .int .i64 (s.1.length : Int), .agg (x.map byt).toArray, undef, undef, undef, undef, undef, undef, undef, undef, undef, undef], defers := [] } := by rw [← hact]; simp
    subst hlit
    clear hact
    gi_wp2_with (first
      | ((with_reducible refine wpListIn_alloc rfl _ rfl _ (Wt.zeroK _) (fun wa ka ca za => ?_)); have KA := Lib.hid ka; have CA := Lib.hid ca; clear ka ca)
      | ((with_reducible refine wpListIn_put rfl _ _ _ rfl W.heap.size (x.map byt) _ rfl rfl KA.out (Wt.szK HX.out) (by simp [HX.out]) (Wt.oneK _) (fun wb kb fb zb => ?_)); have KB := Lib.hid kb; have CB := Lib.hid (CA.out.trans (fb.below CA.out.size (fun k (hk : k = _) => by omega))); clear kb fb))
    exact hK _ _ ⟨x, W.heap.size, rfl, HX.out, KB.out, by omega, rfl⟩ CB.out
  case body =>
    rintro ⟨pre, r⟩ s' vs a A0 A hlt ⟨v, hb, ht, hf⟩ hfr ⟨vv, hlen, hat, rfl, he, rfl, hv, hx⟩ hit ⟨x', g, e1, e2, e3, e4, rfl⟩
    dsimp only at hlen hat he hv hx hit ht ⊢
    obtain ⟨x, hxe⟩ : ∃ x, (Rd.dig r).2 = x := ⟨_, rfl⟩
    rw [hxe] at hv hx ⊢
    have exx : x' = x := byts_inj (by subst hv; simpa using e1.symm)
    subst exx
    clear e1 hv
    obtain ⟨va, vc, hve, hc1, hc2, _⟩ := ht.form
    rw [digs_len] at hve hc1
    subst hve
    have hpl : pre.length ≤ 65536 := by omega
    have hsA := hfr.size
    have o1A := ht.fr hfr (fun k hk e => by have := (ht.lt k hk).1; omega)
    have hlb : ∀ k, (Value.slice va pre.length vc).ownBlock = some k → w2.heap.size + 2 ≤ k := fun k hk => (o1A.lt k hk).1
    have hbA := hb.fr hfr (by omega)
    have hfA : Fr (fun k => k = q) w A := hf.trans' hfr (fun k hk h => by omega)
    have cl := hbA.cell (i := 0) rfl
    have HX := Lib.hid hx
    have HO1 := Lib.hid o1A
    have HIT := Lib.hid hit
    have HFA := Lib.hid hfA
    have HLB := Lib.hid hlb
    have E3 := Lib.hid e3
    have HBA := Lib.hid hbA
    clear hit hfA hf hfr hb hlb o1A ht e3 hx hbA
    gi_wp2_with (first
      | (with_reducible refine wpListIn_load_blk rfl _ _ rfl g (x'.map byt) rfl E3.out _ Tryz.underlying134 rfl (Wt.szK HX.out) ?_)
      | ((with_reducible refine wpListIn_buildSlice1 rfl elemK _ rfl (x'.map byt) rfl (by rw [List.length_map]; exact HX.out) (by omega) (fun wb kb bb zb => ?_)); have KB := Lib.hid kb; have BB := Lib.hid bb; have HO2 := Lib.hid (HO1.out.below bb); have hb1 := HBA.out.below bb; clear kb bb)
      | (gi_at_builtin; refine wpListIn_append_arr rfl (.tmp 16) (.tmp 18) 42 rfl (w2.heap.size + 2) 134 elemK _ (digs pre) rfl HO2.out _ [x'.map byt] rfl (arr1 KB.out (by rw [List.length_map]; exact HX.out)) (fun y hy u hu => by rw [List.mem_singleton.1 hy] at hu; exact Wt.oneK _ u hu) (by rw [digs_len, List.length_singleton]; unfold maxLen; omega) (by rw [digs_len, List.length_singleton]; omega) (by omega) (pre.length + 1) (by rw [digs_len, List.length_singleton]) ?_; intro a' cap' w3 q1 q2 q3; have hk3 := hb1.fr (Fr.ofGrown q2) (fun e => by have := HLB.out _ e; omega); have cc := hk3.cell (i := 0) rfl; have ff := hk3.free 0))
    have q2' : Fr (fun k => (Value.slice va pre.length vc).ownBlock = some k) A w3 := (Fr.ofBelowAll BB.out (Nat.le_refl _)).trans (Fr.ofGrown q2)
    have hF : Fr (fun k => (Value.slice va pre.length vc).ownBlock = some k ∨ k = w.heap.size) A (w3.setCell ⟨w.heap.size, 0, none⟩ (.slice a' (pre.length + 1) cap')) := (q2'.mono (fun k _ h => .inl h)).setCell (.inr (.inr rfl)) _
    have hll := HLB.out
    have hI := HIT.out
    have hst : ∀ k, ((Value.slice va pre.length vc).ownBlock = some k ∨ k = w.heap.size) → w2.heap.size + 2 ≤ k ∨ k = w.heap.size := fun k h => h.imp_left (hll k)
    refine ⟨Rec.fr hF (by omega) (fun h => by have := hst _ h; omega) (fun h => by have := hst _ h; omega), ⟨_, hk3.set 0 _, by rw [digs_snoc]; exact q1.fr ((Fr.refl (fun k => k = w.heap.size) _).setCell (.inr rfl) _) (fun k hk h => by have := (q1.lt k hk).1; omega), HFA.out.trans' hF (fun k hk h => by have := hst _ h; omega)⟩, ?_⟩
    exact ⟨hI.1.fr hF (fun h => by have := hst _ h; omega) (fun k hk hd h => by have := hst _ h; have := hd.1; omega), hF.cell hI.2.1 (fun h => by have := hst _ h; dsimp only at this; omega), hF.cell hI.2.2.1 (fun h => by have := hst _ h; dsimp only at this; omega), hF.cell hI.2.2.2.1 (fun h => by have := hst _ h; dsimp only at this; omega), hF.cell hI.2.2.2.2.1 (fun h => by have := hst _ h; dsimp only at this; omega), hF.cell hI.2.2.2.2.2 (fun h => by have := hst _ h; dsimp only at this; omega)⟩
  case done =>
    rintro ⟨pre, r⟩ W ⟨r2, e1, e2⟩ ⟨v, hb, ht, hf⟩ hk
    dsimp only at e1 e2 ht ⊢
    have cv := hb.cell (i := 0) rfl
    obtain ⟨xa, xc, x1, x2, x3⟩ := id e2
    have d1' := x1.cell (i := 1) rfl
    have E1 := Lib.hid e1
    have E2 := Lib.hid e2
    have HT := Lib.hid ht
    have HF := Lib.hid hf
    have HK := Lib.hid hk
    clear e1 e2 ht hf hk x1 x2 x3
    by_cases he : r2.e = 0
    · rw [he] at d1'
      gi_wp2
      refine ⟨by simp, .inl ⟨_, _, rfl, run_takeDeferred HK.out, ?_⟩⟩
      exact ⟨_, results_tmp rfl _ _ _, _, rfl, by rw [lst, E1.out, if_neg (by simpa using he)]; exact (HT.out.fr (Fr.putObj W _ _ rfl) (fun k h e => by have := (HT.out.lt k h).1; omega)).mono (by omega), by rw [E1.out]; exact rd_back (E2.out.fr (Fr.putObj W _ _ rfl) (by omega) (fun k _ h e => by have := h.1; omega)) hql, HF.out.trans' (Fr.putObj W _ _ rfl) (fun k hk e => by omega)⟩
    · have he2 : (r2.e != 0) = true := by simpa using he
      gi_wp2
      refine ⟨by simp, .inl ⟨_, _, rfl, run_takeDeferred HK.out, ?_⟩⟩
      exact ⟨_, results_tmp rfl _ _ _, _, rfl, by rw [lst, E1.out, if_pos (by simpa using he)]; exact OwnA.nil _ _ _ _, by rw [E1.out]; exact rd_back (E2.out.fr (Fr.putObj W _ _ rfl) (by omega) (fun k _ h e => by have := h.1; omega)) hql, HF.out.trans' (Fr.putObj W _ _ rfl) (fun k hk e => by omega)⟩
  case stop =>
    intro c s W h
    exact h.elim
end Go.Proofs.YtmenchnjajpkmaaGreat.WtIt
end
