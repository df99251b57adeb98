/- What a thing's bytes are read as, on either side. Plain. No condition. Walks of the reference's W: must, small, many, params, done; the reference's Params. Condition: the bytes together are at most 2^47. Words for the wire's writers of things that read as plain data. No condition. One reading behind the other. Plain. No condition. Walks of the wire's writer at a transaction of the main chain. Condition: the bytes are at most 2^47. The walk of the wire's reader at an output of the main chain. Condition: the bytes are at most 2^47. Walks of the codec's List at outputs of the main chain, and of things. Condition: the bytes are at most 2^47; at most 65536 things. The walks of the wire's reader at a transaction of the main chain, and of ReadMainTx. Condition: the bytes are at most 2^47. What was written of a transaction of the main chain is read as it was: plain. No condition. A chain of headers, each lying on the one ahead: what a track of it is, its best, how deep each lies. Plain; no condition. -/
import Derived.Test.YtmenchnjajpkmaaGreatDoorPrvg
import Derived.Test.YtmenchnjajpkmaaGreatDoorPrvf
import Derived.Test.YtmenchnjajpkmaaGreatDoorPrvb
import Derived.Test.YtmenchnjajpkmaaGreatDoorPrve
section
namespace Go.Proofs.YtmenchnjajpkmaaGreatDoor.Rr
open Go Go.RowKit Mem Codec Ops Reps WtIt Arr
set_option linter.unusedVariables false

/-- the thing that bytes are, and the error -/
def got {α : Type} (rd : Rd → Rd × α) (x0 : α) (l : List UInt8) : α × Int := if (rd ⟨l, 0⟩).1.fin = 0 then ((rd ⟨l, 0⟩).2, 0) else (x0, 120)
/-- it is told so -/
def GotT {α : Type} (R : (Nat → Prop) → World → List Value → α → Prop) (w : World) (g : α × Int) (e : Ending) (w' : World) : Prop :=
  ∃ cs : List Value, e = .returned (.tuple #[.agg cs.toArray, .int .i64 g.2]) ∧ R (fun b => w.heap.size ≤ b) w' cs g.1 ∧ Below w.heap.size w w'
theorem fin_ok {r : Rd} (h : r.fin = 0) : r.e = 0 := by
  unfold Rd.fin at h
  split at h
  · omega
  · exact h
theorem got_yes {α : Type} {rd : Rd → Rd × α} {x0 : α} {l : List UInt8} (h : (rd ⟨l, 0⟩).1.fin = 0) : got rd x0 l = ((rd ⟨l, 0⟩).2, 0) := if_pos h
theorem got_no {α : Type} {rd : Rd → Rd × α} {x0 : α} {l : List UInt8} (h : ¬ (rd ⟨l, 0⟩).1.fin = 0) : got rd x0 l = (x0, 120) := if_neg h
end Go.Proofs.YtmenchnjajpkmaaGreatDoor.Rr
end

section
namespace Go.Proofs.YtmenchnjajpkmaaGreatDoor.Wt
open Go Go.RowKit Mem Codec CodecW Ww Arr Ops Rw RfW CodecN
set_option linter.unusedVariables false

section
variable {S : Nat → Prop} {w0 w w' : World} {q : Nat} {m m' : List UInt8} {bad bad' : Bool}
theorem RAt.must (H : RAt S w0 w q m bad) : RAt S w0 (w.setCell ⟨q, 1, none⟩ (.bool true)) q m true ∧ w.cell? ⟨q, 1, none⟩ = some (.bool bad) ∧ w.frozen? ⟨q, 1, none⟩ = false := by
  obtain ⟨⟨h1, v, h2, h3, h6⟩, h4, h5⟩ := H
  have hsz : (w.setCell ⟨q, 1, none⟩ (.bool true)).heap.size = w.heap.size := by simp [World.setCell]
  have hpl : ∀ k, Plus S w0 w k → Plus S w0 (w.setCell ⟨q, 1, none⟩ (.bool true)) k := fun k h => by
    rcases h with h | h
    · exact .inl h
    · exact .inr ⟨h.1, by rw [hsz]; exact h.2⟩
  have hf : Fr (fun k => k = q) w (w.setCell ⟨q, 1, none⟩ (.bool true)) := Fr.setCell (S := fun k => k = q) (p := ⟨q, 1, none⟩) (Fr.refl _ w) (.inr rfl) _
  refine ⟨⟨⟨hpl q h1, v, by simpa using h2.set 1 (.bool true), h3.fr hf (fun k hk => (h6 k hk).2), fun k hk => ⟨hpl k (h6 k hk).1, (h6 k hk).2⟩⟩, h4.trans' hf (fun i hi h => ?_), h5⟩, h2.cell rfl, h2.free 1⟩
  · have h : i = q := h
    subst h
    rcases h1 with h1 | h1
    · exact h1
    · omega
end
set_option maxHeartbeats 4000000 in
theorem rmust_calls (S : Nat → Prop) (w0 w : World) (q : Nat) (m : List UInt8) (bad ok : Bool) (H : RAt S w0 w q m bad) :
    Calls Tryz.prog 82 #[.pointer (some ⟨q, 0, none⟩), .bool ok] w fun e w' => e = .returned (.tuple #[]) ∧ RAt S w0 w' q m (bad || !ok) := by
  obtain ⟨h1, c1, f1⟩ := RAt.must H
  have H1 := Lib.hid h1
  have H0 := Lib.hid H
  clear h1 H
  cases ok
  · go_enter Tryz.func82, Tryz.ntmps82
    go_wp2
    go_end0
    exact ⟨rfl, by rw [Bool.not_false, Bool.or_true]; exact H1.out⟩
  · go_enter Tryz.func82, Tryz.ntmps82
    go_wp2
    go_end0
    exact ⟨rfl, by rw [Bool.not_true, Bool.or_false]; exact H0.out⟩
theorem byt_one (w : World) (n : Int) (c : UInt8) (hn : n = (c.toNat : Int)) : Byt Any (w.alloc (.cells #[.int .u8 n] 5)) (.slice (some ⟨w.heap.size, 0, none⟩) 1 1) [c] := (own_one w n c hn).byt.mono (fun _ _ _ => trivial)
set_option maxHeartbeats 4000000 in
theorem many_calls (S : Nat → Prop) (w0 w : World) (q : Nat) (m : List UInt8) (bad : Bool) (n : Nat) (most : Int) (H : RAt S w0 w q m bad) (hn : n < 9223372036854775808) (hlen : m.length + 9 ≤ 140737488355328) :
    Calls Tryz.prog 58 #[.pointer (some ⟨q, 0, none⟩), .int .i64 (n : Int), .int .i64 most] w fun e w' => e = .returned (.tuple #[]) ∧ RAt S w0 w' q (m ++ var n) (bad || !decide ((n : Int) ≤ most)) := by
  have H1 := Lib.hid H
  have hvl := var_len9 n
  obtain ⟨ok, hok⟩ : ∃ ok, decide ((n : Int) ≤ most) = ok := ⟨_, rfl⟩
  rw [hok]
  clear H
  go_enter Tryz.func58, Tryz.ntmps58
  go_wp2_with fail
  try rw [hok]
  refine (rmust_calls S w0 w q m bad ok H1.out).mono ?_
  rintro e w1 ⟨rfl, g1⟩
  have G1 := Lib.hid g1
  clear g1
  go_wp2_with fail
  refine (ref_var_calls w1 n (by omega)).mono ?_
  rintro e w2 ⟨a, rfl, r1, r2⟩
  have G2 := Lib.hid (RAt.below G1.out r2)
  have R1 := Lib.hid r1
  clear r1 r2
  go_wp2_with fail
  refine (raw_to _ Any w0 _ q m _ _ (var n) G2.out (R1.out.byt.mono (fun _ _ _ => trivial)) (by omega)).mono ?_
  rintro e w3 ⟨rfl, r1⟩
  have GF := Lib.hid r1
  clear r1
  go_wp2
  go_end0
  exact ⟨rfl, GF.out⟩

set_option maxHeartbeats 4000000 in
theorem done_calls (S : Nat → Prop) (w : World) (q : Nat) (m : List UInt8) (bad : Bool) (H : RefIs S w q m bad) :
    Calls Tryz.prog 37 #[.pointer (some ⟨q, 0, none⟩)] w fun e w' => Told 0 m bad e w' ∧ w = w' := by
  obtain ⟨a, c, g2, g3, g4, _, _⟩ := H.opened
  have c0 := g2.cell (i := 0) rfl
  have c1 := g2.cell (i := 1) rfl
  have G3 := Lib.hid g3
  clear g2 g3 g4 H
  cases bad
  · go_enter Tryz.func37, Tryz.ntmps37
    go_wp2
    go_ret2
    exact ⟨⟨a, c, rfl, G3.out⟩, rfl⟩
  · go_enter Tryz.func37, Tryz.ntmps37
    go_wp2
    go_ret2
    exact ⟨⟨none, 0, rfl, OwnB.nil _ _ _⟩, rfl⟩
end Go.Proofs.YtmenchnjajpkmaaGreatDoor.Wt
end

section
namespace Go.Proofs.YtmenchnjajpkmaaGreatDoor.Wg
open Go Go.RowKit Mem Codec CodecW Ww Rw Arr Ops Wt Reps
set_option linter.unusedVariables false

theorem plus_dis {S D : Nat → Prop} {w0 w w1 wi : World} (h : ∀ b, b < w.heap.size → D b → ¬ Plus S w0 w b) (hz : w.heap.size ≤ w1.heap.size) : ∀ b, b < wi.heap.size → (b < w.heap.size ∧ D b) → ¬ Plus (Plus S w0 w) w1 wi b := fun b _ hb e => by
  rcases e with e | e
  · exact h b hb.1 hb.2 e
  · have := e.1; omega
theorem plus_dis1 {S D : Nat → Prop} {w0 w w1 wi : World} (h : ∀ b, b < w.heap.size → D b → ¬ Plus S w0 w b) (hz : w.heap.size ≤ w1.heap.size) : ∀ b, b < wi.heap.size → (b < w.heap.size ∧ D b) → ¬ Plus S w0 w b := fun b _ hb e => h b hb.1 hb.2 e
end Go.Proofs.YtmenchnjajpkmaaGreatDoor.Wg
end

section
namespace Go.Proofs.YtmenchnjajpkmaaGreatDoor.Rr
open Go Go.RowKit Mem Codec Ops Reps WtIt Arr
set_option linter.unusedVariables false

/-- one reading, and another one behind it -/
def seq {α β : Type} (f : Rd → Rd × α) (g : Rd → Rd × β) (r : Rd) : Rd × (α × β) := ((g (f r).1).1, (f r).2, (g (f r).1).2)
theorem seq_rest {α β : Type} {f : Rd → Rd × α} {g : Rd → Rd × β} (hf : ∀ r, (f r).1.rest.length ≤ r.rest.length) (hg : ∀ r, (g r).1.rest.length ≤ r.rest.length) (r : Rd) : (seq f g r).1.rest.length ≤ r.rest.length := Nat.le_trans (hg _) (hf _)
theorem num_rest (r : Rd) (n : Nat) : (r.num n).1.rest.length ≤ r.rest.length := (CodecR.Rd.take_len r n).1
theorem items_rest {α : Type} {one : Rd → Rd × α} (h : ∀ r, (one r).1.rest.length ≤ r.rest.length) : ∀ (n : Nat) (r : Rd), (items one n r).2.rest.length ≤ r.rest.length
  | 0, r => Nat.le_refl _
  | n + 1, r => by
    unfold items
    split
    · exact h r
    · exact Nat.le_trans (items_rest h n _) (h r)
theorem cells_one {v : Value} (h : v.oneCell' = true) : v.cells = #[v] := by cases v <;> first | rfl | cases h
end Go.Proofs.YtmenchnjajpkmaaGreatDoor.Rr
end

section
namespace Go.Proofs.YtmenchnjajpkmaaGreatDoor.Wm
open Go Go.RowKit Mem Codec CodecW Ww Rw Arr Ops Wt Reps Wg
set_option linter.unusedVariables false
set_option linter.unusedSimpArgs false

abbrev XMo := Nat × List UInt8
def RMo : (Nat → Prop) → World → List Value → XMo → Prop := (PairR RU64 (RDgs 32))
theorem rep_Mo : Rep 33 RMo := (rep_pair rep_u64 (rep_dgs 32 (by omega)))
def encMo (x : Nat × List UInt8) : List UInt8 := num x.1 8 ++ x.2
def badMo (_ : Nat × List UInt8) : Bool := false
theorem zeroMo (w : World) : (zeroValue 58).run Tryz.prog w = .ok (.agg (Value.int .u64 0 :: List.replicate 32 (Value.int .u8 0)).toArray) w := by kernel_rfl
theorem zeroMo_len : (Value.int .u64 0 :: List.replicate 32 (Value.int .u8 0)).length = 33 := rfl
set_option maxHeartbeats 8000000 in
set_option maxRecDepth 100000 in
theorem mainOut_calls (S D : Nat → Prop) (w0 w : World) (q : Nat) (m : List UInt8) (bad : Bool) (cs : List Value) (x : XMo) (hR : RMo D w cs x) (hD : ∀ b, b < w.heap.size → D b → ¬ Plus S w0 w b) (H : At S w0 w q m bad) (hlen : m.length + (encMo x).length + 9 ≤ 140737488355328) :
    Calls Tryz.prog 98 #[.pointer (some ⟨q, 0, none⟩), .agg cs.toArray] w fun e w' => e = .returned (.tuple #[]) ∧ At S w0 w' q (m ++ encMo x) (bad || badMo x) := by
  have hR1 := rep_Mo.lt hR
  obtain ⟨a0, b0, rfl, h0, h1⟩ := id hR1
  obtain ⟨k0, rfl⟩ := h0
  obtain ⟨k1, rfl⟩ := h1
  have KL1 := Lib.hid k1
  have HF0 := Lib.hid (fun (w' : World) (h : Blk w' w.heap.size ([Value.int .u64 (x.1 : Int)] ++ (x.2.map byt)) 58) => blk_one h ([]) (x.2.map byt) (Value.int .u64 (x.1 : Int)) (by simp) 0 (by simp [KL1.out]))
  have HF1 := Lib.hid (fun (w' : World) (h : Blk w' w.heap.size ([Value.int .u64 (x.1 : Int)] ++ (x.2.map byt)) 58) => blk_part h ([Value.int .u64 (x.1 : Int)]) (x.2.map byt) ([]) (by simp) 1 (by simp [KL1.out]))
  obtain ⟨ca, hca⟩ : ∃ ca, ([Value.int .u64 (x.1 : Int)] ++ (x.2.map byt)).toArray = ca := ⟨_, rfl⟩
  have HB := Lib.hid (show Blk (w.alloc (.cells ca 58)) w.heap.size ([Value.int .u64 (x.1 : Int)] ++ (x.2.map byt)) 58 from Blk.new w _ _ _ hca.symm)
  have HX := Lib.hid (fun w' m' b' => @At.box S w0 w w' q m bad (.cells ca 58) m' b' ([Value.int .u64 (x.1 : Int)] ++ (x.2.map byt)) 58 H)
  have H1 := Lib.hid (H.enter (.cells ca 58))
  have HL := Lib.hid (fun w' m' b' => @At.leave S w0 w w' q m bad (.cells ca 58) m' b' H)
  have HD := Lib.hid hD
  have hz : (w.alloc (.cells ca 58)).heap.size = w.heap.size + 1 := by simp
  simp only [encMo, List.length_append, num_length, List.length_cons, List.length_nil] at hlen
  rw [hca]
  clear H hR hR1 hca hD
  obtain ⟨T, hT⟩ : ∃ T, Plus S w0 w = T := ⟨_, rfl⟩
  rw [hT] at HL H1 HX HD
  clear hT
  go_enter Tryz.func98, Tryz.ntmps98
  go_upto_region 1 with fail
  have HB0 := Lib.hid (fun w' m' b' g => HX.out w' m' b' g HB.out)
  have B1 := Lib.hid HB.out
  clear HX HB
  generalize (w.alloc (.cells ca 58)) = w1 at *
  have HD2 := Lib.hid (show ∀ wi : World, ∀ b, b < wi.heap.size → (b < w.heap.size ∧ D b) → ¬ Plus T w1 wi b from fun wi b _ hb e => by
    rcases e with e | e
    · exact HD.out b hb.1 hb.2 e
    · have := e.1; omega)
  obtain ⟨p, h1, h2, h3⟩ := H1.out.drew.opened
  have HW := Lib.hid h2
  have HQ := Lib.hid h1
  have c0 := h1.cell (i := 0) rfl
  have cc : w1.cell? ⟨q, 0, none⟩ = some (.pointer (some ⟨p, 0, none⟩)) := c0
  have d0 := HF0.out _ B1.out
  clear h1 h2 h3
  go_wp2_with fail
  go_still_tail 6, (by kernel_rfl)
  change wpList _ _ _ _ _ w1.drew
  go_wp2_with fail
  refine (long_calls _ w1.drew p _ x.1 k0 HW.out (by (try simp only [List.length_append, num_length]); omega)).mono ?_
  rintro e w2 ⟨rfl, g1, g2⟩
  have g3 := H1.out.drew.shut HQ.out g1 g2
  have H2 := Lib.hid g3
  have B2 := Lib.hid (HB0.out _ _ _ H2.out)
  clear g1 g2 g3 HW HQ c0 cc d0 H1 B1
  have SZ := Lib.hid (Ww.szD (d := x.2) k1)
  go_wp2_with (first | (with_reducible refine wpList_load_mid rfl _ _ rfl w.heap.size 1 rfl (x.2.map byt) _ (HF1.out _ B2.out) Tryz.underlying24 rfl SZ.out ?_))
  refine (digest_calls _ _ w2 q _ _ x.2 KL1.out H2.out (by (try simp only [List.length_append, num_length]); have := KL1.out; omega)).mono ?_
  rintro e w3 ⟨rfl, g1⟩
  have H3 := Lib.hid g1
  have B3 := Lib.hid (HB0.out _ _ _ H3.out)
  clear g1 H2 B2 SZ
  have HFF := Lib.hid (HL.out _ _ _ H3.out)
  clear H3 B3 HL HB0
  go_wp2
  go_end0
  refine ⟨rfl, ?_⟩
  have := HFF.out
  simpa [encMo, badMo, List.append_assoc] using this
set_option maxHeartbeats 8000000 in
set_option maxRecDepth 100000 in
theorem listMo_calls (S D : Nat → Prop) (w0 w : World) (q : Nat) (m : List UInt8) (bad : Bool) (v : Value) (l : List _) (hA : Sl 33 RMo D w v l) (hD : ∀ b, b < w.heap.size → D b → ¬ Plus S w0 w b) (most : Int) (H : At S w0 w q m bad) (hlen : m.length + (var l.length).length + (l.flatMap encMo).length + 9 ≤ 140737488355328) :
    Calls Tryz.prog 97 #[.pointer (some ⟨q, 0, none⟩), v, .int .i64 most, .func (.func 98) #[] #[]] w fun e w' => e = .returned (.tuple #[]) ∧ At S w0 w' q (m ++ (var l.length ++ l.flatMap encMo)) (bad || !decide ((l.length : Int) ≤ most) || l.any badMo) := by
  obtain ⟨a, c, rfl, hc1, hc2, _⟩ := hA.form
  unfold maxLen at hc2
  have HL := Lib.hid (fun w' m' b' => @At.back S w0 w w' q m m' bad b' H)
  have H0 := Lib.hid H.enter0
  have HA := Lib.hid (hA.mono rep_Mo (E := fun b => b < w.heap.size ∧ D b) (fun b h1 h2 => ⟨h1, h2⟩))
  have HD := Lib.hid hD
  have hvl := var_len9 l.length
  obtain ⟨T, hT⟩ : ∃ T, Plus S w0 w = T := ⟨_, rfl⟩
  rw [hT] at HL H0 HD
  clear H hA hD hT
  obtain ⟨ok, hok⟩ : ∃ ok, decide ((l.length : Int) ≤ most) = ok := ⟨_, rfl⟩
  rw [hok]
  go_enter Tryz.func97, Tryz.ntmps97
  go_wp2_with fail
  try rw [hok]
  refine (must_calls _ _ w q m bad ok H0.out).mono ?_
  rintro e w1 ⟨rfl, g1⟩
  obtain ⟨p, k1, k2, k3⟩ := g1.opened
  have G1 := Lib.hid g1
  have HQ := Lib.hid k1
  have HW := Lib.hid k2
  have c0 := k1.cell (i := 0) rfl
  clear g1 k1 k2 k3
  go_wp2_with fail
  refine (var_calls _ w1 p m l.length (by omega) HW.out (by omega)).mono ?_
  rintro e w2 ⟨rfl, r1, r2⟩
  have G2 := Lib.hid (G1.out.shut HQ.out r1 r2)
  clear r1 r2 c0 HW HQ G1
  go_wp2
  go_loopw [26] (fun i' wx => ∃ i : Nat, i ≤ l.length ∧ i' = .int .i64 (i : Int) ∧ At T w wx q (m ++ (var l.length ++ (l.take i).flatMap encMo)) (bad || !ok || (l.take i).any badMo)) (fun i' _ => l.length - (intOf i').toNat)
  case atStart => exact ⟨0, Nat.zero_le _, rfl, by simpa using G2.out⟩
  case round =>
    obtain ⟨i, hi, rfl, hS⟩ := hrel
    have SX := Lib.hid hS
    clear hS
    by_cases hlt : i < l.length
    · obtain ⟨bi, oi, ci', cs, e0, _, r0, r1⟩ := (HA.out.fr rep_Mo SX.out.2.1 (fun b hb hd => HD.out b hb hd.2)).at i hlt
      cases e0
      obtain ⟨g, hg⟩ : ∃ g, l[i]'hlt = g := ⟨_, rfl⟩
      rw [hg] at r1
      have HR := Lib.hid r1
      have HCL := Lib.hid (rep_Mo.len r1)
      have HC1 := Lib.hid (rep_Mo.one r1)
      have HSZ := Lib.hid (show (Tryz.prog.info? 58).map (·.size) = some cs.length by rw [HCL.out]; kernel_rfl)
      have HRG := Lib.hid r0
      have hNX : (l.take (i + 1)).flatMap encMo = (l.take i).flatMap encMo ++ encMo g := by rw [List.take_add_one, List.getElem?_eq_getElem hlt, hg]; simp
      have hNB := Lib.hid (show (l.take (i + 1)).any badMo = ((l.take i).any badMo || badMo g) by rw [List.take_add_one, List.getElem?_eq_getElem hlt, hg]; simp)
      have hflen : ((l.take i).flatMap encMo).length + (encMo g).length ≤ (l.flatMap encMo).length := by
        have := congrArg List.length hNX
        rw [List.length_append] at this
        rw [← this]
        conv => rhs; rw [← List.take_append_drop (i + 1) l, List.flatMap_append, List.length_append]
        omega
      have HNX := Lib.hid hNX
      have hltI : (i : Int) < (l.length : Int) := by omega
      have h0I : (0 : Int) ≤ (i : Int) := by omega
      clear hg r0 r1 hNX
      go_upto_region 5 with (first
        | (with_reducible refine wpList_load_mid rfl _ _ rfl bi (oi + i * 33) rfl cs _ HRG.out Tryz.underlying58 rfl HSZ.out ?_)
        | ((with_reducible refine wpList_alloc rfl _ rfl _ (zeroMo _) (fun wa ka ca za => ?_)); have KA := Lib.hid ka; have CA := Lib.hid ca; clear ka ca)
        | ((with_reducible refine wpList_put rfl _ _ _ rfl wr.heap.size cs _ rfl rfl KA.out HSZ.out (zeroMo_len.trans HCL.out.symm) HC1.out (fun wb kb fb zb => ?_)); have KB := Lib.hid kb; have CB := Lib.hid (CA.out.trans (fb.below CA.out.size (fun k hk => by have : k = wr.heap.size := hk; omega))); have SB := Lib.hid (At.below SX.out CB.out); have HRB := Lib.hid (rep_Mo.below HR.out CB.out); clear kb fb))
      have HD2 := Lib.hid (show ∀ b, b < wb.heap.size → (b < w.heap.size ∧ D b) → ¬ Plus T w wb b from fun b _ h e => by
        rcases e with e | e
        · exact HD.out b h.1 h.2 e
        · have := e.1; omega)
      clear KA CA HRG CB SX HR
      generalize wr.heap.size = gb at *
      go_wp2_with (first | (with_reducible refine wpList_load_blk rfl _ _ rfl gb cs rfl KB.out _ Tryz.underlying58 rfl HSZ.out ?_))
      refine (mainOut_calls _ _ _ wb q _ _ cs g HRB.out HD2.out SB.out (by simp only [List.length_append]; omega)).mono ?_
      rintro e wc ⟨rfl, g3⟩
      have G3 := Lib.hid g3
      clear g3 SB KB
      go_wp2
      go_roundw
      case rel => exact ⟨i + 1, by omega, by go_num, by rw [HNX.out, hNB.out]; have := G3.out; simpa [List.append_assoc, Bool.or_assoc] using this⟩
      case measure => simp [intOf]; omega
    · obtain rfl : i = l.length := by omega
      have GF := Lib.hid (show At T w wr q (m ++ (var l.length ++ l.flatMap encMo)) (bad || !ok || l.any badMo) by have := SX.out; rwa [List.take_length] at this)
      clear SX
      go_wp2
      go_end0
      exact ⟨rfl, HL.out _ _ _ GF.out⟩
abbrev XMt := Nat × (List (Nat × List UInt8))
def RMt : (Nat → Prop) → World → List Value → XMt → Prop := (PairR RU64 (RSl 33 RMo))
theorem rep_Mt : Rep 2 RMt := (rep_pair rep_u64 (rep_rsl rep_Mo))
def encMt (x : XMt) : List UInt8 := num x.1 8 ++ (var x.2.length ++ x.2.flatMap encMo)
def badMt (x : XMt) : Bool := !decide ((x.2.length : Int) ≤ 16) || x.2.any badMo
set_option maxHeartbeats 8000000 in
set_option maxRecDepth 100000 in
theorem mainTx_to (S D : Nat → Prop) (w0 w : World) (q : Nat) (m : List UInt8) (bad : Bool) (cs : List Value) (x : XMt) (hR : RMt D w cs x) (hD : ∀ b, b < w.heap.size → D b → ¬ Plus S w0 w b) (H : At S w0 w q m bad) (hlen : m.length + (encMt x).length + 9 ≤ 140737488355328) :
    Calls Tryz.prog 73 #[.pointer (some ⟨q, 0, none⟩), .agg cs.toArray] w fun e w' => e = .returned (.tuple #[]) ∧ At S w0 w' q (m ++ encMt x) (bad || badMt x) := by
  have hR1 := rep_Mt.lt hR
  obtain ⟨a0, b0, rfl, h0, h1⟩ := id hR1
  obtain ⟨k0, rfl⟩ := h0
  obtain ⟨v1, rfl, g1⟩ := h1
  have G1 := Lib.hid (g1.below rep_Mo (below_alloc w (.cells ([Value.int .u64 (x.1 : Int)] ++ ([v1])).toArray 56)))
  have HF0 := Lib.hid (fun (w' : World) (h : Blk w' w.heap.size ([Value.int .u64 (x.1 : Int)] ++ ([v1])) 56) => blk_one h ([]) ([v1]) (Value.int .u64 (x.1 : Int)) (by simp) 0 (by rfl))
  have HF1 := Lib.hid (fun (w' : World) (h : Blk w' w.heap.size ([Value.int .u64 (x.1 : Int)] ++ ([v1])) 56) => blk_one h ([Value.int .u64 (x.1 : Int)]) ([]) (v1) (by simp) 1 (by rfl))
  obtain ⟨ca, hca⟩ : ∃ ca, ([Value.int .u64 (x.1 : Int)] ++ ([v1])).toArray = ca := ⟨_, rfl⟩
  have HB := Lib.hid (show Blk (w.alloc (.cells ca 56)) w.heap.size ([Value.int .u64 (x.1 : Int)] ++ ([v1])) 56 from Blk.new w _ _ _ hca.symm)
  have HX := Lib.hid (fun w' m' b' => @At.box S w0 w w' q m bad (.cells ca 56) m' b' ([Value.int .u64 (x.1 : Int)] ++ ([v1])) 56 H)
  have H1 := Lib.hid (H.enter (.cells ca 56))
  have HL := Lib.hid (fun w' m' b' => @At.leave S w0 w w' q m bad (.cells ca 56) m' b' H)
  have HD := Lib.hid hD
  have hz : (w.alloc (.cells ca 56)).heap.size = w.heap.size + 1 := by simp
  simp only [encMt, List.length_append, num_length, List.length_cons, List.length_nil] at hlen
  rw [hca] at G1 ⊢
  clear H hR hR1 hca hD g1
  obtain ⟨T, hT⟩ : ∃ T, Plus S w0 w = T := ⟨_, rfl⟩
  rw [hT] at HL H1 HX HD
  clear hT
  go_enter Tryz.func73, Tryz.ntmps73
  go_upto_region 1 with fail
  have HB0 := Lib.hid (fun w' m' b' g => HX.out w' m' b' g HB.out)
  have B1 := Lib.hid HB.out
  clear HX HB
  generalize (w.alloc (.cells ca 56)) = w1 at *
  have HD2 := Lib.hid (show ∀ wi : World, ∀ b, b < wi.heap.size → (b < w.heap.size ∧ D b) → ¬ Plus T w1 wi b from fun wi b _ hb e => by
    rcases e with e | e
    · exact HD.out b hb.1 hb.2 e
    · have := e.1; omega)
  obtain ⟨p, h1, h2, h3⟩ := H1.out.drew.opened
  have HW := Lib.hid h2
  have HQ := Lib.hid h1
  have c0 := h1.cell (i := 0) rfl
  have cc : w1.cell? ⟨q, 0, none⟩ = some (.pointer (some ⟨p, 0, none⟩)) := c0
  have d0 := HF0.out _ B1.out
  clear h1 h2 h3
  go_wp2_with fail
  go_still_tail 6, (by kernel_rfl)
  change wpList _ _ _ _ _ w1.drew
  go_wp2_with fail
  refine (long_calls _ w1.drew p _ x.1 k0 HW.out (by (try simp only [List.length_append, num_length]); omega)).mono ?_
  rintro e w2 ⟨rfl, g1, g2⟩
  have g3 := H1.out.drew.shut HQ.out g1 g2
  have H2 := Lib.hid g3
  have B2 := Lib.hid (HB0.out _ _ _ H2.out)
  clear g1 g2 g3 HW HQ c0 cc d0 H1 B1
  have d0 := HF1.out _ B2.out
  go_wp2_with fail
  refine (listMo_calls _ _ _ w2 q _ _ _ (x.2) (G1.out.fr rep_Mo H2.out.2.1 (fun b _ h => HD.out b h.1 h.2)) (HD2.out _) 16 H2.out (by (try simp only [List.length_append, num_length]); omega)).mono ?_
  rintro e w3 ⟨rfl, g1⟩
  have H3 := Lib.hid g1
  have B3 := Lib.hid (HB0.out _ _ _ H3.out)
  clear g1 d0 H2 B2
  have HFF := Lib.hid (HL.out _ _ _ H3.out)
  clear H3 B3 HL HB0
  go_wp2
  go_end0
  refine ⟨rfl, ?_⟩
  have := HFF.out
  simp only [List.append_assoc, Bool.or_assoc] at this
  exact this
end Go.Proofs.YtmenchnjajpkmaaGreatDoor.Wm
end

section
namespace Go.Proofs.YtmenchnjajpkmaaGreatDoor.Rm
open Go Go.RowKit Mem Codec CodecR Ops Reps WtIt Arr Rr Wr Wm
set_option linter.unusedVariables false
set_option linter.unusedSimpArgs false

set_option maxRecDepth 100000 in
theorem structMo : StructT Tryz.prog 58 [1, 32] := ⟨_, _, _, rfl, Tryz.underlying58, rfl, by kernel_rfl, by kernel_rfl⟩
/-- an output, read -/
def RDmo (r : Rd) : Rd × (Nat × List UInt8) := seq (fun r : Rd => r.num 8) Wr.Rd.dig r
theorem rdmo_rest (r : Rd) : (RDmo r).1.rest.length ≤ r.rest.length := seq_rest (fun r => num_rest r 8) dig_rest r
set_option maxHeartbeats 8000000 in
set_option maxRecDepth 100000 in
theorem rmo_calls (D : Nat → Prop) (w : World) (q : Nat) (r : Rd) (H : ReaderIs D w q r) (hl : r.rest.length ≤ 140737488355328) :
    Calls Tryz.prog 71 #[.agg #[.pointer (some ⟨q, 0, none⟩)]] w (GotD RMo D w q (RDmo r)) := by
  have hql := H.lt
  have H0 := Lib.hid ((rd_under H).below (below_alloc w (.cells #[.pointer (some ⟨q, 0, none⟩)] 106)))
  have HB := Lib.hid (Blk.new w #[.pointer (some ⟨q, 0, none⟩)] 106 _ rfl)
  have HA := Lib.hid (below_alloc w (.cells #[.pointer (some ⟨q, 0, none⟩)] 106))
  have hz : w.heap.size + 1 = (w.alloc (.cells #[.pointer (some ⟨q, 0, none⟩)] 106)).heap.size := by simp
  have HL0 := Lib.hid hl
  obtain ⟨y1, hy1⟩ : ∃ y, ((r).num 8).2 = y := ⟨_, rfl⟩
  obtain ⟨r1, hr1⟩ : ∃ y, ((r).num 8).1 = y := ⟨_, rfl⟩
  have HC1 := Lib.hid (fun D w h => CodecR.long_calls D w q r h)
  have HW1 := Lib.hid (show y1 < 18446744073709551616 by rw [← hy1]; exact num_lt _ _)
  have HL1 := Lib.hid (show r1.rest.length ≤ 140737488355328 by rw [← hr1]; exact Nat.le_trans (num_rest _ _) HL0.out)
  rw [hr1, hy1] at HC1
  obtain ⟨y2, hy2⟩ : ∃ y, (Wr.Rd.dig r1).2 = y := ⟨_, rfl⟩
  obtain ⟨r2, hr2⟩ : ∃ y, (Wr.Rd.dig r1).1 = y := ⟨_, rfl⟩
  have HC2 := Lib.hid (fun D w h => Wr.digest_calls D w q r1 h HL1.out)
  have HW2 := Lib.hid (show y2.length = 32 by rw [← hy2]; exact Wr.Rd.dig_len r1)
  have HL2 := Lib.hid (show r2.rest.length ≤ 140737488355328 by rw [← hr2]; exact Nat.le_trans (dig_rest _) HL1.out)
  rw [hr2, hy2] at HC2
  have HRD := Lib.hid (show RDmo r = (r2, y1, y2) by simp only [RDmo, seq, hr1, hy1, hr2, hy2])
  rw [HRD.out]
  clear H hl hr1 hy1 hr2 hy2
  go_enter Tryz.func71, Tryz.ntmps71
  go_upto_region 1 with (first
    | ((with_reducible refine wpList_alloc rfl _ rfl _ (zeroMo _) (fun wb ka ca za => ?_)); have KA := Lib.hid ka; have CA := Lib.hid ca; clear ka ca))
  generalize (w.alloc (.cells #[.pointer (some ⟨q, 0, none⟩)] 106)) = wA at *
  have O0 := Lib.hid (H0.out.below CA.out)
  have HB2 := Lib.hid (HB.out.below CA.out)
  have B2 := Lib.hid (HA.out.trans (CA.out.mono (by omega)))
  have hg0 : w.heap.size < wA.heap.size := by omega
  have hg2 : wA.heap.size < wb.heap.size := by omega
  generalize wA.heap.size = g1 at *
  clear H0 HB HA CA
  refine wp_region_held_drew (S := (fun w' => Blk w' w.heap.size [.pointer (some ⟨q, 0, none⟩)] 106 ∧ (∃ l : List Value, l.length = 33 ∧ Blk w' g1 l 58) ∧ Fr (fun k => k = q) w w' ∧ wb.heap.size ≤ w'.heap.size)) (by kernel_rfl) ⟨HB2.out.drew, ⟨_, zeroMo_len, KA.out.drew⟩, (Fr.ofBelowAll B2.out (Nat.le_refl _)).drew, Nat.le_refl _⟩ (fun hHeld => ?_)
  refine wpAnyH_take (i := 0) (oi := ⟨_, _, _, _, _, _⟩) (v := ?_) rfl (by kernel_rfl) (by kernel_rfl) (by kernel_rfl) (fun _ _ _ h => h) (Or.inl ⟨by rfl, ?_⟩) (by assumption) ?_
  rotate_left
  · intro w hSw; go_simp; try (with_reducible rfl)
  try simp only [Act.put, List.setIfInBounds_toArray, List.set_cons_zero, List.set_cons_succ]
  refine wpAnyH_take (i := 1) (oi := ⟨_, _, _, _, _, _⟩) (v := .pointer (some ⟨q, 0, none⟩)) rfl (by kernel_rfl) (by kernel_rfl) (by kernel_rfl) (fun _ _ _ h => h) (Or.inl ⟨by rfl, fun wS hSw => (by have hc := hSw.1.cell (i := 0) rfl; go_simp; try (with_reducible rfl))⟩) (by assumption) ?_
  try simp only [Act.put, List.setIfInBounds_toArray, List.set_cons_zero, List.set_cons_succ]
  refine wpAnyH_take (i := 3) (oi := ⟨_, _, _, _, _, _⟩) rfl (by kernel_rfl) (by kernel_rfl) (by kernel_rfl) (fun _ _ _ h => h) (yieldsIf_load_mid (by rfl) _ _ rfl w.heap.size 0 rfl [.pointer (some ⟨q, 0, none⟩)] _ (fun _ h => blk_range h.1) Tryz.underlying106 rfl (by kernel_rfl)) (by assumption) ?_
  try simp only [Act.put, List.setIfInBounds_toArray, List.set_cons_zero, List.set_cons_succ]
  refine wpAnyH_ready (rs := [2]) (by kernel_rfl) (by simp) ?_
  refine AllReadyH.cons (o := ⟨_, _, _, _, _, _⟩) rfl (fun K hK => ?_) AllReadyH.nil
  go_simp
  have kk1 := hHeld.1.lt
  have kk2 : g1 < _ := hHeld.2.1.choose_spec.2.lt
  have HH1 := hHeld.2.2.2
  refine (HC1.out _ wb.drew O0.out).mono ?_
  rintro e x1 ⟨rfl, o1, o2⟩
  have hsx1 := o2.size
  refine hK.out _ _ (by exact ⟨hHeld.1.fr o2 (by omega), hHeld.2.1.elim fun l h => ⟨l, h.1, h.2.fr o2 (by omega)⟩, hHeld.2.2.1.trans o2, Nat.le_trans hHeld.2.2.2 o2.size⟩) (fun hHeld => ?_)
  have O1 := Lib.hid o1
  clear o1 o2
  try simp only [Act.put, List.setIfInBounds_toArray, List.set_cons_zero, List.set_cons_succ]
  clear hK
  refine wpAnyH_ready (rs := [4]) (by kernel_rfl) (by simp) ?_
  refine AllReadyH.cons (o := ⟨_, _, _, _, _, _⟩) rfl (fun K hK => ?_) AllReadyH.nil
  go_simp
  have kk1 := hHeld.1.lt
  have kk2 : g1 < _ := hHeld.2.1.choose_spec.2.lt
  have HH2 := hHeld.2.2.2
  refine (HC2.out _ x1 O1.out).mono ?_
  rintro e x2 ⟨rfl, o1, o2⟩
  have hsx2 := o2.size
  refine hK.out _ _ (by exact ⟨hHeld.1.fr o2 (by omega), hHeld.2.1.elim fun l h => ⟨l, h.1, h.2.fr o2 (by omega)⟩, hHeld.2.2.1.trans o2, Nat.le_trans hHeld.2.2.2 o2.size⟩) (fun hHeld => ?_)
  have O2 := Lib.hid o1
  clear o1 o2
  try simp only [Act.put, List.setIfInBounds_toArray, List.set_cons_zero, List.set_cons_succ]
  clear hK
  have HCE := Lib.hid (show ([Value.int .u64 (y1 : Int)] ++ (y2.map byt) : List Value).length = 33 by simp [HW2.out])
  refine wpAnyH_take (i := 5) (oi := ⟨_, _, _, _, _, _⟩) rfl (by kernel_rfl) (by kernel_rfl) (by kernel_rfl) (fun _ _ _ h => h) (yieldsIf_build (by rfl) structMo [(0, _), (1, _)] rfl [.int .u64 (y1 : Int), .agg (y2.map byt).toArray] rfl (by simp [Value.cells, HW2.out]) (([Value.int .u64 (y1 : Int)] ++ (y2.map byt)).toArray) (by simp [Value.cells])) (by assumption) ?_
  try simp only [Act.put, List.setIfInBounds_toArray, List.set_cons_zero, List.set_cons_succ]
  refine wpAnyH_ready (rs := [6]) (by kernel_rfl) (by simp) ?_
  refine AllReadyH.cons (o := ⟨_, _, _, _, _, _⟩) rfl (fun K hK => ?_) AllReadyH.nil
  rw [if_pos (by rfl)]
  obtain ⟨l0, hl0, hb0⟩ := hHeld.2.1
  have HRR := Lib.hid (show ∀ W : World,  RMo (fun b => w.heap.size ≤ b ∧ b ≠ g1) W ([Value.int .u64 (y1 : Int)] ++ (y2.map byt)) (y1, y2) from fun W => ⟨_, _, rfl, ⟨HW1.out, rfl⟩, ⟨HW2.out, rfl⟩⟩)
  have HRF := Lib.hid (HRR.out x2)
  have HSZ := Lib.hid (show (Tryz.prog.info? 58).map (·.size) = some ([Value.int .u64 (y1 : Int)] ++ (y2.map byt) : List Value).length by rw [HCE.out]; kernel_rfl)
  refine wp_put _ _ _ rfl g1 ([Value.int .u64 (y1 : Int)] ++ (y2.map byt)) l0 rfl rfl hb0 HSZ.out (hl0.trans HCE.out.symm) (rep_Mo.one HRF.out) (fun we ke fe ze => ?_)
  refine hK.out _ _ (by exact ⟨hHeld.1.fr fe (by omega), ⟨_, HCE.out, ke⟩, hHeld.2.2.1.trans' fe (fun i hi (e : i = g1) => by omega), by have := hHeld.2.2.2; omega⟩) (fun hHeld => ?_)
  have KE := Lib.hid ke
  have FE := Lib.hid fe
  clear ke fe
  clear hK
  refine wpAnyH_done (by kernel_rfl) ?_ _
  have FF := Lib.hid hHeld.2.2.1
  clear hHeld
  go_wp2
  exact bodyPost_ret (v := .agg ([Value.int .u64 (y1 : Int)] ++ (y2.map byt)).toArray) (results_row1 Tryz.results71 _ _ g1 _ _ rfl KE.out Tryz.underlying58 rfl HSZ.out) rfl ⟨_, rfl, rep_Mo.mono (rep_Mo.fr HRF.out FE.out (fun b _ h (e : b = g1) => h.2 e)) (fun b _ h => h.1), rd_back (O2.out.fr FE.out (by omega) (fun k _ h (e : k = g1) => by have := h.1; omega)) hql, FF.out⟩
end Go.Proofs.YtmenchnjajpkmaaGreatDoor.Rm
end

section
namespace Go.Proofs.YtmenchnjajpkmaaGreatDoor.RmT
open Go Go.RowKit Mem Codec CodecW CodecR Iter Arr Ops Wr Reps WtIt
set_option linter.unusedVariables false
open Rr Wm Rm
/-- what a round is told -/
def KV (A B : World) (v : Value) (x : (Nat × List UInt8)) : Prop := ∃ cs, v = .agg cs.toArray ∧ RMo (fun b => A.heap.size ≤ b) B cs x
theorem szT {cs : List Value} (h : cs.length = 33) : (Tryz.prog.info? 58).map (·.size) = some cs.length := by rw [h]; kernel_rfl
attribute [local go_sem] Oper.semAt_some
set_option maxHeartbeats 4000000 in
set_option maxRecDepth 100000 in
theorem items_seq (one : Rd → Rd × (Nat × List UInt8)) (fo : Nat) (fk : Value) (ef : ∀ args w, (callFunc fo args).run Tryz.prog w = .ok (.enter fo args) w) (D : Nat → Prop) (w : World) (q b1 b2 b3 d1 d2 : Nat) (r0 : Rd) (most : Int) (h1 : -9223372036854775808 ≤ most) (h2 : most < 9223372036854775808)
    (H : ReaderIs D w q r0) (hb1 : w.cell? ⟨b1, 0, none⟩ = some (.pointer (some ⟨q, 0, none⟩))) (hb2 : w.cell? ⟨b2, 0, none⟩ = some (.int .i64 most)) (hb3 : w.cell? ⟨b3, 0, none⟩ = some (.func (.func fo) #[] #[.pointer (some ⟨d1, 0, none⟩), .pointer (some ⟨d2, 0, none⟩)])) (he1 : w.cell? ⟨d1, 0, none⟩ = some fk) (he2 : w.cell? ⟨d2, 0, none⟩ = some (.pointer (some ⟨q, 0, none⟩))) (hn4 : d1 ≠ q) (hn5 : d2 ≠ q) (hn1 : b1 ≠ q) (hn2 : b2 ≠ q) (hn3 : b3 ≠ q)
    (L : Nat) (hl : r0.rest.length ≤ L) (hlen : ∀ r, (one r).1.rest.length ≤ r.rest.length)
    (hone : ∀ (A : World) (r : Rd), ReaderIs D A q r → r.rest.length ≤ L → A.cell? ⟨d1, 0, none⟩ = some fk → A.cell? ⟨d2, 0, none⟩ = some (.pointer (some ⟨q, 0, none⟩)) → Calls Tryz.prog fo #[.pointer (some ⟨q, 0, none⟩), .pointer (some ⟨d1, 0, none⟩), .pointer (some ⟨d2, 0, none⟩)] A fun e B => ∃ cs, e = .returned (.agg cs.toArray) ∧ RMo (fun b => A.heap.size ≤ b) B cs (one r).2 ∧ ReaderIs D B q (one r).1 ∧ Fr (fun k => k = q) A B) :
    SeqC Tryz.prog 113 #[.pointer (some ⟨b1, 0, none⟩), .pointer (some ⟨b2, 0, none⟩), .pointer (some ⟨b3, 0, none⟩)] (fun k => k = q)
      (It D q b1 b2 b3 d1 d2 most (.func (.func fo) #[] #[.pointer (some ⟨d1, 0, none⟩), .pointer (some ⟨d2, 0, none⟩)]) fk) (Y one (r0.room most).2 (r0.room most).1 KV) (E one (r0.room most).2 (r0.room most).1 D q) ([], (r0.room most).1) w := by
  intro l J Jx W hW hsW hJ hY h0
  have HR := Lib.hid (H.below hW)
  have HRM := Lib.hid (CodecR.room_calls D W q r0 most HR.out h1 h2)
  have hnb := room_le r0 most h2
  have hrl := Nat.le_trans (Rd.room_len r0 most) hl
  generalize (r0.room most).1 = r1 at *
  generalize (r0.room most).2 = n at *
  have c1 := (hW.cell (World.block_lt_of_cell? _ _ hb1)).trans hb1
  have c2 := (hW.cell (World.block_lt_of_cell? _ _ hb2)).trans hb2
  have c3 := (hW.cell (World.block_lt_of_cell? _ _ hb3)).trans hb3
  have c4 := (hW.cell (World.block_lt_of_cell? _ _ he1)).trans he1
  have c5 := (hW.cell (World.block_lt_of_cell? _ _ he2)).trans he2
  have HJ := Lib.hid hJ
  have HY := Lib.hid hY
  have H0 := Lib.hid h0
  have HO := Lib.hid hone
  clear hJ hY h0 hone HR
  refine callsIn_of_wp Tryz.func113 rfl trivial ?_ rfl
  simp only [Tryz.ntmps113, List.size_toArray, List.length_cons, List.length_nil, Nat.reduceAdd, Nat.reduceSub, Array.replicate_succ, Array.replicate_zero, List.push_toArray, List.append_toArray, List.nil_append, List.cons_append]
  gi_wp2
  refine ⟨trivial, rfl, (callsIn_wide.2 HRM.out).mono ?_⟩
  rintro e w2 ⟨rfl, g1, g2⟩
  have c1 := g2.cell c1 hn1
  have c2 := g2.cell c2 hn2
  have c3 := g2.cell c3 hn3
  have c4 := g2.cell c4 hn4
  have c5 := g2.cell c5 hn5
  have hs2 := g2.size
  have HR2 := Lib.hid g1
  have HJ2 := Lib.hid (HJ.out _ _ _ H0.out g2)
  clear g1 g2 HRM H0
  gi_wp2
  gi_loopw [6] (fun i wr => ∃ (pre : List (Nat × List UInt8)) (r : Rd), i = .int .i64 (pre.length : Int) ∧ At one n r1 (pre, r) ∧ r.rest.length ≤ L ∧ W.heap.size ≤ wr.heap.size ∧ It D q b1 b2 b3 d1 d2 most (.func (.func fo) #[] #[.pointer (some ⟨d1, 0, none⟩), .pointer (some ⟨d2, 0, none⟩)]) fk (pre, r) wr ∧ J (pre, r) wr) (fun i _ => n - (intOf i).toNat)
  case atStart => exact ⟨[], r1, rfl, At.start one n r1, hrl, hs2, ⟨HR2.out, c1, c2, c3, c4, c5⟩, HJ2.out⟩
  case round =>
    obtain ⟨pre, r, rfl, hA, hrL, hsr, ⟨g1, c1, c2, c3, c4, c5⟩, g5⟩ := hrel
    have hA1 := hA.1
    have HA := Lib.hid hA
    have HJw := Lib.hid g5
    have HRw := Lib.hid g1
    dsimp only at hA1
    have hcv : IntKind.u64.wrap (pre.length : Int) = (pre.length : Int) := by rw [IntKind.wrap_u64]; omega
    clear hA g1 g5 HJ2 HR2
    by_cases hlt : pre.length < n
    · have hlt2 : ((pre.length : Int) < (n : Int)) := by omega
      have HOw := Lib.hid (HO.out wr r HRw.out hrL c4 c5)
      have HLn := Lib.hid (hlen r)
      have hcf := ef #[.pointer (some ⟨q, 0, none⟩), .pointer (some ⟨d1, 0, none⟩), .pointer (some ⟨d2, 0, none⟩)] wr
      gi_wp2
      refine ⟨trivial, rfl, (callsIn_wide.2 HOw.out).mono ?_⟩
      rintro e w3 ⟨cs, rfl, hx, k1, k2⟩
      have HR3 := Lib.hid k1
      have HF3 := Lib.hid k2
      have hs3 := k2.size
      have c1 := k2.cell c1 hn1
      have c2 := k2.cell c2 hn2
      have c3 := k2.cell c3 hn3
      have c4 := k2.cell c4 hn4
      have c5 := k2.cell c5 hn5
      obtain ⟨xa, xc, x1, _, _⟩ := id k1
      have d9 := x1.cell (i := 1) rfl
      obtain ⟨x, hxe⟩ : ∃ x, (one r).2 = x := ⟨_, rfl⟩
      have HXE := Lib.hid hxe
      rw [hxe] at hx
      have HX := Lib.hid hx
      have HCL := Lib.hid (rep_Mo.len hx)
      have HC1 := Lib.hid (rep_Mo.one hx)
      clear k1 k2 x1 HOw hxe hx
      by_cases he : (one r).1.e = 0
      · rw [he] at d9
        gi_wp2_with (first
          | ((with_reducible refine wpListIn_alloc rfl _ rfl _ (zeroMo _) (fun wa ka ca za => ?_)); have KA := Lib.hid ka; have CA := Lib.hid ca; clear ka ca)
          | ((with_reducible refine wpListIn_put rfl _ _ _ rfl w3.heap.size cs _ rfl rfl KA.out (szT HCL.out) (zeroMo_len.trans HCL.out.symm) HC1.out (fun wb kb fb zb => ?_)); have KB := Lib.hid kb; have CB := CA.out.trans (fb.below CA.out.size (fun k (hk : k = _) => by omega)); have FB := Lib.hid (HF3.out.trans (Fr.ofBelowAll CB (Nat.le_refl _))); have HR4 := Lib.hid (HR3.out.below CB); have c1 := CB.cell (World.block_lt_of_cell? _ _ c1) |>.trans c1; have c2 := CB.cell (World.block_lt_of_cell? _ _ c2) |>.trans c2; have c3 := CB.cell (World.block_lt_of_cell? _ _ c3) |>.trans c3; have c4 := CB.cell (World.block_lt_of_cell? _ _ c4) |>.trans c4; have c5 := CB.cell (World.block_lt_of_cell? _ _ c5) |>.trans c5; have d9 := CB.cell (World.block_lt_of_cell? _ _ d9) |>.trans d9; have hsb := CB.size; obtain ⟨fn, tmps, assign, body, hy, hR⟩ := HY.out (pre, r) (pre ++ [(one r).2], (one r).1) #[.int .i64 (pre.length : Int), .agg cs.toArray] wr wb HJw.out FB.out ⟨_, hlt, HA.out, rfl, he, rfl, cs, rfl, by rw [HXE.out]; exact rep_Mo.below HX.out CB⟩ ⟨HR4.out, c1, c2, c3, c4, c5⟩; have HRR := Lib.hid hR; clear hR; clear kb fb CB)
          | (with_reducible refine wpListIn_load_blkw (by with_unfolding_all rfl) _ _ rfl w3.heap.size cs rfl KB.out _ Tryz.underlying58 rfl (szT HCL.out) ?_))
        refine ⟨rfl, HRR.out.mono ?_⟩
        rintro e W' (⟨rfl, k1, k2, hs4⟩ | ⟨rfl, k1⟩)
        · have HJ4 := Lib.hid k1
          have HI4 := Lib.hid k2
          have HA4 := Lib.hid (HA.out.next one hlt he)
          clear k1 k2
          gi_wp2
          go_roundw
          case rel => exact ⟨_, _, by rw [List.length_append]; rfl, HA4.out, Nat.le_trans HLn.out hrL, by omega, HI4.out, HJ4.out⟩
          case measure => simp [intOf]; omega
        · gi_wp2
          refine bodyPost_ret (results_none rfl _ _ _) rfl ?_
          exact ⟨⟨_, rfl⟩, .inr ⟨_, k1⟩⟩
      · have he2 : ((one r).1.e != 0) = true := by simpa using he
        have HEE := Lib.hid (HA.out.fails one hlt he)
        gi_wp2_with (first
          | ((with_reducible refine wpListIn_alloc rfl _ rfl _ (zeroMo _) (fun wa ka ca za => ?_)); have KA := Lib.hid ka; have CA := Lib.hid ca; clear ka ca)
          | ((with_reducible refine wpListIn_put rfl _ _ _ rfl w3.heap.size cs _ rfl rfl KA.out (szT HCL.out) (zeroMo_len.trans HCL.out.symm) HC1.out (fun wb kb fb zb => ?_)); have KB := Lib.hid kb; have CB := CA.out.trans (fb.below CA.out.size (fun k (hk : k = _) => by omega)); have FB := Lib.hid (HF3.out.trans (Fr.ofBelowAll CB (Nat.le_refl _))); have HR4 := Lib.hid (HR3.out.below CB); have c1 := CB.cell (World.block_lt_of_cell? _ _ c1) |>.trans c1; have c2 := CB.cell (World.block_lt_of_cell? _ _ c2) |>.trans c2; have c3 := CB.cell (World.block_lt_of_cell? _ _ c3) |>.trans c3; have c4 := CB.cell (World.block_lt_of_cell? _ _ c4) |>.trans c4; have c5 := CB.cell (World.block_lt_of_cell? _ _ c5) |>.trans c5; have d9 := CB.cell (World.block_lt_of_cell? _ _ d9) |>.trans d9; have hsb := CB.size; skip; clear kb fb CB)
          | (with_reducible refine wpListIn_load_blkw (by with_unfolding_all rfl) _ _ rfl w3.heap.size cs rfl KB.out _ Tryz.underlying58 rfl (szT HCL.out) ?_))
        refine ⟨fun _ h => (by cases h), ?_⟩
        gi_wp2
        refine bodyPost_ret (results_none rfl _ _ _) rfl ?_
        exact ⟨⟨_, rfl⟩, .inl ⟨(pre, r), ⟨_, HEE.out, HR4.out⟩, (HJ.out _ _ _ HJw.out FB.out)⟩⟩
    · have hlt2 : ¬ ((pre.length : Int) < (n : Int)) := by omega
      have HEE := Lib.hid (HA.out.all one hlt)
      gi_wp2
      go_end0
      exact ⟨⟨_, rfl⟩, .inl ⟨pre, r, ⟨r, HEE.out, HRw.out⟩, HJw.out⟩⟩
set_option maxHeartbeats 4000000 in
set_option maxRecDepth 100000 in
theorem thing_calls (D : Nat → Prop) (w : World) (q d1 d2 : Nat) (r : Rd) (H : ReaderIs D w q r) (hl : r.rest.length ≤ 140737488355328) (c4 : w.cell? ⟨d1, 0, none⟩ = some (.func (.func 71) #[] #[])) (c5 : w.cell? ⟨d2, 0, none⟩ = some (.pointer (some ⟨q, 0, none⟩))) :
    Calls Tryz.prog 92 #[.pointer (some ⟨q, 0, none⟩), .pointer (some ⟨d1, 0, none⟩), .pointer (some ⟨d2, 0, none⟩)] w fun e w' => ∃ cs, e = .returned (.agg cs.toArray) ∧ RMo (fun b => w.heap.size ≤ b) w' cs (RDmo r).2 ∧ ReaderIs D w' q (RDmo r).1 ∧ Fr (fun k => k = q) w w' := by
  have hql := H.lt
  have H1 := Lib.hid (rd_under H)
  clear H
  go_enter Tryz.func92, Tryz.ntmps92
  go_upto_region 1 with (first
    | ((with_reducible refine wpList_alloc rfl _ rfl _ (zeroMo _) (fun wa ka ca za => ?_)); have KA := Lib.hid ka; have CA := Lib.hid ca; clear ka ca))
  have c4 := (CA.out.cell (World.block_lt_of_cell? _ _ c4)).trans c4
  have c5 := (CA.out.cell (World.block_lt_of_cell? _ _ c5)).trans c5
  have HR5 := Lib.hid (show wa.rangeAt d2 0 [.pointer (some ⟨q, 0, none⟩)] from fun j v hv => by
    match j, hv with
    | 0, hv => cases hv; exact c5)
  have H2 := Lib.hid (H1.out.below CA.out)
  have B2 := Lib.hid CA.out
  have hg2 : w.heap.size < wa.heap.size := by omega
  clear H1 CA c5
  go_wp2_with (first | (with_reducible refine wpList_load_mid rfl _ _ rfl d2 0 rfl [.pointer (some ⟨q, 0, none⟩)] _ HR5.out Tryz.underlying106 rfl (by kernel_rfl) ?_))
  refine (rmo_calls _ wa q r H2.out hl).mono ?_
  rintro e wb ⟨cs, rfl, ox, o1, o2⟩
  have HX := Lib.hid ox
  have HCL := Lib.hid (rep_Mo.len ox)
  have HC1 := Lib.hid (rep_Mo.one ox)
  have hsa : w.heap.size ≤ wa.heap.size := by omega
  clear ox
  have O1 := Lib.hid o1
  have K1 := Lib.hid (KA.out.fr o2 (by omega))
  have FF := Lib.hid ((Fr.ofBelowAll B2.out (Nat.le_refl _) : Fr (fun k => k = q) w wa).trans o2)
  have SZ := Lib.hid (szT HCL.out)
  clear o1 o2 H2 B2 KA c4
  go_wp2_with (first
    | ((with_reducible refine wpList_put rfl _ _ _ rfl w.heap.size cs _ rfl rfl K1.out SZ.out (zeroMo_len.trans HCL.out.symm) HC1.out (fun we ke fe ze => ?_)); have KE := Lib.hid ke; have FE := Lib.hid fe; clear ke fe))
  exact bodyPost_ret (v := .agg cs.toArray) (results_row1 Tryz.results92 _ _ w.heap.size _ _ rfl KE.out Tryz.underlying58 rfl SZ.out) rfl ⟨cs, rfl, rep_Mo.mono (rep_Mo.fr HX.out FE.out (fun b _ h (e : b = w.heap.size) => by have := hg2; omega)) (fun b _ h => by omega), rd_back (O1.out.fr FE.out (by omega) (fun k _ h (e : k = w.heap.size) => by have := h.1; omega)) hql, FF.out.trans' FE.out (fun i hi (e : i = w.heap.size) => by omega)⟩
set_option maxHeartbeats 4000000 in
set_option maxRecDepth 100000 in
theorem items_calls (w : World) (q : Nat) (most : Int) (fo d1 d2 : Nat) :
    Calls Tryz.prog 105 #[.pointer (some ⟨q, 0, none⟩), .int .i64 most, .func (.func fo) #[] #[.pointer (some ⟨d1, 0, none⟩), .pointer (some ⟨d2, 0, none⟩)]] w fun e w' => e = .returned (.func (.func 113) #[] #[.pointer (some ⟨w.heap.size, 0, none⟩), .pointer (some ⟨w.heap.size + 1, 0, none⟩), .pointer (some ⟨w.heap.size + 2, 0, none⟩)]) ∧
      Below w.heap.size w w' ∧ w'.cell? ⟨w.heap.size, 0, none⟩ = some (.pointer (some ⟨q, 0, none⟩)) ∧ w'.cell? ⟨w.heap.size + 1, 0, none⟩ = some (.int .i64 most) ∧ w'.cell? ⟨w.heap.size + 2, 0, none⟩ = some (.func (.func fo) #[] #[.pointer (some ⟨d1, 0, none⟩), .pointer (some ⟨d2, 0, none⟩)]) := by
  go_enter Tryz.func105, Tryz.ntmps105
  go_wp2
  go_ret
  have a1 := (Blk.new w #[.pointer (some ⟨q, 0, none⟩)] 104 _ rfl)
  have a2 := (Blk.new (w.alloc (.cells #[.pointer (some ⟨q, 0, none⟩)] 104)) #[.int .i64 most] 3 _ rfl)
  have a3 := (Blk.new ((w.alloc (.cells #[.pointer (some ⟨q, 0, none⟩)] 104)).alloc (.cells #[.int .i64 most] 3)) #[.func (.func fo) #[] #[.pointer (some ⟨d1, 0, none⟩), .pointer (some ⟨d2, 0, none⟩)]] 162 _ rfl)
  rw [World.size_alloc] at a2
  rw [World.size_alloc, World.size_alloc] at a3
  exact ⟨rfl, (((Below.refl _ _).alloc (Nat.le_refl _) _).alloc (by simp) _).alloc (by simp; omega) _, ((a1.alloc _).alloc _).cell (i := 0) rfl, (a2.alloc _).cell (i := 0) rfl, a3.cell (i := 0) rfl⟩
set_option maxRecDepth 100000 in
theorem elemT : ElemT Tryz.prog 54 58 (.agg (Value.int .u64 0 :: List.replicate 32 (Value.int .u8 0)).toArray) 33 40 :=
  ⟨Tryz.underlying54, ⟨_, rfl, by kernel_rfl, by kernel_rfl, by kernel_rfl⟩, by simp [Value.cells], by decide⟩
/-- what List keeps from round to round -/
def LI (w : World) (q N : Nat) (s : List (Nat × List UInt8) × Rd) (A : World) : Prop :=
  ∃ v css, Blk A w.heap.size [v] 54 ∧ OwnA 33 N 58 A v css ∧ All2 (RMo (fun b => N ≤ b ∧ v.ownBlock ≠ some b) A) css s.1 ∧ Fr (fun k => k = q) w A
theorem LI.fr {w : World} {q N : Nat} {s : List (Nat × List UInt8) × Rd} {A B : World} {S : Nat → Prop} (h : LI w q N s A) (hf : Fr S A B) (h1 : ¬ S w.heap.size) (h2 : ∀ k, N ≤ k → ¬ S k) (h3 : ∀ k, k < w.heap.size → S k → k = q) : LI w q N s B := by
  obtain ⟨v, css, h4, h5, h6, h7⟩ := h
  exact ⟨v, css, h4.fr hf h1, h5.fr hf (fun k hk h => h2 k (h5.lt k hk).1 h), h6.imp fun _ _ h => rep_Mo.fr h hf (fun b _ h e => h2 b h.1 e), h7.trans' hf h3⟩
set_option maxHeartbeats 8000000 in
set_option maxRecDepth 100000 in
theorem list_calls (D : Nat → Prop) (w : World) (q d1 d2 : Nat) (r0 : Rd) (most : Int) (h1 : -9223372036854775808 ≤ most) (h2 : most ≤ 65536) (H : ReaderIs D w q r0) (hl : r0.rest.length ≤ 140737488355328)
    (he1 : w.cell? ⟨d1, 0, none⟩ = some (.func (.func 71) #[] #[])) (he2 : w.cell? ⟨d2, 0, none⟩ = some (.pointer (some ⟨q, 0, none⟩))) (hn4 : d1 ≠ q) (hn5 : d2 ≠ q) (hroom : (r0.room most).2 ≤ 65536) :
    Calls Tryz.prog 91 #[.pointer (some ⟨q, 0, none⟩), .int .i64 most, (.func (.func 92) #[] #[.pointer (some ⟨d1, 0, none⟩), .pointer (some ⟨d2, 0, none⟩)])] w fun e w' => ∃ v, e = .returned v ∧
      Sl 33 RMo (fun b => w.heap.size ≤ b) w' v (lst (items RDmo (r0.room most).2 (r0.room most).1)) ∧ ReaderIs D w' q (items RDmo (r0.room most).2 (r0.room most).1).2 ∧ Fr (fun k => k = q) w w' := by
  have hql := H.lt
  have hdl1 := World.block_lt_of_cell? _ _ he1
  have hdl2 := World.block_lt_of_cell? _ _ he2
  dsimp only at hdl1 hdl2
  have HR := Lib.hid H
  clear H
  refine (callsIn_wide (n := 0)).1 (callsIn_of_wp_marks Tryz.func91 rfl trivial ?_ rfl)
  simp only [Tryz.ntmps91, List.size_toArray, List.length_cons, List.length_nil, Nat.reduceAdd, Nat.reduceSub, Array.replicate_succ, Array.replicate_zero, List.push_toArray, List.append_toArray, List.nil_append, List.cons_append]
  gi_wp2
  refine ⟨trivial, rfl, (callsIn_wide.2 (items_calls _ q most 92 d1 d2)).mono ?_⟩
  rintro e w2 ⟨rfl, g1, c1, c2, c3⟩
  rw [World.size_alloc] at c1 c2 c3
  have hs2 := World.block_lt_of_cell? _ _ c3
  dsimp only at hs2
  have HG := Lib.hid g1
  have hb0 : Below w.heap.size w w2 := ((Below.refl _ w).alloc (Nat.le_refl _) _).trans (g1.mono (by simp))
  have c4 := (hb0.cell hdl1).trans he1
  have c5 := (hb0.cell hdl2).trans he2
  have hbk : Blk w2 w.heap.size [.slice none 0 0] 54 := (Blk.new w #[.slice none 0 0] 54 [.slice none 0 0] rfl).below g1
  have HR2 := Lib.hid ((rd_under HR.out).below hb0)
  have hI0 : LI w q (w2.heap.size + 2) ([], (r0.room most).1) w2 := ⟨_, [], hbk, OwnA.nil _ _ _ _, .nil, Fr.ofBelowAll hb0 (Nat.le_refl _)⟩
  have HI0 := Lib.hid hI0
  clear g1 hb0 hbk hI0
  gi_wp2
  refine rangeSeq2 rfl (enters_of Tryz.func113 (by kernel_rfl) rfl)
    (items_seq RDmo 92 _ (enters_of Tryz.func92 (by kernel_rfl) rfl) (fun k => k < w.heap.size ∧ D k) w2 q (w.heap.size + 1) (w.heap.size + 1 + 1) (w.heap.size + 1 + 2) d1 d2 r0 most h1 (by omega) HR2.out c1 c2 c3 c4 c5 hn4 hn5 (by omega) (by omega) (by omega) 140737488355328 hl rdmo_rest
      (fun A r hr hrl a4 a5 => thing_calls _ A q d1 d2 r hr hrl a4 a5))
    (fun k hk => by omega)
    (fun s A B h hf => ⟨h.1.fr hf (by omega) (fun k hk hd e => by have := hd.1; omega), hf.cell h.2.1 (by show w.heap.size + 1 ≠ _; omega), hf.cell h.2.2.1 (by show w.heap.size + 1 + 1 ≠ _; omega), hf.cell h.2.2.2.1 (by show w.heap.size + 1 + 2 ≠ _; omega), hf.cell h.2.2.2.2.1 (by show d1 ≠ _; omega), hf.cell h.2.2.2.2.2 (by show d2 ≠ _; omega)⟩)
    (fun s s' vs A0 A B h hA hf => by obtain ⟨v, e1, e2, e3, e4, e5, cs, e6, e7⟩ := h; exact ⟨v, e1, e2, e3, e4, e5, cs, e6, rep_Mo.fr e7 hf (fun b _ h e => by omega)⟩)
    (fun s A B h hf => by obtain ⟨r2, h3, h4⟩ := h; exact ⟨r2, h3, h4.fr hf (by omega) (fun k hk hd e => by have := hd.1; omega)⟩) (fun s s' vs A0 A h => by obtain ⟨v, _, _, _, _, rfl, _⟩ := h; rfl)
    (LI w q (w2.heap.size + 2)) (fun _ _ _ => False)
    (fun s A B h hf => h.fr hf (by omega) (fun k hk h => by omega) (fun k hk h => by omega)) (fun _ _ _ _ h _ => h) HI0.out
    (fun vs a A => ∃ (cs : List Value) (g : Nat), vs.getD 1 undef = .agg cs.toArray ∧ (cs.length = 33 ∧ ∀ v ∈ cs, v.oneCell' = true) ∧ Blk A g cs 58 ∧ w2.heap.size + 2 ≤ g ∧ a = { tmps := #[.pointer (some ⟨q, 0, none⟩), .int .i64 most, (.func (.func 92) #[] #[.pointer (some ⟨d1, 0, none⟩), .pointer (some ⟨d2, 0, none⟩)]), undef, undef, undef, .slice none 0 0, .pointer (some ⟨w.heap.size, 0, none⟩), undef, .pointer (some ⟨g, 0, none⟩), .pointer (some ⟨q, 0, none⟩), .int .i64 most, (.func (.func 92) #[] #[.pointer (some ⟨d1, 0, none⟩), .pointer (some ⟨d2, 0, none⟩)]),
      .func (.func 113) #[] #[.pointer (some ⟨w.heap.size + 1, 0, none⟩), .pointer (some ⟨w.heap.size + 1 + 1, 0, none⟩), .pointer (some ⟨w.heap.size + 1 + 2, 0, none⟩)], vs.getD 0 undef, vs.getD 1 undef, undef, undef, undef, undef, undef, undef, undef, undef, undef, undef], defers := [] })
    (fun vs a A B h hf => by obtain ⟨cs, g, e1, e2, e3, e4, e5⟩ := h; exact ⟨cs, g, e1, e2, e3.fr hf (by show ¬ g = _; omega), e4, e5⟩) ?assign ?body ?done ?stop
  case assign =>
    rintro l s s' vs W0 W K ⟨v, _, _, _, _, rfl, hv⟩ hlt hK
    obtain ⟨cs, rfl, hx⟩ := hv
    have HCL := Lib.hid (rep_Mo.len hx)
    have HC1 := Lib.hid (rep_Mo.one hx)
    clear hx
    generalize hact : (Act.mk _ []) = act0
    have hlit : act0 = { tmps := #[.pointer (some ⟨q, 0, none⟩), .int .i64 most, (.func (.func 92) #[] #[.pointer (some ⟨d1, 0, none⟩), .pointer (some ⟨d2, 0, none⟩)]), undef, undef, undef, .slice none 0 0, .pointer (some ⟨w.heap.size, 0, none⟩), undef, undef, .pointer (some ⟨q, 0, none⟩), .int .i64 most, (.func (.func 92) #[] #[.pointer (some ⟨d1, 0, none⟩), .pointer (some ⟨d2, 0, none⟩)]),
      .func (.func 113) #[] #[.pointer (some ⟨w.heap.size + 1, 0, none⟩), .pointer (some ⟨w.heap.size + 1 + 1, 0, none⟩), .pointer (some ⟨w.heap.size + 1 + 2, 0, none⟩)], .int .i64 (s.1.length : Int), .agg cs.toArray, undef, undef, undef, undef, undef, undef, undef, undef, undef, undef], defers := [] } := by rw [← hact]; simp
    subst hlit
    clear hact
    gi_wp2_with (first
      | ((with_reducible refine wpListIn_alloc rfl _ rfl _ (zeroMo _) (fun wa ka ca za => ?_)); have KA := Lib.hid ka; have CA := Lib.hid ca; clear ka ca)
      | ((with_reducible refine wpListIn_put rfl _ _ _ rfl W.heap.size cs _ rfl rfl KA.out (szT HCL.out) (zeroMo_len.trans HCL.out.symm) HC1.out (fun wb kb fb zb => ?_)); have KB := Lib.hid kb; have CB := Lib.hid (CA.out.trans (fb.below CA.out.size (fun k (hk : k = _) => by omega))); clear kb fb))
    exact hK _ _ ⟨cs, W.heap.size, rfl, ⟨HCL.out, HC1.out⟩, KB.out, by omega, rfl⟩ CB.out
  case body =>
    rintro ⟨pre, r⟩ s' vs a A0 A hlt ⟨v, css, hb, ht, hr, hf⟩ hfr ⟨vv, hlen, hat, rfl, he, rfl, cs0, hv, hx⟩ hit ⟨cs, g, e1, ⟨e2, ec⟩, e3, e4, rfl⟩
    dsimp only at hlen hat he hv hx hit ht hr ⊢
    have ecs : cs = cs0 := by subst hv; simpa using e1.symm
    subst ecs
    clear e1 hv
    have hcl : css.length = pre.length := hr.length
    obtain ⟨va, vc, hve, hc1, hc2, _⟩ := ht.form
    rw [hcl] at hve hc1
    subst hve
    have HCS := Lib.hid hcl
    clear hcl
    have hpl : pre.length ≤ 65536 := by omega
    have hsA := hfr.size
    have HR0 := Lib.hid hr
    have HFR := Lib.hid hfr
    have hlt0 : ∀ k, (Value.slice va pre.length vc).ownBlock = some k → k < A0.heap.size := fun k hk => (ht.lt k hk).2
    have HLT := Lib.hid hlt0
    have o1A := ht.fr hfr (fun k hk e => by have := (ht.lt k hk).1; omega)
    have hlb : ∀ k, (Value.slice va pre.length vc).ownBlock = some k → w2.heap.size + 2 ≤ k := fun k hk => (o1A.lt k hk).1
    have hbA := hb.fr hfr (by omega)
    have hfA : Fr (fun k => k = q) w A := hf.trans' hfr (fun k hk h => by omega)
    have cl := hbA.cell (i := 0) rfl
    have HX := Lib.hid hx
    have HCL := Lib.hid e2
    have HC1 := Lib.hid ec
    have HO1 := Lib.hid o1A
    have HIT := Lib.hid hit
    have HFA := Lib.hid hfA
    have HLB := Lib.hid hlb
    have E3 := Lib.hid e3
    have HBA := Lib.hid hbA
    clear hit hfA hf hfr hb hlb o1A ht e3 hx hbA hr hlt0 e2 ec
    gi_wp2_with (first
      | (with_reducible refine wpListIn_load_blk rfl _ _ rfl g cs rfl E3.out _ Tryz.underlying58 rfl (szT HCL.out) ?_)
      | ((with_reducible refine wpListIn_buildSlice1 rfl elemT _ rfl cs rfl HCL.out (by omega) (fun wb kb bb zb => ?_)); have KB := Lib.hid kb; have BB := Lib.hid bb; have HO2 := Lib.hid (HO1.out.below bb); have hb1 := HBA.out.below bb; clear kb bb)
      | (gi_at_builtin; refine wpListIn_append_arr rfl (.tmp 16) (.tmp 18) 54 rfl (w2.heap.size + 2) 58 elemT _ css rfl HO2.out _ [cs] rfl (arr1 KB.out HCL.out) (fun y hy u hu => by rw [List.mem_singleton.1 hy] at hu; exact HC1.out u hu) (by rw [HCS.out, List.length_singleton]; unfold maxLen; omega) (by rw [HCS.out, List.length_singleton]; omega) (by omega) (pre.length + 1) (by rw [HCS.out, List.length_singleton]) ?_; intro a' cap' w3 q1 q2 q3; have hk3 := hb1.fr (Fr.ofGrown q2) (fun e => by have := HLB.out _ e; omega); have cc := hk3.cell (i := 0) rfl; have ff := hk3.free 0))
    have q2' : Fr (fun k => (Value.slice va pre.length vc).ownBlock = some k) A w3 := (Fr.ofBelowAll BB.out (Nat.le_refl _)).trans (Fr.ofGrown q2)
    have hF : Fr (fun k => (Value.slice va pre.length vc).ownBlock = some k ∨ k = w.heap.size) A (w3.setCell ⟨w.heap.size, 0, none⟩ (.slice a' (pre.length + 1) cap')) := (q2'.mono (fun k _ h => .inl h)).setCell (.inr (.inr rfl)) _
    have hll := HLB.out
    have hI := HIT.out
    have hst : ∀ k, ((Value.slice va pre.length vc).ownBlock = some k ∨ k = w.heap.size) → w2.heap.size + 2 ≤ k ∨ k = w.heap.size := fun k h => h.imp_left (hll k)
    refine ⟨Rec.fr hF (by omega) (fun h => by have := hst _ h; omega) (fun h => by have := hst _ h; omega), ⟨_, css ++ [cs], hk3.set 0 _, q1.fr ((Fr.refl (fun k => k = w.heap.size) _).setCell (.inr rfl) _) (fun k hk h => by have := (q1.lt k hk).1; omega), push rep_Mo HR0.out HX.out HFR.out (fun k hk h => by omega) (by omega) HLT.out hF (fun k hk hN h => h.resolve_right (by omega)) (q3.imp_right fun h => ⟨_, h, BB.out.size⟩), HFA.out.trans' hF (fun k hk h => by have := hst _ h; omega)⟩, ?_⟩
    exact ⟨hI.1.fr hF (fun h => by have := hst _ h; omega) (fun k hk hd h => by have := hst _ h; have := hd.1; omega), hF.cell hI.2.1 (fun h => by have := hst _ h; dsimp only at this; omega), hF.cell hI.2.2.1 (fun h => by have := hst _ h; dsimp only at this; omega), hF.cell hI.2.2.2.1 (fun h => by have := hst _ h; dsimp only at this; omega), hF.cell hI.2.2.2.2.1 (fun h => by have := hst _ h; dsimp only at this; omega), hF.cell hI.2.2.2.2.2 (fun h => by have := hst _ h; dsimp only at this; omega)⟩
  case done =>
    rintro ⟨pre, r⟩ W ⟨r2, e1, e2⟩ ⟨v, css, hb, ht, hr, hf⟩ hk
    dsimp only at e1 e2 ht hr ⊢
    have hsl := sl_own rep_Mo ht hr
    obtain ⟨va, vc, rfl, _⟩ := hsl.form
    have HSL := Lib.hid hsl
    clear hr hsl
    have cv := hb.cell (i := 0) rfl
    obtain ⟨xa, xc, x1, x2, x3⟩ := id e2
    have d1' := x1.cell (i := 1) rfl
    have E1 := Lib.hid e1
    have E2 := Lib.hid e2
    have HT := Lib.hid ht
    have HF := Lib.hid hf
    have HK := Lib.hid hk
    clear e1 e2 ht hf hk x1 x2 x3
    by_cases he : r2.e = 0
    · rw [he] at d1'
      gi_wp2
      refine ⟨by simp, .inl ⟨_, _, rfl, run_takeDeferred HK.out, ?_⟩⟩
      exact ⟨_, results_tmp rfl _ _ _, _, rfl, by rw [lst, E1.out, if_neg (by simpa using he)]; exact (HSL.out.fr rep_Mo (Fr.putObj W _ _ rfl) (fun b _ h e => by omega)).mono rep_Mo (fun b _ h => by omega), by rw [E1.out]; exact rd_back (E2.out.fr (Fr.putObj W _ _ rfl) (by omega) (fun k _ h e => by have := h.1; omega)) hql, HF.out.trans' (Fr.putObj W _ _ rfl) (fun k hk e => by omega)⟩
    · have he2 : (r2.e != 0) = true := by simpa using he
      gi_wp2
      refine ⟨by simp, .inl ⟨_, _, rfl, run_takeDeferred HK.out, ?_⟩⟩
      exact ⟨_, results_tmp rfl _ _ _, _, rfl, by rw [lst, E1.out, if_pos (by simpa using he)]; exact Sl.nil _ _ _ _, by rw [E1.out]; exact rd_back (E2.out.fr (Fr.putObj W _ _ rfl) (by omega) (fun k _ h e => by have := h.1; omega)) hql, HF.out.trans' (Fr.putObj W _ _ rfl) (fun k hk e => by omega)⟩
  case stop =>
    intro c s W h
    exact h.elim
/-- a list, read -/
def lsts (r : Rd) (most : Int) : Rd × List (Nat × List UInt8) := ((items RDmo (r.room most).2 (r.room most).1).2, lst (items RDmo (r.room most).2 (r.room most).1))
set_option maxHeartbeats 4000000 in
set_option maxRecDepth 100000 in
theorem things_calls (D : Nat → Prop) (w : World) (q : Nat) (r : Rd) (most : Int) (h1 : -9223372036854775808 ≤ most) (h2 : most ≤ 65536) (H : ReaderIs D w q r) (hl : r.rest.length ≤ 140737488355328) :
    Calls Tryz.prog 70 #[.agg #[.pointer (some ⟨q, 0, none⟩)], .int .i64 most, .func (.func 71) #[] #[]] w fun e w' => ∃ v, e = .returned v ∧ Sl 33 RMo (fun b => w.heap.size ≤ b) w' v (lsts r most).2 ∧ ReaderIs D w' q (lsts r most).1 ∧ Fr (fun k => k = q) w w' := by
  have hql := H.lt
  have b1 := below_alloc w (.cells #[.pointer (some ⟨q, 0, none⟩)] 106)
  have b2 := b1.alloc (by simp) (.cells #[.func (.func 71) #[] #[]] 131)
  have H1 := Lib.hid ((rd_under H).below b2)
  have k1 := ((Blk.new w #[.pointer (some ⟨q, 0, none⟩)] 106 _ rfl).alloc (.cells #[.func (.func 71) #[] #[]] 131)).cell (i := 0) rfl
  have k2 := (Blk.new (w.alloc (.cells #[.pointer (some ⟨q, 0, none⟩)] 106)) #[.func (.func 71) #[] #[]] 131 _ rfl).cell (i := 0) rfl
  rw [World.size_alloc] at k2
  have BB := Lib.hid b2
  have hz : w.heap.size + 2 = ((w.alloc (.cells #[.pointer (some ⟨q, 0, none⟩)] 106)).alloc (.cells #[.func (.func 71) #[] #[]] 131)).heap.size := by simp
  have HRS := Lib.hid (room_small r most h2)
  clear H b1 b2
  go_enter Tryz.func70, Tryz.ntmps70
  go_upto_region 1 with fail
  generalize (w.alloc (.cells #[.pointer (some ⟨q, 0, none⟩)] 106)).alloc (.cells #[.func (.func 71) #[] #[]] 131) = w2 at *
  go_wp2_with fail
  refine (list_calls _ w2 q (w.heap.size + 1) w.heap.size r most h1 h2 H1.out hl k2 k1 (by omega) (by omega) HRS.out).mono ?_
  rintro e w3 ⟨v, rfl, o1, o2, o3⟩
  obtain ⟨va, vc, rfl, _⟩ := o1.form
  have O1 := Lib.hid (o1.mono rep_Mo (E := fun b => w.heap.size ≤ b) (fun b _ h => by omega))
  have O2 := Lib.hid (rd_back o2 hql)
  have O3 := Lib.hid ((Fr.ofBelowAll BB.out (Nat.le_refl _) : Fr (fun k => k = q) w w2).trans o3)
  clear o1 o2 o3 k1 k2 H1 BB
  go_wp2
  go_ret
  exact ⟨_, rfl, O1.out, O2.out, O3.out⟩
end Go.Proofs.YtmenchnjajpkmaaGreatDoor.RmT
end

section
namespace Go.Proofs.YtmenchnjajpkmaaGreatDoor.Rm
open Go Go.RowKit Mem Codec CodecR Ops Reps WtIt Arr Rr Wr Wm
set_option linter.unusedVariables false
set_option linter.unusedSimpArgs false

set_option maxRecDepth 100000 in
theorem structMt : StructT Tryz.prog 56 [1, 1] := ⟨_, _, _, rfl, Tryz.underlying56, rfl, by kernel_rfl, by kernel_rfl⟩
theorem zeroMt (w : World) : (zeroValue 56).run Tryz.prog w = .ok (.agg [Value.int .u64 0, .slice none 0 0].toArray) w := by kernel_rfl
theorem zeroMt_len : [Value.int .u64 0, .slice none 0 0].length = 2 := rfl
theorem zeroMt_one : ∀ v ∈ [Value.int .u64 0, .slice none 0 0], v.oneCell' = true := by
  intro u hu
  simp only [List.mem_cons, List.not_mem_nil, or_false] at hu
  rcases hu with rfl | rfl <;> rfl
theorem lsts_rest (r : Rd) (most : Int) : (RmT.lsts r most).1.rest.length ≤ r.rest.length := Nat.le_trans (items_rest rdmo_rest _ _) (Rd.room_len r most)
/-- a transaction, read -/
def RDmt (r : Rd) : Rd × XMt := seq (fun r : Rd => r.num 8) (fun r : Rd => RmT.lsts r 16) r
theorem zero_Mt (D : Nat → Prop) (w : World) : RMt D w [Value.int .u64 0, .slice none 0 0] (0, []) := ⟨[_], [_], rfl, ⟨by omega, rfl⟩, _, rfl, Sl.nil _ _ _ _⟩
set_option maxHeartbeats 8000000 in
set_option maxRecDepth 100000 in
theorem rmt_calls (D : Nat → Prop) (w : World) (q : Nat) (r : Rd) (H : ReaderIs D w q r) (hl : r.rest.length ≤ 140737488355328) :
    Calls Tryz.prog 47 #[.agg #[.pointer (some ⟨q, 0, none⟩)]] w (GotD RMt D w q (RDmt r)) := by
  have hql := H.lt
  have H0 := Lib.hid ((rd_under H).below (below_alloc w (.cells #[.pointer (some ⟨q, 0, none⟩)] 106)))
  have HB := Lib.hid (Blk.new w #[.pointer (some ⟨q, 0, none⟩)] 106 _ rfl)
  have HA := Lib.hid (below_alloc w (.cells #[.pointer (some ⟨q, 0, none⟩)] 106))
  have hz : w.heap.size + 1 = (w.alloc (.cells #[.pointer (some ⟨q, 0, none⟩)] 106)).heap.size := by simp
  have HL0 := Lib.hid hl
  obtain ⟨y1, hy1⟩ : ∃ y, ((r).num 8).2 = y := ⟨_, rfl⟩
  obtain ⟨r1, hr1⟩ : ∃ y, ((r).num 8).1 = y := ⟨_, rfl⟩
  have HC1 := Lib.hid (fun D w h => CodecR.long_calls D w q r h)
  have HW1 := Lib.hid (show y1 < 18446744073709551616 by rw [← hy1]; exact num_lt _ _)
  have HL1 := Lib.hid (show r1.rest.length ≤ 140737488355328 by rw [← hr1]; exact Nat.le_trans (num_rest _ _) HL0.out)
  rw [hr1, hy1] at HC1
  obtain ⟨y2, hy2⟩ : ∃ y, ((fun r : Rd => RmT.lsts r 16) r1).2 = y := ⟨_, rfl⟩
  obtain ⟨r2, hr2⟩ : ∃ y, ((fun r : Rd => RmT.lsts r 16) r1).1 = y := ⟨_, rfl⟩
  have HC2 := Lib.hid (fun D w h => RmT.things_calls D w q r1 16 (by omega) (by omega) h HL1.out)
  have HL2 := Lib.hid (show r2.rest.length ≤ 140737488355328 by rw [← hr2]; exact Nat.le_trans (lsts_rest _ _) HL1.out)
  rw [hr2, hy2] at HC2
  have HRD := Lib.hid (show RDmt r = (r2, y1, y2) by simp only [RDmt, seq, hr1, hy1, hr2, hy2])
  rw [HRD.out]
  clear H hl hr1 hy1 hr2 hy2
  go_enter Tryz.func47, Tryz.ntmps47
  go_upto_region 1 with (first
    | ((with_reducible refine wpList_alloc rfl _ rfl _ (zeroMt _) (fun wb ka ca za => ?_)); have KA := Lib.hid ka; have CA := Lib.hid ca; clear ka ca))
  generalize (w.alloc (.cells #[.pointer (some ⟨q, 0, none⟩)] 106)) = wA at *
  have O0 := Lib.hid (H0.out.below CA.out)
  have HB2 := Lib.hid (HB.out.below CA.out)
  have B2 := Lib.hid (HA.out.trans (CA.out.mono (by omega)))
  have hg0 : w.heap.size < wA.heap.size := by omega
  have hg2 : wA.heap.size < wb.heap.size := by omega
  generalize wA.heap.size = g1 at *
  clear H0 HB HA CA
  refine wp_region_held_drew (S := (fun w' => Blk w' w.heap.size [.pointer (some ⟨q, 0, none⟩)] 106 ∧ (∃ l : List Value, l.length = 2 ∧ Blk w' g1 l 56) ∧ Fr (fun k => k = q) w w' ∧ wb.heap.size ≤ w'.heap.size)) (by kernel_rfl) ⟨HB2.out.drew, ⟨_, zeroMt_len, KA.out.drew⟩, (Fr.ofBelowAll B2.out (Nat.le_refl _)).drew, Nat.le_refl _⟩ (fun hHeld => ?_)
  refine wpAnyH_take (i := 0) (oi := ⟨_, _, _, _, _, _⟩) (v := ?_) rfl (by kernel_rfl) (by kernel_rfl) (by kernel_rfl) (fun _ _ _ h => h) (Or.inl ⟨by rfl, ?_⟩) (by assumption) ?_
  rotate_left
  · intro w hSw; go_simp; try (with_reducible rfl)
  try simp only [Act.put, List.setIfInBounds_toArray, List.set_cons_zero, List.set_cons_succ]
  refine wpAnyH_take (i := 1) (oi := ⟨_, _, _, _, _, _⟩) (v := .pointer (some ⟨q, 0, none⟩)) rfl (by kernel_rfl) (by kernel_rfl) (by kernel_rfl) (fun _ _ _ h => h) (Or.inl ⟨by rfl, fun wS hSw => (by have hc := hSw.1.cell (i := 0) rfl; go_simp; try (with_reducible rfl))⟩) (by assumption) ?_
  try simp only [Act.put, List.setIfInBounds_toArray, List.set_cons_zero, List.set_cons_succ]
  refine wpAnyH_take (i := 3) (oi := ⟨_, _, _, _, _, _⟩) rfl (by kernel_rfl) (by kernel_rfl) (by kernel_rfl) (fun _ _ _ h => h) (yieldsIf_load_mid (by rfl) _ _ rfl w.heap.size 0 rfl [.pointer (some ⟨q, 0, none⟩)] _ (fun _ h => blk_range h.1) Tryz.underlying106 rfl (by kernel_rfl)) (by assumption) ?_
  try simp only [Act.put, List.setIfInBounds_toArray, List.set_cons_zero, List.set_cons_succ]
  refine wpAnyH_ready (rs := [2]) (by kernel_rfl) (by simp) ?_
  refine AllReadyH.cons (o := ⟨_, _, _, _, _, _⟩) rfl (fun K hK => ?_) AllReadyH.nil
  go_simp
  have kk1 := hHeld.1.lt
  have kk2 : g1 < _ := hHeld.2.1.choose_spec.2.lt
  have HH1 := hHeld.2.2.2
  refine (HC1.out _ wb.drew O0.out).mono ?_
  rintro e x1 ⟨rfl, o1, o2⟩
  have hsx1 := o2.size
  refine hK.out _ _ (by exact ⟨hHeld.1.fr o2 (by omega), hHeld.2.1.elim fun l h => ⟨l, h.1, h.2.fr o2 (by omega)⟩, hHeld.2.2.1.trans o2, Nat.le_trans hHeld.2.2.2 o2.size⟩) (fun hHeld => ?_)
  have O1 := Lib.hid o1
  clear o1 o2
  try simp only [Act.put, List.setIfInBounds_toArray, List.set_cons_zero, List.set_cons_succ]
  clear hK
  refine wpAnyH_ready (rs := [4]) (by kernel_rfl) (by simp) ?_
  refine AllReadyH.cons (o := ⟨_, _, _, _, _, _⟩) rfl (fun K hK => ?_) AllReadyH.nil
  go_simp
  have kk1 := hHeld.1.lt
  have kk2 : g1 < _ := hHeld.2.1.choose_spec.2.lt
  have HH2 := hHeld.2.2.2
  refine (HC2.out _ x1 O1.out).mono ?_
  rintro e x2 ⟨v2, rfl, ox, o1, o2⟩
  have hsx2 := o2.size
  refine hK.out _ _ (by exact ⟨hHeld.1.fr o2 (by omega), hHeld.2.1.elim fun l h => ⟨l, h.1, h.2.fr o2 (by omega)⟩, hHeld.2.2.1.trans o2, Nat.le_trans hHeld.2.2.2 o2.size⟩) (fun hHeld => ?_)
  have O2 := Lib.hid o1
  have GX2 := Lib.hid (show (RSl 33 RMo) (fun b => x1.heap.size ≤ b) x2 [v2] y2 from ⟨_, rfl, ox⟩)
  have HV2 := Lib.hid ((rep_rsl rep_Mo).one GX2.out v2 (by simp))
  clear o1 o2 ox
  try simp only [Act.put, List.setIfInBounds_toArray, List.set_cons_zero, List.set_cons_succ]
  clear hK
  have HCE := Lib.hid (show ([Value.int .u64 (y1 : Int)] ++ ([v2]) : List Value).length = 2 by rfl)
  refine wpAnyH_take (i := 5) (oi := ⟨_, _, _, _, _, _⟩) rfl (by kernel_rfl) (by kernel_rfl) (by kernel_rfl) (fun _ _ _ h => h) (yieldsIf_build (by rfl) structMt [(0, _), (1, _)] rfl [.int .u64 (y1 : Int), v2] rfl (by simp only [List.map_cons, List.map_nil, (show v2.cells = #[v2] from cells_one HV2.out)]; simp [Value.cells]) (([Value.int .u64 (y1 : Int)] ++ ([v2])).toArray) (by simp only [List.flatMap_cons, List.flatMap_nil, (show v2.cells = #[v2] from cells_one HV2.out)]; simp [Value.cells])) (by assumption) ?_
  try simp only [Act.put, List.setIfInBounds_toArray, List.set_cons_zero, List.set_cons_succ]
  refine wpAnyH_ready (rs := [6]) (by kernel_rfl) (by simp) ?_
  refine AllReadyH.cons (o := ⟨_, _, _, _, _, _⟩) rfl (fun K hK => ?_) AllReadyH.nil
  rw [if_pos (by rfl)]
  obtain ⟨l0, hl0, hb0⟩ := hHeld.2.1
  have HRR := Lib.hid (show ∀ W : World, (RSl 33 RMo) (fun b => w.heap.size ≤ b ∧ b ≠ g1) W [v2] y2 →  RMt (fun b => w.heap.size ≤ b ∧ b ≠ g1) W ([Value.int .u64 (y1 : Int)] ++ ([v2])) (y1, y2) from fun W GG2 => ⟨_, _, rfl, ⟨HW1.out, rfl⟩, GG2⟩)
  have HRF := Lib.hid (HRR.out _ ((rep_rsl rep_Mo).mono GX2.out (fun b _ h => by have := hg2; omega)))
  have HSZ := Lib.hid (show (Tryz.prog.info? 56).map (·.size) = some ([Value.int .u64 (y1 : Int)] ++ ([v2]) : List Value).length by rw [HCE.out]; kernel_rfl)
  refine wp_put _ _ _ rfl g1 ([Value.int .u64 (y1 : Int)] ++ ([v2])) l0 rfl rfl hb0 HSZ.out (hl0.trans HCE.out.symm) (rep_Mt.one HRF.out) (fun we ke fe ze => ?_)
  refine hK.out _ _ (by exact ⟨hHeld.1.fr fe (by omega), ⟨_, HCE.out, ke⟩, hHeld.2.2.1.trans' fe (fun i hi (e : i = g1) => by omega), by have := hHeld.2.2.2; omega⟩) (fun hHeld => ?_)
  have KE := Lib.hid ke
  have FE := Lib.hid fe
  clear ke fe
  clear hK
  refine wpAnyH_done (by kernel_rfl) ?_ _
  have FF := Lib.hid hHeld.2.2.1
  clear hHeld
  go_wp2
  exact bodyPost_ret (v := .agg ([Value.int .u64 (y1 : Int)] ++ ([v2])).toArray) (results_row1 Tryz.results47 _ _ g1 _ _ rfl KE.out Tryz.underlying56 rfl HSZ.out) rfl ⟨_, rfl, rep_Mt.mono (rep_Mt.fr HRF.out FE.out (fun b _ h (e : b = g1) => h.2 e)) (fun b _ h => h.1), rd_back (O2.out.fr FE.out (by omega) (fun k _ h (e : k = g1) => by have := h.1; omega)) hql, FF.out⟩
set_option maxHeartbeats 8000000 in
set_option maxRecDepth 100000 in
theorem read_mt_calls (D : Nat → Prop) (w : World) (v : Value) (l : List UInt8) (hB : Byt D w v l) (hl : l.length ≤ 140737488355328) :
    Calls Tryz.prog 46 #[v, .func (.func 47) #[] #[]] w (GotT RMt w (got RDmt ((0 : Nat), ([] : List (Nat × List UInt8))) l)) := by
  have HB := Lib.hid hB
  obtain ⟨s, hs⟩ : ∃ s, RDmt ⟨l, 0⟩ = s := ⟨_, rfl⟩
  have HG := Lib.hid (show (s.1.fin = 0 → got RDmt ((0 : Nat), ([] : List (Nat × List UInt8))) l = (s.2, 0)) ∧ (¬ s.1.fin = 0 → got RDmt ((0 : Nat), ([] : List (Nat × List UInt8))) l = (((0 : Nat), ([] : List (Nat × List UInt8))), 120)) from ⟨fun h => by rw [got_yes (by rw [hs]; exact h), hs], fun h => by rw [got_no (by rw [hs]; exact h)]⟩)
  have HC := Lib.hid (fun D' w' q' h' => rmt_calls D' w' q' ⟨l, 0⟩ h' hl)
  rw [hs] at HC
  have hszT : ∀ cs : List Value, cs.length = 2 → (Tryz.prog.info? 56).map (·.size) = some cs.length := fun cs h => by rw [h]; kernel_rfl
  clear hB hs
  go_enter Tryz.func46, Tryz.ntmps46
  go_upto_region 1 with (first
    | ((with_reducible refine wpList_alloc rfl _ rfl _ (zeroMt _) (fun wa ka ca za => ?_)); have KA := Lib.hid ka; have CA := Lib.hid ca; clear ka ca))
  go_wp2_with fail
  refine (CodecR.read_calls D wa v l (HB.out.below CA.out) hl).mono ?_
  rintro e wb ⟨q, rfl, hq, o1, o2⟩
  have hql := o1.lt
  have O1 := Lib.hid o1
  have KA1 := Lib.hid (KA.out.below o2)
  have B1 := Lib.hid (CA.out.trans (o2.mono (by omega)))
  have hsb := o2.size
  clear o1 o2 KA CA
  go_upto_region 2 with (first
    | ((with_reducible refine wpList_alloc rfl _ rfl _ (zeroR _) (fun wc kc cc zc => ?_)); have KC := Lib.hid kc; have CC := Lib.hid cc; clear kc cc)
    | ((with_reducible refine wpList_put rfl _ _ _ rfl wb.heap.size [.pointer (some ⟨q, 0, none⟩)] _ rfl rfl KC.out (by kernel_rfl) rfl (one_ptr q) (fun wd kd fd zd => ?_)); have KD := Lib.hid kd; have CD := Lib.hid (CC.out.trans (fd.below CC.out.size (fun k (hk : k = _) => by omega))); clear kd fd))
  have O2 := Lib.hid (O1.out.below CD.out)
  have KA2 := Lib.hid (KA1.out.below CD.out)
  have B2 := Lib.hid (B1.out.trans (CD.out.mono (by omega)))
  have hsd := CD.out.size
  have hgr : wb.heap.size < wd.heap.size := KD.out.lt
  clear O1 KA1 B1 KC CC CD
  generalize wb.heap.size = gr at *
  go_wp2_with (first | (with_reducible refine wpList_load_blk rfl _ _ rfl gr [.pointer (some ⟨q, 0, none⟩)] rfl KD.out _ Tryz.underlying106 rfl (by kernel_rfl) ?_))
  refine (HC.out _ wd q O2.out).mono ?_
  rintro e we ⟨cs, rfl, ox, o2, o3⟩
  have HX := Lib.hid ox
  have HCL := Lib.hid (rep_Mt.len ox)
  have HC1 := Lib.hid (rep_Mt.one ox)
  have HSZ := Lib.hid (hszT cs (rep_Mt.len ox))
  have hse := o3.size
  have O3 := Lib.hid o2
  have KA3 := Lib.hid (KA2.out.fr o3 (by omega))
  have KD3 := Lib.hid (KD.out.fr o3 (by omega))
  have B3 := Lib.hid (B2.out.trans (o3.below (by omega) (fun k (hk : k = q) => by omega)))
  clear ox o2 o3 O2 KA2 KD B2 HC
  go_upto_region 3 with (first
    | ((with_reducible refine wpList_alloc rfl _ rfl _ (zeroMt _) (fun wf kf cf zf => ?_)); have KF := Lib.hid kf; have CF := Lib.hid cf; clear kf cf)
    | ((with_reducible refine wpList_put rfl _ _ _ rfl we.heap.size cs _ rfl rfl KF.out HSZ.out (zeroMt_len.trans HCL.out.symm) HC1.out (fun wg kg fg zg => ?_)); have KG := Lib.hid kg; have CG := Lib.hid (CF.out.trans (fg.below CF.out.size (fun k (hk : k = _) => by omega))); clear kg fg))
  have O5 := Lib.hid (O3.out.below CG.out)
  have HX5 := Lib.hid (rep_Mt.below HX.out CG.out)
  have KA5 := Lib.hid (KA3.out.below CG.out)
  have KD5 := Lib.hid (KD3.out.below CG.out)
  have B5 := Lib.hid (B3.out.trans (CG.out.mono (by omega)))
  have hsg := CG.out.size
  have c0 := KD5.out.cell (i := 0) rfl
  clear O3 HX KA3 KD3 B3 KF CF CG
  go_wp2_with fail
  refine (CodecR.end_calls _ wg q _ O5.out).mono ?_
  rintro e wh ⟨rfl, rfl⟩
  clear c0 O5
  by_cases hf : s.1.fin = 0
  · have hf2 : (s.1.fin != 0) = false := by simp [hf]
    have HG2 := Lib.hid (HG.out.1 hf)
    clear hf HG
    go_wp2_with (first
      | (with_reducible refine wpList_load_blk rfl _ _ rfl we.heap.size cs rfl KG.out _ Tryz.underlying56 rfl HSZ.out ?_)
      | ((with_reducible refine wpList_put rfl _ _ _ rfl w.heap.size cs _ rfl rfl KA5.out HSZ.out (zeroMt_len.trans HCL.out.symm) HC1.out (fun wi ki fi zi => ?_)); have KI := Lib.hid ki; have FI := Lib.hid fi; clear ki fi))
    refine bodyPost_ret (v := .tuple #[.agg cs.toArray, .int .i64 0]) (results_row2 Tryz.results46 _ _ w.heap.size _ _ rfl KI.out Tryz.underlying56 rfl HSZ.out _ rfl) rfl ?_
    rw [HG2.out]
    exact ⟨cs, rfl, rep_Mt.mono (rep_Mt.fr HX5.out FI.out (fun b _ h (e : b = w.heap.size) => by omega)) (fun b _ h => by omega), B5.out.trans (FI.out.below B5.out.size (fun k (hk : k = w.heap.size) => by omega))⟩
  · have hf2 : (s.1.fin != 0) = true := by simpa using hf
    have HG2 := Lib.hid (HG.out.2 hf)
    have HZL := Lib.hid (hszT ([Value.int .u64 0, .slice none 0 0]) zeroMt_len)
    clear hf HG
    go_wp2_with (first
      | ((with_reducible refine wpList_alloc rfl _ rfl _ (zeroMt _) (fun wf' kf cf zf => ?_)); have KF := Lib.hid kf; have CF := Lib.hid cf; have KA6 := Lib.hid (KA5.out.below cf); clear kf cf)
      | (with_reducible refine wpList_load_blk rfl _ _ rfl wg.heap.size ([Value.int .u64 0, .slice none 0 0]) rfl KF.out _ Tryz.underlying56 rfl HZL.out ?_)
      | ((with_reducible refine wpList_put rfl _ _ _ rfl w.heap.size ([Value.int .u64 0, .slice none 0 0]) _ rfl rfl KA6.out HZL.out rfl zeroMt_one (fun wi ki fi zi => ?_)); have KI := Lib.hid ki; have FI := Lib.hid fi; clear ki fi))
    refine bodyPost_ret (v := .tuple #[.agg ([Value.int .u64 0, .slice none 0 0]).toArray, .int .i64 120]) (results_row2 Tryz.results46 _ _ w.heap.size _ _ rfl KI.out Tryz.underlying56 rfl HZL.out _ rfl) rfl ?_
    rw [HG2.out]
    exact ⟨_, rfl, zero_Mt _ _, (B5.out.trans (CF.out.mono B5.out.size)).trans (FI.out.below (by have := B5.out.size; have := CF.out.size; omega) (fun k (hk : k = w.heap.size) => by omega))⟩
set_option maxHeartbeats 4000000 in
set_option maxRecDepth 100000 in
theorem ReadMainTx_calls (D : Nat → Prop) (w : World) (v : Value) (l : List UInt8) (hB : Byt D w v l) (hl : l.length ≤ 140737488355328) :
    Calls Tryz.prog 26 #[v] w (GotT RMt w (got RDmt ((0 : Nat), ([] : List (Nat × List UInt8))) l)) := by
  have HB := Lib.hid hB
  clear hB
  obtain ⟨g, hg⟩ : ∃ g, got RDmt ((0 : Nat), ([] : List (Nat × List UInt8))) l = g := ⟨_, rfl⟩
  have HR := Lib.hid (fun w' h => read_mt_calls D w' v l h hl)
  rw [hg] at HR ⊢
  have hszT : ∀ cs : List Value, cs.length = 2 → (Tryz.prog.info? 56).map (·.size) = some cs.length := fun cs h => by rw [h]; kernel_rfl
  clear hg
  go_enter Tryz.func26, Tryz.ntmps26
  go_upto_region 1 with (first
    | ((with_reducible refine wpList_alloc rfl _ rfl _ (zeroMt _) (fun wa ka ca za => ?_)); have KA := Lib.hid ka; have CA := Lib.hid ca; clear ka ca))
  go_wp2_with fail
  refine (HR.out wa (HB.out.below CA.out)).mono ?_
  rintro e wb ⟨cs, rfl, ox, o2⟩
  have HX := Lib.hid ox
  have HCL := Lib.hid (rep_Mt.len ox)
  have HC1 := Lib.hid (rep_Mt.one ox)
  have HSZ := Lib.hid (hszT cs (rep_Mt.len ox))
  have B1 := Lib.hid (CA.out.trans (o2.mono (by omega)))
  have KA1 := Lib.hid (KA.out.below o2)
  clear ox o2 KA HR HB
  go_wp2_with (first
    | ((with_reducible refine wpList_put rfl _ _ _ rfl w.heap.size cs _ rfl rfl KA1.out HSZ.out (zeroMt_len.trans HCL.out.symm) HC1.out (fun wi ki fi zi => ?_)); have KI := Lib.hid ki; have FI := Lib.hid fi; clear ki fi))
  exact bodyPost_ret (v := .tuple #[.agg cs.toArray, .int .i64 g.2]) (results_row2 Tryz.results26 _ _ w.heap.size _ _ rfl KI.out Tryz.underlying56 rfl HSZ.out _ rfl) rfl ⟨cs, rfl, rep_Mt.mono (rep_Mt.fr HX.out FI.out (fun b _ h (e : b = w.heap.size) => by omega)) (fun b _ h => by omega), B1.out.trans (FI.out.below (by have := B1.out.size; omega) (fun k (hk : k = w.heap.size) => by omega))⟩
end Go.Proofs.YtmenchnjajpkmaaGreatDoor.Rm
end

section
namespace Go.Proofs.YtmenchnjajpkmaaGreatDoor.Pv
open Go Codec Reps Wt WtIt Wr Wm Rm Rr
set_option linter.unusedVariables false

theorem take_full (a R : List UInt8) (n : Nat) (h : a.length = n) : Rd.take ⟨a ++ R, 0⟩ n = (⟨R, 0⟩, a) := by
  subst h
  unfold Rd.take
  rw [if_neg (by simp), if_neg (by simp)]
  simp
theorem num_full (v k : Nat) (R : List UInt8) (hk : k ≤ 8) (hv : v < 256 ^ k) : Rd.num ⟨Codec.num v k ++ R, 0⟩ k = (⟨R, 0⟩, v) := by
  unfold Rd.num
  rw [take_full _ _ _ (num_length v k)]
  dsimp only
  rw [said_num k v hk, Nat.mod_eq_of_lt hv]
theorem num1_cons (c : UInt8) (R : List UInt8) : Rd.num ⟨c :: R, 0⟩ 1 = (⟨R, 0⟩, c.toNat) := by
  have := num_full c.toNat 1 R (by omega) (by have := c.toNat_lt; omega)
  have e : Codec.num c.toNat 1 = [c] := by simp [Codec.num]
  rw [e] at this; exact this
theorem more_low (s : Rd) (c : Nat) (h : c < 253) : s.more c = (s, c, 0) := by
  unfold Rd.more; rw [if_neg (by omega), if_neg (by omega), if_neg (by omega)]
theorem more_253 (s : Rd) : s.more 253 = ((s.num 2).1, (s.num 2).2, 253) := by
  unfold Rd.more; rw [if_pos rfl]
theorem more_254 (s : Rd) : s.more 254 = ((s.num 4).1, (s.num 4).2, 65536) := by
  unfold Rd.more; rw [if_neg (by decide), if_pos rfl]
theorem more_255 (s : Rd) : s.more 255 = ((s.num 8).1, (s.num 8).2, 4294967296) := by
  unfold Rd.more; rw [if_neg (by decide), if_neg (by decide), if_pos rfl]
theorem var_full (v most : Nat) (R : List UInt8) (hv : v < 18446744073709551616) (hm : v ≤ most) : Rd.var ⟨Codec.var v ++ R, 0⟩ most = (⟨R, 0⟩, v) := by
  unfold Codec.var
  by_cases h1 : v < 253
  · rw [if_pos h1]
    unfold Rd.var
    rw [List.singleton_append, num1_cons]
    dsimp only
    have e : (UInt8.ofNat v).toNat = v := by simp; omega
    rw [e]
    rw [more_low _ _ h1]
    dsimp only
    rw [if_neg (by decide), if_neg (by omega), if_neg (by omega)]
  · rw [if_neg h1]
    by_cases h2 : v < 65536
    · rw [if_pos h2]
      unfold Rd.var
      rw [List.cons_append, num1_cons]
      dsimp only
      rw [show (253 : UInt8).toNat = 253 from rfl]
      rw [more_253, num_full v 2 R (by omega) (by omega)]
      dsimp only
      rw [if_neg (by decide), if_neg (by omega), if_neg (by omega)]
    · rw [if_neg h2]
      by_cases h3 : v < 4294967296
      · rw [if_pos h3]
        unfold Rd.var
        rw [List.cons_append, num1_cons]
        dsimp only
        rw [show (254 : UInt8).toNat = 254 from rfl]
        rw [more_254, num_full v 4 R (by omega) (by omega)]
        dsimp only
        rw [if_neg (by decide), if_neg (by omega), if_neg (by omega)]
      · rw [if_neg h3]
        unfold Rd.var
        rw [List.cons_append, num1_cons]
        dsimp only
        rw [show (255 : UInt8).toNat = 255 from rfl]
        rw [more_255, num_full v 8 R (by omega) (by omega)]
        dsimp only
        rw [if_neg (by decide), if_neg (by omega), if_neg (by omega)]
theorem room_eq (r : Rd) (n : Nat) : r.room (n : Int) = r.var n := by
  unfold Rd.room
  rw [if_neg (by omega), Int.toNat_natCast]
theorem raw_eq (r : Rd) (n : Nat) : r.raw (n : Int) = r.take n := by
  unfold Rd.raw
  rw [if_neg (by omega), Int.toNat_natCast]
theorem dig_full (d R : List UInt8) (h : d.length = 32) : Rd.dig ⟨d ++ R, 0⟩ = (⟨R, 0⟩, d) := by
  unfold Rd.dig
  rw [show ((32 : Int)) = ((32 : Nat) : Int) from rfl, raw_eq, take_full d R 32 h]
  simp [h]
theorem mo_full (x : XMo) (hv : x.1 < 18446744073709551616) (hd : x.2.length = 32) (R : List UInt8) : RDmo ⟨encMo x ++ R, 0⟩ = (⟨R, 0⟩, x) := by
  unfold RDmo seq encMo
  rw [List.append_assoc]
  simp only [num_full x.1 8 (x.2 ++ R) (by omega) (by simpa using hv), dig_full x.2 R hd]
theorem items_full {α : Type} (one : Rd → Rd × α) (enc : α → List UInt8) : ∀ (xs : List α) (R : List UInt8), (∀ x ∈ xs, ∀ R, one ⟨enc x ++ R, 0⟩ = (⟨R, 0⟩, x)) → items one xs.length ⟨xs.flatMap enc ++ R, 0⟩ = (xs, ⟨R, 0⟩)
  | [], R, _ => by simp [items]
  | x :: xs, R, h => by
    have ih := items_full one enc xs R (fun y hy => h y (List.mem_cons_of_mem _ hy))
    have h1 := h x List.mem_cons_self (xs.flatMap enc ++ R)
    simp only [List.length_cons, List.flatMap_cons, List.append_assoc, items, h1, ih]
    simp
theorem mt_full (x : XMt) (hv : x.1 < 18446744073709551616) (ho : ∀ o ∈ x.2, o.1 < 18446744073709551616 ∧ o.2.length = 32) (hl : x.2.length ≤ 16) : RDmt ⟨encMt x, 0⟩ = (⟨[], 0⟩, x) := by
  have h2 := items_full RDmo encMo x.2 [] (fun o h R => mo_full o (ho o h).1 (ho o h).2 R)
  rw [List.append_nil] at h2
  have h3 : RmT.lsts ⟨var x.2.length ++ x.2.flatMap encMo, 0⟩ 16 = (⟨[], 0⟩, x.2) := by
    unfold RmT.lsts
    rw [show ((16 : Int)) = ((16 : Nat) : Int) from rfl, room_eq, var_full x.2.length 16 _ (by omega) hl]
    simp only [h2, lst]
    simp
  unfold RDmt seq encMt
  simp only [num_full x.1 8 (var x.2.length ++ x.2.flatMap encMo) (by omega) (by simpa using hv), h3]
theorem got_full (x : XMt) (x0 : XMt) (hv : x.1 < 18446744073709551616) (ho : ∀ o ∈ x.2, o.1 < 18446744073709551616 ∧ o.2.length = 32) (hl : x.2.length ≤ 16) : got RDmt x0 (encMt x) = (x, 0) := by
  unfold got
  rw [mt_full x hv ho hl]
  simp [Rd.fin]
end Go.Proofs.YtmenchnjajpkmaaGreatDoor.Pv
end

section
namespace Go.Proofs.YtmenchnjajpkmaaGreatDoor.Pv
open Go Codec Mh
set_option linter.unusedVariables false

/-- each lies on the one ahead of it -/
def Chain (hs : List Hd) : Prop := ∀ (k : Nat) (g h : Hd), hs[k]? = some g → hs[k + 1]? = some h → h.prev = mainId g ∧ h.height = g.height + 1
theorem Chain.one (h : Hd) : Chain [h] := fun k a b h1 h2 => by simp at h2
theorem Chain.snoc {hs : List Hd} {g h : Hd} (c : Chain (hs ++ [g])) (hp : h.prev = mainId g) (hh : h.height = g.height + 1) : Chain (hs ++ [g] ++ [h]) := by
  intro k a b h1 h2
  by_cases hk : k + 1 < (hs ++ [g]).length
  · rw [List.getElem?_append_left hk] at h2
    rw [List.getElem?_append_left (by omega)] at h1
    exact c k a b h1 h2
  · have hl : k + 1 = (hs ++ [g]).length := by
      have := (List.getElem?_eq_some_iff.1 h2).1
      simp at this hk ⊢; omega
    rw [hl, List.getElem?_append_right (Nat.le_refl _), Nat.sub_self] at h2
    have hk2 : k = hs.length := by simp at hl; omega
    subst hk2
    rw [List.getElem?_append_left (by simp), List.getElem?_append_right (Nat.le_refl _), Nat.sub_self] at h1
    simp at h1 h2
    subst h1; subst h2
    exact ⟨hp, hh⟩
/-- a header on the last one is taken -/
theorem add_last {hs : List Hd} {g h : Hd} (T : Trk (hs ++ [g])) (hn : ∀ x ∈ hs ++ [g], mainId x ≠ mainId h) (hp : h.prev = mainId g) (hh : h.height = g.height + 1) : addE (hs ++ [g]) h = 0 := by
  have h1 : find (hs ++ [g]) (mainId h) = none := by
    cases hf : find (hs ++ [g]) (mainId h) with
    | none => rfl
    | some k =>
      obtain ⟨x, hx, he, _⟩ := find_some hf
      exact absurd he (hn x (List.mem_of_getElem? hx))
  have hg : (hs ++ [g])[hs.length]? = some g := by simp
  have h2 : find (hs ++ [g]) h.prev = some hs.length := by rw [hp]; exact T.find hg
  unfold addE
  rw [h1, h2]
  simp only [Option.isSome_none, hg, Option.map_some, Option.getD_some]
  rw [if_neg (by decide), if_neg (by omega)]
theorem addL_last {hs : List Hd} {g h : Hd} (T : Trk (hs ++ [g])) (hn : ∀ x ∈ hs ++ [g], mainId x ≠ mainId h) (hp : h.prev = mainId g) (hh : h.height = g.height + 1) : addL (hs ++ [g]) h = hs ++ [g] ++ [h] := if_pos (add_last T hn hp hh)
/-- how deep one lies under a later one -/
theorem depth_chain {hs : List Hd} (T : Trk hs) (c : Chain hs) (i : Nat) (g : Hd) (hi : hs[i]? = some g) : ∀ (n : Nat) (h : Hd), hs[i + n]? = some h → depth hs (mainId g) (mainId h) = some n
  | 0, h, hh => by
    rw [T.depth_eq (mainId g) hh]
    rw [Nat.add_zero, hi] at hh
    cases hh
    rw [if_pos rfl]
  | n + 1, h, hh => by
    have hl := (List.getElem?_eq_some_iff.1 hh).1
    obtain ⟨x, hx⟩ : ∃ x, hs[i + n]? = some x := ⟨_, List.getElem?_eq_getElem (by omega)⟩
    have ih := depth_chain T c i g hi n x hx
    rw [T.depth_eq (mainId g) hh, if_neg (fun e => by have := T.nd _ _ _ _ hh hi e; omega), if_neg (by omega), (c (i + n) x h hx hh).1, ih]
    rfl
/-- the best is the last -/
theorem bestN_chain {hs : List Hd} (c : Chain hs) : ∀ n, n + 1 ≤ hs.length → bestN hs (n + 1) = n
  | 0, _ => by unfold bestN; split <;> rfl
  | n + 1, hn => by
    have ih := bestN_chain c n (by omega)
    obtain ⟨g, hg⟩ : ∃ g, hs[n]? = some g := ⟨_, List.getElem?_eq_getElem (by omega)⟩
    obtain ⟨h, hh⟩ : ∃ h, hs[n + 1]? = some h := ⟨_, List.getElem?_eq_getElem (by omega)⟩
    have := (c n g h hg hh).2
    rw [bestN, ih, if_pos (by simp only [ht, hg, hh, Option.map_some, Option.getD_some]; omega)]
theorem best_chain {hs : List Hd} {g : Hd} (c : Chain (hs ++ [g])) : best (hs ++ [g]) = hs.length := by
  unfold best
  rw [List.length_append, List.length_singleton]
  exact bestN_chain c hs.length (by simp)
end Go.Proofs.YtmenchnjajpkmaaGreatDoor.Pv
end
