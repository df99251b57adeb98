/- Walks of the reference's R of layer 12: begin, fail, ok, ended. Condition: the bytes are at most 2^47. The walk of the reference's R.raw. Condition: the bytes are at most 2^47, so many as are asked at most 2^20. The walk of the reference's R.number. Condition: the bytes are at most 2^47. The walk of the reference's R.small. Condition: the bytes are at most 2^47. The walk of the reference's R.digest. Condition: the bytes are at most 2^47. The walk of the reference's R.many. Condition: the bytes are at most 2^47. What the reference keeps while it reads a list: up to the first thing that fails, which it appends too. Plain; and the rows of keys. No condition. What a thing's bytes are read as, on either side. Plain. No condition. One reading behind the other. Plain. No condition. The walk of the wire's reader at an output of the main chain. Condition: the bytes are at most 2^47. Walks of the codec's List at outputs of the main chain, and of things. Condition: the bytes are at most 2^47; at most 65536 things. The walks of the wire's reader at a transaction of the main chain, and of ReadMainTx. Condition: the bytes are at most 2^47. -/
import Derived.Test.YtmenchnjajpkmaaGreatDoorEvij
import Derived.Deep.OwnRows
import Derived.Test.YtmenchnjajpkmaaGreatDoorEvih
import Derived.Test.YtmenchnjajpkmaaGreatDoorEvii
section
namespace Go.Proofs.YtmenchnjajpkmaaGreatDoor.Rr
open Go Go.RowKit Mem Codec Ops
set_option linter.unusedVariables false

/-- the reference's reader at block q, of the bytes B; r: what is left, and what is amiss -/
def RfR (w : World) (q : Nat) (a : Option Addr) (c : Nat) (B : List UInt8) (r : Rd) : Prop :=
  ∃ n, n ≤ B.length ∧ r.rest = B.drop n ∧ n = B.length - r.rest.length ∧ Blk w q [.slice a B.length c, .int .i64 (n : Int), .int .i64 r.e] 123 ∧ Byt (fun k => k ≠ q) w (.slice a B.length c) B
section
variable {w w' : World} {q : Nat} {a : Option Addr} {c : Nat} {B : List UInt8} {r : Rd}
theorem RfR.lt (h : RfR w q a c B r) : q < w.heap.size := h.choose_spec.2.2.2.1.lt
theorem RfR.below (h : RfR w q a c B r) (hb : Below w.heap.size w w') : RfR w' q a c B r := by
  obtain ⟨n, h1, h2, h3, h4, h5⟩ := h
  exact ⟨n, h1, h2, h3, h4.below hb, h5.below hb⟩
/-- the error is written over -/
theorem RfR.err (h : RfR w q a c B r) (e : Int) : RfR (w.setCell ⟨q, 2, none⟩ (.int .i64 e)) q a c B ⟨r.rest, e⟩ ∧ Fr (fun k => k = q) w (w.setCell ⟨q, 2, none⟩ (.int .i64 e)) ∧ w.cell? ⟨q, 2, none⟩ = some (.int .i64 r.e) ∧ w.frozen? ⟨q, 2, none⟩ = false := by
  obtain ⟨n, h1, h2, h3, h4, h5⟩ := h
  have hf : Fr (fun k => k = q) w (w.setCell ⟨q, 2, none⟩ (.int .i64 e)) := Fr.setCell (S := fun k => k = q) (p := ⟨q, 2, none⟩) (Fr.refl _ w) (.inr rfl) _
  exact ⟨⟨n, h1, h2, h3, by simpa using h4.set 2 (.int .i64 e), h5.fr hf (fun k _ h e => h e)⟩, hf, h4.cell rfl, h4.free 2⟩
end
set_option maxHeartbeats 4000000 in
theorem ok_calls (w : World) (q : Nat) (a : Option Addr) (c : Nat) (B : List UInt8) (r : Rd) (H : RfR w q a c B r) :
    Calls Tryz.prog 64 #[.pointer (some ⟨q, 0, none⟩)] w fun e w' => e = .returned (.bool (r.e == 0)) ∧ w = w' := by
  obtain ⟨n, h1, h2, h3, h4, h5⟩ := H
  have c2 := h4.cell (i := 2) rfl
  clear h1 h2 h3 h4 h5
  go_enter Tryz.func64, Tryz.ntmps64
  go_wp2
  go_ret
  exact ⟨rfl, rfl⟩
/-- its End, told as the wire's error -/
def finE (r : Rd) : Int := if r.fin = 0 then 0 else 120
set_option maxHeartbeats 4000000 in
theorem ended_calls (w : World) (q : Nat) (a : Option Addr) (c : Nat) (B : List UInt8) (r : Rd) (H : RfR w q a c B r) :
    Calls Tryz.prog 44 #[.pointer (some ⟨q, 0, none⟩)] w fun e w' => e = .returned (.int .i64 (finE r)) ∧ Below w.heap.size w w' := by
  obtain ⟨n, h1, h2, h3, h4, h5⟩ := H
  have HB := Lib.hid h4
  have HN := Lib.hid h1
  have HR := Lib.hid (show (⟨B.drop n, r.e⟩ : Rd) = r by rw [← h2])
  obtain ⟨fe, hfe⟩ : ∃ x, finE r = x := ⟨_, rfl⟩
  have HFE := Lib.hid hfe
  rw [hfe]
  clear h1 h2 h3 h4 h5 hfe
  go_enter Tryz.func44, Tryz.ntmps44
  go_wp2_with (first | (with_reducible refine wpList_load_blk rfl _ _ rfl q [.slice a B.length c, .int .i64 (n : Int), .int .i64 r.e] rfl HB.out _ Tryz.underlying121 rfl (by kernel_rfl) ?_))
  refine (CodecRef.end_calls w a c B n r.e HN.out).mono ?_
  rintro e w1 ⟨rfl, g1⟩
  rw [HR.out]
  have G1 := Lib.hid g1
  clear g1 HB
  by_cases hf : r.fin = 0
  · have hf2 : (r.fin != 0) = false := by simp [hf]
    have HX := Lib.hid (show fe = 0 by rw [← HFE.out]; exact if_pos hf)
    clear hf
    go_wp2
    go_ret
    exact ⟨by rw [HX.out]; rfl, G1.out⟩
  · have hf2 : (r.fin != 0) = true := by simpa using hf
    have HX := Lib.hid (show fe = 120 by rw [← HFE.out]; exact if_neg hf)
    clear hf
    go_wp2
    go_ret
    exact ⟨by rw [HX.out]; rfl, G1.out⟩
set_option maxHeartbeats 4000000 in
theorem begin_calls (D : Nat → Prop) (w : World) (a : Option Addr) (c : Nat) (B : List UInt8) (hB : Byt D w (.slice a B.length c) B) :
    Calls Tryz.prog 42 #[.slice a B.length c] w fun e w' => e = .returned (.pointer (some ⟨w.heap.size, 0, none⟩)) ∧ RfR w' w.heap.size a c B ⟨B, 0⟩ ∧ Below w.heap.size w w' := by
  have HB := Lib.hid hB
  clear hB
  go_enter Tryz.func42, Tryz.ntmps42
  go_wp2
  go_ret
  exact ⟨rfl, ⟨0, Nat.zero_le _, by simp, by simp, Blk.new w _ _ _ rfl, (HB.out.lt.mono (fun k _ h => by have := h.1; omega)).below (below_alloc _ _)⟩, below_alloc _ _⟩
end Go.Proofs.YtmenchnjajpkmaaGreatDoor.Rr
end

section
namespace Go.Proofs.YtmenchnjajpkmaaGreatDoor.Rr
open Go Go.RowKit Mem Codec Ops
set_option linter.unusedVariables false

/-- noughts where there are none -/
def pad (n : Nat) (l : List UInt8) : List UInt8 := if l.length < n then List.replicate n 0 else l
theorem mc (n : Nat) : ∀ j (h : j < (List.replicate n (0 : UInt8)).length), (madeCells #[.int .u8 0] n)[j]? = some (byt ((List.replicate n (0 : UInt8))[j]'h)) := by
  intro j hj
  have hj' : j < n := by simpa using hj
  simp [madeCells, hj']
  rw [show j % 1 = 0 by omega]
  rfl
theorem zeroR11 (w : World) : (zeroValue 121).run Tryz.prog w = .ok (.agg [.slice none 0 0, .int .i64 0, .int .i64 0].toArray) w := by kernel_rfl
theorem one3 {a b c : Value} (ha : a.oneCell' = true) (hb : b.oneCell' = true) (hc : c.oneCell' = true) : ∀ u ∈ [a, b, c], u.oneCell' = true := by
  intro u hu
  simp only [List.mem_cons, List.not_mem_nil, or_false] at hu
  rcases hu with rfl | rfl | rfl <;> assumption
set_option maxHeartbeats 8000000 in
set_option maxRecDepth 100000 in
theorem raw_calls (w : World) (q : Nat) (a : Option Addr) (c : Nat) (B : List UInt8) (r : Rd) (n : Nat) (hn : n ≤ 1048576) (H : RfR w q a c B r) (hl : B.length ≤ 140737488355328) :
    Calls Tryz.prog 87 #[.pointer (some ⟨q, 0, none⟩), .int .i64 (n : Int)] w fun e w' => ∃ v, e = .returned v ∧ Byt (fun k => w.heap.size ≤ k) w' v (pad n (r.raw n).2) ∧ RfR w' q a c B (r.raw n).1 ∧ Fr (fun k => k = q) w w' := by
  obtain ⟨at', h1, h2, h3, h4, h5⟩ := H
  have hql := h4.lt
  have HB := Lib.hid h4
  have HY := Lib.hid h5
  have hr : (⟨B.drop at', r.e⟩ : Rd) = r := by rw [← h2]
  have HRW := Lib.hid (CodecRef.raw_calls w a c B at' r.e n (h5.mono (fun _ _ _ => trivial)) h1 hl (by omega) (by omega))
  rw [hr] at HRW
  have HSF := Lib.hid (show (r.raw n).1.rest = B.drop (B.length - (r.raw n).1.rest.length) ∧ B.length - (r.raw n).1.rest.length ≤ B.length from by
    have hx : ∃ k, (r.raw n).1.rest = (B.drop at').drop k := by
      rw [← h2]
      unfold Rd.raw
      rw [if_neg (by omega)]
      exact CodecRef.Rd.take_suf r _
    have := CodecRef.suf_at hx h1
    exact ⟨this.1, this.2.1⟩)
  obtain ⟨s, hs⟩ : ∃ s, (r.raw n).1 = s := ⟨_, rfl⟩
  obtain ⟨x, hx⟩ : ∃ x, (r.raw n).2 = x := ⟨_, rfl⟩
  rw [hs] at HRW HSF
  rw [hx] at HRW
  rw [hs, hx]
  clear h1 h2 h3 h4 h5 hr hs hx
  go_enter Tryz.func87, Tryz.ntmps87
  go_wp2_with (first | (with_reducible refine wpList_load_blk rfl _ _ rfl q [.slice a B.length c, .int .i64 (at' : Int), .int .i64 r.e] rfl HB.out _ Tryz.underlying121 rfl (by kernel_rfl) ?_))
  refine HRW.out.mono ?_
  rintro e w1 ⟨v, rfl, g1, g2⟩
  have G1 := Lib.hid g1
  have G2 := Lib.hid g2
  have HB1 := Lib.hid (HB.out.below g2)
  have HY1 := Lib.hid (HY.out.below g2)
  have hs1 := g2.size
  obtain ⟨va, vc, hve, _⟩ := id g1
  subst hve
  clear g1 g2 HB HY HRW
  go_upto_region 3 with (first
    | ((with_reducible refine wpList_alloc rfl _ rfl _ (zeroR11 _) (fun wa ka ca za => ?_)); have KA := Lib.hid ka; have CA := Lib.hid ca; have HB2 := Lib.hid (HB1.out.below ca); clear ka ca)
    | ((with_reducible refine wpList_put rfl _ _ _ rfl w1.heap.size [.slice a B.length c, .int .i64 ((B.length - s.rest.length : Nat) : Int), .int .i64 s.e] _ rfl rfl KA.out (by kernel_rfl) rfl (one3 rfl rfl rfl) (fun wb kb fb zb => ?_)); have KB := Lib.hid kb; have CB := Lib.hid (CA.out.trans (fb.below CA.out.size (fun k (hk : k = _) => by omega))); have HB3 := Lib.hid (HB2.out.fr fb (by omega)); clear kb fb)
    | (with_reducible refine wpList_load_blk rfl _ _ rfl w1.heap.size [.slice a B.length c, .int .i64 ((B.length - s.rest.length : Nat) : Int), .int .i64 s.e] rfl KB.out _ Tryz.underlying121 rfl (by kernel_rfl) ?_)
    | ((with_reducible refine wpList_put rfl _ _ _ rfl q [.slice a B.length c, .int .i64 ((B.length - s.rest.length : Nat) : Int), .int .i64 s.e] _ rfl rfl HB3.out (by kernel_rfl) rfl (one3 rfl rfl rfl) (fun wc kc fc zc => ?_)); have KC := Lib.hid kc; have FC := Lib.hid fc; clear kc fc))
  have F1 := Lib.hid (((Fr.ofBelowAll (G2.out.trans (CB.out.mono hs1)) (Nat.le_refl _) : Fr (fun k => k = q) w _)).trans FC.out)
  have X1 := Lib.hid (show RfR _ q a c B s from ⟨B.length - s.rest.length, HSF.out.2, HSF.out.1, rfl, KC.out, (HY1.out.below CB.out).fr FC.out (fun k _ h e => h e)⟩)
  have V1 := Lib.hid ((G1.out.below CB.out).fr FC.out (fun k _ (h : w.heap.size ≤ k) (e : k = q) => by omega))
  have hsz := F1.out.size
  clear G1 G2 HB1 HY1 HB2 HB3 KA KB KC CA CB FC HSF
  by_cases hlt : x.length < n
  · have HP := Lib.hid (show pad n x = List.replicate n 0 from if_pos hlt)
    have hltI : (x.length : Int) < (n : Int) := by omega
    obtain ⟨i, hi, hz, hsz1, hby⟩ := (CodecW.elemB).info
    have hmk : Byt (fun k => w.heap.size ≤ k) (wc.alloc (.cells (madeCells #[.int .u8 0] n) 5)) (.slice (some ⟨wc.heap.size, 0, none⟩) n n) (List.replicate n 0) :=
      (Byt.newBlock (D := fun k => k = wc.heap.size) wc _ _ _ (List.replicate n 0) n n (by simp) ⟨by simp, by unfold maxLen; omega⟩ rfl (mc n)).mono (fun k _ h => by have h : k = wc.heap.size := h; omega)
    have HM := Lib.hid hmk
    have X2 := Lib.hid (X1.out.below (below_alloc wc (.cells (madeCells #[.int .u8 0] n) 5)))
    have F2 := Lib.hid (F1.out.alloc (.cells (madeCells #[.int .u8 0] n) 5))
    clear hmk X1 F1 V1 zc zb za
    go_wp2_with (first | refine wpList_make_row _ rfl _ _ 25 rfl 5 i (.int .u8 0) Tryz.underlying25 hi hz hsz1 rfl .i64 .i64 n rfl rfl (by rw [hby]; omega) (by omega) ?_)
    go_ret
    exact ⟨_, rfl, by rw [HP.out]; exact HM.out, X2.out, F2.out⟩
  · have HP := Lib.hid (show pad n x = x from if_neg hlt)
    have hltI : ¬ ((x.length : Int) < (n : Int)) := by omega
    go_wp2
    go_ret
    exact ⟨_, rfl, by rw [HP.out]; exact V1.out, X1.out, F1.out⟩
end Go.Proofs.YtmenchnjajpkmaaGreatDoor.Rr
end

section
namespace Go.Proofs.YtmenchnjajpkmaaGreatDoor.Rr
open Go Go.RowKit Mem Codec Ops
set_option linter.unusedVariables false

theorem said_noughts : ∀ n, said (List.replicate n (0 : UInt8)) = 0
  | 0 => rfl
  | n + 1 => by
    rw [List.replicate_succ', said_snoc, said_noughts n]
    rfl
theorem said_pad (r : Rd) (k : Nat) : said (pad k (r.raw k).2) = (r.num k).2 ∧ (r.raw k).1 = (r.num k).1 := by
  have e : r.raw k = r.take k := by unfold Rd.raw; rw [if_neg (by omega)]; simp
  rw [e]
  refine ⟨?_, rfl⟩
  unfold Rd.num pad
  dsimp only
  split
  · rename_i h
    rw [said_noughts]
    have : (r.take k).2 = [] := by
      unfold Rd.take at h ⊢
      split
      · rfl
      · split
        · rfl
        · rename_i h1 h2
          rw [if_neg h1, if_neg h2] at h
          simp at h
          omega
    rw [this]; rfl
  · rfl
set_option maxHeartbeats 4000000 in
theorem number_calls (w : World) (q : Nat) (a : Option Addr) (c : Nat) (B : List UInt8) (r : Rd) (k : Nat) (hk : k ≤ 8) (H : RfR w q a c B r) (hl : B.length ≤ 140737488355328) :
    Calls Tryz.prog 62 #[.pointer (some ⟨q, 0, none⟩), .int .i64 (k : Int)] w fun e w' => e = .returned (.int .u64 ((r.num k).2 : Int)) ∧ RfR w' q a c B (r.num k).1 ∧ Fr (fun k => k = q) w w' := by
  have H0 := Lib.hid H
  have HS := Lib.hid (said_pad r k)
  obtain ⟨z, hz⟩ : ∃ z, (r.num k).2 = z := ⟨_, rfl⟩
  obtain ⟨s, hs⟩ : ∃ s, (r.num k).1 = s := ⟨_, rfl⟩
  rw [hz, hs] at HS ⊢
  clear H hz hs
  go_enter Tryz.func62, Tryz.ntmps62
  go_wp2_with fail
  refine (raw_calls w q a c B r k (by omega) H0.out hl).mono ?_
  rintro e w1 ⟨v, rfl, o1, o2, o3⟩
  rw [HS.out.2] at o2
  have O1 := Lib.hid o1
  have O2 := Lib.hid o2
  have O3 := Lib.hid o3
  clear o1 o2 o3 H0
  go_wp2_with fail
  refine (CodecRef.said_calls _ w1 v _ O1.out).mono ?_
  rintro e w2 ⟨rfl, rfl⟩
  rw [HS.out.1]
  go_wp2
  go_ret
  exact ⟨rfl, O2.out, O3.out⟩
end Go.Proofs.YtmenchnjajpkmaaGreatDoor.Rr
end

section
namespace Go.Proofs.YtmenchnjajpkmaaGreatDoor.Rr
open Go Go.RowKit Mem Codec Ops
set_option linter.unusedVariables false

end Go.Proofs.YtmenchnjajpkmaaGreatDoor.Rr
end

section
namespace Go.Proofs.YtmenchnjajpkmaaGreatDoor.Rr
open Go Go.RowKit Mem Codec Ops
set_option linter.unusedVariables false

theorem pad32 (r : Rd) : pad 32 (r.raw 32).2 = (Wr.Rd.dig r).2 := by
  unfold pad Wr.Rd.dig
  dsimp only
  rcases Wr.raw32_len r with h | h
  · rw [if_neg (by omega), if_pos h]
  · rw [h]; rfl
/-- the first i bytes are laid -/
def half (d : List UInt8) (i : Nat) : List Value := (d.take i).map byt ++ List.replicate (32 - i) (.int .u8 0)
theorem half_next {d : List UInt8} (hd : d.length = 32) {i : Nat} (hi : i < 32) : (half d i)[i]? = some (.int .u8 0) := by
  unfold half
  have hl : ((d.take i).map byt).length = i := by simp; omega
  rw [List.getElem?_append_right (by omega), hl, Nat.sub_self, List.getElem?_replicate, if_pos (by omega)]
theorem half_set {d : List UInt8} (hd : d.length = 32) {i : Nat} (hi : i < 32) : (half d i).set i (byt (d[i]'(by omega))) = half d (i + 1) := by
  unfold half
  apply List.ext_getElem?
  intro j
  rw [List.getElem?_set]
  simp only [List.getElem?_append, List.length_map, List.length_take, List.length_append, List.length_replicate, hd, Nat.min_eq_left (Nat.le_of_lt hi), Nat.min_eq_left hi, List.getElem?_map, List.getElem?_take, List.getElem?_replicate]
  by_cases h1 : i = j
  · subst h1
    simp [hi, hd]
    omega
  · by_cases h2 : j < i
    · simp [h1, h2, show j < i + 1 by omega]
    · simp [h1, h2, show ¬ j < i + 1 by omega]
      by_cases h3 : j < 32
      · simp [show j - i < 32 - i by omega]
        omega
      · simp [show ¬ j - i < 32 - i by omega]
        omega
set_option maxHeartbeats 4000000 in
set_option maxRecDepth 100000 in
theorem digest_calls (w : World) (q : Nat) (a : Option Addr) (c : Nat) (B : List UInt8) (r : Rd) (H : RfR w q a c B r) (hl : B.length ≤ 140737488355328) :
    Calls Tryz.prog 65 #[.pointer (some ⟨q, 0, none⟩)] w fun e w' => e = .returned (.agg ((Wr.Rd.dig r).2.map byt).toArray) ∧ RfR w' q a c B (Wr.Rd.dig r).1 ∧ Fr (fun k => k = q) w w' := by
  have hql := H.lt
  have H0 := Lib.hid H
  have HP := Lib.hid (pad32 r)
  have HDL := Lib.hid (Wr.Rd.dig_len r)
  have HD1 := Lib.hid (show (Wr.Rd.dig r).1 = (r.raw 32).1 from rfl)
  obtain ⟨d, hd⟩ : ∃ d, (Wr.Rd.dig r).2 = d := ⟨_, rfl⟩
  rw [hd] at HP HDL ⊢
  rw [HD1.out]
  clear H hd
  go_enter Tryz.func65, Tryz.ntmps65
  go_upto_region 1 with (first
    | ((with_reducible refine wpList_alloc rfl _ rfl _ (Wr.zeroD _) (fun wa ka ca za => ?_)); have KA := Lib.hid ka; have CA := Lib.hid ca; clear ka ca))
  go_wp2_with fail
  refine (raw_calls wa q a c B r 32 (by omega) (H0.out.below CA.out) hl).mono ?_
  rintro e wb ⟨v, rfl, o1, o2, o3⟩
  rw [show ((32 : Nat) : Int) = 32 from rfl] at o1 o2
  rw [HP.out] at o1
  have O1 := Lib.hid o1
  have O2 := Lib.hid o2
  have KB := Lib.hid (KA.out.fr o3 (by omega))
  have F1 := Lib.hid ((Fr.ofBelowAll CA.out (Nat.le_refl _) : Fr (fun k => k = q) w wa).trans o3)
  have hsb := o3.size
  obtain ⟨va, vc, hve, hx⟩ := id o1
  subst hve
  have hne : d ≠ [] := fun e => by have := HDL.out; rw [e] at this; simp at this
  obtain ⟨b, off, rfl, hb1, hb2⟩ := hx.2.resolve_left hne
  have HLS := Lib.hid hb2
  have hbl : b < wb.heap.size := World.block_lt_of_cell? _ _ (hb2 0 (by have := HDL.out; omega))
  clear o1 o2 o3 KA CA hx hb2
  go_upto_region 3 with (first
    | ((with_reducible refine wpList_alloc rfl _ rfl _ (Wr.zeroD _) (fun wc kc cc zc => ?_)); have KC := Lib.hid kc; have CC := Lib.hid cc; clear kc cc))
  have hd32 : d.length = 32 := HDL.out
  have K0 := Lib.hid (show Blk wc wb.heap.size (half d 0) 24 from by have := KC.out; simpa [half] using this)
  obtain ⟨gd, hgd⟩ : ∃ g, wb.heap.size = g := ⟨_, rfl⟩
  rw [hgd] at K0 hbl
  have hgdl : gd < wc.heap.size := K0.out.lt
  have BB := Lib.hid (show Below gd wb wc from hgd ▸ CC.out)
  clear KC CC
  go_wp2
  go_loopw [5] (fun i' wx => ∃ i : Nat, i ≤ 32 ∧ i' = .int .i64 (i : Int) ∧ Blk wx gd (half d i) 24 ∧ Below gd wb wx) (fun i' _ => 32 - (intOf i').toNat)
  case atStart => exact ⟨0, Nat.zero_le _, rfl, K0.out, BB.out⟩
  case round =>
    obtain ⟨i, hi, rfl, hK, hB⟩ := hrel
    have HK := Lib.hid hK
    have HBx := Lib.hid hB
    by_cases hlt : i < 32
    · have c1 : wr.cell? ⟨b, off + i, none⟩ = some (byt (d[i]'(by omega))) := (hB.cell hbl).trans (HLS.out i (by omega))
      have c2 := hK.cell (i := i) (v := .int .u8 0) (half_next hd32 hlt)
      have f2 := hK.free i
      have HN := Lib.hid (half_set hd32 hlt)
      have hltI : (i : Int) < 32 := by omega
      have hltD : (i : Int) < (d.length : Int) := by omega
      have HS := Lib.hid (hK.set i (byt (d[i]'(by omega))))
      have HB2 := Lib.hid (show Below gd wb (wr.setCell ⟨gd, i, none⟩ (byt (d[i]'(by omega)))) from hB.trans ((Fr.setCell (S := fun k => k = gd) (p := ⟨gd, i, none⟩) (Fr.refl _ wr) (.inr rfl) _).below (by have := hK.lt; omega) (fun k (hk : k = gd) => by omega)))
      clear hK hB
      go_wp2
      go_roundw
      case rel => exact ⟨i + 1, by omega, by go_num, by rw [← HN.out]; exact HS.out, HB2.out⟩
      case measure => simp [intOf]; omega
    · obtain rfl : i = 32 := by omega
      have HD := Lib.hid (show Blk wr gd (d.map byt) 24 from by have := hK; unfold half at this; rw [List.take_of_length_le (by omega)] at this; simpa using this)
      have KR := Lib.hid (KB.out.fr (Fr.ofBelow hB) (by show ¬ gd ≤ w.heap.size; omega))
      have SZ := Lib.hid (Ww.szD HDL.out)
      have FR := Lib.hid (F1.out.trans (Fr.ofBelowAll hB (by omega)))
      have OR := Lib.hid (O2.out.below (hgd ▸ hB))
      clear hK hB HK HBx
      go_wp2_with (first
        | (with_reducible refine wpList_load_blk rfl _ _ rfl gd (d.map byt) rfl HD.out _ Tryz.underlying24 rfl SZ.out ?_)
        | ((with_reducible refine wpList_put rfl _ _ _ rfl w.heap.size (d.map byt) _ rfl rfl KR.out SZ.out (by simp [HDL.out]) (Wt.oneK _) (fun we ke fe ze => ?_)); have KE := Lib.hid ke; have FE := Lib.hid fe; clear ke fe))
      exact bodyPost_ret (v := .agg (d.map byt).toArray) (results_row1 Tryz.results65 _ _ w.heap.size _ _ rfl KE.out Tryz.underlying24 rfl SZ.out) rfl ⟨rfl, (by
        obtain ⟨n, p1, p2, p3, p4, p5⟩ := OR.out
        obtain ⟨_, _, _, _, _, y5⟩ := H0.out
        have hfe : Fr (fun k => k = q) w we := FR.out.trans' FE.out (fun i hi (e : i = w.heap.size) => by omega)
        exact ⟨n, p1, p2, p3, p4.fr FE.out (by omega), y5.fr hfe (fun k _ h e => h e)⟩), FR.out.trans' FE.out (fun i hi (e : i = w.heap.size) => by omega)⟩
end Go.Proofs.YtmenchnjajpkmaaGreatDoor.Rr
end

section
namespace Go.Proofs.YtmenchnjajpkmaaGreatDoor.Rr
open Go Go.RowKit Mem Codec Ops
set_option linter.unusedVariables false

theorem var_le (r : Rd) (most : Nat) : (r.var most).2 ≤ most := by
  unfold Rd.var
  dsimp only
  repeat' split
  all_goals (first | exact Nat.zero_le _ | omega)
set_option maxHeartbeats 8000000 in
set_option maxRecDepth 100000 in
theorem many_calls (w : World) (q : Nat) (a : Option Addr) (c : Nat) (B : List UInt8) (r : Rd) (most : Nat) (hm : most ≤ 1048576) (H : RfR w q a c B r) (hl : B.length ≤ 140737488355328) :
    Calls Tryz.prog 63 #[.pointer (some ⟨q, 0, none⟩), .int .i64 (most : Int)] w fun e w' => e = .returned (.int .i64 ((r.var most).2 : Int)) ∧ RfR w' q a c B (r.var most).1 ∧ Fr (fun k => k = q) w w' := by
  obtain ⟨at', h1, h2, h3, h4, h5⟩ := H
  have hql := h4.lt
  have HB := Lib.hid h4
  have HY := Lib.hid h5
  have hr : (⟨B.drop at', r.e⟩ : Rd) = r := by rw [← h2]
  have HRW := Lib.hid (CodecRef.getvar_calls w a c B at' r.e most false (h5.mono (fun _ _ _ => trivial)) h1 hl (by omega))
  rw [hr, Rd.rvar_false] at HRW
  have HSF := Lib.hid (show (r.var most).1.rest = B.drop (B.length - (r.var most).1.rest.length) ∧ B.length - (r.var most).1.rest.length ≤ B.length from by
    have hx : ∃ k, (r.var most).1.rest = (B.drop at').drop k := by
      rw [← h2]
      exact CodecRef.Rd.var_suf r most
    have := CodecRef.suf_at hx h1
    exact ⟨this.1, this.2.1⟩)
  obtain ⟨s, hs⟩ : ∃ s, (r.var most).1 = s := ⟨_, rfl⟩
  obtain ⟨x, hx⟩ : ∃ x : Nat, (r.var most).2 = x := ⟨_, rfl⟩
  have hxl : x ≤ 1048576 := by rw [← hx]; exact Nat.le_trans (var_le r most) hm
  have hcv : IntKind.i64.wrap (x : Int) = (x : Int) := by rw [IntKind.wrap_i64]; omega
  rw [hs] at HRW HSF
  rw [hx] at HRW
  rw [hs, hx]
  clear h1 h2 h3 h4 h5 hr hs hx
  go_enter Tryz.func63, Tryz.ntmps63
  go_wp2_with (first | (with_reducible refine wpList_load_blk rfl _ _ rfl q [.slice a B.length c, .int .i64 (at' : Int), .int .i64 r.e] rfl HB.out _ Tryz.underlying121 rfl (by kernel_rfl) ?_))
  refine HRW.out.mono ?_
  rintro e w1 ⟨rfl, g2⟩
  have G2 := Lib.hid g2
  have HB1 := Lib.hid (HB.out.below g2)
  have HY1 := Lib.hid (HY.out.below g2)
  have hs1 := g2.size
  clear g2 HB HY HRW
  go_upto_region 3 with (first
    | ((with_reducible refine wpList_alloc rfl _ rfl _ (zeroR11 _) (fun wa ka ca za => ?_)); have KA := Lib.hid ka; have CA := Lib.hid ca; have HB2 := Lib.hid (HB1.out.below ca); clear ka ca)
    | ((with_reducible refine wpList_put rfl _ _ _ rfl w1.heap.size [.slice a B.length c, .int .i64 ((B.length - s.rest.length : Nat) : Int), .int .i64 s.e] _ rfl rfl KA.out (by kernel_rfl) rfl (one3 rfl rfl rfl) (fun wb kb fb zb => ?_)); have KB := Lib.hid kb; have CB := Lib.hid (CA.out.trans (fb.below CA.out.size (fun k (hk : k = _) => by omega))); have HB3 := Lib.hid (HB2.out.fr fb (by omega)); clear kb fb)
    | (with_reducible refine wpList_load_blk rfl _ _ rfl w1.heap.size [.slice a B.length c, .int .i64 ((B.length - s.rest.length : Nat) : Int), .int .i64 s.e] rfl KB.out _ Tryz.underlying121 rfl (by kernel_rfl) ?_)
    | ((with_reducible refine wpList_put rfl _ _ _ rfl q [.slice a B.length c, .int .i64 ((B.length - s.rest.length : Nat) : Int), .int .i64 s.e] _ rfl rfl HB3.out (by kernel_rfl) rfl (one3 rfl rfl rfl) (fun wc kc fc zc => ?_)); have KC := Lib.hid kc; have FC := Lib.hid fc; clear kc fc))
  have F1 := Lib.hid (((Fr.ofBelowAll (G2.out.trans (CB.out.mono hs1)) (Nat.le_refl _) : Fr (fun k => k = q) w _)).trans FC.out)
  have X1 := Lib.hid (show RfR _ q a c B s from ⟨B.length - s.rest.length, HSF.out.2, HSF.out.1, rfl, KC.out, (HY1.out.below CB.out).fr FC.out (fun k _ h e => h e)⟩)
  have hsz := F1.out.size
  clear G2 HB1 HY1 HB2 HB3 KA KB KC CA CB FC HSF
  go_wp2
  go_ret
  exact ⟨rfl, X1.out, F1.out⟩
end Go.Proofs.YtmenchnjajpkmaaGreatDoor.Rr
end

section
namespace Go.Proofs.YtmenchnjajpkmaaGreatDoor.Rr
open Go Go.RowKit Mem Codec Ops Reps WtIt Arr
set_option linter.unusedVariables false

/-- what the reference's reader of a thing of many cells does: where nothing is amiss it is the thing -/
def GotR {α : Type} (R : (Nat → Prop) → World → List Value → α → Prop) (w : World) (q : Nat) (a : Option Addr) (c : Nat) (B : List UInt8) (s : Rd × α) (e : Ending) (w' : World) : Prop :=
  ∃ (cs : List Value) (x : α), e = .returned (.agg cs.toArray) ∧ R (fun b => w.heap.size ≤ b) w' cs x ∧ (s.1.e = 0 → x = s.2) ∧ RfR w' q a c B s.1 ∧ Fr (fun k => k = q) w w'
/-- what the program's does -/
def GotD {α : Type} (R : (Nat → Prop) → World → List Value → α → Prop) (D : Nat → Prop) (w : World) (q : Nat) (s : Rd × α) (e : Ending) (w' : World) : Prop :=
  ∃ cs : List Value, e = .returned (.agg cs.toArray) ∧ R (fun b => w.heap.size ≤ b) w' cs s.2 ∧ CodecR.ReaderIs D w' q s.1 ∧ Fr (fun k => k = q) w w'
/-- after so many rounds -/
def LSt {α : Type} (one : Rd → Rd × α) (n : Nat) (r1 : Rd) (xs : List α) (r : Rd) : Prop := (WtIt.At one n r1 (xs, r) ∧ (r.e = 0 ∨ n = 0)) ∨ (r.e ≠ 0 ∧ (items one n r1).2 = r)
section
variable {α : Type} {one : Rd → Rd × α} {n : Nat} {r1 r : Rd} {xs : List α}
theorem LSt.start (h : r1.e = 0 ∨ n = 0) : LSt one n r1 [] r1 := .inl ⟨At.start one n r1, h⟩
theorem LSt.next (h : LSt one n r1 xs r) (he : r.e = 0) (hl : xs.length < n) (x : α) (hx : (one r).1.e = 0 → x = (one r).2) : LSt one n r1 (xs ++ [x]) (one r).1 := by
  rcases h with ⟨h, _⟩ | ⟨h, _⟩
  · by_cases h1 : (one r).1.e = 0
    · rw [hx h1]; exact .inl ⟨h.next one hl h1, .inl h1⟩
    · exact .inr ⟨h1, by rw [h.fails one hl h1]⟩
  · exact absurd he h
/-- at the end: the state is the list's, and so are the things where nothing is amiss -/
theorem LSt.done (h : LSt one n r1 xs r) (hl : ¬ xs.length < n ∨ r.e ≠ 0) : r = (items one n r1).2 ∧ (r.e = 0 → xs = lst (items one n r1)) := by
  rcases h with ⟨h, h0⟩ | ⟨h, h2⟩
  · have hl2 : ¬ xs.length < n := by
      rcases hl with hl | hl
      · exact hl
      · rcases h0 with h0 | h0
        · exact absurd h0 hl
        · omega
    have := h.all one hl2
    rw [this]
    exact ⟨rfl, fun h => by unfold lst; rw [if_neg (by simpa using h)]⟩
  · exact ⟨h2.symm, fun e => absurd e h⟩
end
theorem var_none (r : Rd) (most : Nat) : (r.var most).1.e = 0 ∨ (r.var most).2 = 0 := by
  unfold Rd.var
  dsimp only
  repeat' split
  all_goals (first | exact .inr rfl | exact .inl (by assumption) | (left; simp_all))
theorem var_room (r : Rd) (most : Nat) : r.room (most : Int) = r.var most := by
  unfold Rd.room
  have h : ¬ ((most : Int) < 0) := by omega
  simp [h]
section
variable {w w' : World} {q : Nat} {a : Option Addr} {c : Nat} {B : List UInt8} {r : Rd}
/-- other blocks are written; the bytes lie in D -/
theorem RfR.frD {D S : Nat → Prop} (h : RfR w q a c B r) (hB : Byt D w (.slice a B.length c) B) (hf : Fr S w w') (hq : ¬ S q) (hD : ∀ k, D k → k ≠ q ∧ ¬ S k) : RfR w' q a c B r := by
  obtain ⟨n, h1, h2, h3, h4, h5⟩ := h
  exact ⟨n, h1, h2, h3, h4.fr hf hq, (hB.fr hf (fun k _ h => (hD k h).2)).mono (fun k _ h => (hD k h).1)⟩
theorem RfR.byt (h : RfR w q a c B r) : Byt (fun k => k < w.heap.size ∧ k ≠ q) w (.slice a B.length c) B := by
  obtain ⟨n, h1, h2, h3, h4, h5⟩ := h
  exact h5.lt
end
end Go.Proofs.YtmenchnjajpkmaaGreatDoor.Rr
end

section
namespace Go.Proofs.YtmenchnjajpkmaaGreatDoor.Rr
open Go Go.RowKit Mem Codec Ops Reps WtIt Arr
set_option linter.unusedVariables false

/-- the thing that bytes are, and the error -/
def got {α : Type} (rd : Rd → Rd × α) (x0 : α) (l : List UInt8) : α × Int := if (rd ⟨l, 0⟩).1.fin = 0 then ((rd ⟨l, 0⟩).2, 0) else (x0, 120)
/-- it is told so -/
def GotT {α : Type} (R : (Nat → Prop) → World → List Value → α → Prop) (w : World) (g : α × Int) (e : Ending) (w' : World) : Prop :=
  ∃ cs : List Value, e = .returned (.tuple #[.agg cs.toArray, .int .i64 g.2]) ∧ R (fun b => w.heap.size ≤ b) w' cs g.1 ∧ Below w.heap.size w w'
theorem fin_ok {r : Rd} (h : r.fin = 0) : r.e = 0 := by
  unfold Rd.fin at h
  split at h
  · omega
  · exact h
theorem got_yes {α : Type} {rd : Rd → Rd × α} {x0 : α} {l : List UInt8} (h : (rd ⟨l, 0⟩).1.fin = 0) : got rd x0 l = ((rd ⟨l, 0⟩).2, 0) := if_pos h
theorem got_no {α : Type} {rd : Rd → Rd × α} {x0 : α} {l : List UInt8} (h : ¬ (rd ⟨l, 0⟩).1.fin = 0) : got rd x0 l = (x0, 120) := if_neg h
end Go.Proofs.YtmenchnjajpkmaaGreatDoor.Rr
end

section
namespace Go.Proofs.YtmenchnjajpkmaaGreatDoor.Rr
open Go Go.RowKit Mem Codec Ops Reps WtIt Arr
set_option linter.unusedVariables false

/-- one reading, and another one behind it -/
def seq {α β : Type} (f : Rd → Rd × α) (g : Rd → Rd × β) (r : Rd) : Rd × (α × β) := ((g (f r).1).1, (f r).2, (g (f r).1).2)
theorem seq_rest {α β : Type} {f : Rd → Rd × α} {g : Rd → Rd × β} (hf : ∀ r, (f r).1.rest.length ≤ r.rest.length) (hg : ∀ r, (g r).1.rest.length ≤ r.rest.length) (r : Rd) : (seq f g r).1.rest.length ≤ r.rest.length := Nat.le_trans (hg _) (hf _)
theorem num_rest (r : Rd) (n : Nat) : (r.num n).1.rest.length ≤ r.rest.length := (CodecR.Rd.take_len r n).1
theorem items_rest {α : Type} {one : Rd → Rd × α} (h : ∀ r, (one r).1.rest.length ≤ r.rest.length) : ∀ (n : Nat) (r : Rd), (items one n r).2.rest.length ≤ r.rest.length
  | 0, r => Nat.le_refl _
  | n + 1, r => by
    unfold items
    split
    · exact h r
    · exact Nat.le_trans (items_rest h n _) (h r)
theorem cells_one {v : Value} (h : v.oneCell' = true) : v.cells = #[v] := by cases v <;> first | rfl | cases h
end Go.Proofs.YtmenchnjajpkmaaGreatDoor.Rr
end

section
namespace Go.Proofs.YtmenchnjajpkmaaGreatDoor.Rm
open Go Go.RowKit Mem Codec CodecR Ops Reps WtIt Arr Rr Wr Wm
set_option linter.unusedVariables false
set_option linter.unusedSimpArgs false

set_option maxRecDepth 100000 in
theorem structMo : StructT Tryz.prog 58 [1, 32] := ⟨_, _, _, rfl, Tryz.underlying58, rfl, by kernel_rfl, by kernel_rfl⟩
/-- an output, read -/
def RDmo (r : Rd) : Rd × (Nat × List UInt8) := seq (fun r : Rd => r.num 8) Wr.Rd.dig r
theorem rdmo_rest (r : Rd) : (RDmo r).1.rest.length ≤ r.rest.length := seq_rest (fun r => num_rest r 8) dig_rest r
set_option maxHeartbeats 8000000 in
set_option maxRecDepth 100000 in
theorem rmo_calls (D : Nat → Prop) (w : World) (q : Nat) (r : Rd) (H : ReaderIs D w q r) (hl : r.rest.length ≤ 140737488355328) :
    Calls Tryz.prog 71 #[.agg #[.pointer (some ⟨q, 0, none⟩)]] w (GotD RMo D w q (RDmo r)) := by
  have hql := H.lt
  have H0 := Lib.hid ((rd_under H).below (below_alloc w (.cells #[.pointer (some ⟨q, 0, none⟩)] 106)))
  have HB := Lib.hid (Blk.new w #[.pointer (some ⟨q, 0, none⟩)] 106 _ rfl)
  have HA := Lib.hid (below_alloc w (.cells #[.pointer (some ⟨q, 0, none⟩)] 106))
  have hz : w.heap.size + 1 = (w.alloc (.cells #[.pointer (some ⟨q, 0, none⟩)] 106)).heap.size := by simp
  have HL0 := Lib.hid hl
  obtain ⟨y1, hy1⟩ : ∃ y, ((r).num 8).2 = y := ⟨_, rfl⟩
  obtain ⟨r1, hr1⟩ : ∃ y, ((r).num 8).1 = y := ⟨_, rfl⟩
  have HC1 := Lib.hid (fun D w h => CodecR.long_calls D w q r h)
  have HW1 := Lib.hid (show y1 < 18446744073709551616 by rw [← hy1]; exact num_lt _ _)
  have HL1 := Lib.hid (show r1.rest.length ≤ 140737488355328 by rw [← hr1]; exact Nat.le_trans (num_rest _ _) HL0.out)
  rw [hr1, hy1] at HC1
  obtain ⟨y2, hy2⟩ : ∃ y, (Wr.Rd.dig r1).2 = y := ⟨_, rfl⟩
  obtain ⟨r2, hr2⟩ : ∃ y, (Wr.Rd.dig r1).1 = y := ⟨_, rfl⟩
  have HC2 := Lib.hid (fun D w h => Wr.digest_calls D w q r1 h HL1.out)
  have HW2 := Lib.hid (show y2.length = 32 by rw [← hy2]; exact Wr.Rd.dig_len r1)
  have HL2 := Lib.hid (show r2.rest.length ≤ 140737488355328 by rw [← hr2]; exact Nat.le_trans (dig_rest _) HL1.out)
  rw [hr2, hy2] at HC2
  have HRD := Lib.hid (show RDmo r = (r2, y1, y2) by simp only [RDmo, seq, hr1, hy1, hr2, hy2])
  rw [HRD.out]
  clear H hl hr1 hy1 hr2 hy2
  go_enter Tryz.func71, Tryz.ntmps71
  go_upto_region 1 with (first
    | ((with_reducible refine wpList_alloc rfl _ rfl _ (zeroMo _) (fun wb ka ca za => ?_)); have KA := Lib.hid ka; have CA := Lib.hid ca; clear ka ca))
  generalize (w.alloc (.cells #[.pointer (some ⟨q, 0, none⟩)] 106)) = wA at *
  have O0 := Lib.hid (H0.out.below CA.out)
  have HB2 := Lib.hid (HB.out.below CA.out)
  have B2 := Lib.hid (HA.out.trans (CA.out.mono (by omega)))
  have hg0 : w.heap.size < wA.heap.size := by omega
  have hg2 : wA.heap.size < wb.heap.size := by omega
  generalize wA.heap.size = g1 at *
  clear H0 HB HA CA
  refine wp_region_held_drew (S := (fun w' => Blk w' w.heap.size [.pointer (some ⟨q, 0, none⟩)] 106 ∧ (∃ l : List Value, l.length = 33 ∧ Blk w' g1 l 58) ∧ Fr (fun k => k = q) w w' ∧ wb.heap.size ≤ w'.heap.size)) (by kernel_rfl) ⟨HB2.out.drew, ⟨_, zeroMo_len, KA.out.drew⟩, (Fr.ofBelowAll B2.out (Nat.le_refl _)).drew, Nat.le_refl _⟩ (fun hHeld => ?_)
  refine wpAnyH_take (i := 0) (oi := ⟨_, _, _, _, _, _⟩) (v := ?_) rfl (by kernel_rfl) (by kernel_rfl) (by kernel_rfl) (fun _ _ _ h => h) (Or.inl ⟨by rfl, ?_⟩) (by assumption) ?_
  rotate_left
  · intro w hSw; go_simp; try (with_reducible rfl)
  try simp only [Act.put, List.setIfInBounds_toArray, List.set_cons_zero, List.set_cons_succ]
  refine wpAnyH_take (i := 1) (oi := ⟨_, _, _, _, _, _⟩) (v := .pointer (some ⟨q, 0, none⟩)) rfl (by kernel_rfl) (by kernel_rfl) (by kernel_rfl) (fun _ _ _ h => h) (Or.inl ⟨by rfl, fun wS hSw => (by have hc := hSw.1.cell (i := 0) rfl; go_simp; try (with_reducible rfl))⟩) (by assumption) ?_
  try simp only [Act.put, List.setIfInBounds_toArray, List.set_cons_zero, List.set_cons_succ]
  refine wpAnyH_take (i := 3) (oi := ⟨_, _, _, _, _, _⟩) rfl (by kernel_rfl) (by kernel_rfl) (by kernel_rfl) (fun _ _ _ h => h) (yieldsIf_load_mid (by rfl) _ _ rfl w.heap.size 0 rfl [.pointer (some ⟨q, 0, none⟩)] _ (fun _ h => blk_range h.1) Tryz.underlying106 rfl (by kernel_rfl)) (by assumption) ?_
  try simp only [Act.put, List.setIfInBounds_toArray, List.set_cons_zero, List.set_cons_succ]
  refine wpAnyH_ready (rs := [2]) (by kernel_rfl) (by simp) ?_
  refine AllReadyH.cons (o := ⟨_, _, _, _, _, _⟩) rfl (fun K hK => ?_) AllReadyH.nil
  go_simp
  have kk1 := hHeld.1.lt
  have kk2 : g1 < _ := hHeld.2.1.choose_spec.2.lt
  have HH1 := hHeld.2.2.2
  refine (HC1.out _ wb.drew O0.out).mono ?_
  rintro e x1 ⟨rfl, o1, o2⟩
  have hsx1 := o2.size
  refine hK.out _ _ (by exact ⟨hHeld.1.fr o2 (by omega), hHeld.2.1.elim fun l h => ⟨l, h.1, h.2.fr o2 (by omega)⟩, hHeld.2.2.1.trans o2, Nat.le_trans hHeld.2.2.2 o2.size⟩) (fun hHeld => ?_)
  have O1 := Lib.hid o1
  clear o1 o2
  try simp only [Act.put, List.setIfInBounds_toArray, List.set_cons_zero, List.set_cons_succ]
  clear hK
  refine wpAnyH_ready (rs := [4]) (by kernel_rfl) (by simp) ?_
  refine AllReadyH.cons (o := ⟨_, _, _, _, _, _⟩) rfl (fun K hK => ?_) AllReadyH.nil
  go_simp
  have kk1 := hHeld.1.lt
  have kk2 : g1 < _ := hHeld.2.1.choose_spec.2.lt
  have HH2 := hHeld.2.2.2
  refine (HC2.out _ x1 O1.out).mono ?_
  rintro e x2 ⟨rfl, o1, o2⟩
  have hsx2 := o2.size
  refine hK.out _ _ (by exact ⟨hHeld.1.fr o2 (by omega), hHeld.2.1.elim fun l h => ⟨l, h.1, h.2.fr o2 (by omega)⟩, hHeld.2.2.1.trans o2, Nat.le_trans hHeld.2.2.2 o2.size⟩) (fun hHeld => ?_)
  have O2 := Lib.hid o1
  clear o1 o2
  try simp only [Act.put, List.setIfInBounds_toArray, List.set_cons_zero, List.set_cons_succ]
  clear hK
  have HCE := Lib.hid (show ([Value.int .u64 (y1 : Int)] ++ (y2.map byt) : List Value).length = 33 by simp [HW2.out])
  refine wpAnyH_take (i := 5) (oi := ⟨_, _, _, _, _, _⟩) rfl (by kernel_rfl) (by kernel_rfl) (by kernel_rfl) (fun _ _ _ h => h) (yieldsIf_build (by rfl) structMo [(0, _), (1, _)] rfl [.int .u64 (y1 : Int), .agg (y2.map byt).toArray] rfl (by simp [Value.cells, HW2.out]) (([Value.int .u64 (y1 : Int)] ++ (y2.map byt)).toArray) (by simp [Value.cells])) (by assumption) ?_
  try simp only [Act.put, List.setIfInBounds_toArray, List.set_cons_zero, List.set_cons_succ]
  refine wpAnyH_ready (rs := [6]) (by kernel_rfl) (by simp) ?_
  refine AllReadyH.cons (o := ⟨_, _, _, _, _, _⟩) rfl (fun K hK => ?_) AllReadyH.nil
  rw [if_pos (by rfl)]
  obtain ⟨l0, hl0, hb0⟩ := hHeld.2.1
  have HRR := Lib.hid (show ∀ W : World,  RMo (fun b => w.heap.size ≤ b ∧ b ≠ g1) W ([Value.int .u64 (y1 : Int)] ++ (y2.map byt)) (y1, y2) from fun W => ⟨_, _, rfl, ⟨HW1.out, rfl⟩, ⟨HW2.out, rfl⟩⟩)
  have HRF := Lib.hid (HRR.out x2)
  have HSZ := Lib.hid (show (Tryz.prog.info? 58).map (·.size) = some ([Value.int .u64 (y1 : Int)] ++ (y2.map byt) : List Value).length by rw [HCE.out]; kernel_rfl)
  refine wp_put _ _ _ rfl g1 ([Value.int .u64 (y1 : Int)] ++ (y2.map byt)) l0 rfl rfl hb0 HSZ.out (hl0.trans HCE.out.symm) (rep_Mo.one HRF.out) (fun we ke fe ze => ?_)
  refine hK.out _ _ (by exact ⟨hHeld.1.fr fe (by omega), ⟨_, HCE.out, ke⟩, hHeld.2.2.1.trans' fe (fun i hi (e : i = g1) => by omega), by have := hHeld.2.2.2; omega⟩) (fun hHeld => ?_)
  have KE := Lib.hid ke
  have FE := Lib.hid fe
  clear ke fe
  clear hK
  refine wpAnyH_done (by kernel_rfl) ?_ _
  have FF := Lib.hid hHeld.2.2.1
  clear hHeld
  go_wp2
  exact bodyPost_ret (v := .agg ([Value.int .u64 (y1 : Int)] ++ (y2.map byt)).toArray) (results_row1 Tryz.results71 _ _ g1 _ _ rfl KE.out Tryz.underlying58 rfl HSZ.out) rfl ⟨_, rfl, rep_Mo.mono (rep_Mo.fr HRF.out FE.out (fun b _ h (e : b = g1) => h.2 e)) (fun b _ h => h.1), rd_back (O2.out.fr FE.out (by omega) (fun k _ h (e : k = g1) => by have := h.1; omega)) hql, FF.out⟩
end Go.Proofs.YtmenchnjajpkmaaGreatDoor.Rm
end

section
namespace Go.Proofs.YtmenchnjajpkmaaGreatDoor.RmT
open Go Go.RowKit Mem Codec CodecW CodecR Iter Arr Ops Wr Reps WtIt
set_option linter.unusedVariables false
open Rr Wm Rm
/-- what a round is told -/
def KV (A B : World) (v : Value) (x : (Nat × List UInt8)) : Prop := ∃ cs, v = .agg cs.toArray ∧ RMo (fun b => A.heap.size ≤ b) B cs x
theorem szT {cs : List Value} (h : cs.length = 33) : (Tryz.prog.info? 58).map (·.size) = some cs.length := by rw [h]; kernel_rfl
attribute [local go_sem] Oper.semAt_some
set_option maxHeartbeats 4000000 in
set_option maxRecDepth 100000 in
theorem items_seq (one : Rd → Rd × (Nat × List UInt8)) (fo : Nat) (fk : Value) (ef : ∀ args w, (callFunc fo args).run Tryz.prog w = .ok (.enter fo args) w) (D : Nat → Prop) (w : World) (q b1 b2 b3 d1 d2 : Nat) (r0 : Rd) (most : Int) (h1 : -9223372036854775808 ≤ most) (h2 : most < 9223372036854775808)
    (H : ReaderIs D w q r0) (hb1 : w.cell? ⟨b1, 0, none⟩ = some (.pointer (some ⟨q, 0, none⟩))) (hb2 : w.cell? ⟨b2, 0, none⟩ = some (.int .i64 most)) (hb3 : w.cell? ⟨b3, 0, none⟩ = some (.func (.func fo) #[] #[.pointer (some ⟨d1, 0, none⟩), .pointer (some ⟨d2, 0, none⟩)])) (he1 : w.cell? ⟨d1, 0, none⟩ = some fk) (he2 : w.cell? ⟨d2, 0, none⟩ = some (.pointer (some ⟨q, 0, none⟩))) (hn4 : d1 ≠ q) (hn5 : d2 ≠ q) (hn1 : b1 ≠ q) (hn2 : b2 ≠ q) (hn3 : b3 ≠ q)
    (L : Nat) (hl : r0.rest.length ≤ L) (hlen : ∀ r, (one r).1.rest.length ≤ r.rest.length)
    (hone : ∀ (A : World) (r : Rd), ReaderIs D A q r → r.rest.length ≤ L → A.cell? ⟨d1, 0, none⟩ = some fk → A.cell? ⟨d2, 0, none⟩ = some (.pointer (some ⟨q, 0, none⟩)) → Calls Tryz.prog fo #[.pointer (some ⟨q, 0, none⟩), .pointer (some ⟨d1, 0, none⟩), .pointer (some ⟨d2, 0, none⟩)] A fun e B => ∃ cs, e = .returned (.agg cs.toArray) ∧ RMo (fun b => A.heap.size ≤ b) B cs (one r).2 ∧ ReaderIs D B q (one r).1 ∧ Fr (fun k => k = q) A B) :
    SeqC Tryz.prog 113 #[.pointer (some ⟨b1, 0, none⟩), .pointer (some ⟨b2, 0, none⟩), .pointer (some ⟨b3, 0, none⟩)] (fun k => k = q)
      (It D q b1 b2 b3 d1 d2 most (.func (.func fo) #[] #[.pointer (some ⟨d1, 0, none⟩), .pointer (some ⟨d2, 0, none⟩)]) fk) (Y one (r0.room most).2 (r0.room most).1 KV) (E one (r0.room most).2 (r0.room most).1 D q) ([], (r0.room most).1) w := by
  intro l J Jx W hW hsW hJ hY h0
  have HR := Lib.hid (H.below hW)
  have HRM := Lib.hid (CodecR.room_calls D W q r0 most HR.out h1 h2)
  have hnb := room_le r0 most h2
  have hrl := Nat.le_trans (Rd.room_len r0 most) hl
  generalize (r0.room most).1 = r1 at *
  generalize (r0.room most).2 = n at *
  have c1 := (hW.cell (World.block_lt_of_cell? _ _ hb1)).trans hb1
  have c2 := (hW.cell (World.block_lt_of_cell? _ _ hb2)).trans hb2
  have c3 := (hW.cell (World.block_lt_of_cell? _ _ hb3)).trans hb3
  have c4 := (hW.cell (World.block_lt_of_cell? _ _ he1)).trans he1
  have c5 := (hW.cell (World.block_lt_of_cell? _ _ he2)).trans he2
  have HJ := Lib.hid hJ
  have HY := Lib.hid hY
  have H0 := Lib.hid h0
  have HO := Lib.hid hone
  clear hJ hY h0 hone HR
  refine callsIn_of_wp Tryz.func113 rfl trivial ?_ rfl
  simp only [Tryz.ntmps113, List.size_toArray, List.length_cons, List.length_nil, Nat.reduceAdd, Nat.reduceSub, Array.replicate_succ, Array.replicate_zero, List.push_toArray, List.append_toArray, List.nil_append, List.cons_append]
  gi_wp2
  refine ⟨trivial, rfl, (callsIn_wide.2 HRM.out).mono ?_⟩
  rintro e w2 ⟨rfl, g1, g2⟩
  have c1 := g2.cell c1 hn1
  have c2 := g2.cell c2 hn2
  have c3 := g2.cell c3 hn3
  have c4 := g2.cell c4 hn4
  have c5 := g2.cell c5 hn5
  have hs2 := g2.size
  have HR2 := Lib.hid g1
  have HJ2 := Lib.hid (HJ.out _ _ _ H0.out g2)
  clear g1 g2 HRM H0
  gi_wp2
  gi_loopw [6] (fun i wr => ∃ (pre : List (Nat × List UInt8)) (r : Rd), i = .int .i64 (pre.length : Int) ∧ At one n r1 (pre, r) ∧ r.rest.length ≤ L ∧ W.heap.size ≤ wr.heap.size ∧ It D q b1 b2 b3 d1 d2 most (.func (.func fo) #[] #[.pointer (some ⟨d1, 0, none⟩), .pointer (some ⟨d2, 0, none⟩)]) fk (pre, r) wr ∧ J (pre, r) wr) (fun i _ => n - (intOf i).toNat)
  case atStart => exact ⟨[], r1, rfl, At.start one n r1, hrl, hs2, ⟨HR2.out, c1, c2, c3, c4, c5⟩, HJ2.out⟩
  case round =>
    obtain ⟨pre, r, rfl, hA, hrL, hsr, ⟨g1, c1, c2, c3, c4, c5⟩, g5⟩ := hrel
    have hA1 := hA.1
    have HA := Lib.hid hA
    have HJw := Lib.hid g5
    have HRw := Lib.hid g1
    dsimp only at hA1
    have hcv : IntKind.u64.wrap (pre.length : Int) = (pre.length : Int) := by rw [IntKind.wrap_u64]; omega
    clear hA g1 g5 HJ2 HR2
    by_cases hlt : pre.length < n
    · have hlt2 : ((pre.length : Int) < (n : Int)) := by omega
      have HOw := Lib.hid (HO.out wr r HRw.out hrL c4 c5)
      have HLn := Lib.hid (hlen r)
      have hcf := ef #[.pointer (some ⟨q, 0, none⟩), .pointer (some ⟨d1, 0, none⟩), .pointer (some ⟨d2, 0, none⟩)] wr
      gi_wp2
      refine ⟨trivial, rfl, (callsIn_wide.2 HOw.out).mono ?_⟩
      rintro e w3 ⟨cs, rfl, hx, k1, k2⟩
      have HR3 := Lib.hid k1
      have HF3 := Lib.hid k2
      have hs3 := k2.size
      have c1 := k2.cell c1 hn1
      have c2 := k2.cell c2 hn2
      have c3 := k2.cell c3 hn3
      have c4 := k2.cell c4 hn4
      have c5 := k2.cell c5 hn5
      obtain ⟨xa, xc, x1, _, _⟩ := id k1
      have d9 := x1.cell (i := 1) rfl
      obtain ⟨x, hxe⟩ : ∃ x, (one r).2 = x := ⟨_, rfl⟩
      have HXE := Lib.hid hxe
      rw [hxe] at hx
      have HX := Lib.hid hx
      have HCL := Lib.hid (rep_Mo.len hx)
      have HC1 := Lib.hid (rep_Mo.one hx)
      clear k1 k2 x1 HOw hxe hx
      by_cases he : (one r).1.e = 0
      · rw [he] at d9
        gi_wp2_with (first
          | ((with_reducible refine wpListIn_alloc rfl _ rfl _ (zeroMo _) (fun wa ka ca za => ?_)); have KA := Lib.hid ka; have CA := Lib.hid ca; clear ka ca)
          | ((with_reducible refine wpListIn_put rfl _ _ _ rfl w3.heap.size cs _ rfl rfl KA.out (szT HCL.out) (zeroMo_len.trans HCL.out.symm) HC1.out (fun wb kb fb zb => ?_)); have KB := Lib.hid kb; have CB := CA.out.trans (fb.below CA.out.size (fun k (hk : k = _) => by omega)); have FB := Lib.hid (HF3.out.trans (Fr.ofBelowAll CB (Nat.le_refl _))); have HR4 := Lib.hid (HR3.out.below CB); have c1 := CB.cell (World.block_lt_of_cell? _ _ c1) |>.trans c1; have c2 := CB.cell (World.block_lt_of_cell? _ _ c2) |>.trans c2; have c3 := CB.cell (World.block_lt_of_cell? _ _ c3) |>.trans c3; have c4 := CB.cell (World.block_lt_of_cell? _ _ c4) |>.trans c4; have c5 := CB.cell (World.block_lt_of_cell? _ _ c5) |>.trans c5; have d9 := CB.cell (World.block_lt_of_cell? _ _ d9) |>.trans d9; have hsb := CB.size; obtain ⟨fn, tmps, assign, body, hy, hR⟩ := HY.out (pre, r) (pre ++ [(one r).2], (one r).1) #[.int .i64 (pre.length : Int), .agg cs.toArray] wr wb HJw.out FB.out ⟨_, hlt, HA.out, rfl, he, rfl, cs, rfl, by rw [HXE.out]; exact rep_Mo.below HX.out CB⟩ ⟨HR4.out, c1, c2, c3, c4, c5⟩; have HRR := Lib.hid hR; clear hR; clear kb fb CB)
          | (with_reducible refine wpListIn_load_blkw (by with_unfolding_all rfl) _ _ rfl w3.heap.size cs rfl KB.out _ Tryz.underlying58 rfl (szT HCL.out) ?_))
        refine ⟨rfl, HRR.out.mono ?_⟩
        rintro e W' (⟨rfl, k1, k2, hs4⟩ | ⟨rfl, k1⟩)
        · have HJ4 := Lib.hid k1
          have HI4 := Lib.hid k2
          have HA4 := Lib.hid (HA.out.next one hlt he)
          clear k1 k2
          gi_wp2
          go_roundw
          case rel => exact ⟨_, _, by rw [List.length_append]; rfl, HA4.out, Nat.le_trans HLn.out hrL, by omega, HI4.out, HJ4.out⟩
          case measure => simp [intOf]; omega
        · gi_wp2
          refine bodyPost_ret (results_none rfl _ _ _) rfl ?_
          exact ⟨⟨_, rfl⟩, .inr ⟨_, k1⟩⟩
      · have he2 : ((one r).1.e != 0) = true := by simpa using he
        have HEE := Lib.hid (HA.out.fails one hlt he)
        gi_wp2_with (first
          | ((with_reducible refine wpListIn_alloc rfl _ rfl _ (zeroMo _) (fun wa ka ca za => ?_)); have KA := Lib.hid ka; have CA := Lib.hid ca; clear ka ca)
          | ((with_reducible refine wpListIn_put rfl _ _ _ rfl w3.heap.size cs _ rfl rfl KA.out (szT HCL.out) (zeroMo_len.trans HCL.out.symm) HC1.out (fun wb kb fb zb => ?_)); have KB := Lib.hid kb; have CB := CA.out.trans (fb.below CA.out.size (fun k (hk : k = _) => by omega)); have FB := Lib.hid (HF3.out.trans (Fr.ofBelowAll CB (Nat.le_refl _))); have HR4 := Lib.hid (HR3.out.below CB); have c1 := CB.cell (World.block_lt_of_cell? _ _ c1) |>.trans c1; have c2 := CB.cell (World.block_lt_of_cell? _ _ c2) |>.trans c2; have c3 := CB.cell (World.block_lt_of_cell? _ _ c3) |>.trans c3; have c4 := CB.cell (World.block_lt_of_cell? _ _ c4) |>.trans c4; have c5 := CB.cell (World.block_lt_of_cell? _ _ c5) |>.trans c5; have d9 := CB.cell (World.block_lt_of_cell? _ _ d9) |>.trans d9; have hsb := CB.size; skip; clear kb fb CB)
          | (with_reducible refine wpListIn_load_blkw (by with_unfolding_all rfl) _ _ rfl w3.heap.size cs rfl KB.out _ Tryz.underlying58 rfl (szT HCL.out) ?_))
        refine ⟨fun _ h => (by cases h), ?_⟩
        gi_wp2
        refine bodyPost_ret (results_none rfl _ _ _) rfl ?_
        exact ⟨⟨_, rfl⟩, .inl ⟨(pre, r), ⟨_, HEE.out, HR4.out⟩, (HJ.out _ _ _ HJw.out FB.out)⟩⟩
    · have hlt2 : ¬ ((pre.length : Int) < (n : Int)) := by omega
      have HEE := Lib.hid (HA.out.all one hlt)
      gi_wp2
      go_end0
      exact ⟨⟨_, rfl⟩, .inl ⟨pre, r, ⟨r, HEE.out, HRw.out⟩, HJw.out⟩⟩
set_option maxHeartbeats 4000000 in
set_option maxRecDepth 100000 in
theorem thing_calls (D : Nat → Prop) (w : World) (q d1 d2 : Nat) (r : Rd) (H : ReaderIs D w q r) (hl : r.rest.length ≤ 140737488355328) (c4 : w.cell? ⟨d1, 0, none⟩ = some (.func (.func 71) #[] #[])) (c5 : w.cell? ⟨d2, 0, none⟩ = some (.pointer (some ⟨q, 0, none⟩))) :
    Calls Tryz.prog 92 #[.pointer (some ⟨q, 0, none⟩), .pointer (some ⟨d1, 0, none⟩), .pointer (some ⟨d2, 0, none⟩)] w fun e w' => ∃ cs, e = .returned (.agg cs.toArray) ∧ RMo (fun b => w.heap.size ≤ b) w' cs (RDmo r).2 ∧ ReaderIs D w' q (RDmo r).1 ∧ Fr (fun k => k = q) w w' := by
  have hql := H.lt
  have H1 := Lib.hid (rd_under H)
  clear H
  go_enter Tryz.func92, Tryz.ntmps92
  go_upto_region 1 with (first
    | ((with_reducible refine wpList_alloc rfl _ rfl _ (zeroMo _) (fun wa ka ca za => ?_)); have KA := Lib.hid ka; have CA := Lib.hid ca; clear ka ca))
  have c4 := (CA.out.cell (World.block_lt_of_cell? _ _ c4)).trans c4
  have c5 := (CA.out.cell (World.block_lt_of_cell? _ _ c5)).trans c5
  have HR5 := Lib.hid (show wa.rangeAt d2 0 [.pointer (some ⟨q, 0, none⟩)] from fun j v hv => by
    match j, hv with
    | 0, hv => cases hv; exact c5)
  have H2 := Lib.hid (H1.out.below CA.out)
  have B2 := Lib.hid CA.out
  have hg2 : w.heap.size < wa.heap.size := by omega
  clear H1 CA c5
  go_wp2_with (first | (with_reducible refine wpList_load_mid rfl _ _ rfl d2 0 rfl [.pointer (some ⟨q, 0, none⟩)] _ HR5.out Tryz.underlying106 rfl (by kernel_rfl) ?_))
  refine (rmo_calls _ wa q r H2.out hl).mono ?_
  rintro e wb ⟨cs, rfl, ox, o1, o2⟩
  have HX := Lib.hid ox
  have HCL := Lib.hid (rep_Mo.len ox)
  have HC1 := Lib.hid (rep_Mo.one ox)
  have hsa : w.heap.size ≤ wa.heap.size := by omega
  clear ox
  have O1 := Lib.hid o1
  have K1 := Lib.hid (KA.out.fr o2 (by omega))
  have FF := Lib.hid ((Fr.ofBelowAll B2.out (Nat.le_refl _) : Fr (fun k => k = q) w wa).trans o2)
  have SZ := Lib.hid (szT HCL.out)
  clear o1 o2 H2 B2 KA c4
  go_wp2_with (first
    | ((with_reducible refine wpList_put rfl _ _ _ rfl w.heap.size cs _ rfl rfl K1.out SZ.out (zeroMo_len.trans HCL.out.symm) HC1.out (fun we ke fe ze => ?_)); have KE := Lib.hid ke; have FE := Lib.hid fe; clear ke fe))
  exact bodyPost_ret (v := .agg cs.toArray) (results_row1 Tryz.results92 _ _ w.heap.size _ _ rfl KE.out Tryz.underlying58 rfl SZ.out) rfl ⟨cs, rfl, rep_Mo.mono (rep_Mo.fr HX.out FE.out (fun b _ h (e : b = w.heap.size) => by have := hg2; omega)) (fun b _ h => by omega), rd_back (O1.out.fr FE.out (by omega) (fun k _ h (e : k = w.heap.size) => by have := h.1; omega)) hql, FF.out.trans' FE.out (fun i hi (e : i = w.heap.size) => by omega)⟩
set_option maxHeartbeats 4000000 in
set_option maxRecDepth 100000 in
theorem items_calls (w : World) (q : Nat) (most : Int) (fo d1 d2 : Nat) :
    Calls Tryz.prog 105 #[.pointer (some ⟨q, 0, none⟩), .int .i64 most, .func (.func fo) #[] #[.pointer (some ⟨d1, 0, none⟩), .pointer (some ⟨d2, 0, none⟩)]] w fun e w' => e = .returned (.func (.func 113) #[] #[.pointer (some ⟨w.heap.size, 0, none⟩), .pointer (some ⟨w.heap.size + 1, 0, none⟩), .pointer (some ⟨w.heap.size + 2, 0, none⟩)]) ∧
      Below w.heap.size w w' ∧ w'.cell? ⟨w.heap.size, 0, none⟩ = some (.pointer (some ⟨q, 0, none⟩)) ∧ w'.cell? ⟨w.heap.size + 1, 0, none⟩ = some (.int .i64 most) ∧ w'.cell? ⟨w.heap.size + 2, 0, none⟩ = some (.func (.func fo) #[] #[.pointer (some ⟨d1, 0, none⟩), .pointer (some ⟨d2, 0, none⟩)]) := by
  go_enter Tryz.func105, Tryz.ntmps105
  go_wp2
  go_ret
  have a1 := (Blk.new w #[.pointer (some ⟨q, 0, none⟩)] 104 _ rfl)
  have a2 := (Blk.new (w.alloc (.cells #[.pointer (some ⟨q, 0, none⟩)] 104)) #[.int .i64 most] 3 _ rfl)
  have a3 := (Blk.new ((w.alloc (.cells #[.pointer (some ⟨q, 0, none⟩)] 104)).alloc (.cells #[.int .i64 most] 3)) #[.func (.func fo) #[] #[.pointer (some ⟨d1, 0, none⟩), .pointer (some ⟨d2, 0, none⟩)]] 162 _ rfl)
  rw [World.size_alloc] at a2
  rw [World.size_alloc, World.size_alloc] at a3
  exact ⟨rfl, (((Below.refl _ _).alloc (Nat.le_refl _) _).alloc (by simp) _).alloc (by simp; omega) _, ((a1.alloc _).alloc _).cell (i := 0) rfl, (a2.alloc _).cell (i := 0) rfl, a3.cell (i := 0) rfl⟩
set_option maxRecDepth 100000 in
theorem elemT : ElemT Tryz.prog 54 58 (.agg (Value.int .u64 0 :: List.replicate 32 (Value.int .u8 0)).toArray) 33 40 :=
  ⟨Tryz.underlying54, ⟨_, rfl, by kernel_rfl, by kernel_rfl, by kernel_rfl⟩, by simp [Value.cells], by decide⟩
/-- what List keeps from round to round -/
def LI (w : World) (q N : Nat) (s : List (Nat × List UInt8) × Rd) (A : World) : Prop :=
  ∃ v css, Blk A w.heap.size [v] 54 ∧ OwnA 33 N 58 A v css ∧ All2 (RMo (fun b => N ≤ b ∧ v.ownBlock ≠ some b) A) css s.1 ∧ Fr (fun k => k = q) w A
theorem LI.fr {w : World} {q N : Nat} {s : List (Nat × List UInt8) × Rd} {A B : World} {S : Nat → Prop} (h : LI w q N s A) (hf : Fr S A B) (h1 : ¬ S w.heap.size) (h2 : ∀ k, N ≤ k → ¬ S k) (h3 : ∀ k, k < w.heap.size → S k → k = q) : LI w q N s B := by
  obtain ⟨v, css, h4, h5, h6, h7⟩ := h
  exact ⟨v, css, h4.fr hf h1, h5.fr hf (fun k hk h => h2 k (h5.lt k hk).1 h), h6.imp fun _ _ h => rep_Mo.fr h hf (fun b _ h e => h2 b h.1 e), h7.trans' hf h3⟩
set_option maxHeartbeats 8000000 in
set_option maxRecDepth 100000 in
theorem list_calls (D : Nat → Prop) (w : World) (q d1 d2 : Nat) (r0 : Rd) (most : Int) (h1 : -9223372036854775808 ≤ most) (h2 : most ≤ 65536) (H : ReaderIs D w q r0) (hl : r0.rest.length ≤ 140737488355328)
    (he1 : w.cell? ⟨d1, 0, none⟩ = some (.func (.func 71) #[] #[])) (he2 : w.cell? ⟨d2, 0, none⟩ = some (.pointer (some ⟨q, 0, none⟩))) (hn4 : d1 ≠ q) (hn5 : d2 ≠ q) (hroom : (r0.room most).2 ≤ 65536) :
    Calls Tryz.prog 91 #[.pointer (some ⟨q, 0, none⟩), .int .i64 most, (.func (.func 92) #[] #[.pointer (some ⟨d1, 0, none⟩), .pointer (some ⟨d2, 0, none⟩)])] w fun e w' => ∃ v, e = .returned v ∧
      Sl 33 RMo (fun b => w.heap.size ≤ b) w' v (lst (items RDmo (r0.room most).2 (r0.room most).1)) ∧ ReaderIs D w' q (items RDmo (r0.room most).2 (r0.room most).1).2 ∧ Fr (fun k => k = q) w w' := by
  have hql := H.lt
  have hdl1 := World.block_lt_of_cell? _ _ he1
  have hdl2 := World.block_lt_of_cell? _ _ he2
  dsimp only at hdl1 hdl2
  have HR := Lib.hid H
  clear H
  refine (callsIn_wide (n := 0)).1 (callsIn_of_wp_marks Tryz.func91 rfl trivial ?_ rfl)
  simp only [Tryz.ntmps91, List.size_toArray, List.length_cons, List.length_nil, Nat.reduceAdd, Nat.reduceSub, Array.replicate_succ, Array.replicate_zero, List.push_toArray, List.append_toArray, List.nil_append, List.cons_append]
  gi_wp2
  refine ⟨trivial, rfl, (callsIn_wide.2 (items_calls _ q most 92 d1 d2)).mono ?_⟩
  rintro e w2 ⟨rfl, g1, c1, c2, c3⟩
  rw [World.size_alloc] at c1 c2 c3
  have hs2 := World.block_lt_of_cell? _ _ c3
  dsimp only at hs2
  have HG := Lib.hid g1
  have hb0 : Below w.heap.size w w2 := ((Below.refl _ w).alloc (Nat.le_refl _) _).trans (g1.mono (by simp))
  have c4 := (hb0.cell hdl1).trans he1
  have c5 := (hb0.cell hdl2).trans he2
  have hbk : Blk w2 w.heap.size [.slice none 0 0] 54 := (Blk.new w #[.slice none 0 0] 54 [.slice none 0 0] rfl).below g1
  have HR2 := Lib.hid ((rd_under HR.out).below hb0)
  have hI0 : LI w q (w2.heap.size + 2) ([], (r0.room most).1) w2 := ⟨_, [], hbk, OwnA.nil _ _ _ _, .nil, Fr.ofBelowAll hb0 (Nat.le_refl _)⟩
  have HI0 := Lib.hid hI0
  clear g1 hb0 hbk hI0
  gi_wp2
  refine rangeSeq2 rfl (enters_of Tryz.func113 (by kernel_rfl) rfl)
    (items_seq RDmo 92 _ (enters_of Tryz.func92 (by kernel_rfl) rfl) (fun k => k < w.heap.size ∧ D k) w2 q (w.heap.size + 1) (w.heap.size + 1 + 1) (w.heap.size + 1 + 2) d1 d2 r0 most h1 (by omega) HR2.out c1 c2 c3 c4 c5 hn4 hn5 (by omega) (by omega) (by omega) 140737488355328 hl rdmo_rest
      (fun A r hr hrl a4 a5 => thing_calls _ A q d1 d2 r hr hrl a4 a5))
    (fun k hk => by omega)
    (fun s A B h hf => ⟨h.1.fr hf (by omega) (fun k hk hd e => by have := hd.1; omega), hf.cell h.2.1 (by show w.heap.size + 1 ≠ _; omega), hf.cell h.2.2.1 (by show w.heap.size + 1 + 1 ≠ _; omega), hf.cell h.2.2.2.1 (by show w.heap.size + 1 + 2 ≠ _; omega), hf.cell h.2.2.2.2.1 (by show d1 ≠ _; omega), hf.cell h.2.2.2.2.2 (by show d2 ≠ _; omega)⟩)
    (fun s s' vs A0 A B h hA hf => by obtain ⟨v, e1, e2, e3, e4, e5, cs, e6, e7⟩ := h; exact ⟨v, e1, e2, e3, e4, e5, cs, e6, rep_Mo.fr e7 hf (fun b _ h e => by omega)⟩)
    (fun s A B h hf => by obtain ⟨r2, h3, h4⟩ := h; exact ⟨r2, h3, h4.fr hf (by omega) (fun k hk hd e => by have := hd.1; omega)⟩) (fun s s' vs A0 A h => by obtain ⟨v, _, _, _, _, rfl, _⟩ := h; rfl)
    (LI w q (w2.heap.size + 2)) (fun _ _ _ => False)
    (fun s A B h hf => h.fr hf (by omega) (fun k hk h => by omega) (fun k hk h => by omega)) (fun _ _ _ _ h _ => h) HI0.out
    (fun vs a A => ∃ (cs : List Value) (g : Nat), vs.getD 1 undef = .agg cs.toArray ∧ (cs.length = 33 ∧ ∀ v ∈ cs, v.oneCell' = true) ∧ Blk A g cs 58 ∧ w2.heap.size + 2 ≤ g ∧ a = { tmps := #[.pointer (some ⟨q, 0, none⟩), .int .i64 most, (.func (.func 92) #[] #[.pointer (some ⟨d1, 0, none⟩), .pointer (some ⟨d2, 0, none⟩)]), undef, undef, undef, .slice none 0 0, .pointer (some ⟨w.heap.size, 0, none⟩), undef, .pointer (some ⟨g, 0, none⟩), .pointer (some ⟨q, 0, none⟩), .int .i64 most, (.func (.func 92) #[] #[.pointer (some ⟨d1, 0, none⟩), .pointer (some ⟨d2, 0, none⟩)]),
      .func (.func 113) #[] #[.pointer (some ⟨w.heap.size + 1, 0, none⟩), .pointer (some ⟨w.heap.size + 1 + 1, 0, none⟩), .pointer (some ⟨w.heap.size + 1 + 2, 0, none⟩)], vs.getD 0 undef, vs.getD 1 undef, undef, undef, undef, undef, undef, undef, undef, undef, undef, undef], defers := [] })
    (fun vs a A B h hf => by obtain ⟨cs, g, e1, e2, e3, e4, e5⟩ := h; exact ⟨cs, g, e1, e2, e3.fr hf (by show ¬ g = _; omega), e4, e5⟩) ?assign ?body ?done ?stop
  case assign =>
    rintro l s s' vs W0 W K ⟨v, _, _, _, _, rfl, hv⟩ hlt hK
    obtain ⟨cs, rfl, hx⟩ := hv
    have HCL := Lib.hid (rep_Mo.len hx)
    have HC1 := Lib.hid (rep_Mo.one hx)
    clear hx
    generalize hact : (Act.mk _ []) = act0
    have hlit : act0 = { tmps := #[.pointer (some ⟨q, 0, none⟩), .int .i64 most, (.func (.func 92) #[] #[.pointer (some ⟨d1, 0, none⟩), .pointer (some ⟨d2, 0, none⟩)]), undef, undef, undef, .slice none 0 0, .pointer (some ⟨w.heap.size, 0, none⟩), undef, undef, .pointer (some ⟨q, 0, none⟩), .int .i64 most, (.func (.func 92) #[] #[.pointer (some ⟨d1, 0, none⟩), .pointer (some ⟨d2, 0, none⟩)]),
      .func (.func 113) #[] #[.pointer (some ⟨w.heap.size + 1, 0, none⟩), .pointer (some ⟨w.heap.size + 1 + 1, 0, none⟩), .pointer (some ⟨w.heap.size + 1 + 2, 0, none⟩)], .int .i64 (s.1.length : Int), .agg cs.toArray, undef, undef, undef, undef, undef, undef, undef, undef, undef, undef], defers := [] } := by rw [← hact]; simp
    subst hlit
    clear hact
    gi_wp2_with (first
      | ((with_reducible refine wpListIn_alloc rfl _ rfl _ (zeroMo _) (fun wa ka ca za => ?_)); have KA := Lib.hid ka; have CA := Lib.hid ca; clear ka ca)
      | ((with_reducible refine wpListIn_put rfl _ _ _ rfl W.heap.size cs _ rfl rfl KA.out (szT HCL.out) (zeroMo_len.trans HCL.out.symm) HC1.out (fun wb kb fb zb => ?_)); have KB := Lib.hid kb; have CB := Lib.hid (CA.out.trans (fb.below CA.out.size (fun k (hk : k = _) => by omega))); clear kb fb))
    exact hK _ _ ⟨cs, W.heap.size, rfl, ⟨HCL.out, HC1.out⟩, KB.out, by omega, rfl⟩ CB.out
  case body =>
    rintro ⟨pre, r⟩ s' vs a A0 A hlt ⟨v, css, hb, ht, hr, hf⟩ hfr ⟨vv, hlen, hat, rfl, he, rfl, cs0, hv, hx⟩ hit ⟨cs, g, e1, ⟨e2, ec⟩, e3, e4, rfl⟩
    dsimp only at hlen hat he hv hx hit ht hr ⊢
    have ecs : cs = cs0 := by subst hv; simpa using e1.symm
    subst ecs
    clear e1 hv
    have hcl : css.length = pre.length := hr.length
    obtain ⟨va, vc, hve, hc1, hc2, _⟩ := ht.form
    rw [hcl] at hve hc1
    subst hve
    have HCS := Lib.hid hcl
    clear hcl
    have hpl : pre.length ≤ 65536 := by omega
    have hsA := hfr.size
    have HR0 := Lib.hid hr
    have HFR := Lib.hid hfr
    have hlt0 : ∀ k, (Value.slice va pre.length vc).ownBlock = some k → k < A0.heap.size := fun k hk => (ht.lt k hk).2
    have HLT := Lib.hid hlt0
    have o1A := ht.fr hfr (fun k hk e => by have := (ht.lt k hk).1; omega)
    have hlb : ∀ k, (Value.slice va pre.length vc).ownBlock = some k → w2.heap.size + 2 ≤ k := fun k hk => (o1A.lt k hk).1
    have hbA := hb.fr hfr (by omega)
    have hfA : Fr (fun k => k = q) w A := hf.trans' hfr (fun k hk h => by omega)
    have cl := hbA.cell (i := 0) rfl
    have HX := Lib.hid hx
    have HCL := Lib.hid e2
    have HC1 := Lib.hid ec
    have HO1 := Lib.hid o1A
    have HIT := Lib.hid hit
    have HFA := Lib.hid hfA
    have HLB := Lib.hid hlb
    have E3 := Lib.hid e3
    have HBA := Lib.hid hbA
    clear hit hfA hf hfr hb hlb o1A ht e3 hx hbA hr hlt0 e2 ec
    gi_wp2_with (first
      | (with_reducible refine wpListIn_load_blk rfl _ _ rfl g cs rfl E3.out _ Tryz.underlying58 rfl (szT HCL.out) ?_)
      | ((with_reducible refine wpListIn_buildSlice1 rfl elemT _ rfl cs rfl HCL.out (by omega) (fun wb kb bb zb => ?_)); have KB := Lib.hid kb; have BB := Lib.hid bb; have HO2 := Lib.hid (HO1.out.below bb); have hb1 := HBA.out.below bb; clear kb bb)
      | (gi_at_builtin; refine wpListIn_append_arr rfl (.tmp 16) (.tmp 18) 54 rfl (w2.heap.size + 2) 58 elemT _ css rfl HO2.out _ [cs] rfl (arr1 KB.out HCL.out) (fun y hy u hu => by rw [List.mem_singleton.1 hy] at hu; exact HC1.out u hu) (by rw [HCS.out, List.length_singleton]; unfold maxLen; omega) (by rw [HCS.out, List.length_singleton]; omega) (by omega) (pre.length + 1) (by rw [HCS.out, List.length_singleton]) ?_; intro a' cap' w3 q1 q2 q3; have hk3 := hb1.fr (Fr.ofGrown q2) (fun e => by have := HLB.out _ e; omega); have cc := hk3.cell (i := 0) rfl; have ff := hk3.free 0))
    have q2' : Fr (fun k => (Value.slice va pre.length vc).ownBlock = some k) A w3 := (Fr.ofBelowAll BB.out (Nat.le_refl _)).trans (Fr.ofGrown q2)
    have hF : Fr (fun k => (Value.slice va pre.length vc).ownBlock = some k ∨ k = w.heap.size) A (w3.setCell ⟨w.heap.size, 0, none⟩ (.slice a' (pre.length + 1) cap')) := (q2'.mono (fun k _ h => .inl h)).setCell (.inr (.inr rfl)) _
    have hll := HLB.out
    have hI := HIT.out
    have hst : ∀ k, ((Value.slice va pre.length vc).ownBlock = some k ∨ k = w.heap.size) → w2.heap.size + 2 ≤ k ∨ k = w.heap.size := fun k h => h.imp_left (hll k)
    refine ⟨Rec.fr hF (by omega) (fun h => by have := hst _ h; omega) (fun h => by have := hst _ h; omega), ⟨_, css ++ [cs], hk3.set 0 _, q1.fr ((Fr.refl (fun k => k = w.heap.size) _).setCell (.inr rfl) _) (fun k hk h => by have := (q1.lt k hk).1; omega), push rep_Mo HR0.out HX.out HFR.out (fun k hk h => by omega) (by omega) HLT.out hF (fun k hk hN h => h.resolve_right (by omega)) (q3.imp_right fun h => ⟨_, h, BB.out.size⟩), HFA.out.trans' hF (fun k hk h => by have := hst _ h; omega)⟩, ?_⟩
    exact ⟨hI.1.fr hF (fun h => by have := hst _ h; omega) (fun k hk hd h => by have := hst _ h; have := hd.1; omega), hF.cell hI.2.1 (fun h => by have := hst _ h; dsimp only at this; omega), hF.cell hI.2.2.1 (fun h => by have := hst _ h; dsimp only at this; omega), hF.cell hI.2.2.2.1 (fun h => by have := hst _ h; dsimp only at this; omega), hF.cell hI.2.2.2.2.1 (fun h => by have := hst _ h; dsimp only at this; omega), hF.cell hI.2.2.2.2.2 (fun h => by have := hst _ h; dsimp only at this; omega)⟩
  case done =>
    rintro ⟨pre, r⟩ W ⟨r2, e1, e2⟩ ⟨v, css, hb, ht, hr, hf⟩ hk
    dsimp only at e1 e2 ht hr ⊢
    have hsl := sl_own rep_Mo ht hr
    obtain ⟨va, vc, rfl, _⟩ := hsl.form
    have HSL := Lib.hid hsl
    clear hr hsl
    have cv := hb.cell (i := 0) rfl
    obtain ⟨xa, xc, x1, x2, x3⟩ := id e2
    have d1' := x1.cell (i := 1) rfl
    have E1 := Lib.hid e1
    have E2 := Lib.hid e2
    have HT := Lib.hid ht
    have HF := Lib.hid hf
    have HK := Lib.hid hk
    clear e1 e2 ht hf hk x1 x2 x3
    by_cases he : r2.e = 0
    · rw [he] at d1'
      gi_wp2
      refine ⟨by simp, .inl ⟨_, _, rfl, run_takeDeferred HK.out, ?_⟩⟩
      exact ⟨_, results_tmp rfl _ _ _, _, rfl, by rw [lst, E1.out, if_neg (by simpa using he)]; exact (HSL.out.fr rep_Mo (Fr.putObj W _ _ rfl) (fun b _ h e => by omega)).mono rep_Mo (fun b _ h => by omega), by rw [E1.out]; exact rd_back (E2.out.fr (Fr.putObj W _ _ rfl) (by omega) (fun k _ h e => by have := h.1; omega)) hql, HF.out.trans' (Fr.putObj W _ _ rfl) (fun k hk e => by omega)⟩
    · have he2 : (r2.e != 0) = true := by simpa using he
      gi_wp2
      refine ⟨by simp, .inl ⟨_, _, rfl, run_takeDeferred HK.out, ?_⟩⟩
      exact ⟨_, results_tmp rfl _ _ _, _, rfl, by rw [lst, E1.out, if_pos (by simpa using he)]; exact Sl.nil _ _ _ _, by rw [E1.out]; exact rd_back (E2.out.fr (Fr.putObj W _ _ rfl) (by omega) (fun k _ h e => by have := h.1; omega)) hql, HF.out.trans' (Fr.putObj W _ _ rfl) (fun k hk e => by omega)⟩
  case stop =>
    intro c s W h
    exact h.elim
/-- a list, read -/
def lsts (r : Rd) (most : Int) : Rd × List (Nat × List UInt8) := ((items RDmo (r.room most).2 (r.room most).1).2, lst (items RDmo (r.room most).2 (r.room most).1))
set_option maxHeartbeats 4000000 in
set_option maxRecDepth 100000 in
theorem things_calls (D : Nat → Prop) (w : World) (q : Nat) (r : Rd) (most : Int) (h1 : -9223372036854775808 ≤ most) (h2 : most ≤ 65536) (H : ReaderIs D w q r) (hl : r.rest.length ≤ 140737488355328) :
    Calls Tryz.prog 70 #[.agg #[.pointer (some ⟨q, 0, none⟩)], .int .i64 most, .func (.func 71) #[] #[]] w fun e w' => ∃ v, e = .returned v ∧ Sl 33 RMo (fun b => w.heap.size ≤ b) w' v (lsts r most).2 ∧ ReaderIs D w' q (lsts r most).1 ∧ Fr (fun k => k = q) w w' := by
  have hql := H.lt
  have b1 := below_alloc w (.cells #[.pointer (some ⟨q, 0, none⟩)] 106)
  have b2 := b1.alloc (by simp) (.cells #[.func (.func 71) #[] #[]] 131)
  have H1 := Lib.hid ((rd_under H).below b2)
  have k1 := ((Blk.new w #[.pointer (some ⟨q, 0, none⟩)] 106 _ rfl).alloc (.cells #[.func (.func 71) #[] #[]] 131)).cell (i := 0) rfl
  have k2 := (Blk.new (w.alloc (.cells #[.pointer (some ⟨q, 0, none⟩)] 106)) #[.func (.func 71) #[] #[]] 131 _ rfl).cell (i := 0) rfl
  rw [World.size_alloc] at k2
  have BB := Lib.hid b2
  have hz : w.heap.size + 2 = ((w.alloc (.cells #[.pointer (some ⟨q, 0, none⟩)] 106)).alloc (.cells #[.func (.func 71) #[] #[]] 131)).heap.size := by simp
  have HRS := Lib.hid (room_small r most h2)
  clear H b1 b2
  go_enter Tryz.func70, Tryz.ntmps70
  go_upto_region 1 with fail
  generalize (w.alloc (.cells #[.pointer (some ⟨q, 0, none⟩)] 106)).alloc (.cells #[.func (.func 71) #[] #[]] 131) = w2 at *
  go_wp2_with fail
  refine (list_calls _ w2 q (w.heap.size + 1) w.heap.size r most h1 h2 H1.out hl k2 k1 (by omega) (by omega) HRS.out).mono ?_
  rintro e w3 ⟨v, rfl, o1, o2, o3⟩
  obtain ⟨va, vc, rfl, _⟩ := o1.form
  have O1 := Lib.hid (o1.mono rep_Mo (E := fun b => w.heap.size ≤ b) (fun b _ h => by omega))
  have O2 := Lib.hid (rd_back o2 hql)
  have O3 := Lib.hid ((Fr.ofBelowAll BB.out (Nat.le_refl _) : Fr (fun k => k = q) w w2).trans o3)
  clear o1 o2 o3 k1 k2 H1 BB
  go_wp2
  go_ret
  exact ⟨_, rfl, O1.out, O2.out, O3.out⟩
end Go.Proofs.YtmenchnjajpkmaaGreatDoor.RmT
end

section
namespace Go.Proofs.YtmenchnjajpkmaaGreatDoor.Rm
open Go Go.RowKit Mem Codec CodecR Ops Reps WtIt Arr Rr Wr Wm
set_option linter.unusedVariables false
set_option linter.unusedSimpArgs false

set_option maxRecDepth 100000 in
theorem structMt : StructT Tryz.prog 56 [1, 1] := ⟨_, _, _, rfl, Tryz.underlying56, rfl, by kernel_rfl, by kernel_rfl⟩
theorem zeroMt (w : World) : (zeroValue 56).run Tryz.prog w = .ok (.agg [Value.int .u64 0, .slice none 0 0].toArray) w := by kernel_rfl
theorem zeroMt_len : [Value.int .u64 0, .slice none 0 0].length = 2 := rfl
theorem zeroMt_one : ∀ v ∈ [Value.int .u64 0, .slice none 0 0], v.oneCell' = true := by
  intro u hu
  simp only [List.mem_cons, List.not_mem_nil, or_false] at hu
  rcases hu with rfl | rfl <;> rfl
theorem lsts_rest (r : Rd) (most : Int) : (RmT.lsts r most).1.rest.length ≤ r.rest.length := Nat.le_trans (items_rest rdmo_rest _ _) (Rd.room_len r most)
/-- a transaction, read -/
def RDmt (r : Rd) : Rd × XMt := seq (fun r : Rd => r.num 8) (fun r : Rd => RmT.lsts r 16) r
theorem zero_Mt (D : Nat → Prop) (w : World) : RMt D w [Value.int .u64 0, .slice none 0 0] (0, []) := ⟨[_], [_], rfl, ⟨by omega, rfl⟩, _, rfl, Sl.nil _ _ _ _⟩
set_option maxHeartbeats 8000000 in
set_option maxRecDepth 100000 in
theorem rmt_calls (D : Nat → Prop) (w : World) (q : Nat) (r : Rd) (H : ReaderIs D w q r) (hl : r.rest.length ≤ 140737488355328) :
    Calls Tryz.prog 47 #[.agg #[.pointer (some ⟨q, 0, none⟩)]] w (GotD RMt D w q (RDmt r)) := by
  have hql := H.lt
  have H0 := Lib.hid ((rd_under H).below (below_alloc w (.cells #[.pointer (some ⟨q, 0, none⟩)] 106)))
  have HB := Lib.hid (Blk.new w #[.pointer (some ⟨q, 0, none⟩)] 106 _ rfl)
  have HA := Lib.hid (below_alloc w (.cells #[.pointer (some ⟨q, 0, none⟩)] 106))
  have hz : w.heap.size + 1 = (w.alloc (.cells #[.pointer (some ⟨q, 0, none⟩)] 106)).heap.size := by simp
  have HL0 := Lib.hid hl
  obtain ⟨y1, hy1⟩ : ∃ y, ((r).num 8).2 = y := ⟨_, rfl⟩
  obtain ⟨r1, hr1⟩ : ∃ y, ((r).num 8).1 = y := ⟨_, rfl⟩
  have HC1 := Lib.hid (fun D w h => CodecR.long_calls D w q r h)
  have HW1 := Lib.hid (show y1 < 18446744073709551616 by rw [← hy1]; exact num_lt _ _)
  have HL1 := Lib.hid (show r1.rest.length ≤ 140737488355328 by rw [← hr1]; exact Nat.le_trans (num_rest _ _) HL0.out)
  rw [hr1, hy1] at HC1
  obtain ⟨y2, hy2⟩ : ∃ y, ((fun r : Rd => RmT.lsts r 16) r1).2 = y := ⟨_, rfl⟩
  obtain ⟨r2, hr2⟩ : ∃ y, ((fun r : Rd => RmT.lsts r 16) r1).1 = y := ⟨_, rfl⟩
  have HC2 := Lib.hid (fun D w h => RmT.things_calls D w q r1 16 (by omega) (by omega) h HL1.out)
  have HL2 := Lib.hid (show r2.rest.length ≤ 140737488355328 by rw [← hr2]; exact Nat.le_trans (lsts_rest _ _) HL1.out)
  rw [hr2, hy2] at HC2
  have HRD := Lib.hid (show RDmt r = (r2, y1, y2) by simp only [RDmt, seq, hr1, hy1, hr2, hy2])
  rw [HRD.out]
  clear H hl hr1 hy1 hr2 hy2
  go_enter Tryz.func47, Tryz.ntmps47
  go_upto_region 1 with (first
    | ((with_reducible refine wpList_alloc rfl _ rfl _ (zeroMt _) (fun wb ka ca za => ?_)); have KA := Lib.hid ka; have CA := Lib.hid ca; clear ka ca))
  generalize (w.alloc (.cells #[.pointer (some ⟨q, 0, none⟩)] 106)) = wA at *
  have O0 := Lib.hid (H0.out.below CA.out)
  have HB2 := Lib.hid (HB.out.below CA.out)
  have B2 := Lib.hid (HA.out.trans (CA.out.mono (by omega)))
  have hg0 : w.heap.size < wA.heap.size := by omega
  have hg2 : wA.heap.size < wb.heap.size := by omega
  generalize wA.heap.size = g1 at *
  clear H0 HB HA CA
  refine wp_region_held_drew (S := (fun w' => Blk w' w.heap.size [.pointer (some ⟨q, 0, none⟩)] 106 ∧ (∃ l : List Value, l.length = 2 ∧ Blk w' g1 l 56) ∧ Fr (fun k => k = q) w w' ∧ wb.heap.size ≤ w'.heap.size)) (by kernel_rfl) ⟨HB2.out.drew, ⟨_, zeroMt_len, KA.out.drew⟩, (Fr.ofBelowAll B2.out (Nat.le_refl _)).drew, Nat.le_refl _⟩ (fun hHeld => ?_)
  refine wpAnyH_take (i := 0) (oi := ⟨_, _, _, _, _, _⟩) (v := ?_) rfl (by kernel_rfl) (by kernel_rfl) (by kernel_rfl) (fun _ _ _ h => h) (Or.inl ⟨by rfl, ?_⟩) (by assumption) ?_
  rotate_left
  · intro w hSw; go_simp; try (with_reducible rfl)
  try simp only [Act.put, List.setIfInBounds_toArray, List.set_cons_zero, List.set_cons_succ]
  refine wpAnyH_take (i := 1) (oi := ⟨_, _, _, _, _, _⟩) (v := .pointer (some ⟨q, 0, none⟩)) rfl (by kernel_rfl) (by kernel_rfl) (by kernel_rfl) (fun _ _ _ h => h) (Or.inl ⟨by rfl, fun wS hSw => (by have hc := hSw.1.cell (i := 0) rfl; go_simp; try (with_reducible rfl))⟩) (by assumption) ?_
  try simp only [Act.put, List.setIfInBounds_toArray, List.set_cons_zero, List.set_cons_succ]
  refine wpAnyH_take (i := 3) (oi := ⟨_, _, _, _, _, _⟩) rfl (by kernel_rfl) (by kernel_rfl) (by kernel_rfl) (fun _ _ _ h => h) (yieldsIf_load_mid (by rfl) _ _ rfl w.heap.size 0 rfl [.pointer (some ⟨q, 0, none⟩)] _ (fun _ h => blk_range h.1) Tryz.underlying106 rfl (by kernel_rfl)) (by assumption) ?_
  try simp only [Act.put, List.setIfInBounds_toArray, List.set_cons_zero, List.set_cons_succ]
  refine wpAnyH_ready (rs := [2]) (by kernel_rfl) (by simp) ?_
  refine AllReadyH.cons (o := ⟨_, _, _, _, _, _⟩) rfl (fun K hK => ?_) AllReadyH.nil
  go_simp
  have kk1 := hHeld.1.lt
  have kk2 : g1 < _ := hHeld.2.1.choose_spec.2.lt
  have HH1 := hHeld.2.2.2
  refine (HC1.out _ wb.drew O0.out).mono ?_
  rintro e x1 ⟨rfl, o1, o2⟩
  have hsx1 := o2.size
  refine hK.out _ _ (by exact ⟨hHeld.1.fr o2 (by omega), hHeld.2.1.elim fun l h => ⟨l, h.1, h.2.fr o2 (by omega)⟩, hHeld.2.2.1.trans o2, Nat.le_trans hHeld.2.2.2 o2.size⟩) (fun hHeld => ?_)
  have O1 := Lib.hid o1
  clear o1 o2
  try simp only [Act.put, List.setIfInBounds_toArray, List.set_cons_zero, List.set_cons_succ]
  clear hK
  refine wpAnyH_ready (rs := [4]) (by kernel_rfl) (by simp) ?_
  refine AllReadyH.cons (o := ⟨_, _, _, _, _, _⟩) rfl (fun K hK => ?_) AllReadyH.nil
  go_simp
  have kk1 := hHeld.1.lt
  have kk2 : g1 < _ := hHeld.2.1.choose_spec.2.lt
  have HH2 := hHeld.2.2.2
  refine (HC2.out _ x1 O1.out).mono ?_
  rintro e x2 ⟨v2, rfl, ox, o1, o2⟩
  have hsx2 := o2.size
  refine hK.out _ _ (by exact ⟨hHeld.1.fr o2 (by omega), hHeld.2.1.elim fun l h => ⟨l, h.1, h.2.fr o2 (by omega)⟩, hHeld.2.2.1.trans o2, Nat.le_trans hHeld.2.2.2 o2.size⟩) (fun hHeld => ?_)
  have O2 := Lib.hid o1
  have GX2 := Lib.hid (show (RSl 33 RMo) (fun b => x1.heap.size ≤ b) x2 [v2] y2 from ⟨_, rfl, ox⟩)
  have HV2 := Lib.hid ((rep_rsl rep_Mo).one GX2.out v2 (by simp))
  clear o1 o2 ox
  try simp only [Act.put, List.setIfInBounds_toArray, List.set_cons_zero, List.set_cons_succ]
  clear hK
  have HCE := Lib.hid (show ([Value.int .u64 (y1 : Int)] ++ ([v2]) : List Value).length = 2 by rfl)
  refine wpAnyH_take (i := 5) (oi := ⟨_, _, _, _, _, _⟩) rfl (by kernel_rfl) (by kernel_rfl) (by kernel_rfl) (fun _ _ _ h => h) (yieldsIf_build (by rfl) structMt [(0, _), (1, _)] rfl [.int .u64 (y1 : Int), v2] rfl (by simp only [List.map_cons, List.map_nil, (show v2.cells = #[v2] from cells_one HV2.out)]; simp [Value.cells]) (([Value.int .u64 (y1 : Int)] ++ ([v2])).toArray) (by simp only [List.flatMap_cons, List.flatMap_nil, (show v2.cells = #[v2] from cells_one HV2.out)]; simp [Value.cells])) (by assumption) ?_
  try simp only [Act.put, List.setIfInBounds_toArray, List.set_cons_zero, List.set_cons_succ]
  refine wpAnyH_ready (rs := [6]) (by kernel_rfl) (by simp) ?_
  refine AllReadyH.cons (o := ⟨_, _, _, _, _, _⟩) rfl (fun K hK => ?_) AllReadyH.nil
  rw [if_pos (by rfl)]
  obtain ⟨l0, hl0, hb0⟩ := hHeld.2.1
  have HRR := Lib.hid (show ∀ W : World, (RSl 33 RMo) (fun b => w.heap.size ≤ b ∧ b ≠ g1) W [v2] y2 →  RMt (fun b => w.heap.size ≤ b ∧ b ≠ g1) W ([Value.int .u64 (y1 : Int)] ++ ([v2])) (y1, y2) from fun W GG2 => ⟨_, _, rfl, ⟨HW1.out, rfl⟩, GG2⟩)
  have HRF := Lib.hid (HRR.out _ ((rep_rsl rep_Mo).mono GX2.out (fun b _ h => by have := hg2; omega)))
  have HSZ := Lib.hid (show (Tryz.prog.info? 56).map (·.size) = some ([Value.int .u64 (y1 : Int)] ++ ([v2]) : List Value).length by rw [HCE.out]; kernel_rfl)
  refine wp_put _ _ _ rfl g1 ([Value.int .u64 (y1 : Int)] ++ ([v2])) l0 rfl rfl hb0 HSZ.out (hl0.trans HCE.out.symm) (rep_Mt.one HRF.out) (fun we ke fe ze => ?_)
  refine hK.out _ _ (by exact ⟨hHeld.1.fr fe (by omega), ⟨_, HCE.out, ke⟩, hHeld.2.2.1.trans' fe (fun i hi (e : i = g1) => by omega), by have := hHeld.2.2.2; omega⟩) (fun hHeld => ?_)
  have KE := Lib.hid ke
  have FE := Lib.hid fe
  clear ke fe
  clear hK
  refine wpAnyH_done (by kernel_rfl) ?_ _
  have FF := Lib.hid hHeld.2.2.1
  clear hHeld
  go_wp2
  exact bodyPost_ret (v := .agg ([Value.int .u64 (y1 : Int)] ++ ([v2])).toArray) (results_row1 Tryz.results47 _ _ g1 _ _ rfl KE.out Tryz.underlying56 rfl HSZ.out) rfl ⟨_, rfl, rep_Mt.mono (rep_Mt.fr HRF.out FE.out (fun b _ h (e : b = g1) => h.2 e)) (fun b _ h => h.1), rd_back (O2.out.fr FE.out (by omega) (fun k _ h (e : k = g1) => by have := h.1; omega)) hql, FF.out⟩
set_option maxHeartbeats 8000000 in
set_option maxRecDepth 100000 in
theorem read_mt_calls (D : Nat → Prop) (w : World) (v : Value) (l : List UInt8) (hB : Byt D w v l) (hl : l.length ≤ 140737488355328) :
    Calls Tryz.prog 46 #[v, .func (.func 47) #[] #[]] w (GotT RMt w (got RDmt ((0 : Nat), ([] : List (Nat × List UInt8))) l)) := by
  have HB := Lib.hid hB
  obtain ⟨s, hs⟩ : ∃ s, RDmt ⟨l, 0⟩ = s := ⟨_, rfl⟩
  have HG := Lib.hid (show (s.1.fin = 0 → got RDmt ((0 : Nat), ([] : List (Nat × List UInt8))) l = (s.2, 0)) ∧ (¬ s.1.fin = 0 → got RDmt ((0 : Nat), ([] : List (Nat × List UInt8))) l = (((0 : Nat), ([] : List (Nat × List UInt8))), 120)) from ⟨fun h => by rw [got_yes (by rw [hs]; exact h), hs], fun h => by rw [got_no (by rw [hs]; exact h)]⟩)
  have HC := Lib.hid (fun D' w' q' h' => rmt_calls D' w' q' ⟨l, 0⟩ h' hl)
  rw [hs] at HC
  have hszT : ∀ cs : List Value, cs.length = 2 → (Tryz.prog.info? 56).map (·.size) = some cs.length := fun cs h => by rw [h]; kernel_rfl
  clear hB hs
  go_enter Tryz.func46, Tryz.ntmps46
  go_upto_region 1 with (first
    | ((with_reducible refine wpList_alloc rfl _ rfl _ (zeroMt _) (fun wa ka ca za => ?_)); have KA := Lib.hid ka; have CA := Lib.hid ca; clear ka ca))
  go_wp2_with fail
  refine (CodecR.read_calls D wa v l (HB.out.below CA.out) hl).mono ?_
  rintro e wb ⟨q, rfl, hq, o1, o2⟩
  have hql := o1.lt
  have O1 := Lib.hid o1
  have KA1 := Lib.hid (KA.out.below o2)
  have B1 := Lib.hid (CA.out.trans (o2.mono (by omega)))
  have hsb := o2.size
  clear o1 o2 KA CA
  go_upto_region 2 with (first
    | ((with_reducible refine wpList_alloc rfl _ rfl _ (zeroR _) (fun wc kc cc zc => ?_)); have KC := Lib.hid kc; have CC := Lib.hid cc; clear kc cc)
    | ((with_reducible refine wpList_put rfl _ _ _ rfl wb.heap.size [.pointer (some ⟨q, 0, none⟩)] _ rfl rfl KC.out (by kernel_rfl) rfl (one_ptr q) (fun wd kd fd zd => ?_)); have KD := Lib.hid kd; have CD := Lib.hid (CC.out.trans (fd.below CC.out.size (fun k (hk : k = _) => by omega))); clear kd fd))
  have O2 := Lib.hid (O1.out.below CD.out)
  have KA2 := Lib.hid (KA1.out.below CD.out)
  have B2 := Lib.hid (B1.out.trans (CD.out.mono (by omega)))
  have hsd := CD.out.size
  have hgr : wb.heap.size < wd.heap.size := KD.out.lt
  clear O1 KA1 B1 KC CC CD
  generalize wb.heap.size = gr at *
  go_wp2_with (first | (with_reducible refine wpList_load_blk rfl _ _ rfl gr [.pointer (some ⟨q, 0, none⟩)] rfl KD.out _ Tryz.underlying106 rfl (by kernel_rfl) ?_))
  refine (HC.out _ wd q O2.out).mono ?_
  rintro e we ⟨cs, rfl, ox, o2, o3⟩
  have HX := Lib.hid ox
  have HCL := Lib.hid (rep_Mt.len ox)
  have HC1 := Lib.hid (rep_Mt.one ox)
  have HSZ := Lib.hid (hszT cs (rep_Mt.len ox))
  have hse := o3.size
  have O3 := Lib.hid o2
  have KA3 := Lib.hid (KA2.out.fr o3 (by omega))
  have KD3 := Lib.hid (KD.out.fr o3 (by omega))
  have B3 := Lib.hid (B2.out.trans (o3.below (by omega) (fun k (hk : k = q) => by omega)))
  clear ox o2 o3 O2 KA2 KD B2 HC
  go_upto_region 3 with (first
    | ((with_reducible refine wpList_alloc rfl _ rfl _ (zeroMt _) (fun wf kf cf zf => ?_)); have KF := Lib.hid kf; have CF := Lib.hid cf; clear kf cf)
    | ((with_reducible refine wpList_put rfl _ _ _ rfl we.heap.size cs _ rfl rfl KF.out HSZ.out (zeroMt_len.trans HCL.out.symm) HC1.out (fun wg kg fg zg => ?_)); have KG := Lib.hid kg; have CG := Lib.hid (CF.out.trans (fg.below CF.out.size (fun k (hk : k = _) => by omega))); clear kg fg))
  have O5 := Lib.hid (O3.out.below CG.out)
  have HX5 := Lib.hid (rep_Mt.below HX.out CG.out)
  have KA5 := Lib.hid (KA3.out.below CG.out)
  have KD5 := Lib.hid (KD3.out.below CG.out)
  have B5 := Lib.hid (B3.out.trans (CG.out.mono (by omega)))
  have hsg := CG.out.size
  have c0 := KD5.out.cell (i := 0) rfl
  clear O3 HX KA3 KD3 B3 KF CF CG
  go_wp2_with fail
  refine (CodecR.end_calls _ wg q _ O5.out).mono ?_
  rintro e wh ⟨rfl, rfl⟩
  clear c0 O5
  by_cases hf : s.1.fin = 0
  · have hf2 : (s.1.fin != 0) = false := by simp [hf]
    have HG2 := Lib.hid (HG.out.1 hf)
    clear hf HG
    go_wp2_with (first
      | (with_reducible refine wpList_load_blk rfl _ _ rfl we.heap.size cs rfl KG.out _ Tryz.underlying56 rfl HSZ.out ?_)
      | ((with_reducible refine wpList_put rfl _ _ _ rfl w.heap.size cs _ rfl rfl KA5.out HSZ.out (zeroMt_len.trans HCL.out.symm) HC1.out (fun wi ki fi zi => ?_)); have KI := Lib.hid ki; have FI := Lib.hid fi; clear ki fi))
    refine bodyPost_ret (v := .tuple #[.agg cs.toArray, .int .i64 0]) (results_row2 Tryz.results46 _ _ w.heap.size _ _ rfl KI.out Tryz.underlying56 rfl HSZ.out _ rfl) rfl ?_
    rw [HG2.out]
    exact ⟨cs, rfl, rep_Mt.mono (rep_Mt.fr HX5.out FI.out (fun b _ h (e : b = w.heap.size) => by omega)) (fun b _ h => by omega), B5.out.trans (FI.out.below B5.out.size (fun k (hk : k = w.heap.size) => by omega))⟩
  · have hf2 : (s.1.fin != 0) = true := by simpa using hf
    have HG2 := Lib.hid (HG.out.2 hf)
    have HZL := Lib.hid (hszT ([Value.int .u64 0, .slice none 0 0]) zeroMt_len)
    clear hf HG
    go_wp2_with (first
      | ((with_reducible refine wpList_alloc rfl _ rfl _ (zeroMt _) (fun wf' kf cf zf => ?_)); have KF := Lib.hid kf; have CF := Lib.hid cf; have KA6 := Lib.hid (KA5.out.below cf); clear kf cf)
      | (with_reducible refine wpList_load_blk rfl _ _ rfl wg.heap.size ([Value.int .u64 0, .slice none 0 0]) rfl KF.out _ Tryz.underlying56 rfl HZL.out ?_)
      | ((with_reducible refine wpList_put rfl _ _ _ rfl w.heap.size ([Value.int .u64 0, .slice none 0 0]) _ rfl rfl KA6.out HZL.out rfl zeroMt_one (fun wi ki fi zi => ?_)); have KI := Lib.hid ki; have FI := Lib.hid fi; clear ki fi))
    refine bodyPost_ret (v := .tuple #[.agg ([Value.int .u64 0, .slice none 0 0]).toArray, .int .i64 120]) (results_row2 Tryz.results46 _ _ w.heap.size _ _ rfl KI.out Tryz.underlying56 rfl HZL.out _ rfl) rfl ?_
    rw [HG2.out]
    exact ⟨_, rfl, zero_Mt _ _, (B5.out.trans (CF.out.mono B5.out.size)).trans (FI.out.below (by have := B5.out.size; have := CF.out.size; omega) (fun k (hk : k = w.heap.size) => by omega))⟩
set_option maxHeartbeats 4000000 in
set_option maxRecDepth 100000 in
theorem ReadMainTx_calls (D : Nat → Prop) (w : World) (v : Value) (l : List UInt8) (hB : Byt D w v l) (hl : l.length ≤ 140737488355328) :
    Calls Tryz.prog 26 #[v] w (GotT RMt w (got RDmt ((0 : Nat), ([] : List (Nat × List UInt8))) l)) := by
  have HB := Lib.hid hB
  clear hB
  obtain ⟨g, hg⟩ : ∃ g, got RDmt ((0 : Nat), ([] : List (Nat × List UInt8))) l = g := ⟨_, rfl⟩
  have HR := Lib.hid (fun w' h => read_mt_calls D w' v l h hl)
  rw [hg] at HR ⊢
  have hszT : ∀ cs : List Value, cs.length = 2 → (Tryz.prog.info? 56).map (·.size) = some cs.length := fun cs h => by rw [h]; kernel_rfl
  clear hg
  go_enter Tryz.func26, Tryz.ntmps26
  go_upto_region 1 with (first
    | ((with_reducible refine wpList_alloc rfl _ rfl _ (zeroMt _) (fun wa ka ca za => ?_)); have KA := Lib.hid ka; have CA := Lib.hid ca; clear ka ca))
  go_wp2_with fail
  refine (HR.out wa (HB.out.below CA.out)).mono ?_
  rintro e wb ⟨cs, rfl, ox, o2⟩
  have HX := Lib.hid ox
  have HCL := Lib.hid (rep_Mt.len ox)
  have HC1 := Lib.hid (rep_Mt.one ox)
  have HSZ := Lib.hid (hszT cs (rep_Mt.len ox))
  have B1 := Lib.hid (CA.out.trans (o2.mono (by omega)))
  have KA1 := Lib.hid (KA.out.below o2)
  clear ox o2 KA HR HB
  go_wp2_with (first
    | ((with_reducible refine wpList_put rfl _ _ _ rfl w.heap.size cs _ rfl rfl KA1.out HSZ.out (zeroMt_len.trans HCL.out.symm) HC1.out (fun wi ki fi zi => ?_)); have KI := Lib.hid ki; have FI := Lib.hid fi; clear ki fi))
  exact bodyPost_ret (v := .tuple #[.agg cs.toArray, .int .i64 g.2]) (results_row2 Tryz.results26 _ _ w.heap.size _ _ rfl KI.out Tryz.underlying56 rfl HSZ.out _ rfl) rfl ⟨cs, rfl, rep_Mt.mono (rep_Mt.fr HX.out FI.out (fun b _ h (e : b = w.heap.size) => by omega)) (fun b _ h => by omega), B1.out.trans (FI.out.below (by have := B1.out.size; omega) (fun k (hk : k = w.heap.size) => by omega))⟩
end Go.Proofs.YtmenchnjajpkmaaGreatDoor.Rm
end
