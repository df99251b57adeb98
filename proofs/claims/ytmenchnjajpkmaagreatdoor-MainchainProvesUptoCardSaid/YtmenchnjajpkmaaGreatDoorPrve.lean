/- The walk of the reference's digest: Of comes to Sha.sha. Condition: the text is shorter than 2^47 - 128 bytes. A hash that lies from a block on: New and Write as steps that keep all below. Conditions: as Write's. A string turned to bytes, as the words of Mem. Program-independent; no condition. What the second form's bulk says of arguments that are slices of bytes. No condition. How arguments read: a slice whose elements are one cell each (a slice of slices of bytes); a string. Program-independent; no condition. Walks of Tagged, the program's and the reference's. Condition: the texts together, and the name, are of at most 2^40 bytes. Headers of the main chain: their bytes, their ids. In plain Lean. -/
import Derived.Test.YtmenchnjajpkmaaGreatDoorPrvd
import Derived.Test.YtmenchnjajpkmaaGreatDoorPrva
import Derived.Lib.ConvBytes
import Derived.Test.YtmenchnjajpkmaaGreatDoorRows
import Derived.Test.YtmenchnjajpkmaaGreatDoorPrvb
import Derived.Deep.Slices
section
namespace Go.Proofs.YtmenchnjajpkmaaGreatDoor.ShaW
open Go Go.RowKit Mem Sha

/-- what the rounds of the reference keep -/
def Base (B G : Nat) (w : World) (v : Value) (P : List UInt8) (st : St) (wx : World) : Prop :=
  Below B w wx ∧ Blk wx B (List.replicate 32 (.int .u8 0)) 24 ∧ Blk wx G (st.l.map word) 140 ∧ B < G ∧ Byt (fun k => B < k ∧ k < G) wx v P
theorem Base.fr {S : Nat → Prop} {B G : Nat} {w : World} {v : Value} {P : List UInt8} {st : St} {wx w' : World} (h : Base B G w v P st wx) (f : Fr S wx w') (hS : ∀ k, S k → G < k) : Base B G w v P st w' := by
  obtain ⟨h1, h2, h3, h4, h5⟩ := h
  refine ⟨h1.trans (f.below (by have := h2.lt; omega) (fun k hk => by have := hS k hk; omega)), h2.fr f (fun e => by have := hS _ e; omega), h3.fr f (fun e => by have := hS _ e; omega), h4, h5.fr f (fun k _ hk e => by have := hS _ e; omega)⟩
theorem Base.drew {B G : Nat} {w : World} {v : Value} {P : List UInt8} {st : St} {wx : World} (h : Base B G w v P st wx) : Base B G w v P st wx.drew := ⟨h.1.drew, h.2⟩
theorem Base.drewN {B G : Nat} {w : World} {v : Value} {P : List UInt8} {st : St} {wx : World} (h : Base B G w v P st wx) (n : Nat) : Base B G w v P st (wx.drewN n) := ⟨below_drewN h.1 n, h.2⟩

/-- the schedule's block -/
def SchRel (B G W : Nat) (w : World) (v : Value) (P p : List UInt8) (st : St) (t : Nat) (wx : World) : Prop :=
  Base B G w v P st wx ∧ Blk wx W ((sched p t).map word ++ List.replicate (64 - t) (.int .u32 0)) 147 ∧ G < W
theorem SchRel.drew {B G W : Nat} {w : World} {v : Value} {P p : List UInt8} {st : St} {t : Nat} {wx : World} (h : SchRel B G W w v P p st t wx) : SchRel B G W w v P p st t wx.drew := ⟨h.1.drew, h.2⟩
theorem SchRel.drewN {B G W : Nat} {w : World} {v : Value} {P p : List UInt8} {st : St} {t : Nat} {wx : World} (h : SchRel B G W w v P p st t wx) (n : Nat) : SchRel B G W w v P p st t (wx.drewN n) := ⟨h.1.drewN n, h.2⟩
theorem sch_set (l : List UInt8) (t : Nat) (ht : t < 64) : ((sched l t).map word ++ List.replicate (64 - t) (Value.int .u32 0)).set t (.int .u32 ((wd l t).toNat : Int)) = (sched l (t + 1)).map word ++ List.replicate (64 - (t + 1)) (.int .u32 0) := by
  have hl := sched_length l t
  rw [List.set_append_right _ _ (by simp [hl]), sched_succ, List.map_append, List.append_assoc]
  congr 1
  rw [List.length_map, hl, Nat.sub_self]
  obtain ⟨m, hm⟩ : ∃ m, 64 - t = m + 1 := ⟨63 - t, by omega⟩
  rw [hm, show 64 - (t + 1) = m from by omega]
  rfl
theorem sch_step {B G W : Nat} {w : World} {v : Value} {P p : List UInt8} {st : St} {t : Nat} {wx : World} (ht : t < 64) (h : SchRel B G W w v P p st t wx) :
    SchRel B G W w v P p st (t + 1) (wx.setCell ⟨W, t, none⟩ (.int .u32 ((wd p t).toNat : Int))) := by
  obtain ⟨h1, h2, h3⟩ := h
  refine ⟨h1.fr (S := fun k => k = W) (Fr.setCell (S := fun k => k = W) (p := ⟨W, t, none⟩) (Fr.refl _ _) (.inr rfl) _) (fun k hk => by omega), ?_, h3⟩
  rw [← sch_set p t ht]
  exact h2.set t _
theorem sch_old {B G W : Nat} {w : World} {v : Value} {P p : List UInt8} {st : St} {t : Nat} {wx : World} (ht : t < 64) (h : SchRel B G W w v P p st t wx) : wx.cell? ⟨W, t, none⟩ = some (.int .u32 0) := by
  refine h.2.1.cell ?_
  rw [List.getElem?_append_right (by simp [sched_length])]
  simp [sched_length, List.getElem?_replicate]; omega
theorem sch_cell {B G W : Nat} {w : World} {v : Value} {P p : List UInt8} {st : St} {t : Nat} {wx : World} (h : SchRel B G W w v P p st t wx) (j : Nat) (hj : j < t) : wx.cell? ⟨W, j, none⟩ = some (.int .u32 ((wd p j).toNat : Int)) := by
  refine h.2.1.cell ?_
  have hl := sched_length p t
  rw [List.getElem?_append_left (by simp [hl]; omega)]
  have := sched_getD p t j hj
  rw [List.getD_eq_getElem?_getD, List.getElem?_eq_getElem (by omega)] at this
  simp [hl, hj]
  rw [← this]; rfl
theorem be_nat (x y z u : UInt8) : (be x y z u).toNat = x.toNat * 16777216 + y.toNat * 65536 + z.toNat * 256 + u.toNat := by
  have hx := x.toNat_lt
  have hy := y.toNat_lt
  have hz := z.toNat_lt
  have hu := u.toNat_lt
  have sh : ∀ (c : UInt8) (m : Nat), m ≤ 24 → (BitVec.ofNat 32 c.toNat <<< m).toNat = c.toNat * 2 ^ m := by
    intro c m hm
    have hc := c.toNat_lt
    have h2 : 2 ^ m ≤ 2 ^ 24 := Nat.pow_le_pow_right (by omega) hm
    have h3 : c.toNat * 2 ^ m ≤ 255 * 2 ^ 24 := Nat.mul_le_mul (by omega) h2
    rw [BitVec.toNat_shiftLeft, Nat.shiftLeft_eq, BitVec.toNat_ofNat, Nat.mod_eq_of_lt (a := c.toNat) (by omega), Nat.mod_eq_of_lt (by omega)]
  unfold be
  rw [BitVec.toNat_or, BitVec.toNat_or, BitVec.toNat_or, sh x 24 (by omega), sh y 16 (by omega), sh z 8 (by omega), BitVec.toNat_ofNat, Nat.mod_eq_of_lt (a := u.toNat) (by omega)]
  rw [nat_join 24 (x.toNat * 2 ^ 24) (y.toNat * 2 ^ 16) (by omega) (by omega), nat_join 16 (x.toNat * 2 ^ 24 + y.toNat * 2 ^ 16) (z.toNat * 2 ^ 8) (by omega) (by omega),
    nat_join 8 (x.toNat * 2 ^ 24 + y.toNat * 2 ^ 16 + z.toNat * 2 ^ 8) u.toNat (by omega) (by omega)]
theorem be_sum (x y z u : UInt8) : (x.toNat : Int) * 16777216 + (y.toNat : Int) * 65536 + (z.toNat : Int) * 256 + (u.toNat : Int) = ((be x y z u).toNat : Int) := by
  rw [be_nat]; omega
theorem rot_quiet (x : W) (k : Int) (w : World) (h1 : 1 ≤ k) (h2 : k ≤ 31) {n : Nat} :
    Calls Tryz.prog 79 #[.int .u32 (x.toNat : Int), .int .i64 k] (w.drewN n) fun e w'' => e = .returned (.int .u32 ((rotr x k.toNat).toNat : Int)) ∧ ∃ m, w'' = w.drewN m :=
  Calls.quiet_of (rot x k (w.drewN n) h1 h2)

theorem sch_start {B G : Nat} {w wr : World} {v : Value} {P : List UInt8} {st : St} (h : Base B G w v P st wr) (p : List UInt8) :
    SchRel B G wr.heap.size w v P p st 0 (wr.alloc (.cells (List.replicate 64 (.int .u32 0)).toArray 147)) :=
  ⟨h.fr (S := fun _ => False) ((Fr.refl _ _).alloc _) (fun _ hk => hk.elim), Blk.new _ _ _ _ rfl, h.2.2.1.lt⟩
/-- a round of the reference's last inner loop -/
def RrRel (B G W A : Nat) (w : World) (v : Value) (P p : List UInt8) (st : St) (t : Nat) (wx : World) : Prop :=
  Base B G w v P st wx ∧ Blk wx W ((sched p 64).map word) 147 ∧ Blk wx A ((rounds p st t).l.map word) 140 ∧ G < W ∧ W < A

theorem not_int' (v : W) : bits .xor .u32 (v.toNat : Int) 4294967295 = ((~~~v).toNat : Int) := by
  have h := v.isLt
  show bits .xor .u32 (v.toNat : Int) ((4294967295 : Nat) : Int) = _
  rw [u32_xor_nat _ _ h (by omega)]
  rw [show (4294967295 : Nat) = (BitVec.allOnes 32).toNat from rfl, ← BitVec.toNat_xor, BitVec.xor_allOnes]
theorem wx_int' (s : St) (k w : W) : (((s.h.toNat : Int) + bits .xor .u32 (bits .xor .u32 ((rotr s.e 6).toNat : Int) ((rotr s.e 11).toNat : Int)) ((rotr s.e 25).toNat : Int) +
    bits .xor .u32 (bits .and .u32 (s.e.toNat : Int) (s.f.toNat : Int)) (bits .and .u32 (bits .xor .u32 (s.e.toNat : Int) 4294967295) (s.g.toNat : Int)) + (k.toNat : Int)) % 4294967296 + (w.toNat : Int)) % 4294967296 = ((wx s k w).toNat : Int) := by
  rw [not_int', and_int, and_int, xor_int, xor_int, xor_int]
  show (((s.h.toNat : Int) + ((Sig1 s.e).toNat : Int) + ((ch s.e s.f s.g).toNat : Int) + (k.toNat : Int)) % 4294967296 + (w.toNat : Int)) % 4294967296 = _
  unfold wx
  simp only [BitVec.toNat_add]; omega
theorem TabB.cell {w : World} {g : Nat} (h : TabB w g) (t : Nat) (ht : t < 64) : w.cell? ⟨g, t, none⟩ = some (.int .u32 ((K t).toNat : Int)) := by
  obtain ⟨tt, fr, h⟩ := h
  have := tab_at t ht
  simp [World.cell?, h, this]
theorem rr_step {B G W A : Nat} {w wr : World} {v : Value} {P p : List UInt8} {st : St} {t : Nat} (h : RrRel B G W A w v P p st t wr) {a b c d e f g i : Sha.W} (hr : rnd (rounds p st t) (K t) (wd p t) = ⟨a, b, c, d, e, f, g, i⟩) :
    RrRel B G W A w v P p st (t + 1) ((((((((wr.setCell ⟨A, 7, none⟩ (word i)).setCell ⟨A, 6, none⟩ (word g)).setCell ⟨A, 5, none⟩ (word f)).setCell ⟨A, 4, none⟩ (word e)).setCell ⟨A, 3, none⟩ (word d)).setCell ⟨A, 2, none⟩ (word c)).setCell ⟨A, 1, none⟩ (word b)).setCell ⟨A, 0, none⟩ (word a)) := by
  obtain ⟨h1, h2, h3, h4, h5⟩ := h
  have fr0 : ∀ {T : Nat → Prop} (_ : T A), Fr T wr ((((((((wr.setCell ⟨A, 7, none⟩ (word i)).setCell ⟨A, 6, none⟩ (word g)).setCell ⟨A, 5, none⟩ (word f)).setCell ⟨A, 4, none⟩ (word e)).setCell ⟨A, 3, none⟩ (word d)).setCell ⟨A, 2, none⟩ (word c)).setCell ⟨A, 1, none⟩ (word b)).setCell ⟨A, 0, none⟩ (word a)) := by
    intro T ht
    iterate 8 (refine Fr.setCell ?_ (.inr ht) _)
    exact Fr.refl _ _
  have fr := fr0 (T := fun k => k = A) rfl
  refine ⟨h1.fr fr (fun k hk => by omega), h2.fr fr (by omega), ?_, h4, h5⟩
  have := (((((((h3.set 7 (word i)).set 6 (word g)).set 5 (word f)).set 4 (word e)).set 3 (word d)).set 2 (word c)).set 1 (word b)).set 0 (word a)
  have e1 : rounds p st (t + 1) = ⟨a, b, c, d, e, f, g, i⟩ := hr
  rw [e1]
  exact this
/-- the reference's sums -/
def SsRel (B G A : Nat) (w : World) (v : Value) (P : List UInt8) (st r : St) (t : Nat) (wx : World) : Prop :=
  Below B w wx ∧ Blk wx B (List.replicate 32 (.int .u8 0)) 24 ∧ Blk wx G ((part st r t).map word) 140 ∧ B < G ∧ Byt (fun k => B < k ∧ k < G) wx v P ∧ Blk wx A (r.l.map word) 140 ∧ G < A
theorem SsRel.drew {B G A : Nat} {w : World} {v : Value} {P : List UInt8} {st r : St} {t : Nat} {wx : World} (h : SsRel B G A w v P st r t wx) : SsRel B G A w v P st r t wx.drew := ⟨h.1.drew, h.2⟩
theorem ss_step {B G A : Nat} {w : World} {v : Value} {P : List UInt8} {st r : St} {t : Nat} {wx : World} (ht : t < 8) (h : SsRel B G A w v P st r t wx) :
    SsRel B G A w v P st r (t + 1) (wx.setCell ⟨G, t, none⟩ (.int .u32 ((st.l.getD t 0 + r.l.getD t 0).toNat : Int))) := by
  obtain ⟨h1, h2, h3, h4, h5, h6, h7⟩ := h
  have fr : Fr (fun k => k = G) wx (wx.setCell ⟨G, t, none⟩ (.int .u32 ((st.l.getD t 0 + r.l.getD t 0).toNat : Int))) := Fr.setCell (S := fun k => k = G) (p := ⟨G, t, none⟩) (Fr.refl _ _) (.inr rfl) _
  refine ⟨h1.setCell (by show B ≤ G; omega) _, h2.fr fr (by omega), ?_, h4, h5.fr fr (fun k _ hk e => by omega), h6.fr fr (by omega), h7⟩
  rw [← part_set st r t ht]
  exact h3.set _ _
theorem ss_end {B G A : Nat} {w : World} {v : Value} {P : List UInt8} {st r : St} {wx : World} (h : SsRel B G A w v P st r 8 wx) : Base B G w v P (st.add r) wx := by
  obtain ⟨h1, h2, h3, h4, h5, h6, h7⟩ := h
  exact ⟨h1, h2, h3, h4, h5⟩
theorem RrRel.drewN {B G W A : Nat} {w wr : World} {v : Value} {P p : List UInt8} {st : St} {t : Nat} (h : RrRel B G W A w v P p st t wr) (n : Nat) : RrRel B G W A w v P p st t (wr.drewN n) := ⟨h.1.drewN n, h.2⟩

set_option maxHeartbeats 8000000 in
set_option maxRecDepth 200000 in
theorem ref_of_calls (w : World) (D : Nat → Prop) (v : Value) (l : List UInt8) (hB : Byt D w v l) (hlen : l.length ≤ 140737488355200) (hT : TabB w 0) :
    Calls Tryz.prog 56 #[v] w fun e w' => e = .returned (.agg ((sha l).map byt).toArray) ∧ Below w.heap.size w w' := by
  obtain ⟨a, c, rfl, _⟩ := id hB
  have hblk := Blk.new w _ 24 (List.replicate 32 (.int .u8 0)) rfl
  have hb0 : Below w.heap.size w (w.alloc (.cells (List.replicate 32 (.int .u8 0)).toArray 24)) := (Below.refl _ _).alloc (Nat.le_refl _) _
  have hB0 := hB.lt.below hb0
  have hgl : 0 < w.heap.size := (Array.getElem?_eq_some_iff.1 hT.choose_spec.choose_spec).1
  have HBLK := Lib.hid hblk
  have HB0 := Lib.hid hb0
  clear hblk hb0 hB
  go_enter Tryz.func56, Tryz.ntmps56
  go_upto_region 1 with fail
  go_cut [3] from 19 to 20 (fun v wx => ∃ P, P = l ++ padTail l.length ∧ Byt (fun k => w.heap.size < k ∧ k < wx.heap.size) wx v P ∧ Below w.heap.size w wx ∧ Blk wx w.heap.size (List.replicate 32 (.int .u8 0)) 24)
  case first =>
    go_wp2_with fail
    refine (padded_calls _ _ _ l hB0 hlen).mono ?_
    rintro e w1 ⟨pa, pn, pc, rfl, hP, hb1⟩
    have HP := Lib.hid hP
    have HB1 := Lib.hid hb1
    clear hP hb1
    go_wp2_with fail
    go_meet
    case rel => exact ⟨_, rfl, HP.out.lt.mono fun k _ h => ⟨by have := HBLK.out.lt; have := h.2; simp at this; omega, h.1⟩, HB0.out.trans (HB1.out.mono (by simp)), HBLK.out.below HB1.out⟩
  case rest =>
    obtain ⟨P, hP, hPb, hb1, hz1⟩ := hcut
    obtain ⟨pa, pc, rfl, _⟩ := id hPb
    have hPl : P.length % 64 = 0 := by rw [hP, List.length_append]; exact padTail_length _
    have hPm : P.length ≤ 140737488355328 := by
      rw [hP, List.length_append]; have : (padTail l.length).length ≤ 72 := by simp [padTail, be8_length]; omega
      omega
    have hbase : Base w.heap.size wc.heap.size w (.slice pa P.length pc) P ini (wc.alloc (.cells (ini.l.map word).toArray 140)) :=
      ⟨hb1.alloc (by have := hz1.lt; omega) _, hz1.alloc _, Blk.new _ _ _ _ rfl, hz1.lt, hPb.below ((Below.refl _ _).alloc (Nat.le_refl _) _)⟩
    have HBASE := Lib.hid hbase
    have HPL := Lib.hid hPl
    have HP := Lib.hid hP
    clear hP hPb hb1 hz1 hPl hbase HBLK HB0 hB0
    go_upto_region 3 with fail
    have hgB := HBASE.out.2.2.2.1
    generalize wc.heap.size = G at *
    go_wp2
    refine wp_loop_fr (fun u => ⟨(Value.slice a l.length c :: undef :: Value.pointer (some ⟨w.heap.size, 0, none⟩) :: Value.slice pa P.length pc :: Value.pointer (some ⟨G, 0, none⟩) :: u 5 :: u 6 :: u 7 :: u 8 :: u 9 :: u 10 :: u 11 :: u 12 :: u 13 :: u 14 :: u 15 :: u 16 :: u 17 :: u 18 :: u 19 :: u 20 :: u 21 :: u 22 :: u 23 :: u 24 :: u 25 :: u 26 :: u 27 :: u 28 :: u 29 :: u 30 :: u 31 :: u 32 :: u 33 :: u 34 :: u 35 :: u 36 :: u 37 :: u 38 :: u 39 :: u 40 :: u 41 :: u 42 :: u 43 :: u 44 :: u 45 :: u 46 :: u 47 :: u 48 :: u 49 :: u 50 :: u 51 :: u 52 :: u 53 :: u 54 :: u 55 :: u 56 :: u 57 :: u 58 :: u 59 :: u 60 :: u 61 :: u 62 :: u 63 :: u 64 :: u 65 :: u 66 :: u 67 :: u 68 :: u 69 :: u 70 :: u 71 :: u 72 :: u 73 :: u 74 :: u 75 :: u 76 :: u 77 :: u 78 :: u 79 :: u 80 :: u 81 :: u 82 :: u 83 :: u 84 :: u 85 :: u 86 :: u 87 :: u 88 :: u 89 :: u 90 :: u 91 :: u 92 :: u 93 :: u 94 :: u 95 :: u 96 :: u 97 :: u 98 :: u 99 :: u 100 :: u 101 :: u 102 :: u 103 :: u 104 :: u 105 :: u 106 :: u 107 :: u 108 :: u 109 :: u 110 :: u 111 :: u 112 :: u 113 :: u 114 :: u 115 :: u 116 :: u 117 :: u 118 :: u 119 :: u 120 :: u 121 :: u 122 :: u 123 :: u 124 :: u 125 :: u 126 :: u 127 :: u 128 :: u 129 :: u 130 :: u 131 :: u 132 :: u 133 :: u 134 :: u 135 :: u 136 :: u 137 :: u 138 :: u 139 :: u 140 :: u 141 :: u 142 :: u 143 :: u 144 :: u 145 :: u 146 :: u 147 :: u 148 :: u 149 :: u 150 :: u 151 :: u 152 :: u 153 :: u 154 :: u 155 :: u 156 :: u 157 :: u 158 :: u 159 :: u 160 :: u 161 :: u 162 :: u 163 :: u 164 :: u 165 :: u 166 :: u 167 :: u 168 :: u 169 :: u 170 :: u 171 :: u 172 :: u 173 :: u 174 :: u 175 :: u 176 :: u 177 :: u 178 :: u 179 :: u 180 :: u 181 :: u 182 :: u 183 :: u 184 :: u 185 :: u 186 :: u 187 :: u 188 :: u 189 :: u 190 :: u 191 :: u 192 :: u 193 :: u 194 :: u 195 :: u 196 :: u 197 :: u 198 :: u 199 :: u 200 :: u 201 :: u 202 :: u 203 :: u 204 :: u 205 :: u 206 :: u 207 :: u 208 :: u 209 :: u 210 :: u 211 :: u 212 :: u 213 :: u 214 :: u 215 :: u 216 :: u 217 :: u 218 :: u 219 :: u 220 :: u 221 :: u 222 :: u 223 :: u 224 :: u 225 :: u 226 :: u 227 :: u 228 :: u 229 :: u 230 :: u 231 :: u 232 :: u 233 :: u 234 :: u 235 :: u 236 :: u 237 :: u 238 :: u 239 :: u 240 :: u 241 :: u 242 :: u 243 :: u 244 :: u 245 :: u 246 :: u 247 :: u 248 :: u 249 :: []).toArray, []⟩)
      (fun a wx => ∃ k : Nat, 64 * k ≤ P.length ∧ a.tmps.getD 5 undef = .int .i64 ((64 * k : Nat) : Int) ∧ Base w.heap.size G w (.slice pa P.length pc) P (feed ini (P.take (64 * k))) wx) (fun a => P.length - (intOf (a.tmps.getD 5 undef)).toNat) (by kernel_rfl) ?atStart ?round
    case atStart => exact ⟨0, by omega, rfl, by rw [feed_short _ _ (by simp)]; exact HBASE.out⟩
    case round =>
      intro u wr hrel
      obtain ⟨k, hk, h5, hbs⟩ := hrel
      have h5 : u 5 = .int .i64 (64 * (k : Int)) := by have h6 : u 5 = .int .i64 ((64 * k : Nat) : Int) := h5; rw [h6]; congr 1
      rw [h5]
      clear h5
      by_cases hlt : 64 * k < P.length
      · have hle : 64 * k + 64 ≤ P.length := by have := HPL.out; omega
        obtain ⟨p, hp⟩ : ∃ p, p = (P.drop (64 * k)).take 64 := ⟨_, rfl⟩
        have hpl : p.length = 64 := by rw [hp]; simp; omega
        have hpl1 : 64 ≤ p.length := by omega
        have hpl2 : p.length ≤ 64 := by omega
        have hpg : ∀ j (h2 : j < p.length) (h3 : 64 * k + j < P.length), p[j]'h2 = P[64 * k + j]'h3 := by
          intro j h2 h3; simp only [hp, List.getElem_take, List.getElem_drop]
        have HPG := Lib.hid hpg
        have HPD := Lib.hid hp
        have HS0 := Lib.hid (sch_start hbs p)
        have hWG : G < wr.heap.size := hbs.2.2.1.lt
        clear hp hpl hpg hbs
        generalize hst : feed ini (P.take (64 * k)) = st at *
        have HST := Lib.hid hst
        clear hst
        go_upto_block 2 with fail
        rw [show decide (64 * (k : Int) < (P.length : Int)) = true from decide_eq_true (by omega)]
        generalize wr.heap.size = W at *
        go_cut [7] (fun _ wx => SchRel w.heap.size G W w (.slice pa P.length pc) P p st 16 wx)
        case first =>
          go_wp2
          go_loopw [7] (fun i wx => ∃ t : Nat, t ≤ 16 ∧ i = .int .i64 t ∧ SchRel w.heap.size G W w (.slice pa P.length pc) P p st t wx) (fun i _ => 16 - (intOf i).toNat)
          case atStart => exact ⟨0, by omega, rfl, HS0.out⟩
          case round =>
            obtain ⟨t, ht, rfl, hM⟩ := hrel
            by_cases h16 : t < 16
            · obtain ⟨pb, poff, hpa, _, hly⟩ : ∃ pb poff, pa = some ⟨pb, poff, none⟩ ∧ pb < G ∧ Lies wr pb poff P := by
                obtain ⟨a', c', he, _, hx⟩ := hM.1.2.2.2.2
                cases he
                rcases hx with hx | ⟨pb, poff, rfl, hd, hly⟩
                · subst hx; simp at hlt
                · exact ⟨pb, poff, rfl, hd.2, hly⟩
              have c0 := hly (64 * k + 4 * t) (by omega)
              have c1 := hly (64 * k + 4 * t + 1) (by omega)
              have c2 := hly (64 * k + 4 * t + 2) (by omega)
              have c3 := hly (64 * k + 4 * t + 3) (by omega)
              have hx0 := (P[64 * k + 4 * t]'(by omega)).toNat_lt
              have hx1 := (P[64 * k + 4 * t + 1]'(by omega)).toNat_lt
              have hx2 := (P[64 * k + 4 * t + 2]'(by omega)).toNat_lt
              have hx3 := (P[64 * k + 4 * t + 3]'(by omega)).toNat_lt
              have hold := sch_old (by omega) hM
              have hfz := hM.2.1.free t
              have hw : wd p t = be (P[64 * k + 4 * t]'(by omega)) (P[64 * k + 4 * t + 1]'(by omega)) (P[64 * k + 4 * t + 2]'(by omega)) (P[64 * k + 4 * t + 3]'(by omega)) := by
                rw [wd_low p t h16]
                have e0 := HPG.out (4 * t) (by omega) (by omega)
                have e1 := HPG.out (4 * t + 1) (by omega) (by omega)
                have e2 := HPG.out (4 * t + 2) (by omega) (by omega)
                have e3 := HPG.out (4 * t + 3) (by omega) (by omega)
                simp only [← Nat.add_assoc] at e0 e1 e2 e3
                rw [← e0, ← e1, ← e2, ← e3]
                simp [first, List.getD_eq_getElem?_getD, show 4 * t < p.length from by omega, show 4 * t + 1 < p.length from by omega, show 4 * t + 2 < p.length from by omega, show 4 * t + 3 < p.length from by omega]
              have HS := sch_step (by omega) hM
              rw [hw] at HS
              have HS := Lib.hid HS
              clear hM hw hly HS0
              subst hpa
              go_wp2
              go_region
              go_wp2
              go_roundw
              case rel =>
                refine ⟨t + 1, by omega, by go_num, ?_⟩
                rw [be_sum]
                exact HS.out.drew
              case measure => simp [intOf]; omega
            · obtain rfl : t = 16 := by omega
              have HM := Lib.hid hM
              clear hM HS0
              go_wp2
              go_meet
              case rel => exact HM.out
        case rest =>
          have HM := Lib.hid hcut
          clear hcut HS0
          go_upto_block 4 with fail
          go_cut [8] (fun _ wx => SchRel w.heap.size G W w (.slice pa P.length pc) P p st 64 wx)
          case first =>
            go_wp2
            go_loopw [8] (fun i wx => ∃ t : Nat, 16 ≤ t ∧ t ≤ 64 ∧ i = .int .i64 t ∧ SchRel w.heap.size G W w (.slice pa P.length pc) P p st t wx) (fun i _ => 64 - (intOf i).toNat)
            case atStart => exact ⟨16, by omega, by omega, rfl, HM.out⟩
            case round =>
              obtain ⟨t, ht16, ht, rfl, hM⟩ := hrel
              by_cases h64 : t < 64
              · have c1 := sch_cell hM (t - 15) (by omega)
                have HM := Lib.hid hM
                clear hM
                go_wp2
                go_quiet ((go_at_call 79; exact rot_quiet _ _ _ (by omega) (by omega)))
                have hM := HM.out.drewN nq
                clear HM c1
                generalize wr.drewN nq = wr at *
                have c3 := sch_cell hM (t - 2) (by omega)
                have HM := Lib.hid hM
                clear hM
                go_wp2
                go_quiet ((go_at_call 79; exact rot_quiet _ _ _ (by omega) (by omega)))
                have hM := HM.out.drewN nq
                clear HM c3
                generalize wr.drewN nq = wr at *
                have c0 := sch_cell hM (t - 16) (by omega)
                have c2 := sch_cell hM (t - 7) (by omega)
                have hold := sch_old h64 hM
                have hfz := hM.2.1.free t
                have HS := sch_step h64 hM
                rw [wd_high p t ht16] at HS
                have HS := Lib.hid HS
                clear hM
                go_wp2
                go_region
                go_wp2
                go_roundw
                case rel =>
                  refine ⟨t + 1, by omega, by omega, by go_num, ?_⟩
                  rw [sched_int]
                  exact HS.out.drew
                case measure => simp [intOf]; omega
              · obtain rfl : t = 64 := by omega
                have HM := Lib.hid hM
                clear hM
                go_wp2
                go_meet
                case rel => exact HM.out
          case rest =>
            have hM := hcut
            clear hcut HM
            have HM := Lib.hid hM
            have hBs := hM.1
            obtain ⟨g0, g1, g2, g3, g4, g5, g6, g7⟩ := St.cells hBs.2.2.1
            have hRr : RrRel w.heap.size G W wc.heap.size w (.slice pa P.length pc) P p st 0 (wc.alloc (.cells (st.l.map word).toArray 140)) := by
              obtain ⟨m1, m2, m3⟩ := hM
              have m2 : Blk wc W ((sched p 64).map word ++ []) 147 := m2
              rw [List.append_nil] at m2
              exact ⟨m1.fr (S := fun _ => False) ((Fr.refl _ _).alloc _) (fun _ hk => hk.elim), m2.alloc _, Blk.new _ _ _ _ rfl, m3, m2.lt⟩
            have HRR := Lib.hid hRr
            have hWA : W < wc.heap.size := hM.2.1.lt
            clear hM hBs hRr HM
            go_upto_block 6 with fail
            clear g0 g1 g2 g3 g4 g5 g6 g7
            generalize wc.heap.size = A at *
            go_cut [12] (fun _ wx => RrRel w.heap.size G W A w (.slice pa P.length pc) P p st 64 wx)
            case first =>
              go_wp2
              go_loopw [12] (fun i wx => ∃ t : Nat, t ≤ 64 ∧ i = .int .i64 t ∧ RrRel w.heap.size G W A w (.slice pa P.length pc) P p st t wx) (fun i _ => 64 - (intOf i).toNat)
              case atStart => exact ⟨0, by omega, rfl, HRR.out⟩
              case round =>
                obtain ⟨t, ht, rfl, hM⟩ := hrel
                by_cases h64 : t < 64
                · obtain ⟨g0, g1, g2, g3, g4, g5, g6, g7⟩ := St.cells hM.2.2.1
                  have hw := sched_cell hM.2.1 t h64
                  have hTt := (hT.fr (Fr.ofBelow hM.1.1) (by omega)).cell t h64
                  have HM := Lib.hid hM
                  clear hM
                  go_wp2
                  go_quiet ((go_at_call 79; exact rot_quiet _ _ _ (by omega) (by omega)))
                  go_wp2
                  rw [wx_int']
                  have hM := HM.out.drewN nq
                  clear HM g0 g1 g2 g3 g4 g5 g6 g7 hw hTt
                  generalize wr.drewN nq = wr at *
                  obtain ⟨g0, g1, g2, g3, g4, g5, g6, g7⟩ := St.cells hM.2.2.1
                  have HM := Lib.hid hM
                  clear hM
                  go_wp2
                  go_quiet ((go_at_call 79; exact rot_quiet _ _ _ (by omega) (by omega)))
                  have hM := HM.out.drewN nq
                  clear HM g0 g1 g2 g3 g4 g5 g6 g7
                  generalize wr.drewN nq = wr at *
                  obtain ⟨g0, g1, g2, g3, g4, g5, g6, g7⟩ := St.cells hM.2.2.1
                  have hfz := hM.2.2.1.free
                  have HM := Lib.hid hM
                  clear hM
                  go_wp2
                  go_roundw
                  case rel =>
                    refine ⟨t + 1, by omega, by go_num, ?_⟩
                    have := rr_step HM.out rfl
                    rw [wy_int, add_int]
                    exact this
                  case measure => simp [intOf]; omega
                · obtain rfl : t = 64 := by omega
                  have HM := Lib.hid hM
                  clear hM
                  go_wp2
                  go_meet
                  case rel => exact HM.out
            case rest =>
              have hM := hcut
              clear hcut
              have hSs : SsRel w.heap.size G A w (.slice pa P.length pc) P st (rounds p st 64) 0 wc := by
                obtain ⟨⟨m1, m2, m3, m4, m5⟩, m6, m7, m8, m9⟩ := hM
                exact ⟨m1, m2, m3, m4, m5, m7, by omega⟩
              have HSS := Lib.hid hSs
              have HMX := Lib.hid (mixed_eq st p _ rfl)
              clear hM HRR hSs
              generalize rounds p st 64 = r at *
              go_upto_block 8 with fail
              go_wp2
              go_loopw [16] (fun i wx => ∃ t : Nat, t ≤ 8 ∧ i = .int .i64 t ∧ SsRel w.heap.size G A w (.slice pa P.length pc) P st r t wx) (fun i _ => 8 - (intOf i).toNat)
              case atStart => exact ⟨0, by omega, rfl, HSS.out⟩
              case round =>
                obtain ⟨t, ht, rfl, hM⟩ := hrel
                by_cases h8 : t < 8
                · have c1 := hM.2.2.1.cell (part_cell st r t h8)
                  have c2 := hM.2.2.2.2.2.1.cell (r_cell r t h8)
                  have hfz := hM.2.2.1.free t
                  have HS := Lib.hid (ss_step h8 hM)
                  unfold word at c1 c2
                  clear hM HSS
                  go_wp2
                  go_region
                  go_wp2
                  go_roundw
                  case rel =>
                    refine ⟨t + 1, by omega, by go_num, ?_⟩
                    rw [add_int]
                    exact HS.out.drew
                  case measure => simp [intOf]; omega
                · obtain rfl : t = 8 := by omega
                  have hend := ss_end hM
                  have hfeed : st.add r = feed ini (P.take (64 * (k + 1))) := by
                    have e1 : P.take (64 * (k + 1)) = P.take (64 * k) ++ p := by rw [HPD.out, show 64 * (k + 1) = 64 * k + 64 from by omega, List.take_add]
                    have e2 : left (P.take (64 * k)) = [] := by
                      apply List.length_eq_zero_iff.1
                      rw [left_length _ _ rfl]; simp; omega
                    rw [e1, feed_app, e2, HST.out, List.nil_append, feed_long _ _ hpl1, ← HMX.out, List.take_of_length_le hpl2, feed_short _ _ (by simp; omega)]
                  rw [hfeed] at hend
                  have HEND := Lib.hid hend
                  clear hend hfeed hM HSS
                  go_wp2
                  refine ⟨⟨⟨k + 1, by omega, ?_, HEND.out⟩, ?_⟩, ?_⟩
                  · show Value.int .i64 _ = Value.int .i64 _
                    congr 1
                  · show P.length - (intOf (Value.int .i64 _)).toNat < P.length - (intOf (Value.int .i64 _)).toNat
                    simp only [intOf]
                    omega
                  · kernel_rfl
      · have hk2 : P.take (64 * k) = P := List.take_of_length_le (by omega)
        have hsh : sha l = out (feed ini (P.take (64 * k))) := by rw [hk2]; unfold sha; rw [HP.out]
        have HSH := Lib.hid hsh
        clear hk2 hsh
        generalize feed ini (P.take (64 * k)) = st at *
        have HBS := Lib.hid hbs
        clear hbs
        have hGw : G < wr.heap.size := HBS.out.2.2.1.lt
        have hO : OutRel w.heap.size G wr.heap.size w st 0 (wr.alloc (.cells (List.replicate 32 (.int .u8 0)).toArray 24)) ∧ Blk (wr.alloc (.cells (List.replicate 32 (.int .u8 0)).toArray 24)) G (st.l.map word) 140 :=
          ⟨⟨HBS.out.1.alloc (by omega) _, HBS.out.2.1.alloc _, by simpa using Blk.new wr _ 24 (List.replicate 32 (.int .u8 0)) rfl, hgB, hGw⟩, HBS.out.2.2.1.alloc _⟩
        have HO := Lib.hid hO
        clear hO HBS
        go_wp2
        generalize wr.heap.size = d at *
        go_loopw [18] (fun i wx => ∃ n : Nat, n ≤ 32 ∧ i = .int .i64 n ∧ OutRel w.heap.size G d w st n wx ∧ Blk wx G (st.l.map word) 140) (fun i _ => 32 - (intOf i).toNat)
        case atStart => exact ⟨0, by omega, rfl, HO.out⟩
        case round =>
          obtain ⟨n, hn32, rfl, hR, hG⟩ := hrel
          by_cases hlt2 : n < 32
          · have c1 := hG.cell (r_cell st (n / 4) (by omega))
            unfold word at c1
            have hold := out_cell hlt2 hR
            have hfz := hR.2.2.1.free n
            have hst := out_step (i := n / 4) (k := n % 4) (by omega) (by omega) (by rw [show 4 * (n / 4) + n % 4 = n from by omega]; exact hR)
            rw [show 4 * (n / 4) + n % 4 = n from by omega] at hst
            have hg2 : Blk (wr.setCell ⟨d, n, none⟩ (.int .u8 ((UInt8.ofNat ((st.l.getD (n / 4) 0).toNat / 2 ^ (24 - 8 * (n % 4)))).toNat : Int))) G (st.l.map word) 140 := hG.other (by show d ≠ G; omega) _
            have HS := Lib.hid hst
            have HG2 := Lib.hid hg2
            clear hR hG hst hg2 HO
            go_wp2
            go_roundw
            case rel =>
              refine ⟨n + 1, by omega, by go_num, ?_⟩
              rw [byte_of]
              exact ⟨HS.out, HG2.out⟩
            case measure => simp [intOf]; omega
          · obtain rfl : n = 32 := by omega
            have hD : Blk wr d ((out st).map byt) 24 := by
              have := hR.2.2.1
              rw [List.take_of_length_le (by rw [out_length]; omega)] at this
              simpa using this
            have hone : ∀ v ∈ (out st).map byt, v.oneCell' = true := by
              intro v hv; obtain ⟨c, _, rfl⟩ := List.mem_map.1 hv; rfl
            have HD := Lib.hid hD
            have HBL := Lib.hid hR.2.1
            have HBE := Lib.hid hR.1
            have HONE := Lib.hid hone
            clear hR hD hone hG HO
            go_wp2_with (first
              | (with_reducible refine wpList_load_blk rfl _ _ rfl d _ rfl HD.out _ Tryz.underlying24 rfl (by kernel_rfl) ?_)
              | (with_reducible refine wpList_store_blk rfl _ _ _ rfl w.heap.size ((out st).map byt) _ rfl _ rfl rfl HBL.out (by kernel_rfl) (by simp [out_length]) HONE.out ?_))
            exact bodyPost_ret (v := .agg ((out st).map byt).toArray) (results_cell_row Tryz.results56 _ _ w.heap.size 24 _ (0, 0) _ rfl (HBL.out.row _) Tryz.underlying24 rfl (by kernel_rfl)) rfl ⟨by rw [HSH.out], below_setRow HBE.out (Nat.le_refl _) _⟩
end Go.Proofs.YtmenchnjajpkmaaGreatDoor.ShaW
end

section
namespace Go.Proofs.YtmenchnjajpkmaaGreatDoor.Mem
open Go Go.RowKit
end Go.Proofs.YtmenchnjajpkmaaGreatDoor.Mem
namespace Go.Proofs.YtmenchnjajpkmaaGreatDoor.ShaW
open Go Go.RowKit Mem Sha
theorem TabB.keep {w w' : World} {g C : Nat} (h : TabB w g) (hb : Below C w w') (hc : g < C) : TabB w' g := h.fr (Fr.ofBelow hb) (by omega)
/-- a hash from block C on -/
def HashFrom (C : Nat) (w : World) (q : Nat) (l : List UInt8) : Prop := HashIs (fun k => C ≤ k) w q l ∧ C ≤ w.heap.size
theorem HashFrom.below {C : Nat} {w w' : World} {q : Nat} {l : List UInt8} (h : HashFrom C w q l) (hb : Below w.heap.size w w') : HashFrom C w' q l :=
  ⟨HashRaw.fr h.1 (Fr.ofBelow hb) (fun k hk _ h2 => by omega), Nat.le_trans h.2 hb.size⟩
theorem HashFrom.lt {C : Nat} {w : World} {q : Nat} {l : List UInt8} (h : HashFrom C w q l) : q < w.heap.size := h.1.2.choose_spec.1.lt
/-- new blocks may be made below nothing: the hash stays where only blocks that it does not have turn -/
theorem HashFrom.fr {C : Nat} {w w' : World} {q : Nat} {l : List UInt8} {T : Nat → Prop} (h : HashFrom C w q l) (hf : Fr T w w') (hn : ∀ k, k < w.heap.size → C ≤ k → ¬ T k) : HashFrom C w' q l :=
  ⟨HashRaw.fr h.1 hf hn, Nat.le_trans h.2 hf.size⟩
theorem new_from (w : World) :
    Calls Tryz.prog 52 #[] w fun e w' => ∃ h, e = .returned (.pointer (some ⟨h, 0, none⟩)) ∧ HashFrom w.heap.size w' h [] ∧ Below w.heap.size w w' := by
  refine (new_calls w).mono ?_
  rintro e w1 ⟨q, rfl, hq, hH, hb1⟩
  exact ⟨q, rfl, ⟨hH.mono (fun k _ h => by omega), hb1.size⟩, hb1⟩
theorem write_from (C : Nat) (w : World) (q : Nat) (l : List UInt8) (v : Value) (b : List UInt8) (H : HashFrom C w q l) (hB : Byt (fun k => k < C) w v b)
    (hlen : l.length + b.length ≤ 1125899906842624) (hT : TabB w 1) (hg : 1 < C) :
    Calls Tryz.prog 53 #[.pointer (some ⟨q, 0, none⟩), v] w fun e w' => e = .returned (.tuple #[]) ∧ HashFrom C w' q (l ++ b) ∧ Below C w w' := by
  refine (write_calls (fun k => C ≤ k) (fun k => k < C) w q l v b H.1 hB (fun k _ h1 h2 => by omega) hlen hT (by omega)).mono ?_
  rintro e w1 ⟨rfl, hH, hf⟩
  have := H.2
  exact ⟨rfl, ⟨hH.mono (fun k _ h => by rcases h with h | h <;> omega), Nat.le_trans H.2 hf.size⟩, hf.below H.2 (fun k h => h)⟩
end Go.Proofs.YtmenchnjajpkmaaGreatDoor.ShaW
end

section
namespace Go.Proofs.YtmenchnjajpkmaaGreatDoor.Mem
open Go Go.RowKit
theorem below_bytes (w : World) (e : TypeId) (s : ByteArray) : Below w.heap.size w (Lib.bytesWorld w e s) := by
  refine ⟨?_, ?_, ?_, by rw [Lib.bytesWorld_size]; omega, fun k hk => Lib.bytesWorld_at_old w e s k hk⟩ <;>
    simp [Lib.bytesWorld, World.freeze, World.alloc, World.drew, -World.alloc_eq, -World.drew_eq]
theorem byt_bytes {D : Nat → Prop} (w : World) (e : TypeId) (s : ByteArray) (hs : s.size ≤ maxLen) (hd : D w.heap.size) : Byt D (Lib.bytesWorld w e s) (.slice (some ⟨w.heap.size, 0, none⟩) s.size (grownCap w s.size 0 e)) s.data.toList := by
  have hl : s.data.toList.length = s.size := by rw [Array.length_toList]; rfl
  refine ⟨_, _, by rw [hl], ⟨by rw [hl]; exact grownCap_ge _ _ _ _, grownCap_le_maxLen _ _ _ _ hs, fun h => by cases h⟩, .inr ⟨w.heap.size, 0, rfl, hd, fun i hi => ?_⟩⟩
  rw [Nat.zero_add, Lib.bytesWorld_cell w e s i (by omega)]
  rw [List.getD_eq_getElem?_getD, List.getElem?_eq_getElem hi]
  rfl
end Go.Proofs.YtmenchnjajpkmaaGreatDoor.Mem
end

section
namespace Go.Proofs.YtmenchnjajpkmaaGreatDoor.Bulk
open Go
variable {H : Type}
theorem one (d : DataW H) : 1 ≤ Rows.uptoBulk d := by
  cases d with
  | lit x => cases x <;> simp [Rows.uptoBulk]
  | _ => simp [Rows.uptoBulk]
theorem all : ∀ (l : List (DataW H)), l.length ≤ Rows.uptoBulkAll l
  | [] => by simp [Rows.uptoBulkAll]
  | d :: r => by
    have h1 := one d
    have h2 := all r
    simp only [Rows.uptoBulkAll, List.length_cons]
    omega
theorem bytes {d : DataW H} {l : List UInt8} (h : (d = .nil ∧ l = []) ∨ ∃ el sp, d = .slice el sp ∧ el.length = l.length) : l.length ≤ Rows.uptoBulk d := by
  rcases h with ⟨rfl, rfl⟩ | ⟨el, sp, rfl, hl⟩
  · simp
  · have := all el
    simp only [Rows.uptoBulk]
    omega
theorem three {d0 d1 d2 : DataW H} {gs : List (DataW H)} (h : Rows.uptoSmall H ([d0, d1, d2] ++ gs) = true) : Rows.uptoBulk d0 + Rows.uptoBulk d1 + Rows.uptoBulk d2 ≤ 1048576 := by
  have h := of_decide_eq_true h
  simp only [List.cons_append, List.nil_append, Rows.uptoBulkAll] at h
  omega
theorem two {d0 d1 : DataW H} {gs : List (DataW H)} (h : Rows.uptoSmall H ([d0, d1] ++ gs) = true) : Rows.uptoBulk d0 + Rows.uptoBulk d1 ≤ 1048576 := by
  have h := of_decide_eq_true h
  simp only [List.cons_append, List.nil_append, Rows.uptoBulkAll] at h
  omega
theorem single {d0 : DataW H} {gs : List (DataW H)} (h : Rows.uptoSmall H ([d0] ++ gs) = true) : Rows.uptoBulk d0 ≤ 1048576 := by
  have h := of_decide_eq_true h
  simp only [List.cons_append, List.nil_append, Rows.uptoBulkAll] at h
  omega
end Go.Proofs.YtmenchnjajpkmaaGreatDoor.Bulk
end

section
namespace Go.Proofs.YtmenchnjajpkmaaGreatDoor.Mem
open Go Go.RowKit
/-- a slice whose elements are one cell each: S says of each cell what it is -/
def RowsOf {α : Type} (S : World → Value → α → Prop) (w : World) (v : Value) (xs : List α) : Prop :=
  ∃ a cap, v = .slice a xs.length cap ∧ (xs.length ≤ cap ∧ cap ≤ maxLen ∧ (a = none → cap = 0)) ∧ (xs = [] ∨ ∃ b off, a = some ⟨b, off, none⟩ ∧ ∀ i (h : i < xs.length), ∃ c, w.cell? ⟨b, off + i, none⟩ = some c ∧ S w c (xs[i]'h))
theorem RowsOf.fr {α : Type} {S : World → Value → α → Prop} {w w' : World} {v : Value} {xs : List α} (h : RowsOf S w v xs) (hb : Below w.heap.size w w') (hS : ∀ c x, S w c x → S w' c x) : RowsOf S w' v xs := by
  obtain ⟨a, cap, rfl, hk, h⟩ := h
  refine ⟨a, cap, rfl, hk, h.imp_right ?_⟩
  rintro ⟨b, off, rfl, hc⟩
  refine ⟨b, off, rfl, fun i hi => ?_⟩
  obtain ⟨c, h1, h2⟩ := hc i hi
  exact ⟨c, (World.cell?_of_block (w := w) (hb.block b (World.block_lt_of_cell? w _ h1))).trans h1, hS c _ h2⟩
abbrev Byts (w : World) (v : Value) (ls : List (List UInt8)) : Prop := RowsOf (Byt Any) w v ls
theorem Byts.below {w w' : World} {v : Value} {ls : List (List UInt8)} (h : Byts w v ls) (hb : Below w.heap.size w w') : Byts w' v ls := h.fr hb (fun _ _ h => h.below hb)
theorem Byts.cell {w : World} {a : Option Addr} {n cap : Nat} {ls : List (List UInt8)} (h : Byts w (.slice a n cap) ls) (i : Nat) (hi : i < ls.length) :
    ∃ b off c ec, a = some ⟨b, off, none⟩ ∧ w.cell? ⟨b, off + i, none⟩ = some (.slice c (ls[i]'hi).length ec) ∧ Byt Any w (.slice c (ls[i]'hi).length ec) (ls[i]'hi) := by
  obtain ⟨a', cap', he, _, h⟩ := h
  cases he
  rcases h with rfl | ⟨b, off, rfl, hc⟩
  · simp at hi
  · obtain ⟨c, h1, h2⟩ := hc i hi
    obtain ⟨x, y, rfl, _⟩ := id h2
    exact ⟨b, off, x, y, rfl, h1, h2⟩
end Go.Proofs.YtmenchnjajpkmaaGreatDoor.Mem
namespace Go.Proofs.YtmenchnjajpkmaaGreatDoor.Bulk
open Go
variable {H : Type}
theorem eachLe {α : Type} (T : DataW H → α → Prop) (f : α → Nat) (hT : ∀ d x, T d x → f x ≤ Rows.uptoBulk d) : ∀ (els : List (DataW H)) (xs : List α), els.length = xs.length → (∀ i (h1 : i < els.length) (h2 : i < xs.length), T els[i] xs[i]) → (xs.map f).sum ≤ Rows.uptoBulkAll els
  | [], [], _, _ => by simp [Rows.uptoBulkAll]
  | d :: r, x :: xs, hl, h => by
    have h1 := hT d x (h 0 (by simp) (by simp))
    have h2 := eachLe T f hT r xs (by simpa using hl) (fun i h1 h2 => h (i + 1) (by simpa using h1) (by simpa using h2))
    simp only [Rows.uptoBulkAll, List.map_cons, List.sum_cons]
    omega
  | [], _ :: _, hl, _ => by simp at hl
  | _ :: _, [], hl, _ => by simp at hl
theorem rows {α : Type} (T : DataW H → α → Prop) (f : α → Nat) (hT : ∀ d x, T d x → f x ≤ Rows.uptoBulk d) {d : DataW H} {xs : List α}
    (h : (d = .nil ∧ xs = []) ∨ ∃ els sp, d = .slice els sp ∧ els.length = xs.length ∧ ∀ i (h1 : i < els.length) (h2 : i < xs.length), T els[i] xs[i]) : (xs.map f).sum + 1 ≤ Rows.uptoBulk d ∧ xs.length + 1 ≤ Rows.uptoBulk d := by
  rcases h with ⟨rfl, rfl⟩ | ⟨el, sp, rfl, hl, hx⟩
  · simp [Rows.uptoBulk]
  · have h1 := eachLe T f hT el xs hl hx
    have h2 := all el
    simp only [Rows.uptoBulk]
    omega
theorem str (b : ByteArray) : b.size + 1 ≤ Rows.uptoBulk (.lit (.string b.data.toList) : DataW H) := by
  simp only [Rows.uptoBulk, Array.length_toList]
  exact Nat.le_refl _
end Go.Proofs.YtmenchnjajpkmaaGreatDoor.Bulk
namespace Go.Proofs.YtmenchnjajpkmaaGreatDoor.Read
open Go Go.RowKit Go.ChangeShapes Go.WideShapes Mem
variable {H : Type} {enc : TypeId × Value → H} {P : Program} {W : World}

/-- what the data of some bytes is -/
def BytesAre (d : DataW H) (l : List UInt8) : Prop := (d = .nil ∧ l = []) ∨ ∃ el sp, d = .slice el sp ∧ el.length = l.length
theorem cell_bytes {e : TypeId} {t : TypeId} {v : Value} {d : DataW H} {ps : List MemPlace} {held spare} {base n : Nat} (ht : P.underlying t = some (.slice e)) (he : P.underlying e = some (.int .u8)) (hc : P.cellsOf e = 1)
    (h : DataW.trod enc P W base spare held n t [v] = some (d, ps)) : ∃ l, Byt Any W v l ∧ BytesAre d l := by
  rcases open_ints ht he hc h with ⟨hcs, hx⟩ | ⟨x, l, c, zs, hcs, _, hl, hm, hz, hx, hcell, hwz⟩
  · simp only [List.cons.injEq, and_true] at hcs
    subst hcs
    simp only [Prod.mk.injEq] at hx
    exact ⟨[], Byt.nil _ _, .inl ⟨hx.1, rfl⟩⟩
  · simp only [List.cons.injEq, and_true] at hcs
    subst hcs
    have hval : Value.okWide P W .any 0 t (.slice (some x) l c) ∨ True := .inr trivial
    clear hval
    simp only [Prod.mk.injEq] at hx
    have hzl : l ≤ zs.length := by rw [hz]; split <;> omega
    have hlen : ((zs.take l).map u8of).length = l := by simp; omega
    refine ⟨(zs.take l).map u8of, ⟨some x, c, by rw [hlen], ⟨by omega, hm, fun h => by cases h⟩, ?_⟩, .inr ⟨_, _, hx.1, by simp [lits]⟩⟩
    by_cases h0 : l = 0
    · left; subst h0; rfl
    · right
      obtain ⟨b, off, rfl, hc2⟩ := ints_at hcell (by omega)
      refine ⟨b, off, rfl, trivial, fun i hi => ?_⟩
      have hi2 : i < l := by omega
      have h3 := hc2 i (by omega)
      rw [h3]
      have hw := hwz (zs[i]'(by omega)) (List.getElem_mem _)
      simp [u8of_eq hw, List.getElem?_eq_getElem (show i < zs.length by omega)]
/-- a slice whose elements are one cell each -/
theorem read_rows {α : Type} [Inhabited α] {S : World → Value → α → Prop} {T : DataW H → α → Prop} {t e : TypeId} {v : Value} {d : DataW H} {ps : List MemPlace} {held spare} {base b0 : Nat} (ht : P.underlying t = some (.slice e)) (hc : P.cellsOf e = 1)
    (hS : ∀ n v d pl, DataW.trod enc P W base spare held n e [v] = some (d, pl) → ∃ x, S W v x ∧ T d x)
    (hval : Value.okWide P W .any b0 t v) (h : DataW.Trod enc P W base spare held t v d ps) :
    ∃ xs, RowsOf S W v xs ∧ ((d = .nil ∧ xs = []) ∨ ∃ els sp, d = .slice els sp ∧ els.length = xs.length ∧ ∀ i (h1 : i < els.length) (h2 : i < xs.length), T els[i] xs[i]) := by
  obtain ⟨a, len, cap, rfl⟩ := okWide_slice ht hval
  obtain ⟨fuel, hf⟩ := h
  rcases Deep.open_slice1 ht hc hf with ⟨hcs, hx⟩ | ⟨x, l, c, m, n, V, D, Pl, hcs, _, hl, hm, hmm, hx, hall⟩
  · simp only [Value.cells, List.cons.injEq, and_true] at hcs
    obtain ⟨rfl, rfl, rfl⟩ : a = none ∧ len = 0 ∧ cap = 0 := by simpa using hcs
    simp only [Prod.mk.injEq] at hx
    exact ⟨[], ⟨none, 0, rfl, ⟨Nat.le_refl _, Nat.zero_le _, fun _ => rfl⟩, .inl rfl⟩, .inl ⟨hx.1, rfl⟩⟩
  · obtain ⟨rfl, rfl, rfl⟩ : a = some x ∧ len = l ∧ cap = c := by simpa [Value.cells] using hcs
    simp only [Prod.mk.injEq] at hx
    have hml : len ≤ m := by rw [hmm]; split <;> omega
    obtain ⟨X, hX⟩ := Deep.choose_lt (n := len) (p := fun i y => S W (V i) y ∧ T (D i) y) (fun i hi => hS n (V i) (D i) (Pl i) (hall i (by omega)).2)
    refine ⟨(List.range len).map X, ⟨some x, cap, by simp, ⟨by simpa using hl, hm, fun h => by cases h⟩, ?_⟩, .inr ⟨_, _, hx.1, by simp, fun i h1 h2 => by
      have hi : i < len := by simpa using h1
      simpa using (hX i hi).2⟩⟩
    by_cases h0 : len = 0
    · left; subst h0; rfl
    · right
      obtain ⟨b, off, spot⟩ := x
      have h00 := (hall 0 (by omega)).1
      have hspot : spot = none := by simpa [Addr.add] using World.cell?_spot h00
      subst hspot
      refine ⟨b, off, rfl, fun i hi => ?_⟩
      have hi : i < len := by simpa using hi
      refine ⟨V i, ?_, by simpa using (hX i hi).1⟩
      rw [← add_plain]
      exact (hall i (by omega)).1
theorem read_bytess {t e f : TypeId} {v : Value} {d : DataW H} {ps : List MemPlace} {held spare} {base b0 : Nat} (ht : P.underlying t = some (.slice e)) (he : P.underlying e = some (.slice f)) (hf : P.underlying f = some (.int .u8)) (hce : P.cellsOf e = 1) (hcf : P.cellsOf f = 1)
    (hval : Value.okWide P W .any b0 t v) (h : DataW.Trod enc P W base spare held t v d ps) :
    ∃ xs, Byts W v xs ∧ ((d = .nil ∧ xs = []) ∨ ∃ els sp, d = .slice els sp ∧ els.length = xs.length ∧ ∀ i (h1 : i < els.length) (h2 : i < xs.length), BytesAre els[i] xs[i]) :=
  read_rows ht hce (fun _ _ _ _ hh => cell_bytes he hf hcf hh) hval h
end Go.Proofs.YtmenchnjajpkmaaGreatDoor.Read
end

section
namespace Go.Proofs.YtmenchnjajpkmaaGreatDoor.ShaW
open Go Go.RowKit Mem Sha

theorem flat_le (ls : List (List UInt8)) (n : Nat) : ((ls.take n).flatten).length ≤ (ls.map List.length).sum := by
  rw [List.length_flatten]
  conv => rhs; rw [← List.take_append_drop n ls, List.map_append, List.sum_append]
  omega
theorem flat_succ (ls : List (List UInt8)) (n : Nat) (h : n < ls.length) : (ls.take (n + 1)).flatten = (ls.take n).flatten ++ ls[n] := by
  rw [List.take_add_one, List.getElem?_eq_getElem h, List.flatten_append]
  simp only [Option.toList_some, List.flatten_cons, List.flatten_nil, List.append_nil]
def tagged (s : ByteArray) (ls : List (List UInt8)) : List UInt8 := sha (sha s.data.toList ++ sha s.data.toList ++ ls.flatten)
theorem tagged_length (s : ByteArray) (ls : List (List UInt8)) : (tagged s ls).length = 32 := sha_length _

set_option maxHeartbeats 4000000 in
set_option maxRecDepth 100000 in
theorem tagged_calls (w : World) (s : ByteArray) (va : Value) (ls : List (List UInt8)) (hA : Byts w va ls) (hs : s.size ≤ 1099511627776) (hl : (ls.map List.length).sum ≤ 140737488351232) (hn : ls.length ≤ 1099511627776) (hT : TabB w 1) :
    Calls Tryz.prog 33 #[.string s, va] w fun e w' => e = .returned (.agg ((tagged s ls).map byt).toArray) ∧ Below w.heap.size w w' := by
  obtain ⟨a1, a2, rfl, hka, _⟩ := id hA
  have hg1 : 1 < w.heap.size := (Array.getElem?_eq_some_iff.1 hT.choose_spec.choose_spec).1
  have kc := fun w => Lib.run_convert_string_bytes (P := Tryz.prog) w 9 25 5 s Tryz.underlying9 Tryz.underlying25 Tryz.underlying5
  have HA := Lib.hid hA
  have HT := Lib.hid hT
  have HSUM := Lib.hid hl
  have H0 := Lib.hid (new32 w)
  have HB0 := Lib.hid (show Below w.heap.size w (w.alloc (.cells #[.int .u8 0, .int .u8 0, .int .u8 0, .int .u8 0, .int .u8 0, .int .u8 0, .int .u8 0, .int .u8 0, .int .u8 0, .int .u8 0, .int .u8 0, .int .u8 0, .int .u8 0, .int .u8 0, .int .u8 0, .int .u8 0, .int .u8 0, .int .u8 0, .int .u8 0, .int .u8 0, .int .u8 0, .int .u8 0, .int .u8 0, .int .u8 0, .int .u8 0, .int .u8 0, .int .u8 0, .int .u8 0, .int .u8 0, .int .u8 0, .int .u8 0, .int .u8 0] 24)) from (Below.refl _ _).alloc (Nat.le_refl _) _)
  have hs0 : (w.alloc (.cells #[.int .u8 0, .int .u8 0, .int .u8 0, .int .u8 0, .int .u8 0, .int .u8 0, .int .u8 0, .int .u8 0, .int .u8 0, .int .u8 0, .int .u8 0, .int .u8 0, .int .u8 0, .int .u8 0, .int .u8 0, .int .u8 0, .int .u8 0, .int .u8 0, .int .u8 0, .int .u8 0, .int .u8 0, .int .u8 0, .int .u8 0, .int .u8 0, .int .u8 0, .int .u8 0, .int .u8 0, .int .u8 0, .int .u8 0, .int .u8 0, .int .u8 0, .int .u8 0] 24)).heap.size = w.heap.size + 1 := by simp
  clear hA hT hl
  go_enter Tryz.func33, Tryz.ntmps33
  go_upto_region 1 with fail
  generalize (w.alloc (.cells #[.int .u8 0, .int .u8 0, .int .u8 0, .int .u8 0, .int .u8 0, .int .u8 0, .int .u8 0, .int .u8 0, .int .u8 0, .int .u8 0, .int .u8 0, .int .u8 0, .int .u8 0, .int .u8 0, .int .u8 0, .int .u8 0, .int .u8 0, .int .u8 0, .int .u8 0, .int .u8 0, .int .u8 0, .int .u8 0, .int .u8 0, .int .u8 0, .int .u8 0, .int .u8 0, .int .u8 0, .int .u8 0, .int .u8 0, .int .u8 0, .int .u8 0, .int .u8 0] 24)) = w0 at *
  go_wp2_with fail
  have hsl : s.data.toList.length = s.size := by rw [Array.length_toList]; rfl
  have hb1 := below_bytes w0 5 s
  have hby := byt_bytes (D := Any) w0 5 s (by unfold maxLen; omega) trivial
  rw [hs0] at hby
  refine (of_calls _ Any _ s.data.toList hby (by omega) (HT.out.below (HB0.out.trans (hb1.mono (by omega))))).mono ?_
  rintro e w2 ⟨rfl, hb2⟩
  have hz1 := hb1.size
  have hz2 := hb2.size
  have HB2 := Lib.hid (HB0.out.trans ((hb1.mono (by omega)).trans (hb2.mono (by omega))))
  have HD2 := Lib.hid ((H0.out.below hb1).below hb2)
  have hs2 : w.heap.size < w2.heap.size := by omega
  have hdl : (sha s.data.toList).length = 32 := sha_length _
  have HE := Lib.hid (show tagged s ls = sha (sha s.data.toList ++ sha s.data.toList ++ ls.flatten) from rfl)
  clear hb1 hb2 hby kc H0 HB0 hz1 hz2
  generalize sha s.data.toList = dg at *
  have HN := Lib.hid (new32 w2)
  have HONE := Lib.hid (one_cells dg)
  go_upto_region 2 with (first | (with_reducible refine wpList_store_blk rfl _ _ _ rfl w2.heap.size (dg.map byt) _ rfl _ rfl rfl HN.out (by kernel_rfl) (by simp [hdl]) HONE.out ?_))
  obtain ⟨h3, hm3⟩ := made32 w2 dg
  have hs3 := h3.lt
  have HB3 := Lib.hid (HB2.out.trans (hm3.mono (by omega)))
  have HD3 := Lib.hid (HD2.out.below hm3)
  have H3 := Lib.hid h3
  clear hm3 h3 HN HB2 HD2
  generalize (w2.alloc (.cells #[.int .u8 0, .int .u8 0, .int .u8 0, .int .u8 0, .int .u8 0, .int .u8 0, .int .u8 0, .int .u8 0, .int .u8 0, .int .u8 0, .int .u8 0, .int .u8 0, .int .u8 0, .int .u8 0, .int .u8 0, .int .u8 0, .int .u8 0, .int .u8 0, .int .u8 0, .int .u8 0, .int .u8 0, .int .u8 0, .int .u8 0, .int .u8 0, .int .u8 0, .int .u8 0, .int .u8 0, .int .u8 0, .int .u8 0, .int .u8 0, .int .u8 0, .int .u8 0] 24)).setRow w2.heap.size (dg.map byt).toArray = w3 at *
  generalize w2.heap.size = gd at *
  generalize Value.agg (dg.map byt).toArray = xd at *
  have hsz3 := HB3.out.size
  have HT3 := Lib.hid (HT.out.below HB3.out)
  have HA3 := Lib.hid (HA.out.below HB3.out)
  go_wp2_with fail
  refine (new_from w3).mono ?_
  rintro e w4 ⟨q, rfl, hH, hb⟩
  have HH := Lib.hid hH
  have HB4 := Lib.hid hb
  clear hH hb
  go_wp2_with fail
  refine (write_from w3.heap.size w4 q [] _ dg HH.out ((H3.out.keep HB4.out (by omega)).byt hdl (by unfold maxLen; omega) (by omega)) (by simp; omega) (HT3.out.below HB4.out) (by omega)).mono ?_
  rintro e w5 ⟨rfl, hH, hb⟩
  rw [List.nil_append] at hH
  have HH := Lib.hid hH
  have HB5 := Lib.hid (HB4.out.trans hb)
  clear hH hb HB4
  go_wp2_with fail
  refine (write_from w3.heap.size w5 q dg _ dg HH.out ((H3.out.keep HB5.out (by omega)).byt hdl (by unfold maxLen; omega) (by omega)) (by omega) (HT3.out.below HB5.out) (by omega)).mono ?_
  rintro e w6 ⟨rfl, hH, hb⟩
  have HH := Lib.hid hH
  have HB6 := Lib.hid (HB5.out.trans hb)
  have hdd : (dg ++ dg).length = 64 := by rw [List.length_append, hdl]
  clear hH hb HB5
  go_wp2
  go_loopw [21] (fun i wx => ∃ (n : Nat) (m : List UInt8), n ≤ ls.length ∧ i = .int .i64 n ∧ m = dg ++ dg ++ (ls.take n).flatten ∧ HashFrom w3.heap.size wx q m ∧ Below w3.heap.size w3 wx) (fun i _ => ls.length - (intOf i).toNat)
  case atStart => exact ⟨0, dg ++ dg, by omega, rfl, by simp, HH.out, HB6.out⟩
  case round =>
    obtain ⟨n, m, hn1, rfl, hm, hH, hb⟩ := hrel
    have hfl := flat_le ls n
    have hml : m.length ≤ 140737488351232 + 64 := by rw [hm, List.length_append, hdd]; have := HSUM.out; omega
    have HM := Lib.hid hm
    have HH2 := Lib.hid hH
    have HB := Lib.hid hb
    clear hm hH hb hfl
    by_cases hlt : n < ls.length
    · obtain ⟨pb, po, pc, pe, rfl, hc3, hpB⟩ := HA3.out.cell n hlt
      have hc : wr.cell? ⟨pb, po + n, none⟩ = some (.slice pc (ls[n]).length pe) := by
        rw [World.cell?_of_block (w := w3) (HB.out.block pb (World.block_lt_of_cell? w3 _ hc3))]; exact hc3
      have HQB := Lib.hid ((hpB.lt.mono (E := fun k => k < w3.heap.size) (fun _ _ h => h.1)).keep HB.out)
      clear hc3 hpB
      have hX : dg ++ dg ++ (ls.take (n + 1)).flatten = m ++ ls[n] := by rw [HM.out, flat_succ ls n hlt, ← List.append_assoc]
      have hsum : (m ++ ls[n]).length ≤ 140737488351232 + 64 := by rw [← hX, List.length_append, hdd]; have := flat_le ls (n + 1); have := HSUM.out; omega
      have HX := Lib.hid hX
      rw [List.length_append] at hsum
      clear hX HM
      generalize ls[n] = p at *
      go_wp2_with fail
      refine (write_from w3.heap.size wr q m _ p HH2.out HQB.out (by omega) (HT3.out.below HB.out) (by omega)).mono ?_
      rintro e w7 ⟨rfl, hH, hb⟩
      have HH7 := Lib.hid hH
      have HB7 := Lib.hid (HB.out.trans hb)
      clear hH hb HH2 HB hc
      go_wp2
      go_roundw
      case rel => exact ⟨n + 1, m ++ p, by omega, by go_num, HX.out.symm, HH7.out, HB7.out⟩
      case measure => simp [intOf]; omega
    · obtain rfl : n = ls.length := by omega
      have hE : tagged s ls = sha m := by rw [HE.out, HM.out, List.take_length]
      have HE2 := Lib.hid hE
      clear hE HE HM
      go_wp2_with fail
      refine (sum_calls _ wr q m HH2.out.1 (by omega) (HT3.out.below HB.out)).mono ?_
      rintro e w8 ⟨rfl, hb⟩
      have hsr := HB.out.size
      have HB8 := Lib.hid (HB.out.trans (hb.mono hsr))
      have HBF := Lib.hid (HB3.out.trans (HB8.out.mono hsz3))
      have HDF := Lib.hid (HD3.out.keep HB8.out (by omega))
      rw [← HE2.out]
      clear hb HB HH HH2 HB8 HB6 HE2
      have HML := Lib.hid (tagged_length s ls)
      have HONE := Lib.hid (one_cells (tagged s ls))
      go_wp2_with (with_reducible refine wpList_store_blk rfl _ _ _ rfl w.heap.size ((tagged s ls).map byt) _ rfl _ rfl rfl HDF.out (by kernel_rfl) (by simp [HML.out]) HONE.out ?_)
      exact bodyPost_ret (v := .agg ((tagged s ls).map byt).toArray) (results_cell_row Tryz.results33 _ _ w.heap.size 24 _ (0, 0) _ rfl (HDF.out.row _) Tryz.underlying24 rfl (by kernel_rfl)) rfl ⟨rfl, below_setRow HBF.out (Nat.le_refl _) _⟩

set_option maxHeartbeats 4000000 in
set_option maxRecDepth 100000 in
theorem ref_tagged_calls (w : World) (s : ByteArray) (va : Value) (ls : List (List UInt8)) (hA : Byts w va ls) (hs : s.size ≤ 1099511627776) (hl : (ls.map List.length).sum ≤ 140737488351232) (hn : ls.length ≤ 1099511627776) (hT : TabB w 0) :
    Calls Tryz.prog 34 #[.string s, va] w fun e w' => e = .returned (.agg ((tagged s ls).map byt).toArray) ∧ Below w.heap.size w w' := by
  obtain ⟨a1, a2, rfl, hka, _⟩ := id hA
  have kc := fun w => Lib.run_convert_string_bytes (P := Tryz.prog) w 9 25 5 s Tryz.underlying9 Tryz.underlying25 Tryz.underlying5
  have HA := Lib.hid hA
  have HT := Lib.hid hT
  have HSUM := Lib.hid hl
  have H0 := Lib.hid (new32 w)
  have HB0 := Lib.hid (show Below w.heap.size w (w.alloc (.cells #[.int .u8 0, .int .u8 0, .int .u8 0, .int .u8 0, .int .u8 0, .int .u8 0, .int .u8 0, .int .u8 0, .int .u8 0, .int .u8 0, .int .u8 0, .int .u8 0, .int .u8 0, .int .u8 0, .int .u8 0, .int .u8 0, .int .u8 0, .int .u8 0, .int .u8 0, .int .u8 0, .int .u8 0, .int .u8 0, .int .u8 0, .int .u8 0, .int .u8 0, .int .u8 0, .int .u8 0, .int .u8 0, .int .u8 0, .int .u8 0, .int .u8 0, .int .u8 0] 24)) from (Below.refl _ _).alloc (Nat.le_refl _) _)
  have hs0 : (w.alloc (.cells #[.int .u8 0, .int .u8 0, .int .u8 0, .int .u8 0, .int .u8 0, .int .u8 0, .int .u8 0, .int .u8 0, .int .u8 0, .int .u8 0, .int .u8 0, .int .u8 0, .int .u8 0, .int .u8 0, .int .u8 0, .int .u8 0, .int .u8 0, .int .u8 0, .int .u8 0, .int .u8 0, .int .u8 0, .int .u8 0, .int .u8 0, .int .u8 0, .int .u8 0, .int .u8 0, .int .u8 0, .int .u8 0, .int .u8 0, .int .u8 0, .int .u8 0, .int .u8 0] 24)).heap.size = w.heap.size + 1 := by simp
  clear hA hT hl
  go_enter Tryz.func34, Tryz.ntmps34
  go_upto_region 1 with fail
  generalize (w.alloc (.cells #[.int .u8 0, .int .u8 0, .int .u8 0, .int .u8 0, .int .u8 0, .int .u8 0, .int .u8 0, .int .u8 0, .int .u8 0, .int .u8 0, .int .u8 0, .int .u8 0, .int .u8 0, .int .u8 0, .int .u8 0, .int .u8 0, .int .u8 0, .int .u8 0, .int .u8 0, .int .u8 0, .int .u8 0, .int .u8 0, .int .u8 0, .int .u8 0, .int .u8 0, .int .u8 0, .int .u8 0, .int .u8 0, .int .u8 0, .int .u8 0, .int .u8 0, .int .u8 0] 24)) = w0 at *
  go_wp2_with fail
  have hsl : s.data.toList.length = s.size := by rw [Array.length_toList]; rfl
  have hb1 := below_bytes w0 5 s
  have hby := byt_bytes (D := Any) w0 5 s (by unfold maxLen; omega) trivial
  rw [hs0] at hby
  refine (ref_of_calls _ Any _ s.data.toList hby (by omega) (HT.out.below (HB0.out.trans (hb1.mono (by omega))))).mono ?_
  rintro e w2 ⟨rfl, hb2⟩
  have hz1 := hb1.size
  have hz2 := hb2.size
  have HB2 := Lib.hid (HB0.out.trans ((hb1.mono (by omega)).trans (hb2.mono (by omega))))
  have HD2 := Lib.hid ((H0.out.below hb1).below hb2)
  have hs2 : w.heap.size < w2.heap.size := by omega
  have hdl : (sha s.data.toList).length = 32 := sha_length _
  have HE := Lib.hid (show tagged s ls = sha (sha s.data.toList ++ sha s.data.toList ++ ls.flatten) from rfl)
  clear hb1 hb2 hby kc H0 HB0 hz1 hz2
  generalize sha s.data.toList = dg at *
  go_wp2_with fail
  refine (text_calls w2 dg hdl).mono ?_
  rintro e w3 ⟨ta, tc, rfl, hO, hb⟩
  have HB3 := Lib.hid (HB2.out.trans (hb.mono (by omega)))
  have HD3 := Lib.hid (HD2.out.below hb)
  have HDG := Lib.hid hO.byt.any
  have hs3 : w.heap.size < w3.heap.size := by have := hb.size; omega
  clear hO hb HB2 HD2
  have hO3 : OwnB w3.heap.size 5 (w3.alloc (.cells #[] 5)) (.slice (some ⟨w3.heap.size, 0, none⟩) 0 0) [] := World.ownsRow_lit w3 #[] 0 (Nat.le_refl _) (Nat.zero_le _) rfl
  have H4 : Hid (MacK w.heap.size w (.slice (some ⟨w3.heap.size, 0, none⟩) 0 0) [] (w3.alloc (.cells #[] 5))) := Lib.hid ⟨HB3.out.alloc HB3.out.size _, HD3.out.alloc _, hO3.mono (by omega), by simp; omega⟩
  have HDG4 := Lib.hid (HDG.out.below ((Below.refl _ w3).alloc (Nat.le_refl _) (.cells #[] 5)))
  clear hO3 HD3
  go_wp2_with (at_builtin; refine wpList_append_byt _ rfl (.tmp 12) (.tmp 13) 25 rfl (w.heap.size + 1) 5 elemB _ [] rfl H4.out.2.2.1 (.slice ta 32 tc) dg rfl HDG4.out (by simp; omega) (by have := H4.out.2.2.2; omega) ?_)
  intro va vc w5 o1 o2 o3
  have H5 := Lib.hid (H4.out.grows o1 (Fr.ofGrown o2))
  have hb5 : Below w3.heap.size w3 w5 := ((Below.refl _ w3).alloc (Nat.le_refl _) _).grown o2 (by simp) (fun k hk => by cases hk; exact Nat.le_refl _)
  have HDG5 := Lib.hid (HDG.out.below hb5)
  clear o1 o2 o3 hb5 H4 HDG4 HDG
  go_wp2_with (at_builtin; refine wpList_append_byt _ rfl (.tmp 15) (.tmp 16) 25 rfl (w.heap.size + 1) 5 elemB _ dg rfl H5.out.2.2.1 (.slice ta 32 tc) dg rfl HDG5.out (by omega) (by have := H5.out.2.2.2; omega) ?_)
  intro va2 vc2 w6 o1 o2 o3
  have H6 := Lib.hid (H5.out.grows o1 (Fr.ofGrown o2))
  have hdd : (dg ++ dg).length = 64 := by rw [List.length_append, hdl]
  clear o1 o2 o3 H5 HDG5
  go_wp2
  go_loopw [6, 7] (fun v i wx => ∃ (n : Nat) (m : List UInt8), n ≤ ls.length ∧ i = .int .i64 n ∧ m = dg ++ dg ++ (ls.take n).flatten ∧ MacK w.heap.size w v m wx) (fun _ i _ => ls.length - (intOf i).toNat)
  case atStart => exact ⟨0, dg ++ dg, by omega, rfl, by simp, H6.out⟩
  case round =>
    obtain ⟨n, m, hn1, rfl, hm, hM⟩ := hrel
    obtain ⟨xa, xc, rfl, hxk, _⟩ := id hM.2.2.1.byt
    have hfl := flat_le ls n
    have hml : m.length ≤ 140737488351232 + 64 := by rw [hm, List.length_append, hdd]; have := HSUM.out; omega
    have HM := Lib.hid hm
    have HK := Lib.hid hM
    clear hm hM hfl
    by_cases hlt : n < ls.length
    · obtain ⟨pb, po, pc, pe, rfl, hc3, hpB⟩ := HA.out.cell n hlt
      have hc : wr.cell? ⟨pb, po + n, none⟩ = some (.slice pc (ls[n]).length pe) := by
        rw [World.cell?_of_block (w := w) (HK.out.1.block pb (World.block_lt_of_cell? w _ hc3))]; exact hc3
      have HQB := Lib.hid (hpB.below HK.out.1)
      clear hc3 hpB
      have hX : dg ++ dg ++ (ls.take (n + 1)).flatten = m ++ ls[n] := by rw [HM.out, flat_succ ls n hlt, ← List.append_assoc]
      have hsum : (m ++ ls[n]).length ≤ 140737488351232 + 64 := by rw [← hX, List.length_append, hdd]; have := flat_le ls (n + 1); have := HSUM.out; omega
      have HX := Lib.hid hX
      rw [List.length_append] at hsum
      clear hX HM
      generalize ls[n] = p at *
      go_wp2_with (at_builtin; refine wpList_append_byt _ rfl (.tmp 24) (.tmp 28) 25 rfl (w.heap.size + 1) 5 elemB _ m rfl HK.out.2.2.1 _ p rfl HQB.out (by omega) (by have := HK.out.2.2.2; omega) ?_)
      intro va3 vc3 w7 o1 o2 o3
      have H7 := Lib.hid (HK.out.grows o1 (Fr.ofGrown o2))
      clear o1 o2 o3 HK hc HQB
      go_wp2
      go_roundw
      case rel => exact ⟨n + 1, m ++ p, by omega, by go_num, HX.out.symm, H7.out⟩
      case measure => simp [intOf]; omega
    · obtain rfl : n = ls.length := by omega
      have hE : tagged s ls = sha m := by rw [HE.out, HM.out, List.take_length]
      have HE2 := Lib.hid hE
      clear hE HE HM
      go_wp2_with fail
      refine (ref_of_calls wr _ _ m HK.out.2.2.1.byt.any (by omega) (HT.out.below HK.out.1)).mono ?_
      rintro e w8 ⟨rfl, hb⟩
      have hsr := HK.out.1.size
      have HBF := Lib.hid (HK.out.1.trans (hb.mono hsr))
      have HDF := Lib.hid (HK.out.2.1.below hb)
      rw [← HE2.out]
      clear hb HK H6 HE2
      have HML := Lib.hid (tagged_length s ls)
      have HONE := Lib.hid (one_cells (tagged s ls))
      go_wp2_with (with_reducible refine wpList_store_blk rfl _ _ _ rfl w.heap.size ((tagged s ls).map byt) _ rfl _ rfl rfl HDF.out (by kernel_rfl) (by simp [HML.out]) HONE.out ?_)
      exact bodyPost_ret (v := .agg ((tagged s ls).map byt).toArray) (results_cell_row Tryz.results34 _ _ w.heap.size 24 _ (0, 0) _ rfl (HDF.out.row _) Tryz.underlying24 rfl (by kernel_rfl)) rfl ⟨rfl, below_setRow HBF.out (Nat.le_refl _) _⟩
end Go.Proofs.YtmenchnjajpkmaaGreatDoor.ShaW
end

section
namespace Go.Proofs.YtmenchnjajpkmaaGreatDoor.Mh
open Go ShaW Mem Codec

abbrev Dg := List UInt8
structure Hd where
  prev : Dg
  root : Dg
  height : Nat
  nonce : Nat
def Hd.Ok (h : Hd) : Prop := h.prev.length = 32 ∧ h.root.length = 32 ∧ h.height < 18446744073709551616 ∧ h.nonce < 18446744073709551616
def Hd.cells (h : Hd) : List Value := h.prev.map byt ++ h.root.map byt ++ [.int .u64 (h.height : Int), .int .u64 (h.nonce : Int)]
abbrev hv (h : Hd) : Value := .agg h.cells.toArray
abbrev dv (d : Dg) : Value := .agg (d.map byt).toArray
def encH (h : Hd) : List UInt8 := h.prev ++ (h.root ++ (num h.height 8 ++ num h.nonce 8))
def idName : ByteArray := ⟨#[116, 111, 108, 108, 104, 111, 117, 115, 101, 47, 109, 97, 105, 110]⟩
def mainId (h : Hd) : Dg := tagged idName [encH h]
theorem mainId_length (h : Hd) : (mainId h).length = 32 := tagged_length _ _
theorem Hd.Ok.len {h : Hd} (ok : h.Ok) : h.cells.length = 66 := by simp [Hd.cells, ok.1, ok.2.1]
theorem Hd.one (h : Hd) : ∀ v ∈ h.cells, v.oneCell' = true := by
  intro v hv
  simp only [Hd.cells, List.mem_append, List.mem_map, List.mem_cons, List.not_mem_nil, or_false] at hv
  rcases hv with (⟨_, _, rfl⟩ | ⟨_, _, rfl⟩) | rfl | rfl <;> rfl
theorem Hd.cell_height {h : Hd} (ok : h.Ok) : h.cells[64]? = some (.int .u64 (h.height : Int)) := by
  unfold Hd.cells
  rw [List.getElem?_append_right (by simp [ok.1, ok.2.1])]
  simp [ok.1, ok.2.1]
theorem Hd.cell_nonce {h : Hd} (ok : h.Ok) : h.cells[65]? = some (.int .u64 (h.nonce : Int)) := by
  unfold Hd.cells
  rw [List.getElem?_append_right (by simp [ok.1, ok.2.1])]
  simp [ok.1, ok.2.1]
theorem Hd.at_prev {h : Hd} {j : Nat} {u : Value} (hu : (h.prev.map byt)[j]? = some u) : h.cells[0 + j]? = some u := by
  have hj := (List.getElem?_eq_some_iff.1 hu).1
  unfold Hd.cells
  rw [Nat.zero_add, List.append_assoc, List.getElem?_append_left hj]
  exact hu
theorem Hd.at_root {h : Hd} (ok : h.Ok) {j : Nat} {u : Value} (hu : (h.root.map byt)[j]? = some u) : h.cells[32 + j]? = some u := by
  have hj := (List.getElem?_eq_some_iff.1 hu).1
  unfold Hd.cells
  rw [List.append_assoc, List.getElem?_append_right (by simp [ok.1]), List.length_map, ok.1, Nat.add_sub_cancel_left, List.getElem?_append_left hj]
  exact hu

/-- where a header stands -/
def find (hs : List Hd) (id : Dg) : Option Nat := hs.findIdx? (fun h => mainId h == id)
theorem find_some {hs : List Hd} {id : Dg} {k : Nat} (h : find hs id = some k) : ∃ g, hs[k]? = some g ∧ mainId g = id ∧ ∀ j g', j < k → hs[j]? = some g' → mainId g' ≠ id := by
  unfold find at h
  rw [List.findIdx?_eq_some_iff_getElem] at h
  obtain ⟨hk, h1, h2⟩ := h
  refine ⟨hs[k], List.getElem?_eq_getElem hk, by simpa using h1, fun j g' hj hg e => ?_⟩
  have hj2 : j < hs.length := by omega
  rw [List.getElem?_eq_getElem hj2] at hg
  cases hg
  have := h2 j hj
  simp [e] at this
theorem find_none {hs : List Hd} {id : Dg} (h : find hs id = none) : ∀ g ∈ hs, mainId g ≠ id := by
  unfold find at h
  rw [List.findIdx?_eq_none_iff] at h
  intro g hg e
  have := h g hg
  simp [e] at this
/-- a track: no two of one id; each one but the first lies on one ahead of it -/
structure Trk (hs : List Hd) : Prop where
  ne : 0 < hs.length
  ok : ∀ h ∈ hs, h.Ok
  nd : ∀ (i j : Nat) (g h : Hd), hs[i]? = some g → hs[j]? = some h → mainId g = mainId h → i = j
  up : ∀ (i : Nat) (h : Hd), hs[i]? = some h → 0 < i → ∃ (j : Nat) (g : Hd), j < i ∧ hs[j]? = some g ∧ mainId g = h.prev
theorem Trk.find {hs : List Hd} (T : Trk hs) {k : Nat} {g : Hd} (hg : hs[k]? = some g) : find hs (mainId g) = some k := by
  cases h : Mh.find hs (mainId g) with
  | none => exact absurd rfl (find_none h g (List.mem_of_getElem? hg))
  | some j =>
    obtain ⟨g', h1, h2, _⟩ := find_some h
    rw [T.nd j k g' g h1 hg h2]
theorem Trk.one {h : Hd} (ok : h.Ok) : Trk [h] where
  ne := by simp
  ok g hg := by rw [List.mem_singleton.1 hg]; exact ok
  nd i j g g' hi hj _ := by
    have h1 := (List.getElem?_eq_some_iff.1 hi).1
    have h2 := (List.getElem?_eq_some_iff.1 hj).1
    simp at h1 h2; omega
  up i g hi h0 := by have h1 := (List.getElem?_eq_some_iff.1 hi).1; simp at h1; omega
/-- the error, and the track behind it -/
def addE (hs : List Hd) (h : Hd) : Int :=
  if (find hs (mainId h)).isSome then 170 else match Mh.find hs h.prev with
    | none => 171
    | some k => if h.height = 0 ∨ ((hs[k]?.map Hd.height).getD 0) + 1 ≠ h.height then 172 else 0
def addL (hs : List Hd) (h : Hd) : List Hd := if addE hs h = 0 then hs ++ [h] else hs
theorem addE_ok {hs : List Hd} {h : Hd} (e : addE hs h = 0) : find hs (mainId h) = none ∧ ∃ k g, find hs h.prev = some k ∧ hs[k]? = some g ∧ g.height + 1 = h.height := by
  unfold addE at e
  split at e
  · cases e
  rename_i h1
  refine ⟨by simpa using h1, ?_⟩
  cases hp : find hs h.prev with
  | none => simp [hp] at e
  | some k =>
    obtain ⟨g, hg, _⟩ := find_some hp
    refine ⟨k, g, rfl, hg, ?_⟩
    simp only [hp, hg, Option.map_some, Option.getD_some] at e
    split at e
    · cases e
    · omega
theorem Trk.add {hs : List Hd} (T : Trk hs) {h : Hd} (ok : h.Ok) : Trk (addL hs h) := by
  unfold addL
  split
  · rename_i e
    obtain ⟨h1, k, g, h2, h3, h4⟩ := addE_ok e
    refine ⟨by simp, fun x hx => ?_, fun i j x y hi hj hxy => ?_, fun i x hi h0 => ?_⟩
    · rcases List.mem_append.1 hx with hx | hx
      · exact T.ok x hx
      · rw [List.mem_singleton.1 hx]; exact ok
    · have key : ∀ (i : Nat) (x : Hd), (hs ++ [h])[i]? = some x → (i < hs.length ∧ hs[i]? = some x) ∨ (i = hs.length ∧ x = h) := by
        intro i x hi
        by_cases hlt : i < hs.length
        · rw [List.getElem?_append_left hlt] at hi; exact .inl ⟨hlt, hi⟩
        · have := (List.getElem?_eq_some_iff.1 hi).1
          simp at this
          obtain rfl : i = hs.length := by omega
          simp at hi
          exact .inr ⟨rfl, hi.symm⟩
      rcases key i x hi with ⟨_, hi2⟩ | ⟨e1, rfl⟩ <;> rcases key j y hj with ⟨_, hj2⟩ | ⟨e2, e3⟩
      · exact T.nd i j x y hi2 hj2 hxy
      · rw [e3] at hxy; exact absurd hxy (find_none h1 x (List.mem_of_getElem? hi2))
      · exact absurd hxy.symm (find_none h1 y (List.mem_of_getElem? hj2))
      · omega
    · by_cases hlt : i < hs.length
      · rw [List.getElem?_append_left hlt] at hi
        obtain ⟨j, g, hj, hg, hp⟩ := T.up i x hi h0
        exact ⟨j, g, hj, by rw [List.getElem?_append_left (by omega)]; exact hg, hp⟩
      · have := (List.getElem?_eq_some_iff.1 hi).1
        simp at this
        obtain rfl : i = hs.length := by omega
        simp at hi
        subst hi
        have hk := (List.getElem?_eq_some_iff.1 h3).1
        obtain ⟨g', hg', hp, _⟩ := find_some h2
        rw [h3] at hg'; cases hg'
        exact ⟨k, g, hk, by rw [List.getElem?_append_left hk]; exact h3, hp⟩
  · exact T
/-- which one is the best -/
def ht (hs : List Hd) (k : Nat) : Nat := (hs[k]?.map Hd.height).getD 0
def bestN (hs : List Hd) : Nat → Nat
  | 0 => 0
  | n + 1 => if ht hs (bestN hs n) < ht hs n then n else bestN hs n
def best (hs : List Hd) : Nat := bestN hs hs.length
theorem bestN_le (hs : List Hd) : ∀ n, bestN hs n ≤ n - 1
  | 0 => Nat.le_refl _
  | n + 1 => by
    unfold bestN
    have := bestN_le hs n
    split <;> omega
theorem best_lt {hs : List Hd} (h : 0 < hs.length) : best hs < hs.length := by have := bestN_le hs hs.length; unfold best; omega
theorem ht_snoc (hs : List Hd) (h : Hd) {k : Nat} (hk : k < hs.length) : ht (hs ++ [h]) k = ht hs k := by unfold ht; rw [List.getElem?_append_left hk]
theorem bestN_snoc (hs : List Hd) (h : Hd) (h0 : 0 < hs.length) : ∀ n, n ≤ hs.length → bestN (hs ++ [h]) n = bestN hs n
  | 0, _ => rfl
  | n + 1, hn => by
    have ih := bestN_snoc hs h h0 n (by omega)
    have hb := bestN_le hs n
    unfold bestN
    rw [ih, ht_snoc hs h (by omega), ht_snoc hs h (by omega)]
theorem best_snoc (hs : List Hd) (h : Hd) (h0 : 0 < hs.length) : best (hs ++ [h]) = if ht hs (best hs) < h.height then hs.length else best hs := by
  unfold best
  rw [List.length_append, List.length_singleton, bestN, bestN_snoc hs h h0 _ (Nat.le_refl _), ht_snoc hs h (show bestN hs hs.length < hs.length from best_lt h0)]
  have : ht (hs ++ [h]) hs.length = h.height := by simp [ht]
  rw [this]
/-- how deep one lies under another one -/
def dep (hs : List Hd) (id : Dg) : Nat → Nat → Option Nat
  | 0, _ => none
  | f + 1, k => match hs[k]? with
    | none => none
    | some h => if mainId h = id then some 0 else if k = 0 then none else match Mh.find hs h.prev with
      | none => none
      | some j => (dep hs id f j).map (· + 1)
theorem Trk.prev {hs : List Hd} (T : Trk hs) {k : Nat} {h : Hd} (hk : hs[k]? = some h) (h0 : 0 < k) : ∃ (j : Nat) (g : Hd), Mh.find hs h.prev = some j ∧ hs[j]? = some g ∧ mainId g = h.prev ∧ j < k := by
  obtain ⟨j, g, h1, h2, h3⟩ := T.up k h hk h0
  exact ⟨j, g, by rw [← h3]; exact T.find h2, h2, h3, h1⟩
theorem Trk.fuel {hs : List Hd} (T : Trk hs) (id : Dg) : ∀ (k f : Nat), k < f → dep hs id f k = dep hs id (k + 1) k := by
  intro k
  induction k using Nat.strongRecOn with
  | ind k ih =>
    intro f hf
    obtain ⟨f, rfl⟩ : ∃ m, f = m + 1 := ⟨f - 1, by omega⟩
    unfold dep
    cases hk : hs[k]? with
    | none => rfl
    | some h =>
      simp only
      split
      · rfl
      · split
        · rfl
        · obtain ⟨j, g, h1, h2, h3, h4⟩ := T.prev hk (by omega)
          simp only [h1]
          rw [ih j h4 f (by omega), ih j h4 k (by omega)]
def depth (hs : List Hd) (id over : Dg) : Option Nat := match find hs over with
  | none => none
  | some k => dep hs id (k + 1) k
theorem Trk.dep_eq {hs : List Hd} (T : Trk hs) (id : Dg) {k : Nat} {h : Hd} (hk : hs[k]? = some h) : dep hs id (k + 1) k = if mainId h = id then some 0 else if k = 0 then none else (depth hs id h.prev).map (· + 1) := by
  rw [dep]
  simp only [hk]
  split
  · rfl
  · split
    · rfl
    · obtain ⟨j, g, h1, h2, h3, h4⟩ := T.prev hk (by omega)
      unfold depth
      simp only [h1]
      rw [T.fuel id j k h4]
theorem Trk.depth_eq {hs : List Hd} (T : Trk hs) (id : Dg) {k : Nat} {h : Hd} (hk : hs[k]? = some h) : depth hs id (mainId h) = if mainId h = id then some 0 else if k = 0 then none else (depth hs id h.prev).map (· + 1) := by
  have h1 := T.find hk
  unfold depth
  rw [h1]
  exact T.dep_eq id hk
theorem dep_le (hs : List Hd) (id : Dg) : ∀ (f k n : Nat), dep hs id f k = some n → n < f
  | 0, _, _, h => by simp [dep] at h
  | f + 1, k, n, h => by
    unfold dep at h
    split at h
    · cases h
    · split at h
      · cases h; omega
      · split at h
        · cases h
        · split at h
          · cases h
          · rename_i j _
            cases hd : dep hs id f j with
            | none => rw [hd] at h; cases h
            | some m =>
              rw [hd] at h
              simp only [Option.map_some, Option.some.injEq] at h
              have := dep_le hs id f j m hd
              omega
end Go.Proofs.YtmenchnjajpkmaaGreatDoor.Mh
end
