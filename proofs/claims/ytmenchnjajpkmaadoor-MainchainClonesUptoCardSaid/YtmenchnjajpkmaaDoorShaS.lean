/- The walk of the reference's digest: Of comes to Sha.sha. Condition: the text is shorter than 2^47 - 128 bytes. -/
import Derived.Test.YtmenchnjajpkmaaDoorShaR
import Derived.Test.YtmenchnjajpkmaaDoorLoop
namespace Go.Proofs.YtmenchnjajpkmaaDoor.ShaW
open Go Go.RowKit Mem Sha

/-- what the rounds of the reference keep -/
def Base (B G : Nat) (w : World) (v : Value) (P : List UInt8) (st : St) (wx : World) : Prop :=
  Below B w wx ∧ Blk wx B (List.replicate 32 (.int .u8 0)) 24 ∧ Blk wx G (st.l.map word) 75 ∧ B < G ∧ Byt (fun k => B < k ∧ k < G) wx v P
theorem Base.fr {S : Nat → Prop} {B G : Nat} {w : World} {v : Value} {P : List UInt8} {st : St} {wx w' : World} (h : Base B G w v P st wx) (f : Fr S wx w') (hS : ∀ k, S k → G < k) : Base B G w v P st w' := by
  obtain ⟨h1, h2, h3, h4, h5⟩ := h
  refine ⟨h1.trans (f.below (by have := h2.lt; omega) (fun k hk => by have := hS k hk; omega)), h2.fr f (fun e => by have := hS _ e; omega), h3.fr f (fun e => by have := hS _ e; omega), h4, h5.fr f (fun k _ hk e => by have := hS _ e; omega)⟩
theorem Base.drew {B G : Nat} {w : World} {v : Value} {P : List UInt8} {st : St} {wx : World} (h : Base B G w v P st wx) : Base B G w v P st wx.drew := ⟨h.1.drew, h.2⟩
theorem Base.drewN {B G : Nat} {w : World} {v : Value} {P : List UInt8} {st : St} {wx : World} (h : Base B G w v P st wx) (n : Nat) : Base B G w v P st (wx.drewN n) := ⟨below_drewN h.1 n, h.2⟩

/-- the schedule's block -/
def SchRel (B G W : Nat) (w : World) (v : Value) (P p : List UInt8) (st : St) (t : Nat) (wx : World) : Prop :=
  Base B G w v P st wx ∧ Blk wx W ((sched p t).map word ++ List.replicate (64 - t) (.int .u32 0)) 76 ∧ G < W
theorem SchRel.drew {B G W : Nat} {w : World} {v : Value} {P p : List UInt8} {st : St} {t : Nat} {wx : World} (h : SchRel B G W w v P p st t wx) : SchRel B G W w v P p st t wx.drew := ⟨h.1.drew, h.2⟩
theorem SchRel.drewN {B G W : Nat} {w : World} {v : Value} {P p : List UInt8} {st : St} {t : Nat} {wx : World} (h : SchRel B G W w v P p st t wx) (n : Nat) : SchRel B G W w v P p st t (wx.drewN n) := ⟨h.1.drewN n, h.2⟩
theorem sch_set (l : List UInt8) (t : Nat) (ht : t < 64) : ((sched l t).map word ++ List.replicate (64 - t) (Value.int .u32 0)).set t (.int .u32 ((wd l t).toNat : Int)) = (sched l (t + 1)).map word ++ List.replicate (64 - (t + 1)) (.int .u32 0) := by
  have hl := sched_length l t
  rw [List.set_append_right _ _ (by simp [hl]), sched_succ, List.map_append, List.append_assoc]
  congr 1
  rw [List.length_map, hl, Nat.sub_self]
  obtain ⟨m, hm⟩ : ∃ m, 64 - t = m + 1 := ⟨63 - t, by omega⟩
  rw [hm, show 64 - (t + 1) = m from by omega]
  rfl
theorem sch_step {B G W : Nat} {w : World} {v : Value} {P p : List UInt8} {st : St} {t : Nat} {wx : World} (ht : t < 64) (h : SchRel B G W w v P p st t wx) :
    SchRel B G W w v P p st (t + 1) (wx.setCell ⟨W, t, none⟩ (.int .u32 ((wd p t).toNat : Int))) := by
  obtain ⟨h1, h2, h3⟩ := h
  refine ⟨h1.fr (S := fun k => k = W) (Fr.setCell (S := fun k => k = W) (p := ⟨W, t, none⟩) (Fr.refl _ _) (.inr rfl) _) (fun k hk => by omega), ?_, h3⟩
  rw [← sch_set p t ht]
  exact h2.set t _
theorem sch_old {B G W : Nat} {w : World} {v : Value} {P p : List UInt8} {st : St} {t : Nat} {wx : World} (ht : t < 64) (h : SchRel B G W w v P p st t wx) : wx.cell? ⟨W, t, none⟩ = some (.int .u32 0) := by
  refine h.2.1.cell ?_
  rw [List.getElem?_append_right (by simp [sched_length])]
  simp [sched_length, List.getElem?_replicate]; omega
theorem sch_cell {B G W : Nat} {w : World} {v : Value} {P p : List UInt8} {st : St} {t : Nat} {wx : World} (h : SchRel B G W w v P p st t wx) (j : Nat) (hj : j < t) : wx.cell? ⟨W, j, none⟩ = some (.int .u32 ((wd p j).toNat : Int)) := by
  refine h.2.1.cell ?_
  have hl := sched_length p t
  rw [List.getElem?_append_left (by simp [hl]; omega)]
  have := sched_getD p t j hj
  rw [List.getD_eq_getElem?_getD, List.getElem?_eq_getElem (by omega)] at this
  simp [hl, hj]
  rw [← this]; rfl
theorem be_nat (x y z u : UInt8) : (be x y z u).toNat = x.toNat * 16777216 + y.toNat * 65536 + z.toNat * 256 + u.toNat := by
  have hx := x.toNat_lt
  have hy := y.toNat_lt
  have hz := z.toNat_lt
  have hu := u.toNat_lt
  have sh : ∀ (c : UInt8) (m : Nat), m ≤ 24 → (BitVec.ofNat 32 c.toNat <<< m).toNat = c.toNat * 2 ^ m := by
    intro c m hm
    have hc := c.toNat_lt
    have h2 : 2 ^ m ≤ 2 ^ 24 := Nat.pow_le_pow_right (by omega) hm
    have h3 : c.toNat * 2 ^ m ≤ 255 * 2 ^ 24 := Nat.mul_le_mul (by omega) h2
    rw [BitVec.toNat_shiftLeft, Nat.shiftLeft_eq, BitVec.toNat_ofNat, Nat.mod_eq_of_lt (a := c.toNat) (by omega), Nat.mod_eq_of_lt (by omega)]
  unfold be
  rw [BitVec.toNat_or, BitVec.toNat_or, BitVec.toNat_or, sh x 24 (by omega), sh y 16 (by omega), sh z 8 (by omega), BitVec.toNat_ofNat, Nat.mod_eq_of_lt (a := u.toNat) (by omega)]
  rw [nat_join 24 (x.toNat * 2 ^ 24) (y.toNat * 2 ^ 16) (by omega) (by omega), nat_join 16 (x.toNat * 2 ^ 24 + y.toNat * 2 ^ 16) (z.toNat * 2 ^ 8) (by omega) (by omega),
    nat_join 8 (x.toNat * 2 ^ 24 + y.toNat * 2 ^ 16 + z.toNat * 2 ^ 8) u.toNat (by omega) (by omega)]
theorem be_sum (x y z u : UInt8) : (x.toNat : Int) * 16777216 + (y.toNat : Int) * 65536 + (z.toNat : Int) * 256 + (u.toNat : Int) = ((be x y z u).toNat : Int) := by
  rw [be_nat]; omega
theorem rot_quiet (x : W) (k : Int) (w : World) (h1 : 1 ≤ k) (h2 : k ≤ 31) {n : Nat} :
    Calls Tryd.prog 33 #[.int .u32 (x.toNat : Int), .int .i64 k] (w.drewN n) fun e w'' => e = .returned (.int .u32 ((rotr x k.toNat).toNat : Int)) ∧ ∃ m, w'' = w.drewN m :=
  Calls.quiet_of (rot x k (w.drewN n) h1 h2)

theorem sch_start {B G : Nat} {w wr : World} {v : Value} {P : List UInt8} {st : St} (h : Base B G w v P st wr) (p : List UInt8) :
    SchRel B G wr.heap.size w v P p st 0 (wr.alloc (.cells (List.replicate 64 (.int .u32 0)).toArray 76)) :=
  ⟨h.fr (S := fun _ => False) ((Fr.refl _ _).alloc _) (fun _ hk => hk.elim), Blk.new _ _ _ _ rfl, h.2.2.1.lt⟩
/-- a round of the reference's last inner loop -/
def RrRel (B G W A : Nat) (w : World) (v : Value) (P p : List UInt8) (st : St) (t : Nat) (wx : World) : Prop :=
  Base B G w v P st wx ∧ Blk wx W ((sched p 64).map word) 76 ∧ Blk wx A ((rounds p st t).l.map word) 75 ∧ G < W ∧ W < A

theorem not_int' (v : W) : bits .xor .u32 (v.toNat : Int) 4294967295 = ((~~~v).toNat : Int) := by
  have h := v.isLt
  show bits .xor .u32 (v.toNat : Int) ((4294967295 : Nat) : Int) = _
  rw [u32_xor_nat _ _ h (by omega)]
  rw [show (4294967295 : Nat) = (BitVec.allOnes 32).toNat from rfl, ← BitVec.toNat_xor, BitVec.xor_allOnes]
theorem wx_int' (s : St) (k w : W) : (((s.h.toNat : Int) + bits .xor .u32 (bits .xor .u32 ((rotr s.e 6).toNat : Int) ((rotr s.e 11).toNat : Int)) ((rotr s.e 25).toNat : Int) +
    bits .xor .u32 (bits .and .u32 (s.e.toNat : Int) (s.f.toNat : Int)) (bits .and .u32 (bits .xor .u32 (s.e.toNat : Int) 4294967295) (s.g.toNat : Int)) + (k.toNat : Int)) % 4294967296 + (w.toNat : Int)) % 4294967296 = ((wx s k w).toNat : Int) := by
  rw [not_int', and_int, and_int, xor_int, xor_int, xor_int]
  show (((s.h.toNat : Int) + ((Sig1 s.e).toNat : Int) + ((ch s.e s.f s.g).toNat : Int) + (k.toNat : Int)) % 4294967296 + (w.toNat : Int)) % 4294967296 = _
  unfold wx
  simp only [BitVec.toNat_add]; omega
theorem TabB.cell {w : World} {g : Nat} (h : TabB w g) (t : Nat) (ht : t < 64) : w.cell? ⟨g, t, none⟩ = some (.int .u32 ((K t).toNat : Int)) := by
  obtain ⟨tt, fr, h⟩ := h
  have := tab_at t ht
  simp [World.cell?, h, this]
theorem rr_step {B G W A : Nat} {w wr : World} {v : Value} {P p : List UInt8} {st : St} {t : Nat} (h : RrRel B G W A w v P p st t wr) {a b c d e f g i : Sha.W} (hr : rnd (rounds p st t) (K t) (wd p t) = ⟨a, b, c, d, e, f, g, i⟩) :
    RrRel B G W A w v P p st (t + 1) ((((((((wr.setCell ⟨A, 7, none⟩ (word i)).setCell ⟨A, 6, none⟩ (word g)).setCell ⟨A, 5, none⟩ (word f)).setCell ⟨A, 4, none⟩ (word e)).setCell ⟨A, 3, none⟩ (word d)).setCell ⟨A, 2, none⟩ (word c)).setCell ⟨A, 1, none⟩ (word b)).setCell ⟨A, 0, none⟩ (word a)) := by
  obtain ⟨h1, h2, h3, h4, h5⟩ := h
  have fr0 : ∀ {T : Nat → Prop} (_ : T A), Fr T wr ((((((((wr.setCell ⟨A, 7, none⟩ (word i)).setCell ⟨A, 6, none⟩ (word g)).setCell ⟨A, 5, none⟩ (word f)).setCell ⟨A, 4, none⟩ (word e)).setCell ⟨A, 3, none⟩ (word d)).setCell ⟨A, 2, none⟩ (word c)).setCell ⟨A, 1, none⟩ (word b)).setCell ⟨A, 0, none⟩ (word a)) := by
    intro T ht
    iterate 8 (refine Fr.setCell ?_ (.inr ht) _)
    exact Fr.refl _ _
  have fr := fr0 (T := fun k => k = A) rfl
  refine ⟨h1.fr fr (fun k hk => by omega), h2.fr fr (by omega), ?_, h4, h5⟩
  have := (((((((h3.set 7 (word i)).set 6 (word g)).set 5 (word f)).set 4 (word e)).set 3 (word d)).set 2 (word c)).set 1 (word b)).set 0 (word a)
  have e1 : rounds p st (t + 1) = ⟨a, b, c, d, e, f, g, i⟩ := hr
  rw [e1]
  exact this
/-- the reference's sums -/
def SsRel (B G A : Nat) (w : World) (v : Value) (P : List UInt8) (st r : St) (t : Nat) (wx : World) : Prop :=
  Below B w wx ∧ Blk wx B (List.replicate 32 (.int .u8 0)) 24 ∧ Blk wx G ((part st r t).map word) 75 ∧ B < G ∧ Byt (fun k => B < k ∧ k < G) wx v P ∧ Blk wx A (r.l.map word) 75 ∧ G < A
theorem SsRel.drew {B G A : Nat} {w : World} {v : Value} {P : List UInt8} {st r : St} {t : Nat} {wx : World} (h : SsRel B G A w v P st r t wx) : SsRel B G A w v P st r t wx.drew := ⟨h.1.drew, h.2⟩
theorem ss_step {B G A : Nat} {w : World} {v : Value} {P : List UInt8} {st r : St} {t : Nat} {wx : World} (ht : t < 8) (h : SsRel B G A w v P st r t wx) :
    SsRel B G A w v P st r (t + 1) (wx.setCell ⟨G, t, none⟩ (.int .u32 ((st.l.getD t 0 + r.l.getD t 0).toNat : Int))) := by
  obtain ⟨h1, h2, h3, h4, h5, h6, h7⟩ := h
  have fr : Fr (fun k => k = G) wx (wx.setCell ⟨G, t, none⟩ (.int .u32 ((st.l.getD t 0 + r.l.getD t 0).toNat : Int))) := Fr.setCell (S := fun k => k = G) (p := ⟨G, t, none⟩) (Fr.refl _ _) (.inr rfl) _
  refine ⟨h1.setCell (by show B ≤ G; omega) _, h2.fr fr (by omega), ?_, h4, h5.fr fr (fun k _ hk e => by omega), h6.fr fr (by omega), h7⟩
  rw [← part_set st r t ht]
  exact h3.set _ _
theorem ss_end {B G A : Nat} {w : World} {v : Value} {P : List UInt8} {st r : St} {wx : World} (h : SsRel B G A w v P st r 8 wx) : Base B G w v P (st.add r) wx := by
  obtain ⟨h1, h2, h3, h4, h5, h6, h7⟩ := h
  exact ⟨h1, h2, h3, h4, h5⟩
theorem RrRel.drewN {B G W A : Nat} {w wr : World} {v : Value} {P p : List UInt8} {st : St} {t : Nat} (h : RrRel B G W A w v P p st t wr) (n : Nat) : RrRel B G W A w v P p st t (wr.drewN n) := ⟨h.1.drewN n, h.2⟩

set_option maxHeartbeats 8000000 in
set_option maxRecDepth 200000 in
theorem ref_of_calls (w : World) (D : Nat → Prop) (v : Value) (l : List UInt8) (hB : Byt D w v l) (hlen : l.length ≤ 140737488355200) (hT : TabB w 0) :
    Calls Tryd.prog 27 #[v] w fun e w' => e = .returned (.agg ((sha l).map byt).toArray) ∧ Below w.heap.size w w' := by
  obtain ⟨a, c, rfl, _⟩ := id hB
  have hblk := Blk.new w _ 24 (List.replicate 32 (.int .u8 0)) rfl
  have hb0 : Below w.heap.size w (w.alloc (.cells (List.replicate 32 (.int .u8 0)).toArray 24)) := (Below.refl _ _).alloc (Nat.le_refl _) _
  have hB0 := hB.lt.below hb0
  have hgl : 0 < w.heap.size := (Array.getElem?_eq_some_iff.1 hT.choose_spec.choose_spec).1
  have HBLK := Lib.hid hblk
  have HB0 := Lib.hid hb0
  clear hblk hb0 hB
  go_enter Tryd.func27, Tryd.ntmps27
  go_upto_region 1 with fail
  go_cut [3] from 19 to 20 (fun v wx => ∃ P, P = l ++ padTail l.length ∧ Byt (fun k => w.heap.size < k ∧ k < wx.heap.size) wx v P ∧ Below w.heap.size w wx ∧ Blk wx w.heap.size (List.replicate 32 (.int .u8 0)) 24)
  case first =>
    go_wp2_with fail
    refine (padded_calls _ _ _ l hB0 hlen).mono ?_
    rintro e w1 ⟨pa, pn, pc, rfl, hP, hb1⟩
    have HP := Lib.hid hP
    have HB1 := Lib.hid hb1
    clear hP hb1
    go_wp2_with fail
    go_meet
    case rel => exact ⟨_, rfl, HP.out.lt.mono fun k _ h => ⟨by have := HBLK.out.lt; have := h.2; simp at this; omega, h.1⟩, HB0.out.trans (HB1.out.mono (by simp)), HBLK.out.below HB1.out⟩
  case rest =>
    obtain ⟨P, hP, hPb, hb1, hz1⟩ := hcut
    obtain ⟨pa, pc, rfl, _⟩ := id hPb
    have hPl : P.length % 64 = 0 := by rw [hP, List.length_append]; exact padTail_length _
    have hPm : P.length ≤ 140737488355328 := by
      rw [hP, List.length_append]; have : (padTail l.length).length ≤ 72 := by simp [padTail, be8_length]; omega
      omega
    have hbase : Base w.heap.size wc.heap.size w (.slice pa P.length pc) P ini (wc.alloc (.cells (ini.l.map word).toArray 75)) :=
      ⟨hb1.alloc (by have := hz1.lt; omega) _, hz1.alloc _, Blk.new _ _ _ _ rfl, hz1.lt, hPb.below ((Below.refl _ _).alloc (Nat.le_refl _) _)⟩
    have HBASE := Lib.hid hbase
    have HPL := Lib.hid hPl
    have HP := Lib.hid hP
    clear hP hPb hb1 hz1 hPl hbase HBLK HB0 hB0
    go_upto_region 3 with fail
    have hgB := HBASE.out.2.2.2.1
    generalize wc.heap.size = G at *
    go_wp2
    refine wp_loop_fr (fun u => ⟨(Value.slice a l.length c :: undef :: Value.pointer (some ⟨w.heap.size, 0, none⟩) :: Value.slice pa P.length pc :: Value.pointer (some ⟨G, 0, none⟩) :: u 5 :: u 6 :: u 7 :: u 8 :: u 9 :: u 10 :: u 11 :: u 12 :: u 13 :: u 14 :: u 15 :: u 16 :: u 17 :: u 18 :: u 19 :: u 20 :: u 21 :: u 22 :: u 23 :: u 24 :: u 25 :: u 26 :: u 27 :: u 28 :: u 29 :: u 30 :: u 31 :: u 32 :: u 33 :: u 34 :: u 35 :: u 36 :: u 37 :: u 38 :: u 39 :: u 40 :: u 41 :: u 42 :: u 43 :: u 44 :: u 45 :: u 46 :: u 47 :: u 48 :: u 49 :: u 50 :: u 51 :: u 52 :: u 53 :: u 54 :: u 55 :: u 56 :: u 57 :: u 58 :: u 59 :: u 60 :: u 61 :: u 62 :: u 63 :: u 64 :: u 65 :: u 66 :: u 67 :: u 68 :: u 69 :: u 70 :: u 71 :: u 72 :: u 73 :: u 74 :: u 75 :: u 76 :: u 77 :: u 78 :: u 79 :: u 80 :: u 81 :: u 82 :: u 83 :: u 84 :: u 85 :: u 86 :: u 87 :: u 88 :: u 89 :: u 90 :: u 91 :: u 92 :: u 93 :: u 94 :: u 95 :: u 96 :: u 97 :: u 98 :: u 99 :: u 100 :: u 101 :: u 102 :: u 103 :: u 104 :: u 105 :: u 106 :: u 107 :: u 108 :: u 109 :: u 110 :: u 111 :: u 112 :: u 113 :: u 114 :: u 115 :: u 116 :: u 117 :: u 118 :: u 119 :: u 120 :: u 121 :: u 122 :: u 123 :: u 124 :: u 125 :: u 126 :: u 127 :: u 128 :: u 129 :: u 130 :: u 131 :: u 132 :: u 133 :: u 134 :: u 135 :: u 136 :: u 137 :: u 138 :: u 139 :: u 140 :: u 141 :: u 142 :: u 143 :: u 144 :: u 145 :: u 146 :: u 147 :: u 148 :: u 149 :: u 150 :: u 151 :: u 152 :: u 153 :: u 154 :: u 155 :: u 156 :: u 157 :: u 158 :: u 159 :: u 160 :: u 161 :: u 162 :: u 163 :: u 164 :: u 165 :: u 166 :: u 167 :: u 168 :: u 169 :: u 170 :: u 171 :: u 172 :: u 173 :: u 174 :: u 175 :: u 176 :: u 177 :: u 178 :: u 179 :: u 180 :: u 181 :: u 182 :: u 183 :: u 184 :: u 185 :: u 186 :: u 187 :: u 188 :: u 189 :: u 190 :: u 191 :: u 192 :: u 193 :: u 194 :: u 195 :: u 196 :: u 197 :: u 198 :: u 199 :: u 200 :: u 201 :: u 202 :: u 203 :: u 204 :: u 205 :: u 206 :: u 207 :: u 208 :: u 209 :: u 210 :: u 211 :: u 212 :: u 213 :: u 214 :: u 215 :: u 216 :: u 217 :: u 218 :: u 219 :: u 220 :: u 221 :: u 222 :: u 223 :: u 224 :: u 225 :: u 226 :: u 227 :: u 228 :: u 229 :: u 230 :: u 231 :: u 232 :: u 233 :: u 234 :: u 235 :: u 236 :: u 237 :: u 238 :: u 239 :: u 240 :: u 241 :: u 242 :: u 243 :: u 244 :: u 245 :: u 246 :: u 247 :: u 248 :: u 249 :: []).toArray, []⟩)
      (fun a wx => ∃ k : Nat, 64 * k ≤ P.length ∧ a.tmps.getD 5 undef = .int .i64 ((64 * k : Nat) : Int) ∧ Base w.heap.size G w (.slice pa P.length pc) P (feed ini (P.take (64 * k))) wx) (fun a => P.length - (intOf (a.tmps.getD 5 undef)).toNat) (by kernel_rfl) ?atStart ?round
    case atStart => exact ⟨0, by omega, rfl, by rw [feed_short _ _ (by simp)]; exact HBASE.out⟩
    case round =>
      intro u wr hrel
      obtain ⟨k, hk, h5, hbs⟩ := hrel
      have h5 : u 5 = .int .i64 (64 * (k : Int)) := by have h6 : u 5 = .int .i64 ((64 * k : Nat) : Int) := h5; rw [h6]; congr 1
      rw [h5]
      clear h5
      by_cases hlt : 64 * k < P.length
      · have hle : 64 * k + 64 ≤ P.length := by have := HPL.out; omega
        obtain ⟨p, hp⟩ : ∃ p, p = (P.drop (64 * k)).take 64 := ⟨_, rfl⟩
        have hpl : p.length = 64 := by rw [hp]; simp; omega
        have hpl1 : 64 ≤ p.length := by omega
        have hpl2 : p.length ≤ 64 := by omega
        have hpg : ∀ j (h2 : j < p.length) (h3 : 64 * k + j < P.length), p[j]'h2 = P[64 * k + j]'h3 := by
          intro j h2 h3; simp only [hp, List.getElem_take, List.getElem_drop]
        have HPG := Lib.hid hpg
        have HPD := Lib.hid hp
        have HS0 := Lib.hid (sch_start hbs p)
        have hWG : G < wr.heap.size := hbs.2.2.1.lt
        clear hp hpl hpg hbs
        generalize hst : feed ini (P.take (64 * k)) = st at *
        have HST := Lib.hid hst
        clear hst
        go_upto_block 2 with fail
        rw [show decide (64 * (k : Int) < (P.length : Int)) = true from decide_eq_true (by omega)]
        generalize wr.heap.size = W at *
        go_cut [7] (fun _ wx => SchRel w.heap.size G W w (.slice pa P.length pc) P p st 16 wx)
        case first =>
          go_wp2
          go_loopw [7] (fun i wx => ∃ t : Nat, t ≤ 16 ∧ i = .int .i64 t ∧ SchRel w.heap.size G W w (.slice pa P.length pc) P p st t wx) (fun i _ => 16 - (intOf i).toNat)
          case atStart => exact ⟨0, by omega, rfl, HS0.out⟩
          case round =>
            obtain ⟨t, ht, rfl, hM⟩ := hrel
            by_cases h16 : t < 16
            · obtain ⟨pb, poff, hpa, _, hly⟩ : ∃ pb poff, pa = some ⟨pb, poff, none⟩ ∧ pb < G ∧ Lies wr pb poff P := by
                obtain ⟨a', c', he, _, hx⟩ := hM.1.2.2.2.2
                cases he
                rcases hx with hx | ⟨pb, poff, rfl, hd, hly⟩
                · subst hx; simp at hlt
                · exact ⟨pb, poff, rfl, hd.2, hly⟩
              have c0 := hly (64 * k + 4 * t) (by omega)
              have c1 := hly (64 * k + 4 * t + 1) (by omega)
              have c2 := hly (64 * k + 4 * t + 2) (by omega)
              have c3 := hly (64 * k + 4 * t + 3) (by omega)
              have hx0 := (P[64 * k + 4 * t]'(by omega)).toNat_lt
              have hx1 := (P[64 * k + 4 * t + 1]'(by omega)).toNat_lt
              have hx2 := (P[64 * k + 4 * t + 2]'(by omega)).toNat_lt
              have hx3 := (P[64 * k + 4 * t + 3]'(by omega)).toNat_lt
              have hold := sch_old (by omega) hM
              have hfz := hM.2.1.free t
              have hw : wd p t = be (P[64 * k + 4 * t]'(by omega)) (P[64 * k + 4 * t + 1]'(by omega)) (P[64 * k + 4 * t + 2]'(by omega)) (P[64 * k + 4 * t + 3]'(by omega)) := by
                rw [wd_low p t h16]
                have e0 := HPG.out (4 * t) (by omega) (by omega)
                have e1 := HPG.out (4 * t + 1) (by omega) (by omega)
                have e2 := HPG.out (4 * t + 2) (by omega) (by omega)
                have e3 := HPG.out (4 * t + 3) (by omega) (by omega)
                simp only [← Nat.add_assoc] at e0 e1 e2 e3
                rw [← e0, ← e1, ← e2, ← e3]
                simp [first, List.getD_eq_getElem?_getD, show 4 * t < p.length from by omega, show 4 * t + 1 < p.length from by omega, show 4 * t + 2 < p.length from by omega, show 4 * t + 3 < p.length from by omega]
              have HS := sch_step (by omega) hM
              rw [hw] at HS
              have HS := Lib.hid HS
              clear hM hw hly HS0
              subst hpa
              go_wp2
              go_region
              go_wp2
              go_roundw
              case rel =>
                refine ⟨t + 1, by omega, by go_num, ?_⟩
                rw [be_sum]
                exact HS.out.drew
              case measure => simp [intOf]; omega
            · obtain rfl : t = 16 := by omega
              have HM := Lib.hid hM
              clear hM HS0
              go_wp2
              go_meet
              case rel => exact HM.out
        case rest =>
          have HM := Lib.hid hcut
          clear hcut HS0
          go_upto_block 4 with fail
          go_cut [8] (fun _ wx => SchRel w.heap.size G W w (.slice pa P.length pc) P p st 64 wx)
          case first =>
            go_wp2
            go_loopw [8] (fun i wx => ∃ t : Nat, 16 ≤ t ∧ t ≤ 64 ∧ i = .int .i64 t ∧ SchRel w.heap.size G W w (.slice pa P.length pc) P p st t wx) (fun i _ => 64 - (intOf i).toNat)
            case atStart => exact ⟨16, by omega, by omega, rfl, HM.out⟩
            case round =>
              obtain ⟨t, ht16, ht, rfl, hM⟩ := hrel
              by_cases h64 : t < 64
              · have c1 := sch_cell hM (t - 15) (by omega)
                have HM := Lib.hid hM
                clear hM
                go_wp2
                go_quiet ((go_at_call 33; exact rot_quiet _ _ _ (by omega) (by omega)))
                have hM := HM.out.drewN nq
                clear HM c1
                generalize wr.drewN nq = wr at *
                have c3 := sch_cell hM (t - 2) (by omega)
                have HM := Lib.hid hM
                clear hM
                go_wp2
                go_quiet ((go_at_call 33; exact rot_quiet _ _ _ (by omega) (by omega)))
                have hM := HM.out.drewN nq
                clear HM c3
                generalize wr.drewN nq = wr at *
                have c0 := sch_cell hM (t - 16) (by omega)
                have c2 := sch_cell hM (t - 7) (by omega)
                have hold := sch_old h64 hM
                have hfz := hM.2.1.free t
                have HS := sch_step h64 hM
                rw [wd_high p t ht16] at HS
                have HS := Lib.hid HS
                clear hM
                go_wp2
                go_region
                go_wp2
                go_roundw
                case rel =>
                  refine ⟨t + 1, by omega, by omega, by go_num, ?_⟩
                  rw [sched_int]
                  exact HS.out.drew
                case measure => simp [intOf]; omega
              · obtain rfl : t = 64 := by omega
                have HM := Lib.hid hM
                clear hM
                go_wp2
                go_meet
                case rel => exact HM.out
          case rest =>
            have hM := hcut
            clear hcut HM
            have HM := Lib.hid hM
            have hBs := hM.1
            obtain ⟨g0, g1, g2, g3, g4, g5, g6, g7⟩ := St.cells hBs.2.2.1
            have hRr : RrRel w.heap.size G W wc.heap.size w (.slice pa P.length pc) P p st 0 (wc.alloc (.cells (st.l.map word).toArray 75)) := by
              obtain ⟨m1, m2, m3⟩ := hM
              have m2 : Blk wc W ((sched p 64).map word ++ []) 76 := m2
              rw [List.append_nil] at m2
              exact ⟨m1.fr (S := fun _ => False) ((Fr.refl _ _).alloc _) (fun _ hk => hk.elim), m2.alloc _, Blk.new _ _ _ _ rfl, m3, m2.lt⟩
            have HRR := Lib.hid hRr
            have hWA : W < wc.heap.size := hM.2.1.lt
            clear hM hBs hRr HM
            go_upto_block 6 with fail
            clear g0 g1 g2 g3 g4 g5 g6 g7
            generalize wc.heap.size = A at *
            go_cut [12] (fun _ wx => RrRel w.heap.size G W A w (.slice pa P.length pc) P p st 64 wx)
            case first =>
              go_wp2
              go_loopw [12] (fun i wx => ∃ t : Nat, t ≤ 64 ∧ i = .int .i64 t ∧ RrRel w.heap.size G W A w (.slice pa P.length pc) P p st t wx) (fun i _ => 64 - (intOf i).toNat)
              case atStart => exact ⟨0, by omega, rfl, HRR.out⟩
              case round =>
                obtain ⟨t, ht, rfl, hM⟩ := hrel
                by_cases h64 : t < 64
                · obtain ⟨g0, g1, g2, g3, g4, g5, g6, g7⟩ := St.cells hM.2.2.1
                  have hw := sched_cell hM.2.1 t h64
                  have hTt := (hT.fr (Fr.ofBelow hM.1.1) (by omega)).cell t h64
                  have HM := Lib.hid hM
                  clear hM
                  go_wp2
                  go_quiet ((go_at_call 33; exact rot_quiet _ _ _ (by omega) (by omega)))
                  go_wp2
                  rw [wx_int']
                  have hM := HM.out.drewN nq
                  clear HM g0 g1 g2 g3 g4 g5 g6 g7 hw hTt
                  generalize wr.drewN nq = wr at *
                  obtain ⟨g0, g1, g2, g3, g4, g5, g6, g7⟩ := St.cells hM.2.2.1
                  have HM := Lib.hid hM
                  clear hM
                  go_wp2
                  go_quiet ((go_at_call 33; exact rot_quiet _ _ _ (by omega) (by omega)))
                  have hM := HM.out.drewN nq
                  clear HM g0 g1 g2 g3 g4 g5 g6 g7
                  generalize wr.drewN nq = wr at *
                  obtain ⟨g0, g1, g2, g3, g4, g5, g6, g7⟩ := St.cells hM.2.2.1
                  have hfz := hM.2.2.1.free
                  have HM := Lib.hid hM
                  clear hM
                  go_wp2
                  go_roundw
                  case rel =>
                    refine ⟨t + 1, by omega, by go_num, ?_⟩
                    have := rr_step HM.out rfl
                    rw [wy_int, add_int]
                    exact this
                  case measure => simp [intOf]; omega
                · obtain rfl : t = 64 := by omega
                  have HM := Lib.hid hM
                  clear hM
                  go_wp2
                  go_meet
                  case rel => exact HM.out
            case rest =>
              have hM := hcut
              clear hcut
              have hSs : SsRel w.heap.size G A w (.slice pa P.length pc) P st (rounds p st 64) 0 wc := by
                obtain ⟨⟨m1, m2, m3, m4, m5⟩, m6, m7, m8, m9⟩ := hM
                exact ⟨m1, m2, m3, m4, m5, m7, by omega⟩
              have HSS := Lib.hid hSs
              have HMX := Lib.hid (mixed_eq st p _ rfl)
              clear hM HRR hSs
              generalize rounds p st 64 = r at *
              go_upto_block 8 with fail
              go_wp2
              go_loopw [16] (fun i wx => ∃ t : Nat, t ≤ 8 ∧ i = .int .i64 t ∧ SsRel w.heap.size G A w (.slice pa P.length pc) P st r t wx) (fun i _ => 8 - (intOf i).toNat)
              case atStart => exact ⟨0, by omega, rfl, HSS.out⟩
              case round =>
                obtain ⟨t, ht, rfl, hM⟩ := hrel
                by_cases h8 : t < 8
                · have c1 := hM.2.2.1.cell (part_cell st r t h8)
                  have c2 := hM.2.2.2.2.2.1.cell (r_cell r t h8)
                  have hfz := hM.2.2.1.free t
                  have HS := Lib.hid (ss_step h8 hM)
                  unfold word at c1 c2
                  clear hM HSS
                  go_wp2
                  go_region
                  go_wp2
                  go_roundw
                  case rel =>
                    refine ⟨t + 1, by omega, by go_num, ?_⟩
                    rw [add_int]
                    exact HS.out.drew
                  case measure => simp [intOf]; omega
                · obtain rfl : t = 8 := by omega
                  have hend := ss_end hM
                  have hfeed : st.add r = feed ini (P.take (64 * (k + 1))) := by
                    have e1 : P.take (64 * (k + 1)) = P.take (64 * k) ++ p := by rw [HPD.out, show 64 * (k + 1) = 64 * k + 64 from by omega, List.take_add]
                    have e2 : left (P.take (64 * k)) = [] := by
                      apply List.length_eq_zero_iff.1
                      rw [left_length _ _ rfl]; simp; omega
                    rw [e1, feed_app, e2, HST.out, List.nil_append, feed_long _ _ hpl1, ← HMX.out, List.take_of_length_le hpl2, feed_short _ _ (by simp; omega)]
                  rw [hfeed] at hend
                  have HEND := Lib.hid hend
                  clear hend hfeed hM HSS
                  go_wp2
                  refine ⟨⟨⟨k + 1, by omega, ?_, HEND.out⟩, ?_⟩, ?_⟩
                  · show Value.int .i64 _ = Value.int .i64 _
                    congr 1
                  · show P.length - (intOf (Value.int .i64 _)).toNat < P.length - (intOf (Value.int .i64 _)).toNat
                    simp only [intOf]
                    omega
                  · kernel_rfl
      · have hk2 : P.take (64 * k) = P := List.take_of_length_le (by omega)
        have hsh : sha l = out (feed ini (P.take (64 * k))) := by rw [hk2]; unfold sha; rw [HP.out]
        have HSH := Lib.hid hsh
        clear hk2 hsh
        generalize feed ini (P.take (64 * k)) = st at *
        have HBS := Lib.hid hbs
        clear hbs
        have hGw : G < wr.heap.size := HBS.out.2.2.1.lt
        have hO : OutRel w.heap.size G wr.heap.size w st 0 (wr.alloc (.cells (List.replicate 32 (.int .u8 0)).toArray 24)) ∧ Blk (wr.alloc (.cells (List.replicate 32 (.int .u8 0)).toArray 24)) G (st.l.map word) 75 :=
          ⟨⟨HBS.out.1.alloc (by omega) _, HBS.out.2.1.alloc _, by simpa using Blk.new wr _ 24 (List.replicate 32 (.int .u8 0)) rfl, hgB, hGw⟩, HBS.out.2.2.1.alloc _⟩
        have HO := Lib.hid hO
        clear hO HBS
        go_wp2
        generalize wr.heap.size = d at *
        go_loopw [18] (fun i wx => ∃ n : Nat, n ≤ 32 ∧ i = .int .i64 n ∧ OutRel w.heap.size G d w st n wx ∧ Blk wx G (st.l.map word) 75) (fun i _ => 32 - (intOf i).toNat)
        case atStart => exact ⟨0, by omega, rfl, HO.out⟩
        case round =>
          obtain ⟨n, hn32, rfl, hR, hG⟩ := hrel
          by_cases hlt2 : n < 32
          · have c1 := hG.cell (r_cell st (n / 4) (by omega))
            unfold word at c1
            have hold := out_cell hlt2 hR
            have hfz := hR.2.2.1.free n
            have hst := out_step (i := n / 4) (k := n % 4) (by omega) (by omega) (by rw [show 4 * (n / 4) + n % 4 = n from by omega]; exact hR)
            rw [show 4 * (n / 4) + n % 4 = n from by omega] at hst
            have hg2 : Blk (wr.setCell ⟨d, n, none⟩ (.int .u8 ((UInt8.ofNat ((st.l.getD (n / 4) 0).toNat / 2 ^ (24 - 8 * (n % 4)))).toNat : Int))) G (st.l.map word) 75 := hG.other (by show d ≠ G; omega) _
            have HS := Lib.hid hst
            have HG2 := Lib.hid hg2
            clear hR hG hst hg2 HO
            go_wp2
            go_roundw
            case rel =>
              refine ⟨n + 1, by omega, by go_num, ?_⟩
              rw [byte_of]
              exact ⟨HS.out, HG2.out⟩
            case measure => simp [intOf]; omega
          · obtain rfl : n = 32 := by omega
            have hD : Blk wr d ((out st).map byt) 24 := by
              have := hR.2.2.1
              rw [List.take_of_length_le (by rw [out_length]; omega)] at this
              simpa using this
            have hone : ∀ v ∈ (out st).map byt, v.oneCell' = true := by
              intro v hv; obtain ⟨c, _, rfl⟩ := List.mem_map.1 hv; rfl
            have HD := Lib.hid hD
            have HBL := Lib.hid hR.2.1
            have HBE := Lib.hid hR.1
            have HONE := Lib.hid hone
            clear hR hD hone hG HO
            go_wp2_with (first
              | (with_reducible refine wpList_load_blk rfl _ _ rfl d _ rfl HD.out _ Tryd.underlying24 rfl (by kernel_rfl) ?_)
              | (with_reducible refine wpList_store_blk rfl _ _ _ rfl w.heap.size ((out st).map byt) _ rfl _ rfl rfl HBL.out (by kernel_rfl) (by simp [out_length]) HONE.out ?_))
            exact bodyPost_ret (v := .agg ((out st).map byt).toArray) (results_cell_row Tryd.results27 _ _ w.heap.size 24 _ (0, 0) _ rfl (HBL.out.row _) Tryd.underlying24 rfl (by kernel_rfl)) rfl ⟨by rw [HSH.out], below_setRow HBE.out (Nat.le_refl _) _⟩
end Go.Proofs.YtmenchnjajpkmaaDoor.ShaW
