/- Walks of the order of digests: bytes.Compare, the program's Less, the reference's. No condition. -/
import Derived.Test.YtodhhejliijdmaaDoorShaL
import Derived.Test.YtodhhejliijdmaaDoorQuiet
import Derived.Lib.Bytealg
import Derived.Lib.BytesEntry
import Derived.BigQuiet
import Derived.Deep.DeepCutAuto
namespace Go.Proofs.YtodhhejliijdmaaDoor.ShaW
open Go Go.RowKit Mem Sha

/-- the order of two texts of one length -/
def less (l m : List UInt8) : Bool := decide (Lib.compareBytes l m < 0)
theorem less_cons (x y : UInt8) (l m : List UInt8) : less (x :: l) (y :: m) = if x = y then less l m else decide (x < y) := by
  show decide ((if x < y then (-1 : Int) else if y < x then 1 else Lib.compareBytes l m) < 0) = if x = y then decide (Lib.compareBytes l m < 0) else decide (x < y)
  by_cases h1 : x < y
  · have : x ≠ y := by rintro rfl; exact absurd h1 (UInt8.lt_irrefl x)
    simp [h1, this]
  · by_cases h2 : y < x
    · have : x ≠ y := by rintro rfl; exact absurd h2 (UInt8.lt_irrefl x)
      simp [h1, h2, this]
    · have : x = y := UInt8.le_antisymm (UInt8.not_lt.1 h2) (UInt8.not_lt.1 h1)
      subst this
      simp [h1]
theorem less_irrefl (l : List UInt8) : less l l = false := by
  induction l with
  | nil => rfl
  | cons x l ih => rw [less_cons, if_pos rfl, ih]
theorem less_total : ∀ (l m : List UInt8), l.length = m.length → l ≠ m → less l m = !less m l
  | [], [], _, h => absurd rfl h
  | x :: l, y :: m, hl, h => by
    rw [less_cons, less_cons]
    by_cases hxy : x = y
    · subst hxy
      rw [if_pos rfl, if_pos rfl]
      exact less_total l m (by simpa using hl) (fun e => h (by rw [e]))
    · rw [if_neg hxy, if_neg (fun e => hxy e.symm)]
      rw [Bool.eq_iff_iff]
      simp only [decide_eq_true_eq, Bool.not_eq_true', decide_eq_false_iff_not]
      constructor
      · intro h1 h2; exact absurd (UInt8.lt_trans h1 h2) (UInt8.lt_irrefl _)
      · intro h1; exact Std.lt_of_le_of_ne (UInt8.not_lt.1 h1) hxy
theorem less_trans : ∀ (l m n : List UInt8), l.length = m.length → m.length = n.length → less l m = true → less m n = true → less l n = true
  | [], [], _, _, _, h, _ => by cases h
  | x :: l, y :: m, z :: n, h1, h2, h3, h4 => by
    rw [less_cons] at *
    by_cases hxy : x = y
    · subst hxy
      rw [if_pos rfl] at h3
      by_cases hxz : x = z
      · subst hxz
        rw [if_pos rfl] at h4 ⊢
        exact less_trans l m n (by simpa using h1) (by simpa using h2) h3 h4
      · rw [if_neg hxz] at h4 ⊢; exact h4
    · rw [if_neg hxy] at h3
      by_cases hyz : y = z
      · subst hyz; rw [if_neg hxy]; exact h3
      · rw [if_neg hyz] at h4
        have h5 : x < z := UInt8.lt_trans (of_decide_eq_true h3) (of_decide_eq_true h4)
        rw [if_neg (by rintro rfl; exact UInt8.lt_irrefl _ h5)]
        exact decide_eq_true h5

theorem run_compare {P : Program} {D E : Nat → Prop} (w : World) (v u : Value) (l m : List UInt8) (hv : Byt D w v l) (hu : Byt E w u m) :
    (Extern.BytealgCompare.compare #[v, u]).run P w = .ok (.int .i64 (Lib.compareBytes l m)) w := by
  have key : ∀ {D : Nat → Prop} (v : Value) (l : List UInt8), Byt D w v l → (Extern.Bytes.bytesOf v).run P w = .ok (str l) w := by
    intro D v l h
    obtain ⟨a, cap, rfl, hk, h⟩ := h
    rcases h with rfl | ⟨b, off, rfl, _, hl⟩
    · cases a <;> simp [Extern.Bytes.bytesOf, Extern.Bytes.loadBytes] <;> rfl
    · have := Lib.run_loadBytesX (P := P) w (l.map fun c => (c.toNat : Int)) ⟨b, off, none⟩ .empty (fun j x hx => by
        rw [List.getElem?_map, Option.map_eq_some_iff] at hx
        obtain ⟨c, hx, rfl⟩ := hx
        obtain ⟨hj, rfl⟩ := List.getElem?_eq_some_iff.1 hx
        have e : (⟨b, off, none⟩ : Addr).add j = ⟨b, off + j, none⟩ := by unfold Addr.add; split <;> simp_all
        rw [e]
        exact hl j hj)
      rw [List.length_map] at this
      have e2 : Lib.bytesOf (l.map fun c => (c.toNat : Int)) = l := by
        unfold Lib.bytesOf
        rw [List.map_map]
        conv => rhs; rw [← List.map_id l]
        apply List.map_congr_left
        intro c _
        simp
      rw [e2] at this
      refine this.trans ?_
      simp [str]
  change Sem.run P (do pure (goInt (Extern.BytealgCompare.cmp (← Extern.Bytes.bytesOf v) (← Extern.Bytes.bytesOf u)))) w = _
  rw [Sem.run_bind, key v l hv]
  simp only [Result.andThen]
  rw [Sem.run_bind, key u m hu]
  simp only [Result.andThen, Sem.run_pure]
  rw [Lib.cmp_eq]
  rfl

theorem compare_calls (w : World) {D E : Nat → Prop} (v u : Value) (l m : List UInt8) (hv : Byt D w v l) (hu : Byt E w u m) :
    Calls Tryd.prog 27 #[v, u] w fun e w' => e = .returned (.int .i64 (Lib.compareBytes l m)) ∧ w' = w := by
  have hc := run_compare (P := Tryd.prog) w v u l m hv hu
  obtain ⟨a, c, rfl, _⟩ := hv
  obtain ⟨a2, c2, rfl, _⟩ := hu
  go_enter Tryd.func27, Tryd.ntmps27
  go_wp2
  rw [run_callFunc_extern Tryd.func30 (by kernel_rfl) (by kernel_rfl) (by kernel_rfl) (e := Extern.BytealgCompare.compare) (by kernel_rfl), hc]
  simp only [Result.andThen]
  rw [Oper.upon_value]
  go_wp2
  go_ret
  exact ⟨rfl, rfl⟩

theorem blk_byt {D : Nat → Prop} {w : World} {g : Nat} {m : List UInt8} {e : TypeId} (h : Blk w g (m.map byt) e) (hd : D g) (hm : m.length ≤ maxLen) : Byt D w (.slice (some ⟨g, 0, none⟩) m.length m.length) m :=
  ⟨_, _, rfl, ⟨Nat.le_refl _, hm, fun h => by cases h⟩, .inr ⟨g, 0, rfl, hd, fun i hi => by
    rw [Nat.zero_add]; exact h.cell (by simp [hi])⟩⟩

theorem prog_less_calls (w : World) (l m : List UInt8) (hl : l.length = 32) (hm : m.length = 32) :
    Calls Tryd.prog 17 #[.agg (l.map byt).toArray, .agg (m.map byt).toArray] w fun e w' => e = .returned (.bool (less l m)) ∧ Below w.heap.size w w' := by
  have h1 : Blk (w.alloc (.cells (l.map byt).toArray 24)) w.heap.size (l.map byt) 24 := Blk.new _ _ _ _ rfl
  have h2 : Blk ((w.alloc (.cells (l.map byt).toArray 24)).alloc (.cells (m.map byt).toArray 24)) (w.heap.size + 1) (m.map byt) 24 := by
    have := Blk.new (w.alloc (.cells (l.map byt).toArray 24)) (m.map byt).toArray 24 _ rfl
    simpa using this
  have hbe : Below w.heap.size w ((w.alloc (.cells (l.map byt).toArray 24)).alloc (.cells (m.map byt).toArray 24)) := ((Below.refl _ _).alloc (Nat.le_refl _) _).alloc (by simp) _
  have H1 := Lib.hid (blk_byt (D := Any) (h1.alloc (.cells (m.map byt).toArray 24)) trivial (by rw [hl]; decide))
  have H2 := Lib.hid (blk_byt (D := Any) h2 trivial (by rw [hm]; decide))
  have HBE := Lib.hid hbe
  rw [hl] at H1
  rw [hm] at H2
  have hs1 : ((l.map byt).toArray).size = 32 := by simp [hl]
  have hs2 : ((m.map byt).toArray).size = 32 := by simp [hm]
  have HL : Hid (less l m = decide (Lib.compareBytes l m < 0)) := Lib.hid rfl
  clear h1 h2 hbe hl hm
  generalize (l.map byt).toArray = cs1 at *
  generalize (m.map byt).toArray = cs2 at *
  go_enter Tryd.func17, Tryd.ntmps17
  go_wp2
  generalize ((w.alloc (Obj.cells cs1 24)).alloc (Obj.cells cs2 24)) = w1 at *
  go_quiet ((go_at_call 27; exact Calls.quiet_of_same (compare_calls _ _ _ _ _ H1.out H2.out)))
  go_wp2
  go_ret
  exact ⟨ret_bool HL.out.symm, below_drewN HBE.out _⟩

def LessRel (w : World) (B : Nat) (cs1 cs2 : List Value) (wx : World) : Prop := Below B w wx ∧ Blk wx B cs1 24 ∧ Blk wx (B + 1) cs2 24
theorem LessRel.drewN {w : World} {B : Nat} {cs1 cs2 : List Value} {wx : World} (h : LessRel w B cs1 cs2 wx) (n : Nat) : LessRel w B cs1 cs2 (wx.drewN n) := ⟨below_drewN h.1 n, h.2⟩
theorem less_at (l m : List UInt8) (i : Nat) (h1 : i < l.length) (h2 : i < m.length) (h : ∀ j, j < i → l[j]? = m[j]?) (hne : l[i] ≠ m[i]) : less l m = decide (l[i] < m[i]) := by
  induction i generalizing l m with
  | zero =>
    cases l with
    | nil => simp at h1
    | cons x l =>
      cases m with
      | nil => simp at h2
      | cons y m => rw [less_cons, if_neg (by simpa using hne)]; simp
  | succ i ih =>
    cases l with
    | nil => simp at h1
    | cons x l =>
      cases m with
      | nil => simp at h2
      | cons y m =>
        have h0 := h 0 (by omega)
        simp at h0
        subst h0
        rw [less_cons, if_pos rfl]
        simpa using ih l m (by simpa using h1) (by simpa using h2) (fun j hj => by simpa using h (j + 1) (by omega)) (by simpa using hne)
theorem ref_less_calls (w : World) (l m : List UInt8) (hl : l.length = 32) (hm : m.length = 32) :
    Calls Tryd.prog 18 #[.agg (l.map byt).toArray, .agg (m.map byt).toArray] w fun e w' => e = .returned (.bool (less l m)) ∧ Below w.heap.size w w' := by
  have h1 : Blk (w.alloc (.cells (l.map byt).toArray 24)) w.heap.size (l.map byt) 24 := Blk.new _ _ _ _ rfl
  have h2 : Blk ((w.alloc (.cells (l.map byt).toArray 24)).alloc (.cells (m.map byt).toArray 24)) (w.heap.size + 1) (m.map byt) 24 := by
    have := Blk.new (w.alloc (.cells (l.map byt).toArray 24)) (m.map byt).toArray 24 _ rfl
    simpa using this
  have hbe : Below w.heap.size w ((w.alloc (.cells (l.map byt).toArray 24)).alloc (.cells (m.map byt).toArray 24)) := ((Below.refl _ _).alloc (Nat.le_refl _) _).alloc (by simp) _
  have HR : Hid (LessRel w w.heap.size (l.map byt) (m.map byt) ((w.alloc (.cells (l.map byt).toArray 24)).alloc (.cells (m.map byt).toArray 24))) := Lib.hid ⟨hbe, h1.alloc _, h2⟩
  have HL1 := Lib.hid hl
  have HL2 := Lib.hid hm
  clear h1 h2 hbe hl hm
  generalize hcs1 : (l.map byt).toArray = cs1 at *
  generalize hcs2 : (m.map byt).toArray = cs2 at *
  have hs1 : cs1.size = 32 := by rw [← hcs1]; simp [HL1.out]
  have hs2 : cs2.size = 32 := by rw [← hcs2]; simp [HL2.out]
  clear hcs1 hcs2
  go_enter Tryd.func18, Tryd.ntmps18
  go_wp2
  go_loopw [5] (fun i wx => ∃ n : Nat, n ≤ 32 ∧ i = .int .i64 n ∧ LessRel w w.heap.size (l.map byt) (m.map byt) wx ∧ ∀ j, j < n → l[j]? = m[j]?) (fun i _ => 32 - (intOf i).toNat)
  case atStart => exact ⟨0, by omega, rfl, HR.out, fun j hj => absurd hj (by omega)⟩
  case round =>
    obtain ⟨n, hn, rfl, hR, hEq⟩ := hrel
    have HEQ := Lib.hid hEq
    have HRR := Lib.hid hR
    clear hEq HR
    by_cases hlt : n < 32
    · have hn1 : n < l.length := by rw [HL1.out]; exact hlt
      have hn2 : n < m.length := by rw [HL2.out]; exact hlt
      have c1 : wr.cell? ⟨w.heap.size, n, none⟩ = some (.int .u8 ((l[n]'hn1).toNat : Int)) := hR.2.1.cell (by simp [hn1])
      have c2 : wr.cell? ⟨w.heap.size + 1, n, none⟩ = some (.int .u8 ((m[n]'hn2).toNat : Int)) := hR.2.2.cell (by simp [hn2])
      clear hR
      by_cases hxy : l[n]'hn1 = m[n]'hn2
      · have hb : ((((l[n]'hn1).toNat : Int)) != ((m[n]'hn2).toNat : Int)) = false := by rw [hxy]; simp
        have he : ∀ j, j < n + 1 → l[j]? = m[j]? := by
          intro j hj
          by_cases hjn : j = n
          · subst hjn; rw [List.getElem?_eq_getElem hn1, List.getElem?_eq_getElem hn2, hxy]
          · exact HEQ.out j (by omega)
        have HE := Lib.hid he
        clear he hxy
        generalize (l[n]'hn1).toNat = x at *
        generalize (m[n]'hn2).toNat = y at *
        go_wp2
        go_quiet (fail)
        go_wp2
        go_roundw
        case rel => exact ⟨n + 1, by omega, by go_num, HRR.out.drewN _, HE.out⟩
        case measure => simp [intOf]; omega
      · have hb : ((((l[n]'hn1).toNat : Int)) != ((m[n]'hn2).toNat : Int)) = true := by
          rw [bne_iff_ne]; intro e; exact hxy (UInt8.toNat_inj.1 (by omega))
        have hres : less l m = decide ((((l[n]'hn1).toNat : Int)) < ((m[n]'hn2).toNat : Int)) := by
          rw [less_at l m n hn1 hn2 HEQ.out hxy, Bool.eq_iff_iff, decide_eq_true_iff, decide_eq_true_iff, UInt8.lt_iff_toNat_lt]; omega
        have HRES := Lib.hid hres
        clear hxy hres
        generalize (l[n]'hn1).toNat = x at *
        generalize (m[n]'hn2).toNat = y at *
        go_wp2
        go_quiet (fail)
        go_wp2
        go_quiet (fail)
        go_wp2
        exact bodyPost_ret (v := .bool (less l m)) (by simp [results, Tryd.results18, go_sem, HRES.out]) rfl ⟨rfl, below_drewN (below_drewN HRR.out.1 _) _⟩
    · obtain rfl : n = 32 := by omega
      have he : l = m := by
        apply List.ext_getElem?
        intro i
        by_cases hi : i < 32
        · exact HEQ.out i hi
        · have := HL1.out; have := HL2.out
          rw [List.getElem?_eq_none (by omega), List.getElem?_eq_none (by omega)]
      have HRES : Hid (less l m = false) := Lib.hid (by rw [he]; exact less_irrefl m)
      clear he hR
      go_wp2
      go_ret
      exact ⟨ret_bool HRES.out.symm, HRR.out.1⟩
end Go.Proofs.YtodhhejliijdmaaDoor.ShaW
