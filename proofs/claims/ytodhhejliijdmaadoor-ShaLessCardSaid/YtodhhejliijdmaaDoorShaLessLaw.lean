/- ShaLess: every Less is the reference's, and it is an order. No condition. -/
import Derived.Test.YtodhhejliijdmaaDoorShaLess
import Derived.Test.YtodhhejliijdmaaDoorShaLaid
namespace Go.Proofs.YtodhhejliijdmaaDoor.shaLess
open Go Go.RowKit Mem Sha ShaW
set_option linter.unusedVariables false

def Rel3 (w : World) (B : Nat) (l m n : List UInt8) (wx : World) : Prop := Below B w wx ∧ Blk wx B (l.map byt) 24 ∧ Blk wx (B + 1) (m.map byt) 24 ∧ Blk wx (B + 2) (n.map byt) 24
theorem Rel3.below {w : World} {B : Nat} {l m n : List UInt8} {wx w' : World} (h : Rel3 w B l m n wx) (hb : Below wx.heap.size wx w') (hB : B ≤ wx.heap.size) : Rel3 w B l m n w' :=
  ⟨h.1.trans (hb.mono hB), h.2.1.below hb, h.2.2.1.below hb, h.2.2.2.below hb⟩
theorem Rel3.b1 {w : World} {B : Nat} {l m n : List UInt8} {wx : World} (h : Rel3 w B l m n wx) : Blk wx B (l.map byt) 24 := h.2.1
theorem Rel3.b2 {w : World} {B : Nat} {l m n : List UInt8} {wx : World} (h : Rel3 w B l m n wx) : Blk wx (B + 1) (m.map byt) 24 := h.2.2.1
theorem Rel3.b3 {w : World} {B : Nat} {l m n : List UInt8} {wx : World} (h : Rel3 w B l m n wx) : Blk wx (B + 1 + 1) (n.map byt) 24 := h.2.2.2
theorem start3 (w : World) (l m n : List UInt8) (cs1 cs2 cs3 : Array Value) (h1 : (l.map byt).toArray = cs1) (h2 : (m.map byt).toArray = cs2) (h3 : (n.map byt).toArray = cs3) :
    Rel3 w w.heap.size l m n (((w.alloc (.cells cs1 24)).alloc (.cells cs2 24)).alloc (.cells cs3 24)) := by
  subst h1; subst h2; subst h3
  have b1 : Blk (w.alloc (.cells (l.map byt).toArray 24)) w.heap.size (l.map byt) 24 := Blk.new _ _ _ _ rfl
  have b2 : Blk ((w.alloc (.cells (l.map byt).toArray 24)).alloc (.cells (m.map byt).toArray 24)) (w.heap.size + 1) (m.map byt) 24 := by
    have := Blk.new (w.alloc (.cells (l.map byt).toArray 24)) (m.map byt).toArray 24 _ rfl
    simpa using this
  have b3 : Blk (((w.alloc (.cells (l.map byt).toArray 24)).alloc (.cells (m.map byt).toArray 24)).alloc (.cells (n.map byt).toArray 24)) (w.heap.size + 2) (n.map byt) 24 := by
    have := Blk.new ((w.alloc (.cells (l.map byt).toArray 24)).alloc (.cells (m.map byt).toArray 24)) (n.map byt).toArray 24 _ rfl
    simpa using this
  exact ⟨(((Below.refl _ _).alloc (Nat.le_refl _) _).alloc (by simp) _).alloc (by simp; omega) _, (b1.alloc _).alloc _, b2.alloc _, b3⟩

set_option maxHeartbeats 4000000 in
set_option maxRecDepth 100000 in
theorem walk0 (w : World) (l m n : List UInt8) (hl : l.length = 32) (hm : m.length = 32) (hn : n.length = 32) (hT : TabB w 1) :
    Calls Tryd.prog 6 #[.agg (l.map byt).toArray, .agg (m.map byt).toArray, .agg (n.map byt).toArray] w fun e w' => e = .returned (.bool true) ∧ Below w.heap.size w w' := by
  have HL1 := Lib.hid hl
  have HL2 := Lib.hid hm
  have HL3 := Lib.hid hn
  have HT := Lib.hid hT
  have HE := Lib.hid (fun w => run_equal_u8 (P := Tryd.prog) (n := 32) (i := _) Tryd.underlying24 rfl (by kernel_rfl) Tryd.underlying5 w l m hl hm)
  have HI1 : Hid ((Tryd.prog.info? 24).map (·.size) = some (l.map byt).length) := Lib.hid (by rw [List.length_map, hl]; kernel_rfl)
  have HI2 : Hid ((Tryd.prog.info? 24).map (·.size) = some (m.map byt).length) := Lib.hid (by rw [List.length_map, hm]; kernel_rfl)
  have HI3 : Hid ((Tryd.prog.info? 24).map (·.size) = some (n.map byt).length) := Lib.hid (by rw [List.length_map, hn]; kernel_rfl)
  have HP12 := Lib.hid (fun w => prog_less_calls w l m hl hm)
  have HP21 := Lib.hid (fun w => prog_less_calls w m l hm hl)
  have HP23 := Lib.hid (fun w => prog_less_calls w m n hm hn)
  have HP13 := Lib.hid (fun w => prog_less_calls w l n hl hn)
  have HQ12 := Lib.hid (fun w => ref_less_calls w l m hl hm)
  have HTOT := Lib.hid (less_total l m (hl.trans hm.symm))
  have HTRA := Lib.hid (less_trans l m n (hl.trans hm.symm) (hm.trans hn.symm))
  clear hl hm hn hT
  generalize hc1 : (l.map byt).toArray = cs1 at *
  generalize hc2 : (m.map byt).toArray = cs2 at *
  generalize hc3 : (n.map byt).toArray = cs3 at *
  have HC1 := Lib.hid hc1
  have HC2 := Lib.hid hc2
  have HC3 := Lib.hid hc3
  have HR := Lib.hid (start3 w l m n cs1 cs2 cs3 hc1 hc2 hc3)
  have hs1 : cs1.size = 32 := by rw [← hc1]; simp [HL1.out]
  have hs2 : cs2.size = 32 := by rw [← hc2]; simp [HL2.out]
  have hs3 : cs3.size = 32 := by rw [← hc3]; simp [HL3.out]
  clear hc1 hc2 hc3
  go_enter Tryd.func6, Tryd.ntmps6
  go_upto_region 1 with fail
  generalize (((w.alloc (Obj.cells cs1 24)).alloc (Obj.cells cs2 24)).alloc (Obj.cells cs3 24)) = w1 at *
  have hB1 : w.heap.size ≤ w1.heap.size := HR.out.1.size
  go_wp2_with (first
    | (with_reducible refine wpList_load_cs (by with_unfolding_all rfl) _ _ rfl w.heap.size _ rfl HR.out.b1 _ Tryd.underlying24 rfl HI1.out _ HC1.out ?_)
    | (with_reducible refine wpList_load_cs (by with_unfolding_all rfl) _ _ rfl (w.heap.size + 1) _ rfl HR.out.b2 _ Tryd.underlying24 rfl HI2.out _ HC2.out ?_)
    | (with_reducible refine wpList_load_cs (by with_unfolding_all rfl) _ _ rfl (w.heap.size + 1 + 1) _ rfl HR.out.b3 _ Tryd.underlying24 rfl HI3.out _ HC3.out ?_))
  refine (HP12.out _).mono ?_
  rintro e w2 ⟨rfl, hb2⟩
  have HR := Lib.hid (HR.out.below hb2 hB1)
  have hB2 : w.heap.size ≤ w2.heap.size := HR.out.1.size
  clear hb2 hB1
  go_wp2_with (first
    | (with_reducible refine wpList_load_cs (by with_unfolding_all rfl) _ _ rfl w.heap.size _ rfl HR.out.b1 _ Tryd.underlying24 rfl HI1.out _ HC1.out ?_)
    | (with_reducible refine wpList_load_cs (by with_unfolding_all rfl) _ _ rfl (w.heap.size + 1) _ rfl HR.out.b2 _ Tryd.underlying24 rfl HI2.out _ HC2.out ?_)
    | (with_reducible refine wpList_load_cs (by with_unfolding_all rfl) _ _ rfl (w.heap.size + 1 + 1) _ rfl HR.out.b3 _ Tryd.underlying24 rfl HI3.out _ HC3.out ?_))
  refine (HP21.out _).mono ?_
  rintro e w3 ⟨rfl, hb2⟩
  have HR := Lib.hid (HR.out.below hb2 hB2)
  have hB3 : w.heap.size ≤ w3.heap.size := HR.out.1.size
  clear hb2 hB2
  go_wp2_with (first
    | (with_reducible refine wpList_load_cs (by with_unfolding_all rfl) _ _ rfl w.heap.size _ rfl HR.out.b1 _ Tryd.underlying24 rfl HI1.out _ HC1.out ?_)
    | (with_reducible refine wpList_load_cs (by with_unfolding_all rfl) _ _ rfl (w.heap.size + 1) _ rfl HR.out.b2 _ Tryd.underlying24 rfl HI2.out _ HC2.out ?_)
    | (with_reducible refine wpList_load_cs (by with_unfolding_all rfl) _ _ rfl (w.heap.size + 1 + 1) _ rfl HR.out.b3 _ Tryd.underlying24 rfl HI3.out _ HC3.out ?_))
  refine (alive_calls _ (HT.out.below HR.out.1)).mono ?_
  rintro e w4 ⟨rfl, hb2⟩
  have HR := Lib.hid (HR.out.below hb2 hB3)
  have hB4 : w.heap.size ≤ w4.heap.size := HR.out.1.size
  clear hb2 hB3
  go_wp2_with (first
    | (with_reducible refine wpList_load_cs (by with_unfolding_all rfl) _ _ rfl w.heap.size _ rfl HR.out.b1 _ Tryd.underlying24 rfl HI1.out _ HC1.out ?_)
    | (with_reducible refine wpList_load_cs (by with_unfolding_all rfl) _ _ rfl (w.heap.size + 1) _ rfl HR.out.b2 _ Tryd.underlying24 rfl HI2.out _ HC2.out ?_)
    | (with_reducible refine wpList_load_cs (by with_unfolding_all rfl) _ _ rfl (w.heap.size + 1 + 1) _ rfl HR.out.b3 _ Tryd.underlying24 rfl HI3.out _ HC3.out ?_))
  refine (HQ12.out _).mono ?_
  rintro e w5 ⟨rfl, hb2⟩
  have HR := Lib.hid (HR.out.below hb2 hB4)
  have hB5 : w.heap.size ≤ w5.heap.size := HR.out.1.size
  clear hb2 hB4
  have hq := HE.out
  by_cases hlm : l = m
  · have hx : less l m = false := by rw [hlm]; exact less_irrefl m
    have hb : (l == m) = true := by rw [hlm]; simp
    clear hlm
    rw [hb] at hq
    rw [hx]
    go_wp2_with (first
      | (with_reducible refine wpList_load_cs (by with_unfolding_all rfl) _ _ rfl w.heap.size _ rfl HR.out.b1 _ Tryd.underlying24 rfl HI1.out _ HC1.out ?_)
      | (with_reducible refine wpList_load_cs (by with_unfolding_all rfl) _ _ rfl (w.heap.size + 1) _ rfl HR.out.b2 _ Tryd.underlying24 rfl HI2.out _ HC2.out ?_)
      | (with_reducible refine wpList_load_cs (by with_unfolding_all rfl) _ _ rfl (w.heap.size + 1 + 1) _ rfl HR.out.b3 _ Tryd.underlying24 rfl HI3.out _ HC3.out ?_))
    exact bodyPost_ret (v := .bool true) (by simp [results, Tryd.results6, go_sem]) rfl ⟨rfl, HR.out.1⟩
  · have hb : (l == m) = false := by simpa using hlm
    have hy : less l m = !less m l := HTOT.out hlm
    have hTRA := HTRA.out
    clear hlm
    rw [hb] at hq
    rw [hy] at hTRA ⊢
    have HTR := Lib.hid hTRA
    clear hTRA
    cases hml : less m l
    · -- l < m
      rw [hml] at HTR
      simp only [Bool.not_false] at HTR ⊢
      go_wp2_with (first
          | (with_reducible refine wpList_load_cs (by with_unfolding_all rfl) _ _ rfl w.heap.size _ rfl HR.out.b1 _ Tryd.underlying24 rfl HI1.out _ HC1.out ?_)
          | (with_reducible refine wpList_load_cs (by with_unfolding_all rfl) _ _ rfl (w.heap.size + 1) _ rfl HR.out.b2 _ Tryd.underlying24 rfl HI2.out _ HC2.out ?_)
          | (with_reducible refine wpList_load_cs (by with_unfolding_all rfl) _ _ rfl (w.heap.size + 1 + 1) _ rfl HR.out.b3 _ Tryd.underlying24 rfl HI3.out _ HC3.out ?_))
      refine (HP23.out _).mono ?_
      rintro e w6 ⟨rfl, hb2⟩
      have HR := Lib.hid (HR.out.below hb2 hB5)
      have hB6 : w.heap.size ≤ w6.heap.size := HR.out.1.size
      clear hb2 hB5
      cases hmn : less m n
      · go_wp2_with (first
            | (with_reducible refine wpList_load_cs (by with_unfolding_all rfl) _ _ rfl w.heap.size _ rfl HR.out.b1 _ Tryd.underlying24 rfl HI1.out _ HC1.out ?_)
            | (with_reducible refine wpList_load_cs (by with_unfolding_all rfl) _ _ rfl (w.heap.size + 1) _ rfl HR.out.b2 _ Tryd.underlying24 rfl HI2.out _ HC2.out ?_)
            | (with_reducible refine wpList_load_cs (by with_unfolding_all rfl) _ _ rfl (w.heap.size + 1 + 1) _ rfl HR.out.b3 _ Tryd.underlying24 rfl HI3.out _ HC3.out ?_))
        exact bodyPost_ret (v := .bool true) (by simp [results, Tryd.results6, go_sem]) rfl ⟨rfl, HR.out.1⟩
      · have hln : less l n = true := HTR.out trivial hmn
        go_wp2_with (first
            | (with_reducible refine wpList_load_cs (by with_unfolding_all rfl) _ _ rfl w.heap.size _ rfl HR.out.b1 _ Tryd.underlying24 rfl HI1.out _ HC1.out ?_)
            | (with_reducible refine wpList_load_cs (by with_unfolding_all rfl) _ _ rfl (w.heap.size + 1) _ rfl HR.out.b2 _ Tryd.underlying24 rfl HI2.out _ HC2.out ?_)
            | (with_reducible refine wpList_load_cs (by with_unfolding_all rfl) _ _ rfl (w.heap.size + 1 + 1) _ rfl HR.out.b3 _ Tryd.underlying24 rfl HI3.out _ HC3.out ?_))
        refine (HP13.out _).mono ?_
        rintro e w7 ⟨rfl, hb2⟩
        have HR := Lib.hid (HR.out.below hb2 hB6)
        clear hb2 hB6
        rw [hln]
        go_wp2_with (first
            | (with_reducible refine wpList_load_cs (by with_unfolding_all rfl) _ _ rfl w.heap.size _ rfl HR.out.b1 _ Tryd.underlying24 rfl HI1.out _ HC1.out ?_)
            | (with_reducible refine wpList_load_cs (by with_unfolding_all rfl) _ _ rfl (w.heap.size + 1) _ rfl HR.out.b2 _ Tryd.underlying24 rfl HI2.out _ HC2.out ?_)
            | (with_reducible refine wpList_load_cs (by with_unfolding_all rfl) _ _ rfl (w.heap.size + 1 + 1) _ rfl HR.out.b3 _ Tryd.underlying24 rfl HI3.out _ HC3.out ?_))
        exact bodyPost_ret (v := .bool true) (by simp [results, Tryd.results6, go_sem]) rfl ⟨rfl, HR.out.1⟩
    · simp only [Bool.not_true] at HTR ⊢
      go_wp2_with (first
          | (with_reducible refine wpList_load_cs (by with_unfolding_all rfl) _ _ rfl w.heap.size _ rfl HR.out.b1 _ Tryd.underlying24 rfl HI1.out _ HC1.out ?_)
          | (with_reducible refine wpList_load_cs (by with_unfolding_all rfl) _ _ rfl (w.heap.size + 1) _ rfl HR.out.b2 _ Tryd.underlying24 rfl HI2.out _ HC2.out ?_)
          | (with_reducible refine wpList_load_cs (by with_unfolding_all rfl) _ _ rfl (w.heap.size + 1 + 1) _ rfl HR.out.b3 _ Tryd.underlying24 rfl HI3.out _ HC3.out ?_))
      exact bodyPost_ret (v := .bool true) (by simp [results, Tryd.results6, go_sem]) rfl ⟨rfl, HR.out.1⟩
theorem walk (w : World) (l : List UInt8) (hl : l.length = 32) (m : List UInt8) (hm : m.length = 32) (n : List UInt8) (hn : n.length = 32) (hL : laidMetH Tryd.prog Rows.shaLessRow.laid w) :
    Calls Tryd.prog 6 #[.agg (l.map byt).toArray, .agg (m.map byt).toArray, .agg (n.map byt).toArray] w fun e w' => e = .returned (.bool true) ∧ Below w.heap.size w w' :=
  walk0 w l m n hl hm hn (tab_sha hL (by kernel_rfl) (List.Mem.head _))
end Go.Proofs.YtodhhejliijdmaaDoor.shaLess
