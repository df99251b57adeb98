/- Walks of what the laws of SHA-256 use beside: the two fixed digests, a digest's bytes, a clone. No condition. -/
import Derived.Test.YtodhhejliijdmaaDoorShaC
import Derived.Lib.SlBytesConst
namespace Go.Proofs.YtodhhejliijdmaaDoor.ShaW
open Go Go.RowKit Mem Sha

theorem sha_nil_0 : ((sha []).map byt)[0]? = some (.int .u8 227) := by kernel_rfl
theorem sha_nil_31 : ((sha []).map byt)[31]? = some (.int .u8 85) := by kernel_rfl
theorem sha_abc_0 : ((sha [97, 98, 99]).map byt)[0]? = some (.int .u8 186) := by kernel_rfl
theorem sha_abc_31 : ((sha [97, 98, 99]).map byt)[31]? = some (.int .u8 173) := by kernel_rfl
theorem one_cells (l : List UInt8) : ∀ v ∈ l.map byt, v.oneCell' = true := by
  intro v hv; obtain ⟨c, _, rfl⟩ := List.mem_map.1 hv; rfl

theorem new32 (w : World) : Blk (w.alloc (.cells #[.int .u8 0, .int .u8 0, .int .u8 0, .int .u8 0, .int .u8 0, .int .u8 0, .int .u8 0, .int .u8 0, .int .u8 0, .int .u8 0, .int .u8 0, .int .u8 0, .int .u8 0, .int .u8 0, .int .u8 0, .int .u8 0, .int .u8 0, .int .u8 0, .int .u8 0, .int .u8 0, .int .u8 0, .int .u8 0, .int .u8 0, .int .u8 0, .int .u8 0, .int .u8 0, .int .u8 0, .int .u8 0, .int .u8 0, .int .u8 0, .int .u8 0, .int .u8 0] 24)) w.heap.size (List.replicate 32 (.int .u8 0)) 24 := Blk.new w _ _ _ rfl
theorem made32 (w : World) (m : List UInt8) : Blk ((w.alloc (.cells #[.int .u8 0, .int .u8 0, .int .u8 0, .int .u8 0, .int .u8 0, .int .u8 0, .int .u8 0, .int .u8 0, .int .u8 0, .int .u8 0, .int .u8 0, .int .u8 0, .int .u8 0, .int .u8 0, .int .u8 0, .int .u8 0, .int .u8 0, .int .u8 0, .int .u8 0, .int .u8 0, .int .u8 0, .int .u8 0, .int .u8 0, .int .u8 0, .int .u8 0, .int .u8 0, .int .u8 0, .int .u8 0, .int .u8 0, .int .u8 0, .int .u8 0, .int .u8 0] 24)).setRow w.heap.size (m.map byt).toArray) w.heap.size (m.map byt) 24 ∧ Below w.heap.size w ((w.alloc (.cells #[.int .u8 0, .int .u8 0, .int .u8 0, .int .u8 0, .int .u8 0, .int .u8 0, .int .u8 0, .int .u8 0, .int .u8 0, .int .u8 0, .int .u8 0, .int .u8 0, .int .u8 0, .int .u8 0, .int .u8 0, .int .u8 0, .int .u8 0, .int .u8 0, .int .u8 0, .int .u8 0, .int .u8 0, .int .u8 0, .int .u8 0, .int .u8 0, .int .u8 0, .int .u8 0, .int .u8 0, .int .u8 0, .int .u8 0, .int .u8 0, .int .u8 0, .int .u8 0] 24)).setRow w.heap.size (m.map byt).toArray) :=
  ⟨(new32 w).row _, below_setRow ((Below.refl _ _).alloc (Nat.le_refl _) _) (Nat.le_refl _) _⟩
theorem abc_lit (w : World) : Byt Any (w.alloc (.cells #[.int .u8 97, .int .u8 98, .int .u8 99] 5 (3, 4)))
    (.slice (some ⟨w.heap.size, 0, none⟩) 3 3) [97, 98, 99] :=
  Byt.newBlock w _ _ _ _ _ _ rfl ⟨by decide, by decide⟩ trivial (fun i h => by match i, h with | 0, _ | 1, _ | 2, _ => rfl | j + 3, h => simp at h; omega)

theorem alive_calls (w : World) (hT : TabB w 1) :
    Calls Tryd.prog 10 #[] w fun e w' => e = .returned (.bool true) ∧ Below w.heap.size w w' := by
  have kc := fun (w : World) (C : Array Value) (n c : Nat) => Lib.run_convert_bytes_const (P := Tryd.prog) w 22 5 C n c Tryd.underlying22 Tryd.underlying5
  go_enter Tryd.func10, Tryd.ntmps10
  go_wp2_with fail
  refine (of_calls _ Any (.slice none 0 0) [] (Byt.nil _ _) (by simp) hT).mono ?_
  rintro e w1 ⟨rfl, hb1⟩
  have hT1 := hT.below hb1
  have HB1 := Lib.hid hb1
  have HD := Lib.hid (new32 w1)
  have HONE := Lib.hid (one_cells (sha []))
  clear hb1
  go_upto_region 2 with (first | (with_reducible refine wpList_store_blk rfl _ _ _ rfl w1.heap.size ((sha []).map byt) _ rfl _ rfl rfl HD.out (by kernel_rfl) (by simp [sha_length]) HONE.out ?_))
  obtain ⟨h2, hm2⟩ := made32 w1 (sha [])
  have hb2 := HB1.out.trans (hm2.mono HB1.out.size)
  have hT2 := hT1.below hm2
  have hg1 : w.heap.size ≤ w1.heap.size := HB1.out.size
  clear hT1 HD HONE HB1 hm2
  generalize ((w1.alloc (.cells #[.int .u8 0, .int .u8 0, .int .u8 0, .int .u8 0, .int .u8 0, .int .u8 0, .int .u8 0, .int .u8 0, .int .u8 0, .int .u8 0, .int .u8 0, .int .u8 0, .int .u8 0, .int .u8 0, .int .u8 0, .int .u8 0, .int .u8 0, .int .u8 0, .int .u8 0, .int .u8 0, .int .u8 0, .int .u8 0, .int .u8 0, .int .u8 0, .int .u8 0, .int .u8 0, .int .u8 0, .int .u8 0, .int .u8 0, .int .u8 0, .int .u8 0, .int .u8 0] 24)).setRow w1.heap.size ((sha []).map byt).toArray) = w2 at *
  generalize w1.heap.size = g1 at *
  have H2 := Lib.hid h2
  have HB2 := Lib.hid hb2
  have hl2 := h2.lt
  clear h2 hb2
  go_wp2_with fail
  clear kc
  have hT3 := hT2.below ((Below.refl _ _).alloc (Nat.le_refl _) (.cells #[.int .u8 97, .int .u8 98, .int .u8 99] 5 (3, 4)))
  have hb3 := HB2.out.alloc HB2.out.size (.cells #[.int .u8 97, .int .u8 98, .int .u8 99] 5 (3, 4))
  have h3 := H2.out.alloc (.cells #[.int .u8 97, .int .u8 98, .int .u8 99] 5 (3, 4))
  refine (of_calls _ Any _ _ (abc_lit w2) (by simp) hT3).mono ?_
  rintro e w3 ⟨rfl, hb4⟩
  have hb4' := hb3.trans (hb4.mono hb3.size)
  have h4 := h3.below hb4
  obtain ⟨h5, hm5⟩ := made32 w3 (sha [97, 98, 99])
  have hb5 := hb4'.trans (hm5.mono hb4'.size)
  have h6 := h4.below hm5
  have H5 := Lib.hid h5
  have H6 := Lib.hid h6
  have HB5 := Lib.hid hb5
  have HD := Lib.hid (new32 w3)
  have HONE := Lib.hid (one_cells (sha [97, 98, 99]))
  clear h3 hb3 h4 hb4 hb4' h5 h6 hm5 hb5 hT3 hT2 H2 HB2
  go_upto_region 3 with (first | (with_reducible refine wpList_store_blk rfl _ _ _ rfl w3.heap.size ((sha [97, 98, 99]).map byt) _ rfl _ rfl rfl HD.out (by kernel_rfl) (by simp [sha_length]) HONE.out ?_))
  clear HD
  generalize ((w3.alloc (.cells #[.int .u8 0, .int .u8 0, .int .u8 0, .int .u8 0, .int .u8 0, .int .u8 0, .int .u8 0, .int .u8 0, .int .u8 0, .int .u8 0, .int .u8 0, .int .u8 0, .int .u8 0, .int .u8 0, .int .u8 0, .int .u8 0, .int .u8 0, .int .u8 0, .int .u8 0, .int .u8 0, .int .u8 0, .int .u8 0, .int .u8 0, .int .u8 0, .int .u8 0, .int .u8 0, .int .u8 0, .int .u8 0, .int .u8 0, .int .u8 0, .int .u8 0, .int .u8 0] 24)).setRow w3.heap.size ((sha [97, 98, 99]).map byt).toArray) = w4 at *
  generalize w3.heap.size = g3 at *
  have c0 := H6.out.cell sha_nil_0
  have c1 := H6.out.cell sha_nil_31
  have c2 := H5.out.cell sha_abc_0
  have c3 := H5.out.cell sha_abc_31
  generalize Value.agg ((sha [97, 98, 99]).map byt).toArray = x1
  generalize Value.agg ((sha []).map byt).toArray = x2
  go_wp2
  go_ret
  exact ⟨rfl, HB5.out⟩
end Go.Proofs.YtodhhejliijdmaaDoor.ShaW
