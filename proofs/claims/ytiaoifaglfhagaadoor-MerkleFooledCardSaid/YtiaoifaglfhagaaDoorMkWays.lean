/- How two ways read as an argument. No condition. -/
import Derived.Test.YtiaoifaglfhagaaDoorMkRead
namespace Go.Proofs.YtiaoifaglfhagaaDoor.Read
open Go Go.RowKit Go.ChangeShapes Go.WideShapes Mem Arr ShaW Mk MkW
variable {H : Type} {enc : TypeId × Value → H} {W : World}
set_option linter.unusedVariables false

theorem read_ways {v : Value} {d : DataW H} {ps : List MemPlace} {held spare} {base b0 : Nat} (hval : Value.okWide Tryd.prog W .any b0 43 v) (h : DataW.Trod enc Tryd.prog W base spare held 43 v d ps) :
    ∃ (p n : Nat) (vp : Value) (ds : List Dg) (p2 n2 : Nat) (vq : Value) (es : List Dg), v = .agg #[.int .u32 (p : Int), .int .u32 (n : Int), vp, .int .u32 (p2 : Int), .int .u32 (n2 : Int), vq] ∧
      WayIs W [.int .u32 (p : Int), .int .u32 (n : Int), vp] p n vp ds ∧ WayIs W [.int .u32 (p2 : Int), .int .u32 (n2 : Int), vq] p2 n2 vq es ∧ ((∀ n ∈ d.weights Tryd.prog 43, n ≤ reachBytes) → ds.length ≤ 4398046511104 ∧ es.length ≤ 4398046511104) := by
  have hu := Tryd.underlying43
  simp only [Value.okWide, hu] at hval
  obtain ⟨cs, rfl, hsz, _⟩ := hval
  rw [(by kernel_rfl : Tryd.prog.cellsOf 43 = 6)] at hsz
  obtain ⟨fuel, hf⟩ := h
  obtain ⟨xs, m, hfu, hxe, hcs, hx, hall⟩ := DataW.trod_array hu hf
  match xs, hx with
  | [x0, x1], _ =>
    have f0 := hall 0 (by omega)
    have f1 := hall 1 (by omega)
    rw [(by kernel_rfl : Tryd.prog.cellsOf 37 = 3)] at f0 f1
    simp only [List.getElem?_cons_zero, List.getElem?_cons_succ] at f0 f1
    obtain ⟨p, n, vp, ds, d0, d1, d2, hw, hd, hdd⟩ := cells_way (d := x0.1) (ps := x0.2) f0
    obtain ⟨p2, n2, vq, es, e0, e1, e2, hw2, he, hee⟩ := cells_way (d := x1.1) (ps := x1.2) f1
    have hc1 := hw.c
    have hc2 := hw2.c
    have hlen : cs.toList.length = 6 := by simpa using hsz
    match hl : cs.toList, hlen with
    | [c0, c1, c2, c3, c4, c5], _ =>
      simp [Value.cells, hl] at hc1 hc2
      obtain ⟨rfl, rfl, rfl⟩ := hc1
      obtain ⟨rfl, rfl, rfl⟩ := hc2
      have ec : cs = #[.int .u32 (p : Int), .int .u32 (n : Int), c2, .int .u32 (p2 : Int), .int .u32 (n2 : Int), c5] := Array.ext' hl
      subst ec
      refine ⟨p, n, c2, ds, p2, n2, c5, es, rfl, ⟨rfl, hw.p', hw.n', hw.a, hw.l⟩, ⟨rfl, hw2.p', hw2.n', hw2.a, hw2.l⟩, fun hx => ?_⟩
      have hde : d = .agg [x0.1, x1.1] := by have := congrArg Prod.fst hxe; simpa using this
      rw [hde] at hx
      have hall2 : ∀ n ∈ DataW.weightsAll Tryd.prog 37 [x0.1, x1.1], n ≤ reachBytes := fun n hn => hx n (by
        unfold DataW.weights
        rw [hu]
        exact hn)
      refine ⟨way_weights (d0 := d0) (d1 := d1) hdd fun n hn => hall2 n ?_, way_weights (d0 := e0) (d1 := e1) hee fun n hn => hall2 n ?_⟩
      · rw [← hd] at hn
        simp only [DataW.weightsAll, List.mem_append]
        exact .inl hn
      · rw [← he] at hn
        simp only [DataW.weightsAll, List.mem_append]
        exact .inr (.inl hn)
end Go.Proofs.YtiaoifaglfhagaaDoor.Read
