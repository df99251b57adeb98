/- How a way, and two of them, read as arguments. No condition. -/
import Derived.Test.YtiaoifaglfhagaaDoorMkN
import Derived.Test.YtiaoifaglfhagaaDoorArrRead
namespace Go.Proofs.YtiaoifaglfhagaaDoor.Read
open Go Go.RowKit Go.ChangeShapes Go.WideShapes Mem Arr ShaW Mk MkW
variable {H : Type} {enc : TypeId × Value → H} {W : World}
set_option linter.unusedVariables false

/-- the cells of a way -/
structure WayIs (W : World) (cs : List Value) (p n : Nat) (vp : Value) (ds : List Dg) : Prop where
  c : cs = [.int .u32 (p : Int), .int .u32 (n : Int), vp]
  p' : p < 4294967296
  n' : n < 4294967296
  a : Arr 32 Any W vp (dcs ds)
  l : ∀ d ∈ ds, d.length = 32
def DgsAre (d : DataW H) (ds : List Dg) : Prop := (d = .nil ∧ ds = []) ∨ ∃ el sp, d = .slice el sp ∧ el.length = ds.length
theorem cells_way {cs : List Value} {d : DataW H} {ps : List MemPlace} {held spare} {base fuel : Nat} (hf : DataW.trod enc Tryd.prog W base spare held fuel 37 cs = some (d, ps)) :
    ∃ p n vp ds d0 d1 d2, WayIs W cs p n vp ds ∧ d = .agg [d0, d1, d2] ∧ DgsAre d2 ds := by
  obtain ⟨xs, k, _, hD, hcs, hxl, hfs⟩ := DataW.trod_struct Tryd.underlying37 hf
  rw [(by kernel_rfl : Tryd.prog.cellsOf 37 = 3)] at hcs
  match cs, hcs with
  | [c0, c1, c2], _ =>
    have f0 : DataW.trod enc Tryd.prog W base spare held k 35 (([c0, c1, c2].drop 0).take (Tryd.prog.cellsOf 35)) = xs[0]? := hfs 0 _ rfl
    have f1 : DataW.trod enc Tryd.prog W base spare held k 35 (([c0, c1, c2].drop 1).take (Tryd.prog.cellsOf 35)) = xs[1]? := hfs 1 _ rfl
    have f2 : DataW.trod enc Tryd.prog W base spare held k 22 (([c0, c1, c2].drop 2).take (Tryd.prog.cellsOf 22)) = xs[2]? := hfs 2 _ rfl
    rw [(by kernel_rfl : Tryd.prog.cellsOf 35 = 1)] at f0 f1
    rw [(by kernel_rfl : Tryd.prog.cellsOf 22 = 1)] at f2
    simp only [List.drop_zero, List.drop_succ_cons, List.take_succ_cons, List.take_zero] at f0 f1 f2
    match xs, hxl with
    | [x0, x1, x2], _ =>
      simp only [List.getElem?_cons_zero, List.getElem?_cons_succ] at f0 f1 f2
      obtain ⟨z0, hz0, _, hw0⟩ := DataW.trod_int Tryd.underlying35 f0
      obtain ⟨z1, hz1, _, hw1⟩ := DataW.trod_int Tryd.underlying35 f1
      obtain ⟨v, ds, hv, h1, h2, h3⟩ := cells_arrs (d := x2.1) (ps := x2.2) Tryd.underlying22 Tryd.underlying25 Tryd.underlying5 (by kernel_rfl) (by kernel_rfl) (by decide) f2
      simp only [List.cons.injEq, and_true] at hz0 hz1 hv
      subst hv
      have b0 := bounds_u32 hw0
      have b1 := bounds_u32 hw1
      have e0 : ((z0.toNat : Nat) : Int) = z0 := by omega
      have e1 : ((z1.toNat : Nat) : Int) = z1 := by omega
      refine ⟨z0.toNat, z1.toNat, c2, ds, x0.1, x1.1, x2.1, ⟨by rw [e0, e1, hz0, hz1], by omega, by omega, h1, h2⟩, ?_, h3⟩
      have := congrArg Prod.fst hD; simpa using this
theorem dgs_weights {d : DataW H} {ds : List Dg} (h : DgsAre d ds) (hw : ∀ n ∈ d.weights Tryd.prog 22, n ≤ reachBytes) : ds.length ≤ 4398046511104 := by
  rcases h with ⟨_, rfl⟩ | ⟨el, sp, rfl, hl⟩
  · simp
  · have := hw ((el.length + sp.length) * Tryd.prog.bytesOf 25) (by
      unfold DataW.weights
      rw [Tryd.underlying22]
      exact List.mem_cons_self ..)
    rw [(by kernel_rfl : Tryd.prog.bytesOf 25 = 32)] at this
    simp only [reachBytes] at this
    omega
theorem way_weights {d0 d1 d2 : DataW H} {ds : List Dg} (h : DgsAre d2 ds) (hw : ∀ n ∈ (DataW.agg [d0, d1, d2]).weights Tryd.prog 37, n ≤ reachBytes) : ds.length ≤ 4398046511104 := by
  refine dgs_weights h fun n hn => hw n ?_
  unfold DataW.weights
  rw [Tryd.underlying37]
  exact DataW.weights_mem_each (ts := [35, 35, 22]) (ds := [d0, d1, d2]) (j := 2) rfl rfl n hn
theorem weights_of {ts : List TypeId} {ds : List (DataW H)} (hsz : (DataW.weightsEach Tryd.prog ts ds).all (· ≤ reachBytes) = true) {j : Nat} {t : TypeId} {d : DataW H} (hj : ts[j]? = some t) (hd : ds[j]? = some d) : ∀ n ∈ d.weights Tryd.prog t, n ≤ reachBytes := by
  intro n hn
  exact of_decide_eq_true (List.all_eq_true.1 hsz n (DataW.weights_mem_each hj hd n hn))
theorem read_way {v : Value} {d : DataW H} {ps : List MemPlace} {held spare} {base b0 : Nat} (hval : Value.okWide Tryd.prog W .any b0 37 v) (h : DataW.Trod enc Tryd.prog W base spare held 37 v d ps) :
    ∃ (p n : Nat) (vp : Value) (ds : List Dg), v = .agg #[.int .u32 (p : Int), .int .u32 (n : Int), vp] ∧ WayIs W [.int .u32 (p : Int), .int .u32 (n : Int), vp] p n vp ds ∧ ((∀ n ∈ d.weights Tryd.prog 37, n ≤ reachBytes) → ds.length ≤ 4398046511104) := by
  obtain ⟨cs, rfl, _⟩ := okWide_struct Tryd.underlying37 hval
  obtain ⟨fuel, hf⟩ := h
  obtain ⟨p, n, vp, ds, d0, d1, d2, hw, rfl, hd⟩ := cells_way hf
  have := hw.c
  simp only [Value.cells] at this
  have e : cs = #[.int .u32 (p : Int), .int .u32 (n : Int), vp] := by
    apply Array.ext'
    exact this
  subst e
  exact ⟨p, n, vp, ds, rfl, hw, fun hx => way_weights hd hx⟩
end Go.Proofs.YtiaoifaglfhagaaDoor.Read
