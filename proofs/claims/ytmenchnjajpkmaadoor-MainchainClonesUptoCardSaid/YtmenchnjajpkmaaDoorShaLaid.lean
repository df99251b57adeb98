/- The two tables of numbers as a row's condition lays them. No condition. -/
import Derived.Test.YtmenchnjajpkmaaDoorRows
import Derived.Test.YtmenchnjajpkmaaDoorShaL0
import Derived.Lib.LaidTab
import Derived.Lib.LaidU8
import Derived.LaidSub
import Derived.MakeChecks
namespace Go.Proofs.YtmenchnjajpkmaaDoor.ShaW
open Go Go.RowKit Go.Lib Mem Sha

/-- the table's numbers -/
def tabZ : List Int := table.map fun (n : Nat) => (n : Int)
theorem tabZ_cells : (tabZ.map fun z => Value.int .u32 z) = tabL := by unfold tabZ tabL; rw [List.map_map]; rfl
theorem tabB_of_reads {w : World} {name : String} {g : Nat} {t : TypeId} (hg : Tryd.prog.globalNamed name = some g) (hty : (Tryd.prog.globals[g]?).map (·.type) = some t) (ht : Tryd.prog.underlying t = some (.array 64 74)) (hct : Tryd.prog.cellsOf t = 64)
    (h : Lib.VarReads Tryd.prog w name (Lib.tabData .u32 tabZ)) : TabB w g := by
  obtain ⟨g', t', cs, fuel, p, hg', ht', hvar, hd⟩ := h
  obtain rfl := Option.some.inj (hg.symm.trans hg')
  obtain rfl := Option.some.inj (hty.symm.trans ht')
  have hcs := Lib.cells_of_tab ht (k := .u32) Tryd.underlying74 (by kernel_rfl) hct hd
  unfold World.var? at hvar
  rw [hg, Option.bind_some] at hvar
  split at hvar
  · rename_i cs' t2 fr hh
    cases hvar
    refine ⟨t2, fr, hh.trans ?_⟩
    have e : cs = tabV := by rw [← Array.toArray_toList (xs := cs), hcs, tabZ_cells]; rfl
    rw [e]
  · cases hvar
theorem laid_one : (Rows.laid_tollhouse_sha_table : DataW Unit) = Lib.tabData .u32 tabZ := rfl
theorem laid_two : (Rows.laid_tollhouse_tollhouseref01_table : DataW Unit) = Lib.tabData .u32 tabZ := rfl
theorem tab_sha {w : World} {l : List (String × DataW Unit)} (h : laidMetH Tryd.prog l w) (hp : (l.all fun x => x.2.handleName?.isNone) = true) (hm : ("tollhouse/sha.table", Rows.laid_tollhouse_sha_table) ∈ l) : TabB w 1 := by
  rw [MakeChecks.laidMetH_plain _ _ _ hp] at h
  exact tabB_of_reads (by kernel_rfl) (t := 76) (by kernel_rfl) Tryd.underlying76 (by kernel_rfl) (laid_one ▸ Lib.laidMet.reads h hm)
theorem tab_ref {w : World} {l : List (String × DataW Unit)} (h : laidMetH Tryd.prog l w) (hp : (l.all fun x => x.2.handleName?.isNone) = true) (hm : ("tollhouse/tollhouseref01.table", Rows.laid_tollhouse_tollhouseref01_table) ∈ l) : TabB w 0 := by
  rw [MakeChecks.laidMetH_plain _ _ _ hp] at h
  exact tabB_of_reads (by kernel_rfl) (t := 76) (by kernel_rfl) Tryd.underlying76 (by kernel_rfl) (laid_two ▸ Lib.laidMet.reads h hm)
end Go.Proofs.YtmenchnjajpkmaaDoor.ShaW
