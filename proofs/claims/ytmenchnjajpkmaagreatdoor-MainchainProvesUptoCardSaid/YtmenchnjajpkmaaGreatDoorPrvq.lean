/- The two tables of numbers as a row's condition lays them. No condition. The law MainchainProves answers true. Conditions: arguments as they read, of some 2^30 things each at most; the tables are laid. How arguments read: a slice of arrays of bytes, as the words of Arr. Program-independent; no condition. How arguments read: readings put together of readings: numbers, truths, arrays, slices, structs. Program-independent; no condition. How arguments read, over ways in which cells read as plain data. Program-independent; no condition. How headers of the main chain, and ids, read as arguments. No condition. How the arguments of the law MainchainProves read. No condition. -/
import Derived.Test.YtmenchnjajpkmaaGreatDoorRows
import Derived.Test.YtmenchnjajpkmaaGreatDoorPrvd
import Derived.Lib.LaidTab
import Derived.Lib.LaidU8
import Derived.LaidSub
import Derived.MakeChecks
import Derived.Test.YtmenchnjajpkmaaGreatDoorPrvp
import Derived.Test.YtmenchnjajpkmaaGreatDoorCards
import Derived.Test.YtmenchnjajpkmaaGreatDoorPrvb
import Derived.Test.YtmenchnjajpkmaaGreatDoorPrve
import Derived.Test.YtmenchnjajpkmaaGreatDoorPrvf
import Derived.Deep.Slices
import Derived.Test.YtmenchnjajpkmaaGreatDoorPrvg
import Derived.Test.YtmenchnjajpkmaaGreatDoorPrvk
import Derived.Test.YtmenchnjajpkmaaGreatDoorPrvo
section
namespace Go.Proofs.YtmenchnjajpkmaaGreatDoor.ShaW
open Go Go.RowKit Go.Lib Mem Sha

/-- the table's numbers -/
def tabZ : List Int := table.map fun (n : Nat) => (n : Int)
theorem tabZ_cells : (tabZ.map fun z => Value.int .u32 z) = tabL := by unfold tabZ tabL; rw [List.map_map]; rfl
theorem tabB_of_reads {w : World} {name : String} {g : Nat} {t : TypeId} (hg : Tryz.prog.globalNamed name = some g) (hty : (Tryz.prog.globals[g]?).map (·.type) = some t) (ht : Tryz.prog.underlying t = some (.array 64 26)) (hct : Tryz.prog.cellsOf t = 64)
    (h : Lib.VarReads Tryz.prog w name (Lib.tabData .u32 tabZ)) : TabB w g := by
  obtain ⟨g', t', cs, fuel, p, hg', ht', hvar, hd⟩ := h
  obtain rfl := Option.some.inj (hg.symm.trans hg')
  obtain rfl := Option.some.inj (hty.symm.trans ht')
  have hcs := Lib.cells_of_tab ht (k := .u32) Tryz.underlying26 (by kernel_rfl) hct hd
  unfold World.var? at hvar
  rw [hg, Option.bind_some] at hvar
  split at hvar
  · rename_i cs' t2 fr hh
    cases hvar
    refine ⟨t2, fr, hh.trans ?_⟩
    have e : cs = tabV := by rw [← Array.toArray_toList (xs := cs), hcs, tabZ_cells]; rfl
    rw [e]
  · cases hvar
theorem laid_one : (Rows.laid_tollhouse_sha_table : DataW Unit) = Lib.tabData .u32 tabZ := rfl
theorem laid_two : (Rows.laid_tollhouse_tollhouseref01_table : DataW Unit) = Lib.tabData .u32 tabZ := rfl
theorem tab_sha {w : World} {l : List (String × DataW Unit)} (h : laidMetH Tryz.prog l w) (hp : (l.all fun x => x.2.handleName?.isNone) = true) (hm : ("tollhouse/sha.table", Rows.laid_tollhouse_sha_table) ∈ l) : TabB w 1 := by
  rw [MakeChecks.laidMetH_plain _ _ _ hp] at h
  exact tabB_of_reads (by kernel_rfl) (t := 147) (by kernel_rfl) Tryz.underlying147 (by kernel_rfl) (laid_one ▸ Lib.laidMet.reads h hm)
theorem tab_ref {w : World} {l : List (String × DataW Unit)} (h : laidMetH Tryz.prog l w) (hp : (l.all fun x => x.2.handleName?.isNone) = true) (hm : ("tollhouse/tollhouseref01.table", Rows.laid_tollhouse_tollhouseref01_table) ∈ l) : TabB w 0 := by
  rw [MakeChecks.laidMetH_plain _ _ _ hp] at h
  exact tabB_of_reads (by kernel_rfl) (t := 147) (by kernel_rfl) Tryz.underlying147 (by kernel_rfl) (laid_two ▸ Lib.laidMet.reads h hm)
end Go.Proofs.YtmenchnjajpkmaaGreatDoor.ShaW
end

section
namespace Go.Proofs.YtmenchnjajpkmaaGreatDoor.mainchainProves
open Go Go.RowKit Mem Codec Mh Maps Ops Wh Ww ShaW Arr Tk Tr Tb Reps Wm Pv
set_option linter.unusedVariables false

theorem walk (w : World) (f : Hd) (okf : f.Ok) (vx : Value) (xs : List XMt) (hx : Sl 2 RMt Any w vx xs) (q : Whr) (hq : Byt Any w q.vs q.sc) (hql : q.sc.length ≤ 140737488351232) (hva : q.va < 18446744073709551616) (hdp : q.dp < 18446744073709551616)
    (hn : xs.length ≤ 1073741824) (hl : ∀ x ∈ xs, x.2.length ≤ 1073741824) (hL : laidMetH Tryz.prog Rows.mainchainProvesUptoRow.laid w) :
    Calls Tryz.prog 4 #[.agg f.cells.toArray, vx, .agg (whC q).toArray] w fun e w' => e = .returned (.bool true) ∧ Below w.heap.size w w' :=
  walk0 w f okf vx xs hx hn hl q hq hql hva hdp (tab_sha hL (by kernel_rfl) (List.Mem.tail _ (List.Mem.head _))) (tab_ref hL (by kernel_rfl) (List.Mem.head _))
end Go.Proofs.YtmenchnjajpkmaaGreatDoor.mainchainProves
end

section
namespace Go.Proofs.YtmenchnjajpkmaaGreatDoor.Read
open Go Go.RowKit Go.ChangeShapes Go.WideShapes Mem Arr
variable {H : Type} {enc : TypeId × Value → H} {P : Program} {W : World}

/-- an array of bytes, as cells -/
theorem cells_arr {t e : TypeId} {n : Nat} {cs : List Value} {d : DataW H} {ps : List MemPlace} {held spare} {base fuel : Nat} (ht : P.underlying t = some (.array n e)) (he : P.underlying e = some (.int .u8)) (hc : P.cellsOf e = 1)
    (hsz : cs.length = n) (hf : DataW.trod enc P W base spare held fuel t cs = some (d, ps)) :
    ∃ l : List UInt8, cs = l.map byt ∧ l.length = n := by
  obtain ⟨xs, m, hxe, _, _, hx, hall⟩ := DataW.trod_array ht hf
  have hcell : ∀ i, (hi : i < n) → ∃ c : UInt8, cs[i]'(by omega) = byt c := by
    intro i hi
    have h1 := hall i hi
    rw [hc, Nat.mul_one, List.getElem?_eq_getElem (by omega : i < xs.length)] at h1
    obtain ⟨z, hz, _, hw⟩ := DataW.trod_int he h1
    refine ⟨u8of z, ?_⟩
    have h2 : (cs.drop i).take 1 = [cs[i]'(by omega)] := by
      rw [List.take_one, List.head?_drop]
      simp [hsz, hi]
    rw [h2] at hz
    simp only [List.cons.injEq, and_true] at hz
    rw [hz, byt, u8of_eq hw]
  refine ⟨(List.range n).map fun i => if h : i < n then (hcell i h).choose else 0, ?_, by simp⟩
  apply List.ext_getElem
  · simp [hsz]
  · intro i h1 h2
    have hi : i < n := by omega
    have := (hcell i hi).choose_spec
    rw [this]
    simp [hi]
/-- a slice of arrays of bytes -/
theorem cells_arrs {t e f : TypeId} {k : Nat} {cs : List Value} {d : DataW H} {ps : List MemPlace} {held spare} {base fuel : Nat} (ht : P.underlying t = some (.slice e)) (he : P.underlying e = some (.array k f)) (hf8 : P.underlying f = some (.int .u8)) (hcf : P.cellsOf f = 1) (hce : P.cellsOf e = k) (hk0 : 0 < k)
    (hf : DataW.trod enc P W base spare held fuel t cs = some (d, ps)) :
    ∃ v ds, cs = [v] ∧ Arr k Any W v (ds.map fun (x : List UInt8) => x.map byt) ∧ (∀ x ∈ ds, x.length = k) ∧ ((d = .nil ∧ ds = []) ∨ ∃ el sp, d = .slice el sp ∧ el.length = ds.length) := by
  rcases Deep.open_slice ht hf with ⟨rfl, hx⟩ | ⟨x, l, c, m, n, D, Pl, rfl, _, hl, hm, hmm, hx, hall⟩
  · simp only [Prod.mk.injEq] at hx
    exact ⟨_, [], rfl, ⟨none, 0, rfl, ⟨Nat.le_refl _, Nat.zero_le _, fun _ => rfl⟩, by simp, .inl rfl⟩, by simp, .inl ⟨hx.1, rfl⟩⟩
  · simp only [Prod.mk.injEq] at hx
    have hml : l ≤ m := by rw [hmm]; split <;> omega
    obtain ⟨X, hX⟩ := Deep.choose_lt (n := l) (p := fun i (y : List UInt8) => W.cells? base (x.add (i * k)) k = some (y.map byt) ∧ y.length = k) (fun i hi => by
      obtain ⟨cs', h1, h2⟩ := hall i (by omega)
      rw [hce] at h1
      obtain ⟨_, hlen, _⟩ := World.cells?_some h1
      obtain ⟨y, rfl, hy⟩ := cells_arr he hf8 hcf hlen h2
      exact ⟨y, h1, hy⟩)
    refine ⟨_, (List.range l).map X, rfl, ⟨some x, c, by simp, ⟨by simpa using hl, hm, fun h => by cases h⟩, ?_, ?_⟩, ?_, .inr ⟨_, _, hx.1, by simp⟩⟩
    · intro z hz
      simp only [List.mem_map, List.mem_range] at hz
      obtain ⟨_, ⟨i, hi, rfl⟩, rfl⟩ := hz
      simpa using (hX i hi).2
    · by_cases h0 : l = 0
      · left; subst h0; rfl
      right
      obtain ⟨b, off, spot⟩ := x
      have h00 := (World.cells?_some (hX 0 (by omega)).1).2.2 0 hk0
      have hlen0 := (hX 0 (by omega)).2
      rw [List.getElem?_eq_getElem (by simpa [hlen0] using hk0)] at h00
      have hspot : spot = none := by simpa [Addr.add] using World.cell?_spot h00
      subst hspot
      refine ⟨b, off, rfl, trivial, fun i hi j u hu => ?_⟩
      have hi' : i < l := by simpa using hi
      simp only [List.getElem_map, List.getElem_range] at hu
      have hj : j < k := by have := (List.getElem?_eq_some_iff.1 hu).1; simpa [(hX i hi').2] using this
      have := (World.cells?_some (hX i hi').1).2.2 j hj
      rw [hu] at this
      rw [← this, add_plain, add_plain]
    · intro z hz
      simp only [List.mem_map, List.mem_range] at hz
      obtain ⟨i, hi, rfl⟩ := hz
      exact (hX i hi).2
theorem read_arrs {t e f : TypeId} {k : Nat} {v : Value} {d : DataW H} {ps : List MemPlace} {held spare} {base b0 : Nat} (ht : P.underlying t = some (.slice e)) (he : P.underlying e = some (.array k f)) (hf8 : P.underlying f = some (.int .u8)) (hcf : P.cellsOf f = 1) (hce : P.cellsOf e = k) (hk0 : 0 < k)
    (hval : Value.okWide P W .any b0 t v) (h : DataW.Trod enc P W base spare held t v d ps) :
    ∃ ds, Arr k Any W v (ds.map fun (x : List UInt8) => x.map byt) ∧ (∀ x ∈ ds, x.length = k) ∧ ((d = .nil ∧ ds = []) ∨ ∃ el sp, d = .slice el sp ∧ el.length = ds.length) := by
  obtain ⟨a, len, cap, rfl⟩ := okWide_slice ht hval
  obtain ⟨fuel, hf⟩ := h
  obtain ⟨v', ds, hv, h1, h2, h3⟩ := cells_arrs ht he hf8 hcf hce hk0 hf
  obtain rfl : v' = .slice a len cap := by simpa [Value.cells] using hv.symm
  exact ⟨ds, h1, h2, h3⟩
theorem reach_arrs {α : Type} {ts : List TypeId} {ds : List (DataW H)} (hsz : (DataW.weightsEach P ts ds).all (· ≤ reachBytes) = true) {j : Nat} {t e : TypeId} {d : DataW H} {l : List α} {k : Nat}
    (hj : ts[j]? = some t) (hd : ds[j]? = some d) (hu : P.underlying t = some (.slice e)) (hb : P.bytesOf e = k) (h : (d = .nil ∧ l = []) ∨ ∃ el sp, d = .slice el sp ∧ el.length = l.length) :
    l.length * k ≤ 140737488351232 := by
  rcases h with ⟨_, rfl⟩ | ⟨el, sp, rfl, hl⟩
  · simp
  · have := sized_slice hsz hj hd hu
    rw [hb] at this
    simp only [reachBytes] at this
    rw [← hl]
    exact Nat.le_trans (Nat.mul_le_mul_right k (Nat.le_add_right _ _)) this
end Go.Proofs.YtmenchnjajpkmaaGreatDoor.Read
end

section
namespace Go.Proofs.YtmenchnjajpkmaaGreatDoor.Rdr
open Go Go.RowKit Go.ChangeShapes Go.WideShapes Mem Arr Read
set_option linter.unusedVariables false

/-- cells of type t read as an x: they are f x, Ok x; in the form's reach: B x; M x: no more than the datum's bulk -/
structure Rdr (P : Program) (W : World) (t : TypeId) {α : Type} (f : α → List Value) (Ok B : α → Prop) (M : α → Nat) : Prop where
  read : ∀ {H : Type} {enc : TypeId × Value → H} {base : Nat} {spare : Nat → Bool} {held : Bool} {fuel : Nat} {cs : List Value} {d : DataW H} {ps : List MemPlace}, DataW.trod enc P W base spare held fuel t cs = some (d, ps) →
    ∃ x, cs = f x ∧ Ok x ∧ ((∀ n ∈ d.weights P t, n ≤ reachBytes) → B x) ∧ M x ≤ Rows.uptoBulk d
/-- the cells of some types, one behind the other -/
structure Rdrs (P : Program) (W : World) (ts : List TypeId) {α : Type} (f : α → List Value) (Ok B : α → Prop) (M : α → Nat) : Prop where
  read : ∀ {H : Type} {enc : TypeId × Value → H} {base : Nat} {spare : Nat → Bool} {held : Bool} {fuel : Nat} {cs : List Value} {xs : List (DataW H × List MemPlace)}, cs.length = (ts.map P.cellsOf).sum → xs.length = ts.length →
    (∀ (i : Nat) (t : TypeId), ts[i]? = some t → DataW.trod enc P W base spare held fuel t ((cs.drop ((ts.take i).map P.cellsOf).sum).take (P.cellsOf t)) = xs[i]?) →
    ∃ x, cs = f x ∧ Ok x ∧ ((∀ n ∈ DataW.weightsEach P ts (xs.map (·.1)), n ≤ reachBytes) → B x) ∧ M x ≤ Rows.uptoBulkAll (xs.map (·.1))
section
variable {P : Program} {W : World} {t e : TypeId} {ts : List TypeId} {α β : Type} {f : α → List Value} {g : β → List Value} {Ok B : α → Prop} {Ok' B' : β → Prop} {M : α → Nat} {M' : β → Nat}
theorem Rdr.conv (h : Rdr P W t f Ok B M) (q : α → β) (hf : ∀ x, Ok x → f x = g (q x)) (ho : ∀ x, Ok x → Ok' (q x)) (hb : ∀ x, Ok x → B x → B' (q x)) (hm : ∀ x, M' (q x) ≤ M x) : Rdr P W t g Ok' B' M' :=
  ⟨fun hr => by
    obtain ⟨x, h1, h2, h3, h4⟩ := h.read hr
    exact ⟨q x, by rw [h1, hf x h2], ho x h2, fun hw => hb x h2 (h3 hw), Nat.le_trans (hm x) h4⟩⟩
theorem rd_int {k : IntKind} (ht : P.underlying t = some (.int k)) : Rdr P W t (fun n : Int => [.int k n]) (fun n => (Lit.int k n).wf = true) (fun _ => True) (fun _ => 0) :=
  ⟨fun hr => by
    obtain ⟨n, h1, _, h2⟩ := DataW.trod_int ht hr
    exact ⟨n, h1, h2, fun _ => trivial, Nat.zero_le _⟩⟩
theorem rd_bool (ht : P.underlying t = some .bool) : Rdr P W t (fun b : Bool => [.bool b]) (fun _ => True) (fun _ => True) (fun _ => 0) :=
  ⟨fun hr => by
    obtain ⟨b, h1, _⟩ := DataW.trod_bool ht hr
    exact ⟨b, h1, trivial, fun _ => trivial, Nat.zero_le _⟩⟩
theorem rd_u64 (ht : P.underlying t = some (.int .u64)) : Rdr P W t (fun n : Nat => [.int .u64 (n : Int)]) (fun n => n < 18446744073709551616) (fun _ => True) (fun _ => 0) :=
  (rd_int ht).conv (fun n : Int => n.toNat) (fun n h => by have := bounds_u64 h; simp; omega) (fun n h => by have := bounds_u64 h; omega) (fun _ _ h => h) (fun _ => Nat.le_refl _)
theorem rd_u32 (ht : P.underlying t = some (.int .u32)) : Rdr P W t (fun n : Nat => [.int .u32 (n : Int)]) (fun n => n < 4294967296) (fun _ => True) (fun _ => 0) :=
  (rd_int ht).conv (fun n : Int => n.toNat) (fun n h => by have := bounds_u32 h; simp; omega) (fun n h => by have := bounds_u32 h; omega) (fun _ _ h => h) (fun _ => Nat.le_refl _)
theorem rd_i64 (ht : P.underlying t = some (.int .i64)) : Rdr P W t (fun n : Int => [.int .i64 n]) (fun n => -9223372036854775808 ≤ n ∧ n ≤ 9223372036854775807) (fun _ => True) (fun _ => 0) :=
  (rd_int ht).conv (fun n : Int => n) (fun n h => rfl) (fun n h => bounds_i64 h) (fun _ _ h => h) (fun _ => Nat.le_refl _)
theorem rd_bytes {n : Nat} (ht : P.underlying t = some (.array n e)) (he : P.underlying e = some (.int .u8)) (hc : P.cellsOf e = 1) (hct : P.cellsOf t = n) : Rdr P W t (fun l : List UInt8 => l.map byt) (fun l => l.length = n) (fun _ => True) (fun _ => 0) :=
  ⟨fun hr => by
    obtain ⟨xs, m, _, hxe, hcs, _⟩ := DataW.trod_array ht hr
    obtain ⟨l, h1, h2⟩ := cells_arr ht he hc (by rw [hcs, hct]) hr
    exact ⟨l, h1, h2, fun _ => trivial, Nat.zero_le _⟩⟩
theorem rds_nil : Rdrs P W [] (fun _ : Unit => []) (fun _ => True) (fun _ => True) (fun _ => 0) :=
  ⟨fun hl _ _ => ⟨(), List.length_eq_zero_iff.1 (by simpa using hl), trivial, fun _ => trivial, Nat.zero_le _⟩⟩
theorem rds_cons (h : Rdr P W t f Ok B M) (r : Rdrs P W ts g Ok' B' M') : Rdrs P W (t :: ts) (fun x : α × β => f x.1 ++ g x.2) (fun x => Ok x.1 ∧ Ok' x.2) (fun x => B x.1 ∧ B' x.2) (fun x => M x.1 + M' x.2) :=
  ⟨fun {H enc base spare held fuel cs xs} hl hx hr => by
    match xs, hx with
    | x :: xs, hx =>
      have h0 := hr 0 t rfl
      simp only [List.take_zero, List.map_nil, List.sum_nil, List.drop_zero, List.getElem?_cons_zero] at h0
      obtain ⟨a, a1, a2, a3, a4⟩ := h.read (d := x.1) (ps := x.2) h0
      simp only [List.map_cons, List.sum_cons] at hl
      obtain ⟨b, b1, b2, b3, b4⟩ := r.read (cs := cs.drop (P.cellsOf t)) (xs := xs) (by rw [List.length_drop]; omega) (by simpa using hx) (fun i t' hi => by
        have := hr (i + 1) t' hi
        simp only [List.take_succ_cons, List.map_cons, List.sum_cons, List.getElem?_cons_succ] at this
        rw [List.drop_drop]
        exact this)
      refine ⟨(a, b), ?_, ⟨a2, b2⟩, fun hw => ?_, ?_⟩
      · rw [← a1, ← b1, List.take_append_drop]
      · simp only [List.map_cons, DataW.weightsEach, List.mem_append] at hw
        exact ⟨a3 fun n hn => hw n (.inl hn), b3 fun n hn => hw n (.inr hn)⟩
      · simp only [List.map_cons, Rows.uptoBulkAll]
        omega⟩
/-- a struct -/
theorem rd_struct {fs : Array Field} (ht : P.underlying t = some (.struct fs)) (hts : fs.toList.map (·.type) = ts) (ho : fs.toList.map (·.offset) = (List.range ts.length).map fun i => ((ts.take i).map P.cellsOf).sum) (hc : P.cellsOf t = (ts.map P.cellsOf).sum) (h : Rdrs P W ts f Ok B M) : Rdr P W t f Ok B M :=
  ⟨fun {H enc base spare held fuel cs d ps} hr => by
    obtain ⟨xs, k, _, hD, hcs, hxl, hfs⟩ := DataW.trod_struct ht hr
    have hlen : fs.toList.length = ts.length := by rw [← hts, List.length_map]
    obtain ⟨x, h1, h2, h3, h4⟩ := h.read (cs := cs) (xs := xs) (by rw [hcs, hc]) (by rw [hxl, ← hlen]; simp) (fun i t' hi => by
      have hi' : i < ts.length := (List.getElem?_eq_some_iff.1 hi).1
      have hf : fs[i]? = some (fs[i]'(by rw [← Array.length_toList, hlen]; exact hi')) := Array.getElem?_eq_getElem _
      have h5 := hfs i _ hf
      have e1 : (fs[i]'(by rw [← Array.length_toList, hlen]; exact hi')).type = t' := by
        have : (fs.toList.map (·.type))[i]? = some t' := by rw [hts]; exact hi
        rw [List.getElem?_map, Array.getElem?_toList, hf] at this
        simpa using this
      have e2 : (fs[i]'(by rw [← Array.length_toList, hlen]; exact hi')).offset = ((ts.take i).map P.cellsOf).sum := by
        have : (fs.toList.map (·.offset))[i]? = some (((ts.take i).map P.cellsOf).sum) := by rw [ho, List.getElem?_map, List.getElem?_range hi']; rfl
        rw [List.getElem?_map, Array.getElem?_toList, hf] at this
        simpa using this
      rw [e1, e2] at h5
      exact h5)
    have hd : d = .agg (xs.map (·.1)) := congrArg Prod.fst hD
    refine ⟨x, h1, h2, fun hw => h3 fun n hn => hw n ?_, ?_⟩
    · rw [hd]; unfold DataW.weights; simp only [ht, hts]; exact hn
    · rw [hd]; unfold Rows.uptoBulk; omega⟩
theorem sum_le {γ : Type} (F G : γ → Nat) : ∀ l : List γ, (∀ x ∈ l, F x ≤ G x) → (l.map F).sum ≤ (l.map G).sum
  | [], _ => Nat.le_refl _
  | x :: l, h => by simp only [List.map_cons, List.sum_cons]; have := h x (by simp); have := sum_le F G l (fun y hy => h y (by simp [hy])); omega
theorem bulk_all {H : Type} : ∀ l : List (DataW H), Rows.uptoBulkAll l = (l.map Rows.uptoBulk).sum
  | [] => rfl
  | d :: r => by simp only [Rows.uptoBulkAll, List.map_cons, List.sum_cons, bulk_all r]
/-- a slice of things of many cells -/
theorem rd_slice [Inhabited α] {k nb : Nat} (ht : P.underlying t = some (.slice e)) (h : Rdr P W e f Ok B M) (hce : P.cellsOf e = k) (hk0 : 0 < k) (hb : P.bytesOf e = nb) :
    Rdr P W t (fun x : Value × List α => [x.1]) (fun x => Arr k Any W x.1 (x.2.map f) ∧ ∀ y ∈ x.2, Ok y) (fun x => x.2.length * nb ≤ 140737488351232 ∧ ∀ y ∈ x.2, B y) (fun x => (x.2.map fun y => max (M y) 1).sum) :=
  ⟨fun {H enc base spare held fuel cs d ps} hr => by
    rcases Deep.open_slice ht hr with ⟨rfl, hx⟩ | ⟨x, l, c, m, n, D, Pl, rfl, _, hl, hm, hmm, hx, hall⟩
    · simp only [Prod.mk.injEq] at hx
      exact ⟨(_, []), rfl, ⟨⟨none, 0, rfl, ⟨Nat.le_refl _, Nat.zero_le _, fun _ => rfl⟩, by simp, .inl rfl⟩, by simp⟩, fun _ => ⟨by simp, by simp⟩, by simp⟩
    · simp only [Prod.mk.injEq] at hx
      have hml : l ≤ m := by rw [hmm]; split <;> omega
      obtain ⟨X, hX⟩ := Deep.choose_lt (n := l) (p := fun i (y : α) => W.cells? base (x.add (i * k)) k = some (f y) ∧ (f y).length = k ∧ Ok y ∧ ((∀ n ∈ (D i).weights P e, n ≤ reachBytes) → B y) ∧ M y ≤ Rows.uptoBulk (D i)) (fun i hi => by
        obtain ⟨cs', h1, h2⟩ := hall i (by omega)
        rw [hce] at h1
        obtain ⟨_, hlen, _⟩ := World.cells?_some h1
        obtain ⟨y, rfl, q1, q2, q3⟩ := h.read h2
        exact ⟨y, h1, hlen, q1, q2, q3⟩)
      refine ⟨(_, (List.range l).map X), rfl, ⟨⟨some x, c, by simp, ⟨by simpa using hl, hm, fun h => by cases h⟩, ?_, ?_⟩, ?_⟩, fun hw => ⟨?_, ?_⟩, ?_⟩
      · intro z hz
        simp only [List.mem_map, List.mem_range] at hz
        obtain ⟨_, ⟨i, hi, rfl⟩, rfl⟩ := hz
        exact (hX i hi).2.1
      · by_cases h0 : l = 0
        · left; subst h0; rfl
        right
        obtain ⟨b, off, spot⟩ := x
        have h00 := (World.cells?_some (hX 0 (by omega)).1).2.2 0 hk0
        have hlen0 := (hX 0 (by omega)).2.1
        rw [List.getElem?_eq_getElem (by omega)] at h00
        have hspot : spot = none := by simpa [Addr.add] using World.cell?_spot h00
        subst hspot
        refine ⟨b, off, rfl, trivial, fun i hi j u hu => ?_⟩
        have hi' : i < l := by simpa using hi
        simp only [List.getElem_map, List.getElem_range] at hu
        have hj : j < k := by have := (List.getElem?_eq_some_iff.1 hu).1; have := (hX i hi').2.1; omega
        have := (World.cells?_some (hX i hi').1).2.2 j hj
        rw [hu] at this
        rw [← this, add_plain, add_plain]
      · intro y hy
        simp only [List.mem_map, List.mem_range] at hy
        obtain ⟨i, hi, rfl⟩ := hy
        exact (hX i hi).2.2.1
      · have := hw ((((List.range l).map D).length + ((List.range (m - l)).map fun j => D (l + j)).length) * P.bytesOf e) (by
          rw [hx.1]; unfold DataW.weights; simp only [ht]; exact List.mem_cons_self ..)
        rw [hb] at this
        simp only [reachBytes, List.length_map, List.length_range] at this ⊢
        have h9 : l * nb ≤ (l + (m - l)) * nb := Nat.mul_le_mul_right _ (by omega)
        omega
      · intro y hy
        simp only [List.mem_map, List.mem_range] at hy
        obtain ⟨i, hi, rfl⟩ := hy
        refine (hX i hi).2.2.2.1 fun n hn => hw n ?_
        rw [hx.1]; unfold DataW.weights; simp only [ht]
        refine List.mem_cons_of_mem _ (List.mem_append.2 (.inl ?_))
        have key : ∀ (L : List (DataW H)) (d : DataW H), d ∈ L → n ∈ d.weights P e → n ∈ DataW.weightsAll P e L := by
          intro L
          induction L with
          | nil => intro d hd; cases hd
          | cons a r ih =>
            intro d hd hn
            simp only [DataW.weightsAll, List.mem_append]
            rcases List.mem_cons.1 hd with rfl | hd
            · exact .inl hn
            · exact .inr (ih d hd hn)
        exact key _ (D i) (List.mem_map.2 ⟨i, List.mem_range.2 hi, rfl⟩) hn
      · rw [hx.1]
        unfold Rows.uptoBulk
        rw [bulk_all, List.map_map, List.map_map]
        have := sum_le ((fun y => max (M y) 1) ∘ X) (Rows.uptoBulk ∘ D) (List.range l) (fun i hi => by
          have h1 := (hX i (List.mem_range.1 hi)).2.2.2.2
          have h2 := Bulk.one (D i)
          simp only [Function.comp]
          omega)
        omega⟩
/-- an array of things of many cells -/
theorem rd_array {k n : Nat} (ht : P.underlying t = some (.array n e)) (h : Rdr P W e f Ok B M) (hce : P.cellsOf e = k) (hct : P.cellsOf t = n * k) :
    Rdr P W t (fun x : List α => (x.map f).flatten) (fun x => x.length = n ∧ ∀ y ∈ x, Ok y ∧ (f y).length = k) (fun x => ∀ y ∈ x, B y) (fun x => (x.map M).sum) :=
  ⟨fun {H enc base spare held fuel cs d ps} hr => by
    obtain ⟨xs, m, _, hxe, hcs, hxl, hall⟩ := DataW.trod_array ht hr
    rw [hce] at hall
    have hd : d = .agg (xs.map (·.1)) := congrArg Prod.fst hxe
    have key : ∀ (n : Nat) (cs : List Value) (xs : List (DataW H × List MemPlace)), cs.length = n * k → xs.length = n → (∀ i, i < n → DataW.trod enc P W base spare held m e ((cs.drop (i * k)).take k) = xs[i]?) →
        ∃ ys : List α, cs = (ys.map f).flatten ∧ ys.length = n ∧ (∀ y ∈ ys, Ok y ∧ (f y).length = k) ∧ ((∀ n ∈ DataW.weightsAll P e (xs.map (·.1)), n ≤ reachBytes) → ∀ y ∈ ys, B y) ∧ (ys.map M).sum ≤ Rows.uptoBulkAll (xs.map (·.1)) := by
      intro n
      induction n with
      | zero => intro cs xs hc hx _; exact ⟨[], by simpa using hc, rfl, by simp, by simp, by simp⟩
      | succ n ih =>
        intro cs xs hc hx ha
        match xs, hx with
        | x :: xs, hx =>
          have h0 := ha 0 (by omega)
          simp only [Nat.zero_mul, List.drop_zero, List.getElem?_cons_zero] at h0
          obtain ⟨y, y1, y2, y3, y4⟩ := h.read (d := x.1) (ps := x.2) h0
          have hlk : (cs.take k).length = k := by rw [List.length_take, hc, Nat.succ_mul]; omega
          obtain ⟨ys, z1, z2, z3, z4, z5⟩ := ih (cs.drop k) xs (by rw [List.length_drop, hc, Nat.succ_mul]; omega) (by simpa using hx) (fun i hi => by
            have := ha (i + 1) (by omega)
            rw [List.getElem?_cons_succ] at this
            rw [List.drop_drop, show k + i * k = (i + 1) * k by rw [Nat.succ_mul]; omega]
            exact this)
          refine ⟨y :: ys, ?_, by simp [z2], ?_, ?_, ?_⟩
          · rw [List.map_cons, List.flatten_cons, ← y1, ← z1, List.take_append_drop]
          · intro u hu
            rcases List.mem_cons.1 hu with rfl | hu
            · exact ⟨y2, by rw [← y1]; exact hlk⟩
            · exact z3 u hu
          · intro hw u hu
            simp only [List.map_cons, DataW.weightsAll, List.mem_append] at hw
            rcases List.mem_cons.1 hu with rfl | hu
            · exact y3 fun n hn => hw n (.inl hn)
            · exact z4 (fun n hn => hw n (.inr hn)) u hu
          · simp only [List.map_cons, List.sum_cons, Rows.uptoBulkAll]
            omega
    obtain ⟨ys, z1, z2, z3, z4, z5⟩ := key n cs xs (by rw [hcs, hct]) hxl hall
    refine ⟨ys, z1, ⟨z2, z3⟩, fun hw => z4 fun n hn => hw n ?_, ?_⟩
    · rw [hd]; unfold DataW.weights; simp only [ht]; exact hn
    · rw [hd]; unfold Rows.uptoBulk; omega⟩
end
/-- an argument of one cell -/
theorem arg_one {P : Program} {W : World} {t : TypeId} {α : Type} {v : α → Value} {Ok B : α → Prop} {M : α → Nat} {H : Type} {enc : TypeId × Value → H} {u : Value} {d : DataW H} {ps : List MemPlace} {held spare} {base : Nat} (h : Rdr P W t (fun x => [v x]) Ok B M) (hu : u.cells.toList = [u])
    (ht : DataW.Trod enc P W base spare held t u d ps) : ∃ x, u = v x ∧ Ok x ∧ ((∀ n ∈ d.weights P t, n ≤ reachBytes) → B x) ∧ M x ≤ Rows.uptoBulk d := by
  obtain ⟨fuel, hf⟩ := ht
  rw [hu] at hf
  obtain ⟨x, h1, h2⟩ := h.read hf
  exact ⟨x, by simpa using h1, h2⟩
/-- an argument of many cells -/
theorem arg_agg {P : Program} {W : World} {t : TypeId} {α : Type} {f : α → List Value} {Ok B : α → Prop} {M : α → Nat} {H : Type} {enc : TypeId × Value → H} {cs : Array Value} {d : DataW H} {ps : List MemPlace} {held spare} {base : Nat} (h : Rdr P W t f Ok B M)
    (ht : DataW.Trod enc P W base spare held t (.agg cs) d ps) : ∃ x, cs = (f x).toArray ∧ Ok x ∧ ((∀ n ∈ d.weights P t, n ≤ reachBytes) → B x) ∧ M x ≤ Rows.uptoBulk d := by
  obtain ⟨fuel, hf⟩ := ht
  obtain ⟨x, h1, h2⟩ := h.read hf
  exact ⟨x, by simp only [Value.cells] at h1; rw [← h1], h2⟩
theorem weights_of {P : Program} {H : Type} {ts : List TypeId} {ds : List (DataW H)} (hsz : (DataW.weightsEach P ts ds).all (· ≤ reachBytes) = true) {j : Nat} {t : TypeId} {d : DataW H} (hj : ts[j]? = some t) (hd : ds[j]? = some d) : ∀ n ∈ d.weights P t, n ≤ reachBytes := by
  intro n hn
  exact of_decide_eq_true (List.all_eq_true.1 hsz n (DataW.weights_mem_each hj hd n hn))
end Go.Proofs.YtmenchnjajpkmaaGreatDoor.Rdr
end

section
namespace Go.Proofs.YtmenchnjajpkmaaGreatDoor.Rdr
open Go Go.RowKit Mem Arr Read Reps
set_option linter.unusedVariables false

/-- cells of type t read by R -/
abbrev RdX (P : Program) (W : World) (t : TypeId) {X : Type} (R : (Nat → Prop) → World → List Value → X → Prop) (B : X → Prop) (M : X → Nat) : Prop :=
  Rdr P W t (fun y : List Value × X => y.1) (fun y => R Any W y.1 y.2) (fun y => B y.2) (fun y => M y.2)
abbrev RdXs (P : Program) (W : World) (ts : List TypeId) {X : Type} (R : (Nat → Prop) → World → List Value → X → Prop) (B : X → Prop) (M : X → Nat) : Prop :=
  Rdrs P W ts (fun y : List Value × X => y.1) (fun y => R Any W y.1 y.2) (fun y => B y.2) (fun y => M y.2)
section
variable {P : Program} {W : World} {t e : TypeId} {ts : List TypeId} {X Y : Type} {R : (Nat → Prop) → World → List Value → X → Prop} {R' : (Nat → Prop) → World → List Value → Y → Prop} {B : X → Prop} {B' : Y → Prop} {M : X → Nat} {M' : Y → Nat}
theorem rx_of {f : X → List Value} {Ok : X → Prop} (h : Rdr P W t f Ok B M) (hr : ∀ x, Ok x → R Any W (f x) x) : RdX P W t R B M :=
  ⟨fun hd => by
    obtain ⟨x, h1, h2, h3, h4⟩ := h.read hd
    exact ⟨(f x, x), h1, hr x h2, h3, h4⟩⟩
theorem rx_u64 (ht : P.underlying t = some (.int .u64)) : RdX P W t RU64 (fun _ => True) (fun _ => 0) := rx_of (rd_u64 ht) (fun x h => ⟨h, rfl⟩)
theorem rx_u32 (ht : P.underlying t = some (.int .u32)) : RdX P W t RU32 (fun _ => True) (fun _ => 0) := rx_of (rd_u32 ht) (fun x h => ⟨h, rfl⟩)
theorem rx_i64 (ht : P.underlying t = some (.int .i64)) : RdX P W t RI64 (fun _ => True) (fun _ => 0) := rx_of (rd_i64 ht) (fun x h => ⟨h, rfl⟩)
theorem rx_bool (ht : P.underlying t = some .bool) : RdX P W t RBool (fun _ => True) (fun _ => 0) := rx_of (rd_bool ht) (fun x h => ⟨h, rfl⟩)
theorem rx_dgs {n : Nat} (ht : P.underlying t = some (.array n e)) (he : P.underlying e = some (.int .u8)) (hc : P.cellsOf e = 1) (hct : P.cellsOf t = n) : RdX P W t (RDgs n) (fun _ => True) (fun _ => 0) := rx_of (rd_bytes ht he hc hct) (fun x h => ⟨h, rfl⟩)
theorem rx_sl [Inhabited X] {k nb : Nat} (ht : P.underlying t = some (.slice e)) (h : RdX P W e R B M) (hce : P.cellsOf e = k) (hk0 : 0 < k) (hb : P.bytesOf e = nb) :
    RdX P W t (RSl k R) (fun xs => xs.length * nb ≤ 140737488351232 ∧ ∀ y ∈ xs, B y) (fun xs => (xs.map fun y => max (M y) 1).sum) :=
  ⟨fun hd => by
    obtain ⟨x, h1, h2, h3, h4⟩ := (rd_slice ht h hce hk0 hb).read hd
    refine ⟨([x.1], x.2.map (·.2)), h1, ⟨x.1, rfl, x.2.map (·.1), h2.1, All2.ofMap (·.1) (·.2) x.2 h2.2⟩, fun hw => ⟨by simpa using (h3 hw).1, fun y hy => ?_⟩, ?_⟩
    · obtain ⟨z, hz, rfl⟩ := List.mem_map.1 hy
      exact (h3 hw).2 z hz
    · simpa [List.map_map, Function.comp_def] using h4⟩
theorem rxs_one (h : RdX P W t R B M) : RdXs P W [t] R B M :=
  ⟨fun hl hx hr => by
    obtain ⟨x, h1, h2, h3, h4⟩ := (rds_cons h rds_nil).read hl hx hr
    exact ⟨x.1, by simpa using h1, h2.1, fun hw => (h3 hw).1, by simpa using h4⟩⟩
theorem rxs_cons (h : RdX P W t R B M) (r : RdXs P W ts R' B' M') : RdXs P W (t :: ts) (PairR R R') (fun x => B x.1 ∧ B' x.2) (fun x => M x.1 + M' x.2) :=
  ⟨fun hl hx hr => by
    obtain ⟨x, h1, h2, h3, h4⟩ := (rds_cons h r).read hl hx hr
    exact ⟨(x.1.1 ++ x.2.1, (x.1.2, x.2.2)), h1, ⟨_, _, rfl, h2.1, h2.2⟩, h3, h4⟩⟩
/-- a slice of bytes -/
theorem rx_by (ht : P.underlying t = some (.slice e)) (he : P.underlying e = some (.int .u8)) (hc : P.cellsOf e = 1) (hb : P.bytesOf e = 1) : RdX P W t RBy (fun l => l.length ≤ 140737488351232) List.length :=
  ⟨fun hd => by
    obtain ⟨x, h1, h2, h3, h4⟩ := (rd_slice ht (rd_int he) hc (by decide) hb).read hd
    have hn : ∀ y ∈ x.2, 0 ≤ y ∧ y ≤ 255 := fun y hy => by
      have := h2.2 y hy
      have e1 : IntKind.u8.min = 0 := by kernel_rfl
      have e2 : IntKind.u8.max = 255 := by kernel_rfl
      simp only [Lit.wf, e1, e2, decide_eq_true_eq, Bool.and_eq_true] at this
      exact this
    have hbyt : ∀ y : Int, 0 ≤ y ∧ y ≤ 255 → Mem.byt (UInt8.ofNat y.toNat) = .int .u8 y := fun y hy => by
      show Value.int .u8 ((UInt8.ofNat y.toNat).toNat : Int) = _
      rw [UInt8.toNat_ofNat']
      congr 1
      omega
    obtain ⟨a, c, hv, hc3, hlen, hm⟩ := h2.1
    refine ⟨([x.1], x.2.map fun y => UInt8.ofNat y.toNat), h1, ⟨x.1, rfl, a, c, by simpa using hv, by simpa using hc3, ?_⟩, fun hw => by simpa using (h3 hw).1, ?_⟩
    · rcases hm with hm | ⟨b, off, rfl, hd2, hr⟩
      · left; simpa using hm
      · right
        refine ⟨b, off, rfl, hd2, fun i hi => ?_⟩
        have hi' : i < x.2.length := by simpa using hi
        have := hr i (by simpa using hi') 0 (.int .u8 (x.2[i]'hi')) (by simp)
        rw [Nat.mul_one, Nat.add_zero] at this
        rw [this]
        simp only [List.getElem_map]
        rw [← hbyt _ (hn _ (List.getElem_mem hi'))]
    · have key : ∀ l : List Int, l.length ≤ (l.map fun y : Int => max 0 1).sum := by
        intro l
        induction l with
        | nil => simp
        | cons a r ih => simp at ih ⊢; omega
      have := key x.2
      simp only [List.length_map]
      omega⟩
end
end Go.Proofs.YtmenchnjajpkmaaGreatDoor.Rdr
end

section
namespace Go.Proofs.YtmenchnjajpkmaaGreatDoor.Rdr
open Go Go.RowKit Mem Arr Read Mh Tr
set_option linter.unusedVariables false
instance : Inhabited Hd := ⟨⟨[], [], 0, 0⟩⟩
theorem rd_dg (W : World) : Rdr Tryz.prog W 24 (fun l : List UInt8 => l.map byt) (fun l => l.length = 32) (fun _ => True) (fun _ => 0) := rd_bytes Tryz.underlying24 Tryz.underlying5 (by kernel_rfl) (by kernel_rfl)
theorem rd_hd (W : World) : Rdr Tryz.prog W 41 Hd.cells Hd.Ok (fun _ => True) (fun _ => 0) :=
  (rd_struct (ts := [24, 24, 32, 32]) Tryz.underlying41 rfl (by kernel_rfl) (by kernel_rfl)
    (rds_cons (rd_dg W) (rds_cons (rd_dg W) (rds_cons (rd_u64 Tryz.underlying32) (rds_cons (rd_u64 Tryz.underlying32) rds_nil))))).conv
    (fun x => ⟨x.1, x.2.1, x.2.2.1, x.2.2.2.1⟩) (fun x _ => by simp [Hd.cells]) (fun x h => ⟨h.1, h.2.1, h.2.2.1, h.2.2.2.1⟩) (fun _ _ _ => trivial) (fun _ => Nat.zero_le _)
theorem rd_hds (W : World) : Rdr Tryz.prog W 22 (fun x : Value × List Hd => [x.1]) (fun x => Arr 66 Any W x.1 (rows x.2) ∧ ∀ h ∈ x.2, h.Ok) (fun x => x.2.length * 80 ≤ 140737488351232) (fun x => x.2.length) :=
  (rd_slice Tryz.underlying22 (rd_hd W) (by kernel_rfl) (by decide) (nb := 80) (by kernel_rfl)).conv (fun x => x) (fun x _ => rfl) (fun x h => h) (fun x _ h => h.1)
    (fun x => by
      have : ∀ l : List Hd, l.length ≤ (l.map fun y : Hd => max 0 1).sum := by
        intro l
        induction l with
        | nil => simp
        | cons h r ih => simp at ih ⊢; omega
      exact this x.2)
end Go.Proofs.YtmenchnjajpkmaaGreatDoor.Rdr
end

section
namespace Go.Proofs.YtmenchnjajpkmaaGreatDoor.Rdr
open Go Go.RowKit Mem Arr Read Reps Rr Wm Mh Pv
set_option linter.unusedVariables false

theorem fx_dg (W : World) : RdX Tryz.prog W 24 (RDgs 32) (fun _ => True) (fun _ => 0) := rx_dgs Tryz.underlying24 Tryz.underlying5 (by kernel_rfl) (by kernel_rfl)
theorem fx_by (W : World) : RdX Tryz.prog W 25 RBy (fun l => l.length ≤ 140737488351232) List.length := rx_by Tryz.underlying25 Tryz.underlying5 (by kernel_rfl) (by kernel_rfl)
theorem ex_mo (W : World) : RdX Tryz.prog W 58 RMo (fun _ => True) (fun _ => 0) :=
  (rd_struct (ts := [32, 24]) Tryz.underlying58 rfl (by kernel_rfl) (by kernel_rfl) (rxs_cons (rx_u64 Tryz.underlying32) (rxs_one (fx_dg W)))).conv (fun y => y) (fun _ _ => rfl) (fun _ h => h) (fun _ _ _ => trivial) (fun _ => Nat.zero_le _)
theorem len_max {α : Type} (M : α → Nat) : ∀ l : List α, l.length ≤ (l.map fun y => max (M y) 1).sum
  | [] => by simp
  | a :: l => by have := len_max M l; simp only [List.length_cons, List.map_cons, List.sum_cons]; omega
theorem mem_max {α : Type} (M : α → Nat) : ∀ (l : List α) (x : α), x ∈ l → M x ≤ (l.map fun y => max (M y) 1).sum
  | a :: l, x, h => by
    simp only [List.map_cons, List.sum_cons]
    rcases List.mem_cons.1 h with rfl | h
    · omega
    · have := mem_max M l x h; omega
theorem ex_mt (W : World) : RdX Tryz.prog W 56 RMt (fun _ => True) (fun x => x.2.length) :=
  (rd_struct (ts := [32, 54]) Tryz.underlying56 rfl (by kernel_rfl) (by kernel_rfl)
    (rxs_cons (rx_u64 Tryz.underlying32) (rxs_one (rx_sl Tryz.underlying54 (ex_mo W) (k := 33) (by kernel_rfl) (by decide) (nb := 40) (by kernel_rfl))))).conv (fun y => y) (fun _ _ => rfl) (fun _ h => h) (fun _ _ _ => trivial)
    (fun x => by have := len_max (fun _ : XMo => 0) x.2.2; show x.2.2.length ≤ 0 + _; omega)
theorem txs_arg {W : World} {H : Type} {enc : TypeId × Value → H} {v : Value} {d : DataW H} {ps : List MemPlace} {held spare} {base : Nat} (hv : v.cells.toList = [v])
    (ht : DataW.Trod enc Tryz.prog W base spare held 48 v d ps) : ∃ xs : List XMt, Sl 2 RMt Any W v xs ∧ xs.length ≤ Rows.uptoBulk d ∧ ∀ x ∈ xs, x.2.length ≤ Rows.uptoBulk d := by
  obtain ⟨x, e, ⟨h1, h2⟩, _, h3⟩ := arg_one (rd_slice Tryz.underlying48 (ex_mt W) (k := 2) (by kernel_rfl) (by decide) (nb := 32) (by kernel_rfl)) hv ht
  refine ⟨x.2.map (·.2), ⟨x.2.map (·.1), e ▸ h1, All2.ofMap _ _ _ h2⟩, ?_, fun y hy => ?_⟩
  · rw [List.length_map]
    exact Nat.le_trans (len_max _ x.2) h3
  · obtain ⟨z, hz, rfl⟩ := List.mem_map.1 hy
    exact Nat.le_trans (mem_max (fun y : List Value × XMt => y.2.2.length) x.2 z hz) h3
def RWh : (Nat → Prop) → World → List Value → Int × Int × Nat × Nat × List UInt8 → Prop := PairR RI64 (PairR RI64 (PairR RU64 (PairR RU64 RBy)))
theorem ex_wh (W : World) : RdX Tryz.prog W 50 RWh (fun x => x.2.2.2.2.length ≤ 140737488351232) (fun _ => 0) :=
  (rd_struct (ts := [3, 3, 32, 32, 25]) Tryz.underlying50 rfl (by kernel_rfl) (by kernel_rfl)
    (rxs_cons (rx_i64 Tryz.underlying3) (rxs_cons (rx_i64 Tryz.underlying3) (rxs_cons (rx_u64 Tryz.underlying32) (rxs_cons (rx_u64 Tryz.underlying32) (rxs_one (fx_by W))))))).conv (fun y => y) (fun _ _ => rfl) (fun _ h => h) (fun _ _ h => h.2.2.2.2) (fun _ => Nat.zero_le _)
theorem wh_arg {W : World} {H : Type} {enc : TypeId × Value → H} {cs : Array Value} {d : DataW H} {ps : List MemPlace} {held spare} {base : Nat}
    (ht : DataW.Trod enc Tryz.prog W base spare held 50 (.agg cs) d ps) (hw : ∀ n ∈ d.weights Tryz.prog 50, n ≤ reachBytes) :
    ∃ q : Whr, cs = (whC q).toArray ∧ Byt Any W q.vs q.sc ∧ q.sc.length ≤ 140737488351232 ∧ q.va < 18446744073709551616 ∧ q.dp < 18446744073709551616 := by
  obtain ⟨⟨cl, x⟩, rfl, h0, hb0, _⟩ := arg_agg (ex_wh W) ht
  have h : RWh Any W cl x := h0
  have hb : x.2.2.2.2.length ≤ 140737488351232 := hb0 hw
  obtain ⟨_, _, rfl, ⟨_, rfl⟩, _, _, rfl, ⟨_, rfl⟩, _, _, rfl, ⟨k3, rfl⟩, _, _, rfl, ⟨k4, rfl⟩, vs, rfl, k5⟩ := h
  exact ⟨⟨x.1, x.2.1, x.2.2.1, x.2.2.2.1, x.2.2.2.2, vs⟩, rfl, k5, hb, k3, k4⟩
theorem hd_arg {W : World} {H : Type} {enc : TypeId × Value → H} {cs : Array Value} {d : DataW H} {ps : List MemPlace} {held spare} {base : Nat}
    (ht : DataW.Trod enc Tryz.prog W base spare held 41 (.agg cs) d ps) : ∃ h : Hd, cs = h.cells.toArray ∧ h.Ok := by
  obtain ⟨x, rfl, h, _⟩ := arg_agg (rd_hd W) ht
  exact ⟨x, rfl, h⟩
set_option maxRecDepth 100000 in
open Go.WideShapes Go.ChangeShapes in
theorem agg_wh {W : World} {b0 : Nat} {v : Value} (hval : Value.okWide Tryz.prog W .any b0 50 v) : ∃ cs, v = .agg cs := by
  simp only [Value.okWide, Tryz.underlying50] at hval
  obtain ⟨cs, rfl, _⟩ := hval
  exact ⟨cs, rfl⟩
set_option maxRecDepth 100000 in
open Go.WideShapes Go.ChangeShapes in
theorem agg_hd {W : World} {b0 : Nat} {v : Value} (hval : Value.okWide Tryz.prog W .any b0 41 v) : ∃ cs, v = .agg cs := by
  simp only [Value.okWide, Tryz.underlying41] at hval
  obtain ⟨cs, rfl, _⟩ := hval
  exact ⟨cs, rfl⟩
end Go.Proofs.YtmenchnjajpkmaaGreatDoor.Rdr
end
