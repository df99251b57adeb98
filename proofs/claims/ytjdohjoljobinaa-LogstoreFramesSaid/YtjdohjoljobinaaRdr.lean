/- How arguments read: readings put together of readings: numbers, truths, arrays, slices, structs. Program-independent; no condition. -/
import Derived.Test.YtjdohjoljobinaaRead
import Derived.Test.YtjdohjoljobinaaBulk
import Derived.Test.YtjdohjoljobinaaArr
import Derived.Test.YtjdohjoljobinaaArrRead
import Derived.Deep.Slices
namespace Go.Proofs.Ytjdohjoljobinaa.Rdr
open Go Go.RowKit Go.ChangeShapes Go.WideShapes Mem Arr Read
set_option linter.unusedVariables false

/-- cells of type t read as an x: they are f x, Ok x; in the form's reach: B x; M x: no more than the datum's bulk -/
structure Rdr (P : Program) (W : World) (t : TypeId) {α : Type} (f : α → List Value) (Ok B : α → Prop) (M : α → Nat) : Prop where
  read : ∀ {H : Type} {enc : TypeId × Value → H} {base : Nat} {spare : Nat → Bool} {held : Bool} {fuel : Nat} {cs : List Value} {d : DataW H} {ps : List MemPlace}, DataW.trod enc P W base spare held fuel t cs = some (d, ps) →
    ∃ x, cs = f x ∧ Ok x ∧ ((∀ n ∈ d.weights P t, n ≤ reachBytes) → B x) ∧ M x ≤ Rows.uptoBulk d
/-- the cells of some types, one behind the other -/
structure Rdrs (P : Program) (W : World) (ts : List TypeId) {α : Type} (f : α → List Value) (Ok B : α → Prop) (M : α → Nat) : Prop where
  read : ∀ {H : Type} {enc : TypeId × Value → H} {base : Nat} {spare : Nat → Bool} {held : Bool} {fuel : Nat} {cs : List Value} {xs : List (DataW H × List MemPlace)}, cs.length = (ts.map P.cellsOf).sum → xs.length = ts.length →
    (∀ (i : Nat) (t : TypeId), ts[i]? = some t → DataW.trod enc P W base spare held fuel t ((cs.drop ((ts.take i).map P.cellsOf).sum).take (P.cellsOf t)) = xs[i]?) →
    ∃ x, cs = f x ∧ Ok x ∧ ((∀ n ∈ DataW.weightsEach P ts (xs.map (·.1)), n ≤ reachBytes) → B x) ∧ M x ≤ Rows.uptoBulkAll (xs.map (·.1))
section
variable {P : Program} {W : World} {t e : TypeId} {ts : List TypeId} {α β : Type} {f : α → List Value} {g : β → List Value} {Ok B : α → Prop} {Ok' B' : β → Prop} {M : α → Nat} {M' : β → Nat}
theorem Rdr.conv (h : Rdr P W t f Ok B M) (q : α → β) (hf : ∀ x, Ok x → f x = g (q x)) (ho : ∀ x, Ok x → Ok' (q x)) (hb : ∀ x, Ok x → B x → B' (q x)) (hm : ∀ x, M' (q x) ≤ M x) : Rdr P W t g Ok' B' M' :=
  ⟨fun hr => by
    obtain ⟨x, h1, h2, h3, h4⟩ := h.read hr
    exact ⟨q x, by rw [h1, hf x h2], ho x h2, fun hw => hb x h2 (h3 hw), Nat.le_trans (hm x) h4⟩⟩
theorem rd_int {k : IntKind} (ht : P.underlying t = some (.int k)) : Rdr P W t (fun n : Int => [.int k n]) (fun n => (Lit.int k n).wf = true) (fun _ => True) (fun _ => 0) :=
  ⟨fun hr => by
    obtain ⟨n, h1, _, h2⟩ := DataW.trod_int ht hr
    exact ⟨n, h1, h2, fun _ => trivial, Nat.zero_le _⟩⟩
theorem rd_bool (ht : P.underlying t = some .bool) : Rdr P W t (fun b : Bool => [.bool b]) (fun _ => True) (fun _ => True) (fun _ => 0) :=
  ⟨fun hr => by
    obtain ⟨b, h1, _⟩ := DataW.trod_bool ht hr
    exact ⟨b, h1, trivial, fun _ => trivial, Nat.zero_le _⟩⟩
theorem rd_u64 (ht : P.underlying t = some (.int .u64)) : Rdr P W t (fun n : Nat => [.int .u64 (n : Int)]) (fun n => n < 18446744073709551616) (fun _ => True) (fun _ => 0) :=
  (rd_int ht).conv (fun n : Int => n.toNat) (fun n h => by have := bounds_u64 h; simp; omega) (fun n h => by have := bounds_u64 h; omega) (fun _ _ h => h) (fun _ => Nat.le_refl _)
theorem rd_u32 (ht : P.underlying t = some (.int .u32)) : Rdr P W t (fun n : Nat => [.int .u32 (n : Int)]) (fun n => n < 4294967296) (fun _ => True) (fun _ => 0) :=
  (rd_int ht).conv (fun n : Int => n.toNat) (fun n h => by have := bounds_u32 h; simp; omega) (fun n h => by have := bounds_u32 h; omega) (fun _ _ h => h) (fun _ => Nat.le_refl _)
theorem rd_i64 (ht : P.underlying t = some (.int .i64)) : Rdr P W t (fun n : Int => [.int .i64 n]) (fun n => -9223372036854775808 ≤ n ∧ n ≤ 9223372036854775807) (fun _ => True) (fun _ => 0) :=
  (rd_int ht).conv (fun n : Int => n) (fun n h => rfl) (fun n h => bounds_i64 h) (fun _ _ h => h) (fun _ => Nat.le_refl _)
theorem rd_bytes {n : Nat} (ht : P.underlying t = some (.array n e)) (he : P.underlying e = some (.int .u8)) (hc : P.cellsOf e = 1) (hct : P.cellsOf t = n) : Rdr P W t (fun l : List UInt8 => l.map byt) (fun l => l.length = n) (fun _ => True) (fun _ => 0) :=
  ⟨fun hr => by
    obtain ⟨xs, m, _, hxe, hcs, _⟩ := DataW.trod_array ht hr
    obtain ⟨l, h1, h2⟩ := cells_arr ht he hc (by rw [hcs, hct]) hr
    exact ⟨l, h1, h2, fun _ => trivial, Nat.zero_le _⟩⟩
theorem rds_nil : Rdrs P W [] (fun _ : Unit => []) (fun _ => True) (fun _ => True) (fun _ => 0) :=
  ⟨fun hl _ _ => ⟨(), List.length_eq_zero_iff.1 (by simpa using hl), trivial, fun _ => trivial, Nat.zero_le _⟩⟩
theorem rds_cons (h : Rdr P W t f Ok B M) (r : Rdrs P W ts g Ok' B' M') : Rdrs P W (t :: ts) (fun x : α × β => f x.1 ++ g x.2) (fun x => Ok x.1 ∧ Ok' x.2) (fun x => B x.1 ∧ B' x.2) (fun x => M x.1 + M' x.2) :=
  ⟨fun {H enc base spare held fuel cs xs} hl hx hr => by
    match xs, hx with
    | x :: xs, hx =>
      have h0 := hr 0 t rfl
      simp only [List.take_zero, List.map_nil, List.sum_nil, List.drop_zero, List.getElem?_cons_zero] at h0
      obtain ⟨a, a1, a2, a3, a4⟩ := h.read (d := x.1) (ps := x.2) h0
      simp only [List.map_cons, List.sum_cons] at hl
      obtain ⟨b, b1, b2, b3, b4⟩ := r.read (cs := cs.drop (P.cellsOf t)) (xs := xs) (by rw [List.length_drop]; omega) (by simpa using hx) (fun i t' hi => by
        have := hr (i + 1) t' hi
        simp only [List.take_succ_cons, List.map_cons, List.sum_cons, List.getElem?_cons_succ] at this
        rw [List.drop_drop]
        exact this)
      refine ⟨(a, b), ?_, ⟨a2, b2⟩, fun hw => ?_, ?_⟩
      · rw [← a1, ← b1, List.take_append_drop]
      · simp only [List.map_cons, DataW.weightsEach, List.mem_append] at hw
        exact ⟨a3 fun n hn => hw n (.inl hn), b3 fun n hn => hw n (.inr hn)⟩
      · simp only [List.map_cons, Rows.uptoBulkAll]
        omega⟩
/-- a struct -/
theorem rd_struct {fs : Array Field} (ht : P.underlying t = some (.struct fs)) (hts : fs.toList.map (·.type) = ts) (ho : fs.toList.map (·.offset) = (List.range ts.length).map fun i => ((ts.take i).map P.cellsOf).sum) (hc : P.cellsOf t = (ts.map P.cellsOf).sum) (h : Rdrs P W ts f Ok B M) : Rdr P W t f Ok B M :=
  ⟨fun {H enc base spare held fuel cs d ps} hr => by
    obtain ⟨xs, k, _, hD, hcs, hxl, hfs⟩ := DataW.trod_struct ht hr
    have hlen : fs.toList.length = ts.length := by rw [← hts, List.length_map]
    obtain ⟨x, h1, h2, h3, h4⟩ := h.read (cs := cs) (xs := xs) (by rw [hcs, hc]) (by rw [hxl, ← hlen]; simp) (fun i t' hi => by
      have hi' : i < ts.length := (List.getElem?_eq_some_iff.1 hi).1
      have hf : fs[i]? = some (fs[i]'(by rw [← Array.length_toList, hlen]; exact hi')) := Array.getElem?_eq_getElem _
      have h5 := hfs i _ hf
      have e1 : (fs[i]'(by rw [← Array.length_toList, hlen]; exact hi')).type = t' := by
        have : (fs.toList.map (·.type))[i]? = some t' := by rw [hts]; exact hi
        rw [List.getElem?_map, Array.getElem?_toList, hf] at this
        simpa using this
      have e2 : (fs[i]'(by rw [← Array.length_toList, hlen]; exact hi')).offset = ((ts.take i).map P.cellsOf).sum := by
        have : (fs.toList.map (·.offset))[i]? = some (((ts.take i).map P.cellsOf).sum) := by rw [ho, List.getElem?_map, List.getElem?_range hi']; rfl
        rw [List.getElem?_map, Array.getElem?_toList, hf] at this
        simpa using this
      rw [e1, e2] at h5
      exact h5)
    have hd : d = .agg (xs.map (·.1)) := congrArg Prod.fst hD
    refine ⟨x, h1, h2, fun hw => h3 fun n hn => hw n ?_, ?_⟩
    · rw [hd]; unfold DataW.weights; simp only [ht, hts]; exact hn
    · rw [hd]; unfold Rows.uptoBulk; omega⟩
theorem sum_le {γ : Type} (F G : γ → Nat) : ∀ l : List γ, (∀ x ∈ l, F x ≤ G x) → (l.map F).sum ≤ (l.map G).sum
  | [], _ => Nat.le_refl _
  | x :: l, h => by simp only [List.map_cons, List.sum_cons]; have := h x (by simp); have := sum_le F G l (fun y hy => h y (by simp [hy])); omega
theorem bulk_all {H : Type} : ∀ l : List (DataW H), Rows.uptoBulkAll l = (l.map Rows.uptoBulk).sum
  | [] => rfl
  | d :: r => by simp only [Rows.uptoBulkAll, List.map_cons, List.sum_cons, bulk_all r]
/-- a slice of things of many cells -/
theorem rd_slice [Inhabited α] {k nb : Nat} (ht : P.underlying t = some (.slice e)) (h : Rdr P W e f Ok B M) (hce : P.cellsOf e = k) (hk0 : 0 < k) (hb : P.bytesOf e = nb) :
    Rdr P W t (fun x : Value × List α => [x.1]) (fun x => Arr k Any W x.1 (x.2.map f) ∧ ∀ y ∈ x.2, Ok y) (fun x => x.2.length * nb ≤ 140737488351232 ∧ ∀ y ∈ x.2, B y) (fun x => (x.2.map fun y => max (M y) 1).sum) :=
  ⟨fun {H enc base spare held fuel cs d ps} hr => by
    rcases Deep.open_slice ht hr with ⟨rfl, hx⟩ | ⟨x, l, c, m, n, D, Pl, rfl, _, hl, hm, hmm, hx, hall⟩
    · simp only [Prod.mk.injEq] at hx
      exact ⟨(_, []), rfl, ⟨⟨none, 0, rfl, ⟨Nat.le_refl _, Nat.zero_le _, fun _ => rfl⟩, by simp, .inl rfl⟩, by simp⟩, fun _ => ⟨by simp, by simp⟩, by simp⟩
    · simp only [Prod.mk.injEq] at hx
      have hml : l ≤ m := by rw [hmm]; split <;> omega
      obtain ⟨X, hX⟩ := Deep.choose_lt (n := l) (p := fun i (y : α) => W.cells? base (x.add (i * k)) k = some (f y) ∧ (f y).length = k ∧ Ok y ∧ ((∀ n ∈ (D i).weights P e, n ≤ reachBytes) → B y) ∧ M y ≤ Rows.uptoBulk (D i)) (fun i hi => by
        obtain ⟨cs', h1, h2⟩ := hall i (by omega)
        rw [hce] at h1
        obtain ⟨_, hlen, _⟩ := World.cells?_some h1
        obtain ⟨y, rfl, q1, q2, q3⟩ := h.read h2
        exact ⟨y, h1, hlen, q1, q2, q3⟩)
      refine ⟨(_, (List.range l).map X), rfl, ⟨⟨some x, c, by simp, ⟨by simpa using hl, hm, fun h => by cases h⟩, ?_, ?_⟩, ?_⟩, fun hw => ⟨?_, ?_⟩, ?_⟩
      · intro z hz
        simp only [List.mem_map, List.mem_range] at hz
        obtain ⟨_, ⟨i, hi, rfl⟩, rfl⟩ := hz
        exact (hX i hi).2.1
      · by_cases h0 : l = 0
        · left; subst h0; rfl
        right
        obtain ⟨b, off, spot⟩ := x
        have h00 := (World.cells?_some (hX 0 (by omega)).1).2.2 0 hk0
        have hlen0 := (hX 0 (by omega)).2.1
        rw [List.getElem?_eq_getElem (by omega)] at h00
        have hspot : spot = none := by simpa [Addr.add] using World.cell?_spot h00
        subst hspot
        refine ⟨b, off, rfl, trivial, fun i hi j u hu => ?_⟩
        have hi' : i < l := by simpa using hi
        simp only [List.getElem_map, List.getElem_range] at hu
        have hj : j < k := by have := (List.getElem?_eq_some_iff.1 hu).1; have := (hX i hi').2.1; omega
        have := (World.cells?_some (hX i hi').1).2.2 j hj
        rw [hu] at this
        rw [← this, add_plain, add_plain]
      · intro y hy
        simp only [List.mem_map, List.mem_range] at hy
        obtain ⟨i, hi, rfl⟩ := hy
        exact (hX i hi).2.2.1
      · have := hw ((((List.range l).map D).length + ((List.range (m - l)).map fun j => D (l + j)).length) * P.bytesOf e) (by
          rw [hx.1]; unfold DataW.weights; simp only [ht]; exact List.mem_cons_self ..)
        rw [hb] at this
        simp only [reachBytes, List.length_map, List.length_range] at this ⊢
        have h9 : l * nb ≤ (l + (m - l)) * nb := Nat.mul_le_mul_right _ (by omega)
        omega
      · intro y hy
        simp only [List.mem_map, List.mem_range] at hy
        obtain ⟨i, hi, rfl⟩ := hy
        refine (hX i hi).2.2.2.1 fun n hn => hw n ?_
        rw [hx.1]; unfold DataW.weights; simp only [ht]
        refine List.mem_cons_of_mem _ (List.mem_append.2 (.inl ?_))
        have key : ∀ (L : List (DataW H)) (d : DataW H), d ∈ L → n ∈ d.weights P e → n ∈ DataW.weightsAll P e L := by
          intro L
          induction L with
          | nil => intro d hd; cases hd
          | cons a r ih =>
            intro d hd hn
            simp only [DataW.weightsAll, List.mem_append]
            rcases List.mem_cons.1 hd with rfl | hd
            · exact .inl hn
            · exact .inr (ih d hd hn)
        exact key _ (D i) (List.mem_map.2 ⟨i, List.mem_range.2 hi, rfl⟩) hn
      · rw [hx.1]
        unfold Rows.uptoBulk
        rw [bulk_all, List.map_map, List.map_map]
        have := sum_le ((fun y => max (M y) 1) ∘ X) (Rows.uptoBulk ∘ D) (List.range l) (fun i hi => by
          have h1 := (hX i (List.mem_range.1 hi)).2.2.2.2
          have h2 := Bulk.one (D i)
          simp only [Function.comp]
          omega)
        omega⟩
/-- an array of things of many cells -/
theorem rd_array {k n : Nat} (ht : P.underlying t = some (.array n e)) (h : Rdr P W e f Ok B M) (hce : P.cellsOf e = k) (hct : P.cellsOf t = n * k) :
    Rdr P W t (fun x : List α => (x.map f).flatten) (fun x => x.length = n ∧ ∀ y ∈ x, Ok y ∧ (f y).length = k) (fun x => ∀ y ∈ x, B y) (fun x => (x.map M).sum) :=
  ⟨fun {H enc base spare held fuel cs d ps} hr => by
    obtain ⟨xs, m, _, hxe, hcs, hxl, hall⟩ := DataW.trod_array ht hr
    rw [hce] at hall
    have hd : d = .agg (xs.map (·.1)) := congrArg Prod.fst hxe
    have key : ∀ (n : Nat) (cs : List Value) (xs : List (DataW H × List MemPlace)), cs.length = n * k → xs.length = n → (∀ i, i < n → DataW.trod enc P W base spare held m e ((cs.drop (i * k)).take k) = xs[i]?) →
        ∃ ys : List α, cs = (ys.map f).flatten ∧ ys.length = n ∧ (∀ y ∈ ys, Ok y ∧ (f y).length = k) ∧ ((∀ n ∈ DataW.weightsAll P e (xs.map (·.1)), n ≤ reachBytes) → ∀ y ∈ ys, B y) ∧ (ys.map M).sum ≤ Rows.uptoBulkAll (xs.map (·.1)) := by
      intro n
      induction n with
      | zero => intro cs xs hc hx _; exact ⟨[], by simpa using hc, rfl, by simp, by simp, by simp⟩
      | succ n ih =>
        intro cs xs hc hx ha
        match xs, hx with
        | x :: xs, hx =>
          have h0 := ha 0 (by omega)
          simp only [Nat.zero_mul, List.drop_zero, List.getElem?_cons_zero] at h0
          obtain ⟨y, y1, y2, y3, y4⟩ := h.read (d := x.1) (ps := x.2) h0
          have hlk : (cs.take k).length = k := by rw [List.length_take, hc, Nat.succ_mul]; omega
          obtain ⟨ys, z1, z2, z3, z4, z5⟩ := ih (cs.drop k) xs (by rw [List.length_drop, hc, Nat.succ_mul]; omega) (by simpa using hx) (fun i hi => by
            have := ha (i + 1) (by omega)
            rw [List.getElem?_cons_succ] at this
            rw [List.drop_drop, show k + i * k = (i + 1) * k by rw [Nat.succ_mul]; omega]
            exact this)
          refine ⟨y :: ys, ?_, by simp [z2], ?_, ?_, ?_⟩
          · rw [List.map_cons, List.flatten_cons, ← y1, ← z1, List.take_append_drop]
          · intro u hu
            rcases List.mem_cons.1 hu with rfl | hu
            · exact ⟨y2, by rw [← y1]; exact hlk⟩
            · exact z3 u hu
          · intro hw u hu
            simp only [List.map_cons, DataW.weightsAll, List.mem_append] at hw
            rcases List.mem_cons.1 hu with rfl | hu
            · exact y3 fun n hn => hw n (.inl hn)
            · exact z4 (fun n hn => hw n (.inr hn)) u hu
          · simp only [List.map_cons, List.sum_cons, Rows.uptoBulkAll]
            omega
    obtain ⟨ys, z1, z2, z3, z4, z5⟩ := key n cs xs (by rw [hcs, hct]) hxl hall
    refine ⟨ys, z1, ⟨z2, z3⟩, fun hw => z4 fun n hn => hw n ?_, ?_⟩
    · rw [hd]; unfold DataW.weights; simp only [ht]; exact hn
    · rw [hd]; unfold Rows.uptoBulk; omega⟩
end
/-- an argument of one cell -/
theorem arg_one {P : Program} {W : World} {t : TypeId} {α : Type} {v : α → Value} {Ok B : α → Prop} {M : α → Nat} {H : Type} {enc : TypeId × Value → H} {u : Value} {d : DataW H} {ps : List MemPlace} {held spare} {base : Nat} (h : Rdr P W t (fun x => [v x]) Ok B M) (hu : u.cells.toList = [u])
    (ht : DataW.Trod enc P W base spare held t u d ps) : ∃ x, u = v x ∧ Ok x ∧ ((∀ n ∈ d.weights P t, n ≤ reachBytes) → B x) ∧ M x ≤ Rows.uptoBulk d := by
  obtain ⟨fuel, hf⟩ := ht
  rw [hu] at hf
  obtain ⟨x, h1, h2⟩ := h.read hf
  exact ⟨x, by simpa using h1, h2⟩
/-- an argument of many cells -/
theorem arg_agg {P : Program} {W : World} {t : TypeId} {α : Type} {f : α → List Value} {Ok B : α → Prop} {M : α → Nat} {H : Type} {enc : TypeId × Value → H} {cs : Array Value} {d : DataW H} {ps : List MemPlace} {held spare} {base : Nat} (h : Rdr P W t f Ok B M)
    (ht : DataW.Trod enc P W base spare held t (.agg cs) d ps) : ∃ x, cs = (f x).toArray ∧ Ok x ∧ ((∀ n ∈ d.weights P t, n ≤ reachBytes) → B x) ∧ M x ≤ Rows.uptoBulk d := by
  obtain ⟨fuel, hf⟩ := ht
  obtain ⟨x, h1, h2⟩ := h.read hf
  exact ⟨x, by simp only [Value.cells] at h1; rw [← h1], h2⟩
theorem weights_of {P : Program} {H : Type} {ts : List TypeId} {ds : List (DataW H)} (hsz : (DataW.weightsEach P ts ds).all (· ≤ reachBytes) = true) {j : Nat} {t : TypeId} {d : DataW H} (hj : ts[j]? = some t) (hd : ds[j]? = some d) : ∀ n ∈ d.weights P t, n ≤ reachBytes := by
  intro n hn
  exact of_decide_eq_true (List.all_eq_true.1 hsz n (DataW.weights_mem_each hj hd n hn))
end Go.Proofs.Ytjdohjoljobinaa.Rdr
