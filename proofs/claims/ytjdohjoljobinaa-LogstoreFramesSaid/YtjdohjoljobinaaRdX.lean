/- How arguments read, over ways in which cells read as plain data. Program-independent; no condition. -/
import Derived.Test.YtjdohjoljobinaaRdr
import Derived.Test.YtjdohjoljobinaaRep
namespace Go.Proofs.Ytjdohjoljobinaa.Rdr
open Go Go.RowKit Mem Arr Read Reps
set_option linter.unusedVariables false

/-- cells of type t read by R -/
abbrev RdX (P : Program) (W : World) (t : TypeId) {X : Type} (R : (Nat → Prop) → World → List Value → X → Prop) (B : X → Prop) (M : X → Nat) : Prop :=
  Rdr P W t (fun y : List Value × X => y.1) (fun y => R Any W y.1 y.2) (fun y => B y.2) (fun y => M y.2)
abbrev RdXs (P : Program) (W : World) (ts : List TypeId) {X : Type} (R : (Nat → Prop) → World → List Value → X → Prop) (B : X → Prop) (M : X → Nat) : Prop :=
  Rdrs P W ts (fun y : List Value × X => y.1) (fun y => R Any W y.1 y.2) (fun y => B y.2) (fun y => M y.2)
section
variable {P : Program} {W : World} {t e : TypeId} {ts : List TypeId} {X Y : Type} {R : (Nat → Prop) → World → List Value → X → Prop} {R' : (Nat → Prop) → World → List Value → Y → Prop} {B : X → Prop} {B' : Y → Prop} {M : X → Nat} {M' : Y → Nat}
theorem rx_of {f : X → List Value} {Ok : X → Prop} (h : Rdr P W t f Ok B M) (hr : ∀ x, Ok x → R Any W (f x) x) : RdX P W t R B M :=
  ⟨fun hd => by
    obtain ⟨x, h1, h2, h3, h4⟩ := h.read hd
    exact ⟨(f x, x), h1, hr x h2, h3, h4⟩⟩
theorem rx_u64 (ht : P.underlying t = some (.int .u64)) : RdX P W t RU64 (fun _ => True) (fun _ => 0) := rx_of (rd_u64 ht) (fun x h => ⟨h, rfl⟩)
theorem rx_u32 (ht : P.underlying t = some (.int .u32)) : RdX P W t RU32 (fun _ => True) (fun _ => 0) := rx_of (rd_u32 ht) (fun x h => ⟨h, rfl⟩)
theorem rx_i64 (ht : P.underlying t = some (.int .i64)) : RdX P W t RI64 (fun _ => True) (fun _ => 0) := rx_of (rd_i64 ht) (fun x h => ⟨h, rfl⟩)
theorem rx_bool (ht : P.underlying t = some .bool) : RdX P W t RBool (fun _ => True) (fun _ => 0) := rx_of (rd_bool ht) (fun x h => ⟨h, rfl⟩)
theorem rx_dgs {n : Nat} (ht : P.underlying t = some (.array n e)) (he : P.underlying e = some (.int .u8)) (hc : P.cellsOf e = 1) (hct : P.cellsOf t = n) : RdX P W t (RDgs n) (fun _ => True) (fun _ => 0) := rx_of (rd_bytes ht he hc hct) (fun x h => ⟨h, rfl⟩)
theorem rx_sl [Inhabited X] {k nb : Nat} (ht : P.underlying t = some (.slice e)) (h : RdX P W e R B M) (hce : P.cellsOf e = k) (hk0 : 0 < k) (hb : P.bytesOf e = nb) :
    RdX P W t (RSl k R) (fun xs => xs.length * nb ≤ 140737488351232 ∧ ∀ y ∈ xs, B y) (fun xs => (xs.map fun y => max (M y) 1).sum) :=
  ⟨fun hd => by
    obtain ⟨x, h1, h2, h3, h4⟩ := (rd_slice ht h hce hk0 hb).read hd
    refine ⟨([x.1], x.2.map (·.2)), h1, ⟨x.1, rfl, x.2.map (·.1), h2.1, All2.ofMap (·.1) (·.2) x.2 h2.2⟩, fun hw => ⟨by simpa using (h3 hw).1, fun y hy => ?_⟩, ?_⟩
    · obtain ⟨z, hz, rfl⟩ := List.mem_map.1 hy
      exact (h3 hw).2 z hz
    · simpa [List.map_map, Function.comp_def] using h4⟩
theorem rxs_one (h : RdX P W t R B M) : RdXs P W [t] R B M :=
  ⟨fun hl hx hr => by
    obtain ⟨x, h1, h2, h3, h4⟩ := (rds_cons h rds_nil).read hl hx hr
    exact ⟨x.1, by simpa using h1, h2.1, fun hw => (h3 hw).1, by simpa using h4⟩⟩
theorem rxs_cons (h : RdX P W t R B M) (r : RdXs P W ts R' B' M') : RdXs P W (t :: ts) (PairR R R') (fun x => B x.1 ∧ B' x.2) (fun x => M x.1 + M' x.2) :=
  ⟨fun hl hx hr => by
    obtain ⟨x, h1, h2, h3, h4⟩ := (rds_cons h r).read hl hx hr
    exact ⟨(x.1.1 ++ x.2.1, (x.1.2, x.2.2)), h1, ⟨_, _, rfl, h2.1, h2.2⟩, h3, h4⟩⟩
/-- a slice of bytes -/
theorem rx_by (ht : P.underlying t = some (.slice e)) (he : P.underlying e = some (.int .u8)) (hc : P.cellsOf e = 1) (hb : P.bytesOf e = 1) : RdX P W t RBy (fun l => l.length ≤ 140737488351232) List.length :=
  ⟨fun hd => by
    obtain ⟨x, h1, h2, h3, h4⟩ := (rd_slice ht (rd_int he) hc (by decide) hb).read hd
    have hn : ∀ y ∈ x.2, 0 ≤ y ∧ y ≤ 255 := fun y hy => by
      have := h2.2 y hy
      have e1 : IntKind.u8.min = 0 := by kernel_rfl
      have e2 : IntKind.u8.max = 255 := by kernel_rfl
      simp only [Lit.wf, e1, e2, decide_eq_true_eq, Bool.and_eq_true] at this
      exact this
    have hbyt : ∀ y : Int, 0 ≤ y ∧ y ≤ 255 → Mem.byt (UInt8.ofNat y.toNat) = .int .u8 y := fun y hy => by
      show Value.int .u8 ((UInt8.ofNat y.toNat).toNat : Int) = _
      rw [UInt8.toNat_ofNat']
      congr 1
      omega
    obtain ⟨a, c, hv, hc3, hlen, hm⟩ := h2.1
    refine ⟨([x.1], x.2.map fun y => UInt8.ofNat y.toNat), h1, ⟨x.1, rfl, a, c, by simpa using hv, by simpa using hc3, ?_⟩, fun hw => by simpa using (h3 hw).1, ?_⟩
    · rcases hm with hm | ⟨b, off, rfl, hd2, hr⟩
      · left; simpa using hm
      · right
        refine ⟨b, off, rfl, hd2, fun i hi => ?_⟩
        have hi' : i < x.2.length := by simpa using hi
        have := hr i (by simpa using hi') 0 (.int .u8 (x.2[i]'hi')) (by simp)
        rw [Nat.mul_one, Nat.add_zero] at this
        rw [this]
        simp only [List.getElem_map]
        rw [← hbyt _ (hn _ (List.getElem_mem hi'))]
    · have key : ∀ l : List Int, l.length ≤ (l.map fun y : Int => max 0 1).sum := by
        intro l
        induction l with
        | nil => simp
        | cons a r ih => simp at ih ⊢; omega
      have := key x.2
      simp only [List.length_map]
      omega⟩
end
end Go.Proofs.Ytjdohjoljobinaa.Rdr
