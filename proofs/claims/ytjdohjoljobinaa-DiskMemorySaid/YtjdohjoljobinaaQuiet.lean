/- Words for regions that draw their order and hold calls that make memory, for texts of bytes and for arrays of bytes that are compared. Program-independent; no condition. -/
import Derived.Test.YtjdohjoljobinaaMem2
import Derived.Deep.QuietTactic
import Derived.ChangeKeysEq
import Derived.Laws.StructEq
import Derived.Laws.BytesArg
import Derived.BigFrame
namespace Go.Proofs.Ytjdohjoljobinaa.Mem
open Go Go.RowKit

/-- the text of some bytes -/
def str (l : List UInt8) : ByteArray := ⟨l.toArray⟩
theorem str_inj {l m : List UInt8} : (str l == str m) = (l == m) := by
  show ByteArray.beq _ _ = _
  simp [ByteArray.beq, str]
theorem strOfNums_byt (l : List UInt8) : strOfNums (l.map fun c => (c.toNat : Int)) = str l := by
  unfold strOfNums str
  congr 2
  rw [List.map_map]
  conv => rhs; rw [← List.map_id l]
  apply List.map_congr_left
  intro c _
  simp
theorem run_convert_byt {P : Program} {D : Nat → Prop} {w : World} {v : Value} {l : List UInt8} (h : Byt D w v l) {src dst e : TypeId} (hs : P.underlying src = some (.slice e)) (he : P.underlying e = some (.int .u8)) (hd : P.underlying dst = some .string) :
    (convert src dst v).run P w = .ok (.string (str l)) w := by
  obtain ⟨a, cap, rfl, hk, h⟩ := h
  rcases h with rfl | ⟨b, off, rfl, _, hl⟩
  · rw [run_convert_bytes_string w src dst e _ _ _ hs he hd]
    cases a
    · simp [Conv.bytesToString]; rfl
    · simp [Conv.bytesToString, loadCells, loadCellsFrom]; rfl
  · rw [← strOfNums_byt]
    exact run_convert_bytes_arg (P := P) w src e hs he b off _ cap _ (by simp) (fun i hi => by rw [hl i hi]; simp [List.getD, hi]) dst hd

theorem run_part_u8 {P : Program} {e : TypeId} (he : P.underlying e = some (.int .u8)) (w : World) (l : List UInt8) (i : Nat) (hi : i < l.length) : (part e (l.map byt).toArray i).run P w = .ok (byt (l[i]'hi)) w := by
  have hagg : (isAgg e).run P w = .ok false w := by
    unfold isAgg
    rw [Sem.run_bind, run_underlying he w]
    rfl
  simp [part, Sem.run_bind, hagg, hi]
theorem run_eqItems_u8 {P : Program} (d : Nat) {e : TypeId} (he : P.underlying e = some (.int .u8)) (w : World) (l m : List UInt8) : ∀ is : List Nat, (∀ i ∈ is, i < l.length ∧ i < m.length) →
    (Op.eqItems (d + 1) e 1 (l.map byt).toArray (m.map byt).toArray is).run P w = .ok (is.all fun i => l[i]? == m[i]?) w
  | [], _ => by simp [Op.eqItems]
  | i :: is, h => by
    obtain ⟨h1, h2⟩ := h i (by simp)
    have ih := run_eqItems_u8 d he w l m is (fun j hj => h j (by simp [hj]))
    have hq : ((((l[i]'h1).toNat : Int) == ((m[i]'h2).toNat : Int))) = (l[i]? == m[i]?) := by
      rw [List.getElem?_eq_getElem h1, List.getElem?_eq_getElem h2, Bool.eq_iff_iff, beq_iff_eq, beq_iff_eq, Option.some.injEq]
      constructor
      · intro h; apply UInt8.toNat_inj.1; omega
      · intro h; rw [h]
    simp only [Op.eqItems, Sem.run_bind, Nat.mul_one, run_part_u8 he w l i h1, run_part_u8 he w m i h2, Result.andThen_ok, run_equalIn_int w d e .u8 .u8 _ _ he, hq]
    by_cases hc : (l[i]? == m[i]?) = true
    · simp only [hc]; simpa [hc] using ih
    · simp only [Bool.not_eq_true] at hc; simp [hc]
theorem all_range (l m : List UInt8) (n : Nat) (h1 : l.length = n) (h2 : m.length = n) : ((List.range n).all fun i => l[i]? == m[i]?) = (l == m) := by
  rw [Bool.eq_iff_iff, List.all_eq_true, beq_iff_eq]
  constructor
  · intro h
    apply List.ext_getElem?
    intro i
    by_cases hi : i < n
    · simpa using h i (by simpa using hi)
    · rw [List.getElem?_eq_none (by omega), List.getElem?_eq_none (by omega)]
  · rintro rfl i _; simp
theorem run_equal_u8 {P : Program} {t e : TypeId} {n : Nat} {i : TypeInfo} (hu : P.underlying t = some (.array n e)) (hi : P.info? e = some i) (hc : P.cellsOf e = 1) (he : P.underlying e = some (.int .u8)) (w : World) (l m : List UInt8) (h1 : l.length = n) (h2 : m.length = n) :
    (Op.equalIn 10000 t (.agg (l.map byt).toArray) (.agg (m.map byt).toArray)).run P w = .ok (l == m) w := by
  have h := run_equalIn_array (P := P) (w := w) (9998 + 1) (l.map byt).toArray (m.map byt).toArray hu hi
  have h3 := run_eqItems_u8 (P := P) 9998 he w l m (List.range n) (fun j hj => by have := List.mem_range.1 hj; omega)
  rw [all_range l m n h1 h2] at h3
  rw [show (10000 : Nat) = 9998 + 1 + 1 from rfl, h, hc, h3]
theorem run_eql_u8 {P : Program} {t e : TypeId} {n : Nat} {i : TypeInfo} (hu : P.underlying t = some (.array n e)) (hi : P.info? e = some i) (hc : P.cellsOf e = 1) (he : P.underlying e = some (.int .u8)) (w : World) (l m : List UInt8) (h1 : l.length = n) (h2 : m.length = n) :
    (binOp .eql t (.agg (l.map byt).toArray) (.agg (m.map byt).toArray)).run P w = .ok (.bool (l == m)) w := by
  rw [run_eql_struct, run_equal_u8 hu hi hc he w l m h1 h2, Result.andThen_ok]
theorem run_neq_u8 {P : Program} {t e : TypeId} {n : Nat} {i : TypeInfo} (hu : P.underlying t = some (.array n e)) (hi : P.info? e = some i) (hc : P.cellsOf e = 1) (he : P.underlying e = some (.int .u8)) (w : World) (l m : List UInt8) (h1 : l.length = n) (h2 : m.length = n) :
    (binOp .neq t (.agg (l.map byt).toArray) (.agg (m.map byt).toArray)).run P w = .ok (.bool (!(l == m))) w := by
  rw [run_neq_struct, run_equal_u8 hu hi hc he w l m h1 h2, Result.andThen_ok]

/-- a whole row is loaded, guarded or not -/
theorem wpList_load_cs {P : Program} {ops : Array Oper} {rest : List Oper} {o : Oper} {a : Act} {w : World} {Q : Exit → Act → World → Prop} (hw : Region.wanted o (yielded ops a.tmps) = true) (ty : TypeId) (x : Operand) (ho : o.op = .load ty x)
    (g : Nat) (l : List Value) (hx : a.eval x = .pointer (some ⟨g, 0, none⟩)) {t : TypeId} (hB : Blk w g l t) (d : TypeDesc) (hu : P.underlying ty = some d)
    (hd : (match d with | .struct _ | .array _ _ => true | _ => false) = true) (hi : (P.info? ty).map (·.size) = some l.length) (cs : Array Value) (hcs : l.toArray = cs)
    (h : wpList P ops Q rest (a.put o.dst (.agg cs)) w) : wpList P ops Q (o :: rest) a w := by
  subst hcs
  exact BigFrame.wpList_want hw (fun K hK => wp_load_row ty x ho g hx t l.toArray (0, 0) d hB hu hd (by simpa using hi) (hK _ _ h))

/-- a world behind w0 that has the blocks under B as w0 has them -/
structure Later (B : Nat) (w0 : World) where
  w : World
  h : Below B w0 w
instance (B : Nat) (w0 : World) : Nonempty (Later B w0) := ⟨⟨w0, Below.refl _ _⟩⟩
def IsLater (B : Nat) (w0 w' : World) : Prop := ∃ x : Later B w0, w' = x.w
theorem run_loadVar_blk {P : Program} {w : World} {g : Nat} {l : List Value} {t ty : TypeId} (hB : Blk w g l t) (d : TypeDesc) (hu : P.underlying ty = some d)
    (hd : (match d with | .struct _ | .array _ _ => true | _ => false) = true) (hi : (P.info? ty).map (·.size) = some l.length) :
    (loadVar ty ⟨g, 0, none⟩).run P w = .ok (.agg l.toArray) w := run_loadVar_row w g t ty l.toArray (0, 0) d hB hu hd (by simpa using hi)

theorem wp_region_later {P : Program} {id : Nat} {Q : Exit → Act → World → Prop} {a : Act} {w : World} {l : List Oper} (B : Nat) (w0 : World) (hm : P.follows .mixedOrders = true) (hL : Region.lexB .any l.toArray = true) (hC : Below B w0 w)
    (h : wpQuiet P l.toArray (fun w' => ∃ x : Later B w0, w' = x.w) (fun a' => ∀ x : Later B w0, Q .normal a' x.w) l a) : (Code.region id l.toArray true).wp P Q a w :=
  wp_region_quiet (C := fun w' => ∃ x : Later B w0, w' = x.w) hm hL ⟨⟨_, hC.drew⟩, rfl⟩ (by
    have e : (fun a' => ∀ w', (∃ x : Later B w0, w' = x.w) → Q .normal a' w') = (fun a' => ∀ x : Later B w0, Q .normal a' x.w) := by
      funext a'; exact propext ⟨fun h x => h _ ⟨x, rfl⟩, fun h _ ⟨x, hx⟩ => hx ▸ h x⟩
    rw [e]
    simpa using h)
section
variable {P : Program} {ops : Array Oper} {C : World → Prop} {Q : Act → Prop} {a : Act} {o : Oper} {rest : List Oper}
theorem wpQuiet_val (hw : Region.wanted o (yielded ops a.tmps) = true) (u : Value) (h : ∀ w, C w → (execOp a.eval o).run P w = .ok (.value u) w) (hn : wpQuiet P ops C Q rest (a.put o.dst u)) : wpQuiet P ops C Q (o :: rest) a := by
  refine wpQuiet_step fun K hK => ?_
  rw [if_pos hw]
  refine ⟨u, fun w hC => ?_, hK _ hn⟩
  unfold Oper.quietAt
  rw [h w hC]
  exact ⟨rfl, rfl⟩
theorem wpQuiet_row (hw : Region.wanted o (yielded ops a.tmps) = true) (ty : TypeId) (x : Operand) (ho : o.op = .load ty x)
    (g : Nat) (l : List Value) (hx : a.eval x = .pointer (some ⟨g, 0, none⟩)) (t : TypeId) (hB : ∀ w, C w → Blk w g l t) (d : TypeDesc) (hu : P.underlying ty = some d)
    (hd : (match d with | .struct _ | .array _ _ => true | _ => false) = true) (hi : (P.info? ty).map (·.size) = some l.length)
    (cs : Array Value) (hcs : l.toArray = cs) (hn : wpQuiet P ops C Q rest (a.put o.dst (.agg cs))) : wpQuiet P ops C Q (o :: rest) a := by
  subst hcs
  refine wpQuiet_val hw _ (fun w hC => ?_) hn
  unfold execOp
  simp only [ho, hx, Instr.loadAt, Instr.sureAddr, Sem.run_bind, Sem.run_pure, Result.andThen_ok, run_loadVar_blk (hB w hC) d hu hd hi]
end
end Go.Proofs.Ytjdohjoljobinaa.Mem
