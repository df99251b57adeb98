/- How arguments read: a slice whose elements are one cell each (a slice of slices of bytes); a string. Program-independent; no condition. Walks of Tagged, the program's and the reference's. Condition: the texts together, and the name, are of at most 2^40 bytes. Headers of the main chain: their bytes, their ids. In plain Lean. Walks of the wire's mainHeader, written, MainHeader and MainId, the program's and the reference's. Conditions: a header as it reads; for the ids: the tables are laid. Words for maps whose keys are of one kind: what they hold, in the order in which it was laid in; a lookup, a store, the length. Program-independent; no condition. Words for slices of values of the call's own: what they hold, and what append does. Program-independent; no condition. -/
import Derived.Test.YtmenchnjajpkmaaGreatDoorEvia
import Derived.Test.YtmenchnjajpkmaaGreatDoorEvic
import Derived.Deep.Slices
import Derived.Test.YtmenchnjajpkmaaGreatDoorEvib
import Derived.Maps.OwnSet
import Derived.Maps.OwnOps
import Derived.DeepKeys4
import Derived.OrdersHeld
import Derived.OwnWalkIn
section
namespace Go.Proofs.YtmenchnjajpkmaaGreatDoor.Mem
open Go Go.RowKit
/-- a slice whose elements are one cell each: S says of each cell what it is -/
def RowsOf {α : Type} (S : World → Value → α → Prop) (w : World) (v : Value) (xs : List α) : Prop :=
  ∃ a cap, v = .slice a xs.length cap ∧ (xs.length ≤ cap ∧ cap ≤ maxLen ∧ (a = none → cap = 0)) ∧ (xs = [] ∨ ∃ b off, a = some ⟨b, off, none⟩ ∧ ∀ i (h : i < xs.length), ∃ c, w.cell? ⟨b, off + i, none⟩ = some c ∧ S w c (xs[i]'h))
theorem RowsOf.fr {α : Type} {S : World → Value → α → Prop} {w w' : World} {v : Value} {xs : List α} (h : RowsOf S w v xs) (hb : Below w.heap.size w w') (hS : ∀ c x, S w c x → S w' c x) : RowsOf S w' v xs := by
  obtain ⟨a, cap, rfl, hk, h⟩ := h
  refine ⟨a, cap, rfl, hk, h.imp_right ?_⟩
  rintro ⟨b, off, rfl, hc⟩
  refine ⟨b, off, rfl, fun i hi => ?_⟩
  obtain ⟨c, h1, h2⟩ := hc i hi
  exact ⟨c, (World.cell?_of_block (w := w) (hb.block b (World.block_lt_of_cell? w _ h1))).trans h1, hS c _ h2⟩
abbrev Byts (w : World) (v : Value) (ls : List (List UInt8)) : Prop := RowsOf (Byt Any) w v ls
theorem Byts.below {w w' : World} {v : Value} {ls : List (List UInt8)} (h : Byts w v ls) (hb : Below w.heap.size w w') : Byts w' v ls := h.fr hb (fun _ _ h => h.below hb)
theorem Byts.cell {w : World} {a : Option Addr} {n cap : Nat} {ls : List (List UInt8)} (h : Byts w (.slice a n cap) ls) (i : Nat) (hi : i < ls.length) :
    ∃ b off c ec, a = some ⟨b, off, none⟩ ∧ w.cell? ⟨b, off + i, none⟩ = some (.slice c (ls[i]'hi).length ec) ∧ Byt Any w (.slice c (ls[i]'hi).length ec) (ls[i]'hi) := by
  obtain ⟨a', cap', he, _, h⟩ := h
  cases he
  rcases h with rfl | ⟨b, off, rfl, hc⟩
  · simp at hi
  · obtain ⟨c, h1, h2⟩ := hc i hi
    obtain ⟨x, y, rfl, _⟩ := id h2
    exact ⟨b, off, x, y, rfl, h1, h2⟩
end Go.Proofs.YtmenchnjajpkmaaGreatDoor.Mem
namespace Go.Proofs.YtmenchnjajpkmaaGreatDoor.Bulk
open Go
variable {H : Type}
theorem eachLe {α : Type} (T : DataW H → α → Prop) (f : α → Nat) (hT : ∀ d x, T d x → f x ≤ Rows.uptoBulk d) : ∀ (els : List (DataW H)) (xs : List α), els.length = xs.length → (∀ i (h1 : i < els.length) (h2 : i < xs.length), T els[i] xs[i]) → (xs.map f).sum ≤ Rows.uptoBulkAll els
  | [], [], _, _ => by simp [Rows.uptoBulkAll]
  | d :: r, x :: xs, hl, h => by
    have h1 := hT d x (h 0 (by simp) (by simp))
    have h2 := eachLe T f hT r xs (by simpa using hl) (fun i h1 h2 => h (i + 1) (by simpa using h1) (by simpa using h2))
    simp only [Rows.uptoBulkAll, List.map_cons, List.sum_cons]
    omega
  | [], _ :: _, hl, _ => by simp at hl
  | _ :: _, [], hl, _ => by simp at hl
theorem rows {α : Type} (T : DataW H → α → Prop) (f : α → Nat) (hT : ∀ d x, T d x → f x ≤ Rows.uptoBulk d) {d : DataW H} {xs : List α}
    (h : (d = .nil ∧ xs = []) ∨ ∃ els sp, d = .slice els sp ∧ els.length = xs.length ∧ ∀ i (h1 : i < els.length) (h2 : i < xs.length), T els[i] xs[i]) : (xs.map f).sum + 1 ≤ Rows.uptoBulk d ∧ xs.length + 1 ≤ Rows.uptoBulk d := by
  rcases h with ⟨rfl, rfl⟩ | ⟨el, sp, rfl, hl, hx⟩
  · simp [Rows.uptoBulk]
  · have h1 := eachLe T f hT el xs hl hx
    have h2 := all el
    simp only [Rows.uptoBulk]
    omega
theorem str (b : ByteArray) : b.size + 1 ≤ Rows.uptoBulk (.lit (.string b.data.toList) : DataW H) := by
  simp only [Rows.uptoBulk, Array.length_toList]
  exact Nat.le_refl _
end Go.Proofs.YtmenchnjajpkmaaGreatDoor.Bulk
namespace Go.Proofs.YtmenchnjajpkmaaGreatDoor.Read
open Go Go.RowKit Go.ChangeShapes Go.WideShapes Mem
variable {H : Type} {enc : TypeId × Value → H} {P : Program} {W : World}

/-- what the data of some bytes is -/
def BytesAre (d : DataW H) (l : List UInt8) : Prop := (d = .nil ∧ l = []) ∨ ∃ el sp, d = .slice el sp ∧ el.length = l.length
theorem cell_bytes {e : TypeId} {t : TypeId} {v : Value} {d : DataW H} {ps : List MemPlace} {held spare} {base n : Nat} (ht : P.underlying t = some (.slice e)) (he : P.underlying e = some (.int .u8)) (hc : P.cellsOf e = 1)
    (h : DataW.trod enc P W base spare held n t [v] = some (d, ps)) : ∃ l, Byt Any W v l ∧ BytesAre d l := by
  rcases open_ints ht he hc h with ⟨hcs, hx⟩ | ⟨x, l, c, zs, hcs, _, hl, hm, hz, hx, hcell, hwz⟩
  · simp only [List.cons.injEq, and_true] at hcs
    subst hcs
    simp only [Prod.mk.injEq] at hx
    exact ⟨[], Byt.nil _ _, .inl ⟨hx.1, rfl⟩⟩
  · simp only [List.cons.injEq, and_true] at hcs
    subst hcs
    have hval : Value.okWide P W .any 0 t (.slice (some x) l c) ∨ True := .inr trivial
    clear hval
    simp only [Prod.mk.injEq] at hx
    have hzl : l ≤ zs.length := by rw [hz]; split <;> omega
    have hlen : ((zs.take l).map u8of).length = l := by simp; omega
    refine ⟨(zs.take l).map u8of, ⟨some x, c, by rw [hlen], ⟨by omega, hm, fun h => by cases h⟩, ?_⟩, .inr ⟨_, _, hx.1, by simp [lits]⟩⟩
    by_cases h0 : l = 0
    · left; subst h0; rfl
    · right
      obtain ⟨b, off, rfl, hc2⟩ := ints_at hcell (by omega)
      refine ⟨b, off, rfl, trivial, fun i hi => ?_⟩
      have hi2 : i < l := by omega
      have h3 := hc2 i (by omega)
      rw [h3]
      have hw := hwz (zs[i]'(by omega)) (List.getElem_mem _)
      simp [u8of_eq hw, List.getElem?_eq_getElem (show i < zs.length by omega)]
/-- a slice whose elements are one cell each -/
theorem read_rows {α : Type} [Inhabited α] {S : World → Value → α → Prop} {T : DataW H → α → Prop} {t e : TypeId} {v : Value} {d : DataW H} {ps : List MemPlace} {held spare} {base b0 : Nat} (ht : P.underlying t = some (.slice e)) (hc : P.cellsOf e = 1)
    (hS : ∀ n v d pl, DataW.trod enc P W base spare held n e [v] = some (d, pl) → ∃ x, S W v x ∧ T d x)
    (hval : Value.okWide P W .any b0 t v) (h : DataW.Trod enc P W base spare held t v d ps) :
    ∃ xs, RowsOf S W v xs ∧ ((d = .nil ∧ xs = []) ∨ ∃ els sp, d = .slice els sp ∧ els.length = xs.length ∧ ∀ i (h1 : i < els.length) (h2 : i < xs.length), T els[i] xs[i]) := by
  obtain ⟨a, len, cap, rfl⟩ := okWide_slice ht hval
  obtain ⟨fuel, hf⟩ := h
  rcases Deep.open_slice1 ht hc hf with ⟨hcs, hx⟩ | ⟨x, l, c, m, n, V, D, Pl, hcs, _, hl, hm, hmm, hx, hall⟩
  · simp only [Value.cells, List.cons.injEq, and_true] at hcs
    obtain ⟨rfl, rfl, rfl⟩ : a = none ∧ len = 0 ∧ cap = 0 := by simpa using hcs
    simp only [Prod.mk.injEq] at hx
    exact ⟨[], ⟨none, 0, rfl, ⟨Nat.le_refl _, Nat.zero_le _, fun _ => rfl⟩, .inl rfl⟩, .inl ⟨hx.1, rfl⟩⟩
  · obtain ⟨rfl, rfl, rfl⟩ : a = some x ∧ len = l ∧ cap = c := by simpa [Value.cells] using hcs
    simp only [Prod.mk.injEq] at hx
    have hml : len ≤ m := by rw [hmm]; split <;> omega
    obtain ⟨X, hX⟩ := Deep.choose_lt (n := len) (p := fun i y => S W (V i) y ∧ T (D i) y) (fun i hi => hS n (V i) (D i) (Pl i) (hall i (by omega)).2)
    refine ⟨(List.range len).map X, ⟨some x, cap, by simp, ⟨by simpa using hl, hm, fun h => by cases h⟩, ?_⟩, .inr ⟨_, _, hx.1, by simp, fun i h1 h2 => by
      have hi : i < len := by simpa using h1
      simpa using (hX i hi).2⟩⟩
    by_cases h0 : len = 0
    · left; subst h0; rfl
    · right
      obtain ⟨b, off, spot⟩ := x
      have h00 := (hall 0 (by omega)).1
      have hspot : spot = none := by simpa [Addr.add] using World.cell?_spot h00
      subst hspot
      refine ⟨b, off, rfl, fun i hi => ?_⟩
      have hi : i < len := by simpa using hi
      refine ⟨V i, ?_, by simpa using (hX i hi).1⟩
      rw [← add_plain]
      exact (hall i (by omega)).1
theorem read_bytess {t e f : TypeId} {v : Value} {d : DataW H} {ps : List MemPlace} {held spare} {base b0 : Nat} (ht : P.underlying t = some (.slice e)) (he : P.underlying e = some (.slice f)) (hf : P.underlying f = some (.int .u8)) (hce : P.cellsOf e = 1) (hcf : P.cellsOf f = 1)
    (hval : Value.okWide P W .any b0 t v) (h : DataW.Trod enc P W base spare held t v d ps) :
    ∃ xs, Byts W v xs ∧ ((d = .nil ∧ xs = []) ∨ ∃ els sp, d = .slice els sp ∧ els.length = xs.length ∧ ∀ i (h1 : i < els.length) (h2 : i < xs.length), BytesAre els[i] xs[i]) :=
  read_rows ht hce (fun _ _ _ _ hh => cell_bytes he hf hcf hh) hval h
end Go.Proofs.YtmenchnjajpkmaaGreatDoor.Read
end

section
namespace Go.Proofs.YtmenchnjajpkmaaGreatDoor.ShaW
open Go Go.RowKit Mem Sha

theorem flat_le (ls : List (List UInt8)) (n : Nat) : ((ls.take n).flatten).length ≤ (ls.map List.length).sum := by
  rw [List.length_flatten]
  conv => rhs; rw [← List.take_append_drop n ls, List.map_append, List.sum_append]
  omega
theorem flat_succ (ls : List (List UInt8)) (n : Nat) (h : n < ls.length) : (ls.take (n + 1)).flatten = (ls.take n).flatten ++ ls[n] := by
  rw [List.take_add_one, List.getElem?_eq_getElem h, List.flatten_append]
  simp only [Option.toList_some, List.flatten_cons, List.flatten_nil, List.append_nil]
def tagged (s : ByteArray) (ls : List (List UInt8)) : List UInt8 := sha (sha s.data.toList ++ sha s.data.toList ++ ls.flatten)
theorem tagged_length (s : ByteArray) (ls : List (List UInt8)) : (tagged s ls).length = 32 := sha_length _

set_option maxHeartbeats 4000000 in
set_option maxRecDepth 100000 in
theorem tagged_calls (w : World) (s : ByteArray) (va : Value) (ls : List (List UInt8)) (hA : Byts w va ls) (hs : s.size ≤ 1099511627776) (hl : (ls.map List.length).sum ≤ 140737488351232) (hn : ls.length ≤ 1099511627776) (hT : TabB w 1) :
    Calls Tryz.prog 33 #[.string s, va] w fun e w' => e = .returned (.agg ((tagged s ls).map byt).toArray) ∧ Below w.heap.size w w' := by
  obtain ⟨a1, a2, rfl, hka, _⟩ := id hA
  have hg1 : 1 < w.heap.size := (Array.getElem?_eq_some_iff.1 hT.choose_spec.choose_spec).1
  have kc := fun w => Lib.run_convert_string_bytes (P := Tryz.prog) w 9 25 5 s Tryz.underlying9 Tryz.underlying25 Tryz.underlying5
  have HA := Lib.hid hA
  have HT := Lib.hid hT
  have HSUM := Lib.hid hl
  have H0 := Lib.hid (new32 w)
  have HB0 := Lib.hid (show Below w.heap.size w (w.alloc (.cells #[.int .u8 0, .int .u8 0, .int .u8 0, .int .u8 0, .int .u8 0, .int .u8 0, .int .u8 0, .int .u8 0, .int .u8 0, .int .u8 0, .int .u8 0, .int .u8 0, .int .u8 0, .int .u8 0, .int .u8 0, .int .u8 0, .int .u8 0, .int .u8 0, .int .u8 0, .int .u8 0, .int .u8 0, .int .u8 0, .int .u8 0, .int .u8 0, .int .u8 0, .int .u8 0, .int .u8 0, .int .u8 0, .int .u8 0, .int .u8 0, .int .u8 0, .int .u8 0] 24)) from (Below.refl _ _).alloc (Nat.le_refl _) _)
  have hs0 : (w.alloc (.cells #[.int .u8 0, .int .u8 0, .int .u8 0, .int .u8 0, .int .u8 0, .int .u8 0, .int .u8 0, .int .u8 0, .int .u8 0, .int .u8 0, .int .u8 0, .int .u8 0, .int .u8 0, .int .u8 0, .int .u8 0, .int .u8 0, .int .u8 0, .int .u8 0, .int .u8 0, .int .u8 0, .int .u8 0, .int .u8 0, .int .u8 0, .int .u8 0, .int .u8 0, .int .u8 0, .int .u8 0, .int .u8 0, .int .u8 0, .int .u8 0, .int .u8 0, .int .u8 0] 24)).heap.size = w.heap.size + 1 := by simp
  clear hA hT hl
  go_enter Tryz.func33, Tryz.ntmps33
  go_upto_region 1 with fail
  generalize (w.alloc (.cells #[.int .u8 0, .int .u8 0, .int .u8 0, .int .u8 0, .int .u8 0, .int .u8 0, .int .u8 0, .int .u8 0, .int .u8 0, .int .u8 0, .int .u8 0, .int .u8 0, .int .u8 0, .int .u8 0, .int .u8 0, .int .u8 0, .int .u8 0, .int .u8 0, .int .u8 0, .int .u8 0, .int .u8 0, .int .u8 0, .int .u8 0, .int .u8 0, .int .u8 0, .int .u8 0, .int .u8 0, .int .u8 0, .int .u8 0, .int .u8 0, .int .u8 0, .int .u8 0] 24)) = w0 at *
  go_wp2_with fail
  have hsl : s.data.toList.length = s.size := by rw [Array.length_toList]; rfl
  have hb1 := below_bytes w0 5 s
  have hby := byt_bytes (D := Any) w0 5 s (by unfold maxLen; omega) trivial
  rw [hs0] at hby
  refine (of_calls _ Any _ s.data.toList hby (by omega) (HT.out.below (HB0.out.trans (hb1.mono (by omega))))).mono ?_
  rintro e w2 ⟨rfl, hb2⟩
  have hz1 := hb1.size
  have hz2 := hb2.size
  have HB2 := Lib.hid (HB0.out.trans ((hb1.mono (by omega)).trans (hb2.mono (by omega))))
  have HD2 := Lib.hid ((H0.out.below hb1).below hb2)
  have hs2 : w.heap.size < w2.heap.size := by omega
  have hdl : (sha s.data.toList).length = 32 := sha_length _
  have HE := Lib.hid (show tagged s ls = sha (sha s.data.toList ++ sha s.data.toList ++ ls.flatten) from rfl)
  clear hb1 hb2 hby kc H0 HB0 hz1 hz2
  generalize sha s.data.toList = dg at *
  have HN := Lib.hid (new32 w2)
  have HONE := Lib.hid (one_cells dg)
  go_upto_region 2 with (first | (with_reducible refine wpList_store_blk rfl _ _ _ rfl w2.heap.size (dg.map byt) _ rfl _ rfl rfl HN.out (by kernel_rfl) (by simp [hdl]) HONE.out ?_))
  obtain ⟨h3, hm3⟩ := made32 w2 dg
  have hs3 := h3.lt
  have HB3 := Lib.hid (HB2.out.trans (hm3.mono (by omega)))
  have HD3 := Lib.hid (HD2.out.below hm3)
  have H3 := Lib.hid h3
  clear hm3 h3 HN HB2 HD2
  generalize (w2.alloc (.cells #[.int .u8 0, .int .u8 0, .int .u8 0, .int .u8 0, .int .u8 0, .int .u8 0, .int .u8 0, .int .u8 0, .int .u8 0, .int .u8 0, .int .u8 0, .int .u8 0, .int .u8 0, .int .u8 0, .int .u8 0, .int .u8 0, .int .u8 0, .int .u8 0, .int .u8 0, .int .u8 0, .int .u8 0, .int .u8 0, .int .u8 0, .int .u8 0, .int .u8 0, .int .u8 0, .int .u8 0, .int .u8 0, .int .u8 0, .int .u8 0, .int .u8 0, .int .u8 0] 24)).setRow w2.heap.size (dg.map byt).toArray = w3 at *
  generalize w2.heap.size = gd at *
  generalize Value.agg (dg.map byt).toArray = xd at *
  have hsz3 := HB3.out.size
  have HT3 := Lib.hid (HT.out.below HB3.out)
  have HA3 := Lib.hid (HA.out.below HB3.out)
  go_wp2_with fail
  refine (new_from w3).mono ?_
  rintro e w4 ⟨q, rfl, hH, hb⟩
  have HH := Lib.hid hH
  have HB4 := Lib.hid hb
  clear hH hb
  go_wp2_with fail
  refine (write_from w3.heap.size w4 q [] _ dg HH.out ((H3.out.keep HB4.out (by omega)).byt hdl (by unfold maxLen; omega) (by omega)) (by simp; omega) (HT3.out.below HB4.out) (by omega)).mono ?_
  rintro e w5 ⟨rfl, hH, hb⟩
  rw [List.nil_append] at hH
  have HH := Lib.hid hH
  have HB5 := Lib.hid (HB4.out.trans hb)
  clear hH hb HB4
  go_wp2_with fail
  refine (write_from w3.heap.size w5 q dg _ dg HH.out ((H3.out.keep HB5.out (by omega)).byt hdl (by unfold maxLen; omega) (by omega)) (by omega) (HT3.out.below HB5.out) (by omega)).mono ?_
  rintro e w6 ⟨rfl, hH, hb⟩
  have HH := Lib.hid hH
  have HB6 := Lib.hid (HB5.out.trans hb)
  have hdd : (dg ++ dg).length = 64 := by rw [List.length_append, hdl]
  clear hH hb HB5
  go_wp2
  go_loopw [21] (fun i wx => ∃ (n : Nat) (m : List UInt8), n ≤ ls.length ∧ i = .int .i64 n ∧ m = dg ++ dg ++ (ls.take n).flatten ∧ HashFrom w3.heap.size wx q m ∧ Below w3.heap.size w3 wx) (fun i _ => ls.length - (intOf i).toNat)
  case atStart => exact ⟨0, dg ++ dg, by omega, rfl, by simp, HH.out, HB6.out⟩
  case round =>
    obtain ⟨n, m, hn1, rfl, hm, hH, hb⟩ := hrel
    have hfl := flat_le ls n
    have hml : m.length ≤ 140737488351232 + 64 := by rw [hm, List.length_append, hdd]; have := HSUM.out; omega
    have HM := Lib.hid hm
    have HH2 := Lib.hid hH
    have HB := Lib.hid hb
    clear hm hH hb hfl
    by_cases hlt : n < ls.length
    · obtain ⟨pb, po, pc, pe, rfl, hc3, hpB⟩ := HA3.out.cell n hlt
      have hc : wr.cell? ⟨pb, po + n, none⟩ = some (.slice pc (ls[n]).length pe) := by
        rw [World.cell?_of_block (w := w3) (HB.out.block pb (World.block_lt_of_cell? w3 _ hc3))]; exact hc3
      have HQB := Lib.hid ((hpB.lt.mono (E := fun k => k < w3.heap.size) (fun _ _ h => h.1)).keep HB.out)
      clear hc3 hpB
      have hX : dg ++ dg ++ (ls.take (n + 1)).flatten = m ++ ls[n] := by rw [HM.out, flat_succ ls n hlt, ← List.append_assoc]
      have hsum : (m ++ ls[n]).length ≤ 140737488351232 + 64 := by rw [← hX, List.length_append, hdd]; have := flat_le ls (n + 1); have := HSUM.out; omega
      have HX := Lib.hid hX
      rw [List.length_append] at hsum
      clear hX HM
      generalize ls[n] = p at *
      go_wp2_with fail
      refine (write_from w3.heap.size wr q m _ p HH2.out HQB.out (by omega) (HT3.out.below HB.out) (by omega)).mono ?_
      rintro e w7 ⟨rfl, hH, hb⟩
      have HH7 := Lib.hid hH
      have HB7 := Lib.hid (HB.out.trans hb)
      clear hH hb HH2 HB hc
      go_wp2
      go_roundw
      case rel => exact ⟨n + 1, m ++ p, by omega, by go_num, HX.out.symm, HH7.out, HB7.out⟩
      case measure => simp [intOf]; omega
    · obtain rfl : n = ls.length := by omega
      have hE : tagged s ls = sha m := by rw [HE.out, HM.out, List.take_length]
      have HE2 := Lib.hid hE
      clear hE HE HM
      go_wp2_with fail
      refine (sum_calls _ wr q m HH2.out.1 (by omega) (HT3.out.below HB.out)).mono ?_
      rintro e w8 ⟨rfl, hb⟩
      have hsr := HB.out.size
      have HB8 := Lib.hid (HB.out.trans (hb.mono hsr))
      have HBF := Lib.hid (HB3.out.trans (HB8.out.mono hsz3))
      have HDF := Lib.hid (HD3.out.keep HB8.out (by omega))
      rw [← HE2.out]
      clear hb HB HH HH2 HB8 HB6 HE2
      have HML := Lib.hid (tagged_length s ls)
      have HONE := Lib.hid (one_cells (tagged s ls))
      go_wp2_with (with_reducible refine wpList_store_blk rfl _ _ _ rfl w.heap.size ((tagged s ls).map byt) _ rfl _ rfl rfl HDF.out (by kernel_rfl) (by simp [HML.out]) HONE.out ?_)
      exact bodyPost_ret (v := .agg ((tagged s ls).map byt).toArray) (results_cell_row Tryz.results33 _ _ w.heap.size 24 _ (0, 0) _ rfl (HDF.out.row _) Tryz.underlying24 rfl (by kernel_rfl)) rfl ⟨rfl, below_setRow HBF.out (Nat.le_refl _) _⟩

set_option maxHeartbeats 4000000 in
set_option maxRecDepth 100000 in
theorem ref_tagged_calls (w : World) (s : ByteArray) (va : Value) (ls : List (List UInt8)) (hA : Byts w va ls) (hs : s.size ≤ 1099511627776) (hl : (ls.map List.length).sum ≤ 140737488351232) (hn : ls.length ≤ 1099511627776) (hT : TabB w 0) :
    Calls Tryz.prog 34 #[.string s, va] w fun e w' => e = .returned (.agg ((tagged s ls).map byt).toArray) ∧ Below w.heap.size w w' := by
  obtain ⟨a1, a2, rfl, hka, _⟩ := id hA
  have kc := fun w => Lib.run_convert_string_bytes (P := Tryz.prog) w 9 25 5 s Tryz.underlying9 Tryz.underlying25 Tryz.underlying5
  have HA := Lib.hid hA
  have HT := Lib.hid hT
  have HSUM := Lib.hid hl
  have H0 := Lib.hid (new32 w)
  have HB0 := Lib.hid (show Below w.heap.size w (w.alloc (.cells #[.int .u8 0, .int .u8 0, .int .u8 0, .int .u8 0, .int .u8 0, .int .u8 0, .int .u8 0, .int .u8 0, .int .u8 0, .int .u8 0, .int .u8 0, .int .u8 0, .int .u8 0, .int .u8 0, .int .u8 0, .int .u8 0, .int .u8 0, .int .u8 0, .int .u8 0, .int .u8 0, .int .u8 0, .int .u8 0, .int .u8 0, .int .u8 0, .int .u8 0, .int .u8 0, .int .u8 0, .int .u8 0, .int .u8 0, .int .u8 0, .int .u8 0, .int .u8 0] 24)) from (Below.refl _ _).alloc (Nat.le_refl _) _)
  have hs0 : (w.alloc (.cells #[.int .u8 0, .int .u8 0, .int .u8 0, .int .u8 0, .int .u8 0, .int .u8 0, .int .u8 0, .int .u8 0, .int .u8 0, .int .u8 0, .int .u8 0, .int .u8 0, .int .u8 0, .int .u8 0, .int .u8 0, .int .u8 0, .int .u8 0, .int .u8 0, .int .u8 0, .int .u8 0, .int .u8 0, .int .u8 0, .int .u8 0, .int .u8 0, .int .u8 0, .int .u8 0, .int .u8 0, .int .u8 0, .int .u8 0, .int .u8 0, .int .u8 0, .int .u8 0] 24)).heap.size = w.heap.size + 1 := by simp
  clear hA hT hl
  go_enter Tryz.func34, Tryz.ntmps34
  go_upto_region 1 with fail
  generalize (w.alloc (.cells #[.int .u8 0, .int .u8 0, .int .u8 0, .int .u8 0, .int .u8 0, .int .u8 0, .int .u8 0, .int .u8 0, .int .u8 0, .int .u8 0, .int .u8 0, .int .u8 0, .int .u8 0, .int .u8 0, .int .u8 0, .int .u8 0, .int .u8 0, .int .u8 0, .int .u8 0, .int .u8 0, .int .u8 0, .int .u8 0, .int .u8 0, .int .u8 0, .int .u8 0, .int .u8 0, .int .u8 0, .int .u8 0, .int .u8 0, .int .u8 0, .int .u8 0, .int .u8 0] 24)) = w0 at *
  go_wp2_with fail
  have hsl : s.data.toList.length = s.size := by rw [Array.length_toList]; rfl
  have hb1 := below_bytes w0 5 s
  have hby := byt_bytes (D := Any) w0 5 s (by unfold maxLen; omega) trivial
  rw [hs0] at hby
  refine (ref_of_calls _ Any _ s.data.toList hby (by omega) (HT.out.below (HB0.out.trans (hb1.mono (by omega))))).mono ?_
  rintro e w2 ⟨rfl, hb2⟩
  have hz1 := hb1.size
  have hz2 := hb2.size
  have HB2 := Lib.hid (HB0.out.trans ((hb1.mono (by omega)).trans (hb2.mono (by omega))))
  have HD2 := Lib.hid ((H0.out.below hb1).below hb2)
  have hs2 : w.heap.size < w2.heap.size := by omega
  have hdl : (sha s.data.toList).length = 32 := sha_length _
  have HE := Lib.hid (show tagged s ls = sha (sha s.data.toList ++ sha s.data.toList ++ ls.flatten) from rfl)
  clear hb1 hb2 hby kc H0 HB0 hz1 hz2
  generalize sha s.data.toList = dg at *
  go_wp2_with fail
  refine (text_calls w2 dg hdl).mono ?_
  rintro e w3 ⟨ta, tc, rfl, hO, hb⟩
  have HB3 := Lib.hid (HB2.out.trans (hb.mono (by omega)))
  have HD3 := Lib.hid (HD2.out.below hb)
  have HDG := Lib.hid hO.byt.any
  have hs3 : w.heap.size < w3.heap.size := by have := hb.size; omega
  clear hO hb HB2 HD2
  have hO3 : OwnB w3.heap.size 5 (w3.alloc (.cells #[] 5)) (.slice (some ⟨w3.heap.size, 0, none⟩) 0 0) [] := World.ownsRow_lit w3 #[] 0 (Nat.le_refl _) (Nat.zero_le _) rfl
  have H4 : Hid (MacK w.heap.size w (.slice (some ⟨w3.heap.size, 0, none⟩) 0 0) [] (w3.alloc (.cells #[] 5))) := Lib.hid ⟨HB3.out.alloc HB3.out.size _, HD3.out.alloc _, hO3.mono (by omega), by simp; omega⟩
  have HDG4 := Lib.hid (HDG.out.below ((Below.refl _ w3).alloc (Nat.le_refl _) (.cells #[] 5)))
  clear hO3 HD3
  go_wp2_with (at_builtin; refine wpList_append_byt _ rfl (.tmp 12) (.tmp 13) 25 rfl (w.heap.size + 1) 5 elemB _ [] rfl H4.out.2.2.1 (.slice ta 32 tc) dg rfl HDG4.out (by simp; omega) (by have := H4.out.2.2.2; omega) ?_)
  intro va vc w5 o1 o2 o3
  have H5 := Lib.hid (H4.out.grows o1 (Fr.ofGrown o2))
  have hb5 : Below w3.heap.size w3 w5 := ((Below.refl _ w3).alloc (Nat.le_refl _) _).grown o2 (by simp) (fun k hk => by cases hk; exact Nat.le_refl _)
  have HDG5 := Lib.hid (HDG.out.below hb5)
  clear o1 o2 o3 hb5 H4 HDG4 HDG
  go_wp2_with (at_builtin; refine wpList_append_byt _ rfl (.tmp 15) (.tmp 16) 25 rfl (w.heap.size + 1) 5 elemB _ dg rfl H5.out.2.2.1 (.slice ta 32 tc) dg rfl HDG5.out (by omega) (by have := H5.out.2.2.2; omega) ?_)
  intro va2 vc2 w6 o1 o2 o3
  have H6 := Lib.hid (H5.out.grows o1 (Fr.ofGrown o2))
  have hdd : (dg ++ dg).length = 64 := by rw [List.length_append, hdl]
  clear o1 o2 o3 H5 HDG5
  go_wp2
  go_loopw [6, 7] (fun v i wx => ∃ (n : Nat) (m : List UInt8), n ≤ ls.length ∧ i = .int .i64 n ∧ m = dg ++ dg ++ (ls.take n).flatten ∧ MacK w.heap.size w v m wx) (fun _ i _ => ls.length - (intOf i).toNat)
  case atStart => exact ⟨0, dg ++ dg, by omega, rfl, by simp, H6.out⟩
  case round =>
    obtain ⟨n, m, hn1, rfl, hm, hM⟩ := hrel
    obtain ⟨xa, xc, rfl, hxk, _⟩ := id hM.2.2.1.byt
    have hfl := flat_le ls n
    have hml : m.length ≤ 140737488351232 + 64 := by rw [hm, List.length_append, hdd]; have := HSUM.out; omega
    have HM := Lib.hid hm
    have HK := Lib.hid hM
    clear hm hM hfl
    by_cases hlt : n < ls.length
    · obtain ⟨pb, po, pc, pe, rfl, hc3, hpB⟩ := HA.out.cell n hlt
      have hc : wr.cell? ⟨pb, po + n, none⟩ = some (.slice pc (ls[n]).length pe) := by
        rw [World.cell?_of_block (w := w) (HK.out.1.block pb (World.block_lt_of_cell? w _ hc3))]; exact hc3
      have HQB := Lib.hid (hpB.below HK.out.1)
      clear hc3 hpB
      have hX : dg ++ dg ++ (ls.take (n + 1)).flatten = m ++ ls[n] := by rw [HM.out, flat_succ ls n hlt, ← List.append_assoc]
      have hsum : (m ++ ls[n]).length ≤ 140737488351232 + 64 := by rw [← hX, List.length_append, hdd]; have := flat_le ls (n + 1); have := HSUM.out; omega
      have HX := Lib.hid hX
      rw [List.length_append] at hsum
      clear hX HM
      generalize ls[n] = p at *
      go_wp2_with (at_builtin; refine wpList_append_byt _ rfl (.tmp 24) (.tmp 28) 25 rfl (w.heap.size + 1) 5 elemB _ m rfl HK.out.2.2.1 _ p rfl HQB.out (by omega) (by have := HK.out.2.2.2; omega) ?_)
      intro va3 vc3 w7 o1 o2 o3
      have H7 := Lib.hid (HK.out.grows o1 (Fr.ofGrown o2))
      clear o1 o2 o3 HK hc HQB
      go_wp2
      go_roundw
      case rel => exact ⟨n + 1, m ++ p, by omega, by go_num, HX.out.symm, H7.out⟩
      case measure => simp [intOf]; omega
    · obtain rfl : n = ls.length := by omega
      have hE : tagged s ls = sha m := by rw [HE.out, HM.out, List.take_length]
      have HE2 := Lib.hid hE
      clear hE HE HM
      go_wp2_with fail
      refine (ref_of_calls wr _ _ m HK.out.2.2.1.byt.any (by omega) (HT.out.below HK.out.1)).mono ?_
      rintro e w8 ⟨rfl, hb⟩
      have hsr := HK.out.1.size
      have HBF := Lib.hid (HK.out.1.trans (hb.mono hsr))
      have HDF := Lib.hid (HK.out.2.1.below hb)
      rw [← HE2.out]
      clear hb HK H6 HE2
      have HML := Lib.hid (tagged_length s ls)
      have HONE := Lib.hid (one_cells (tagged s ls))
      go_wp2_with (with_reducible refine wpList_store_blk rfl _ _ _ rfl w.heap.size ((tagged s ls).map byt) _ rfl _ rfl rfl HDF.out (by kernel_rfl) (by simp [HML.out]) HONE.out ?_)
      exact bodyPost_ret (v := .agg ((tagged s ls).map byt).toArray) (results_cell_row Tryz.results34 _ _ w.heap.size 24 _ (0, 0) _ rfl (HDF.out.row _) Tryz.underlying24 rfl (by kernel_rfl)) rfl ⟨rfl, below_setRow HBF.out (Nat.le_refl _) _⟩
end Go.Proofs.YtmenchnjajpkmaaGreatDoor.ShaW
end

section
namespace Go.Proofs.YtmenchnjajpkmaaGreatDoor.Mh
open Go ShaW Mem Codec

abbrev Dg := List UInt8
structure Hd where
  prev : Dg
  root : Dg
  height : Nat
  nonce : Nat
def Hd.Ok (h : Hd) : Prop := h.prev.length = 32 ∧ h.root.length = 32 ∧ h.height < 18446744073709551616 ∧ h.nonce < 18446744073709551616
def Hd.cells (h : Hd) : List Value := h.prev.map byt ++ h.root.map byt ++ [.int .u64 (h.height : Int), .int .u64 (h.nonce : Int)]
abbrev hv (h : Hd) : Value := .agg h.cells.toArray
abbrev dv (d : Dg) : Value := .agg (d.map byt).toArray
def encH (h : Hd) : List UInt8 := h.prev ++ (h.root ++ (num h.height 8 ++ num h.nonce 8))
def idName : ByteArray := ⟨#[116, 111, 108, 108, 104, 111, 117, 115, 101, 47, 109, 97, 105, 110]⟩
def mainId (h : Hd) : Dg := tagged idName [encH h]
theorem mainId_length (h : Hd) : (mainId h).length = 32 := tagged_length _ _
theorem Hd.Ok.len {h : Hd} (ok : h.Ok) : h.cells.length = 66 := by simp [Hd.cells, ok.1, ok.2.1]
theorem Hd.one (h : Hd) : ∀ v ∈ h.cells, v.oneCell' = true := by
  intro v hv
  simp only [Hd.cells, List.mem_append, List.mem_map, List.mem_cons, List.not_mem_nil, or_false] at hv
  rcases hv with (⟨_, _, rfl⟩ | ⟨_, _, rfl⟩) | rfl | rfl <;> rfl
theorem Hd.cell_height {h : Hd} (ok : h.Ok) : h.cells[64]? = some (.int .u64 (h.height : Int)) := by
  unfold Hd.cells
  rw [List.getElem?_append_right (by simp [ok.1, ok.2.1])]
  simp [ok.1, ok.2.1]
theorem Hd.cell_nonce {h : Hd} (ok : h.Ok) : h.cells[65]? = some (.int .u64 (h.nonce : Int)) := by
  unfold Hd.cells
  rw [List.getElem?_append_right (by simp [ok.1, ok.2.1])]
  simp [ok.1, ok.2.1]
theorem Hd.at_prev {h : Hd} {j : Nat} {u : Value} (hu : (h.prev.map byt)[j]? = some u) : h.cells[0 + j]? = some u := by
  have hj := (List.getElem?_eq_some_iff.1 hu).1
  unfold Hd.cells
  rw [Nat.zero_add, List.append_assoc, List.getElem?_append_left hj]
  exact hu
theorem Hd.at_root {h : Hd} (ok : h.Ok) {j : Nat} {u : Value} (hu : (h.root.map byt)[j]? = some u) : h.cells[32 + j]? = some u := by
  have hj := (List.getElem?_eq_some_iff.1 hu).1
  unfold Hd.cells
  rw [List.append_assoc, List.getElem?_append_right (by simp [ok.1]), List.length_map, ok.1, Nat.add_sub_cancel_left, List.getElem?_append_left hj]
  exact hu

/-- where a header stands -/
def find (hs : List Hd) (id : Dg) : Option Nat := hs.findIdx? (fun h => mainId h == id)
theorem find_some {hs : List Hd} {id : Dg} {k : Nat} (h : find hs id = some k) : ∃ g, hs[k]? = some g ∧ mainId g = id ∧ ∀ j g', j < k → hs[j]? = some g' → mainId g' ≠ id := by
  unfold find at h
  rw [List.findIdx?_eq_some_iff_getElem] at h
  obtain ⟨hk, h1, h2⟩ := h
  refine ⟨hs[k], List.getElem?_eq_getElem hk, by simpa using h1, fun j g' hj hg e => ?_⟩
  have hj2 : j < hs.length := by omega
  rw [List.getElem?_eq_getElem hj2] at hg
  cases hg
  have := h2 j hj
  simp [e] at this
theorem find_none {hs : List Hd} {id : Dg} (h : find hs id = none) : ∀ g ∈ hs, mainId g ≠ id := by
  unfold find at h
  rw [List.findIdx?_eq_none_iff] at h
  intro g hg e
  have := h g hg
  simp [e] at this
/-- a track: no two of one id; each one but the first lies on one ahead of it -/
structure Trk (hs : List Hd) : Prop where
  ne : 0 < hs.length
  ok : ∀ h ∈ hs, h.Ok
  nd : ∀ (i j : Nat) (g h : Hd), hs[i]? = some g → hs[j]? = some h → mainId g = mainId h → i = j
  up : ∀ (i : Nat) (h : Hd), hs[i]? = some h → 0 < i → ∃ (j : Nat) (g : Hd), j < i ∧ hs[j]? = some g ∧ mainId g = h.prev
theorem Trk.find {hs : List Hd} (T : Trk hs) {k : Nat} {g : Hd} (hg : hs[k]? = some g) : find hs (mainId g) = some k := by
  cases h : Mh.find hs (mainId g) with
  | none => exact absurd rfl (find_none h g (List.mem_of_getElem? hg))
  | some j =>
    obtain ⟨g', h1, h2, _⟩ := find_some h
    rw [T.nd j k g' g h1 hg h2]
theorem Trk.one {h : Hd} (ok : h.Ok) : Trk [h] where
  ne := by simp
  ok g hg := by rw [List.mem_singleton.1 hg]; exact ok
  nd i j g g' hi hj _ := by
    have h1 := (List.getElem?_eq_some_iff.1 hi).1
    have h2 := (List.getElem?_eq_some_iff.1 hj).1
    simp at h1 h2; omega
  up i g hi h0 := by have h1 := (List.getElem?_eq_some_iff.1 hi).1; simp at h1; omega
/-- the error, and the track behind it -/
def addE (hs : List Hd) (h : Hd) : Int :=
  if (find hs (mainId h)).isSome then 170 else match Mh.find hs h.prev with
    | none => 171
    | some k => if h.height = 0 ∨ ((hs[k]?.map Hd.height).getD 0) + 1 ≠ h.height then 172 else 0
def addL (hs : List Hd) (h : Hd) : List Hd := if addE hs h = 0 then hs ++ [h] else hs
theorem addE_ok {hs : List Hd} {h : Hd} (e : addE hs h = 0) : find hs (mainId h) = none ∧ ∃ k g, find hs h.prev = some k ∧ hs[k]? = some g ∧ g.height + 1 = h.height := by
  unfold addE at e
  split at e
  · cases e
  rename_i h1
  refine ⟨by simpa using h1, ?_⟩
  cases hp : find hs h.prev with
  | none => simp [hp] at e
  | some k =>
    obtain ⟨g, hg, _⟩ := find_some hp
    refine ⟨k, g, rfl, hg, ?_⟩
    simp only [hp, hg, Option.map_some, Option.getD_some] at e
    split at e
    · cases e
    · omega
theorem Trk.add {hs : List Hd} (T : Trk hs) {h : Hd} (ok : h.Ok) : Trk (addL hs h) := by
  unfold addL
  split
  · rename_i e
    obtain ⟨h1, k, g, h2, h3, h4⟩ := addE_ok e
    refine ⟨by simp, fun x hx => ?_, fun i j x y hi hj hxy => ?_, fun i x hi h0 => ?_⟩
    · rcases List.mem_append.1 hx with hx | hx
      · exact T.ok x hx
      · rw [List.mem_singleton.1 hx]; exact ok
    · have key : ∀ (i : Nat) (x : Hd), (hs ++ [h])[i]? = some x → (i < hs.length ∧ hs[i]? = some x) ∨ (i = hs.length ∧ x = h) := by
        intro i x hi
        by_cases hlt : i < hs.length
        · rw [List.getElem?_append_left hlt] at hi; exact .inl ⟨hlt, hi⟩
        · have := (List.getElem?_eq_some_iff.1 hi).1
          simp at this
          obtain rfl : i = hs.length := by omega
          simp at hi
          exact .inr ⟨rfl, hi.symm⟩
      rcases key i x hi with ⟨_, hi2⟩ | ⟨e1, rfl⟩ <;> rcases key j y hj with ⟨_, hj2⟩ | ⟨e2, e3⟩
      · exact T.nd i j x y hi2 hj2 hxy
      · rw [e3] at hxy; exact absurd hxy (find_none h1 x (List.mem_of_getElem? hi2))
      · exact absurd hxy.symm (find_none h1 y (List.mem_of_getElem? hj2))
      · omega
    · by_cases hlt : i < hs.length
      · rw [List.getElem?_append_left hlt] at hi
        obtain ⟨j, g, hj, hg, hp⟩ := T.up i x hi h0
        exact ⟨j, g, hj, by rw [List.getElem?_append_left (by omega)]; exact hg, hp⟩
      · have := (List.getElem?_eq_some_iff.1 hi).1
        simp at this
        obtain rfl : i = hs.length := by omega
        simp at hi
        subst hi
        have hk := (List.getElem?_eq_some_iff.1 h3).1
        obtain ⟨g', hg', hp, _⟩ := find_some h2
        rw [h3] at hg'; cases hg'
        exact ⟨k, g, hk, by rw [List.getElem?_append_left hk]; exact h3, hp⟩
  · exact T
/-- which one is the best -/
def ht (hs : List Hd) (k : Nat) : Nat := (hs[k]?.map Hd.height).getD 0
def bestN (hs : List Hd) : Nat → Nat
  | 0 => 0
  | n + 1 => if ht hs (bestN hs n) < ht hs n then n else bestN hs n
def best (hs : List Hd) : Nat := bestN hs hs.length
theorem bestN_le (hs : List Hd) : ∀ n, bestN hs n ≤ n - 1
  | 0 => Nat.le_refl _
  | n + 1 => by
    unfold bestN
    have := bestN_le hs n
    split <;> omega
theorem best_lt {hs : List Hd} (h : 0 < hs.length) : best hs < hs.length := by have := bestN_le hs hs.length; unfold best; omega
theorem ht_snoc (hs : List Hd) (h : Hd) {k : Nat} (hk : k < hs.length) : ht (hs ++ [h]) k = ht hs k := by unfold ht; rw [List.getElem?_append_left hk]
theorem bestN_snoc (hs : List Hd) (h : Hd) (h0 : 0 < hs.length) : ∀ n, n ≤ hs.length → bestN (hs ++ [h]) n = bestN hs n
  | 0, _ => rfl
  | n + 1, hn => by
    have ih := bestN_snoc hs h h0 n (by omega)
    have hb := bestN_le hs n
    unfold bestN
    rw [ih, ht_snoc hs h (by omega), ht_snoc hs h (by omega)]
theorem best_snoc (hs : List Hd) (h : Hd) (h0 : 0 < hs.length) : best (hs ++ [h]) = if ht hs (best hs) < h.height then hs.length else best hs := by
  unfold best
  rw [List.length_append, List.length_singleton, bestN, bestN_snoc hs h h0 _ (Nat.le_refl _), ht_snoc hs h (show bestN hs hs.length < hs.length from best_lt h0)]
  have : ht (hs ++ [h]) hs.length = h.height := by simp [ht]
  rw [this]
/-- how deep one lies under another one -/
def dep (hs : List Hd) (id : Dg) : Nat → Nat → Option Nat
  | 0, _ => none
  | f + 1, k => match hs[k]? with
    | none => none
    | some h => if mainId h = id then some 0 else if k = 0 then none else match Mh.find hs h.prev with
      | none => none
      | some j => (dep hs id f j).map (· + 1)
theorem Trk.prev {hs : List Hd} (T : Trk hs) {k : Nat} {h : Hd} (hk : hs[k]? = some h) (h0 : 0 < k) : ∃ (j : Nat) (g : Hd), Mh.find hs h.prev = some j ∧ hs[j]? = some g ∧ mainId g = h.prev ∧ j < k := by
  obtain ⟨j, g, h1, h2, h3⟩ := T.up k h hk h0
  exact ⟨j, g, by rw [← h3]; exact T.find h2, h2, h3, h1⟩
theorem Trk.fuel {hs : List Hd} (T : Trk hs) (id : Dg) : ∀ (k f : Nat), k < f → dep hs id f k = dep hs id (k + 1) k := by
  intro k
  induction k using Nat.strongRecOn with
  | ind k ih =>
    intro f hf
    obtain ⟨f, rfl⟩ : ∃ m, f = m + 1 := ⟨f - 1, by omega⟩
    unfold dep
    cases hk : hs[k]? with
    | none => rfl
    | some h =>
      simp only
      split
      · rfl
      · split
        · rfl
        · obtain ⟨j, g, h1, h2, h3, h4⟩ := T.prev hk (by omega)
          simp only [h1]
          rw [ih j h4 f (by omega), ih j h4 k (by omega)]
def depth (hs : List Hd) (id over : Dg) : Option Nat := match find hs over with
  | none => none
  | some k => dep hs id (k + 1) k
theorem Trk.dep_eq {hs : List Hd} (T : Trk hs) (id : Dg) {k : Nat} {h : Hd} (hk : hs[k]? = some h) : dep hs id (k + 1) k = if mainId h = id then some 0 else if k = 0 then none else (depth hs id h.prev).map (· + 1) := by
  rw [dep]
  simp only [hk]
  split
  · rfl
  · split
    · rfl
    · obtain ⟨j, g, h1, h2, h3, h4⟩ := T.prev hk (by omega)
      unfold depth
      simp only [h1]
      rw [T.fuel id j k h4]
theorem Trk.depth_eq {hs : List Hd} (T : Trk hs) (id : Dg) {k : Nat} {h : Hd} (hk : hs[k]? = some h) : depth hs id (mainId h) = if mainId h = id then some 0 else if k = 0 then none else (depth hs id h.prev).map (· + 1) := by
  have h1 := T.find hk
  unfold depth
  rw [h1]
  exact T.dep_eq id hk
theorem dep_le (hs : List Hd) (id : Dg) : ∀ (f k n : Nat), dep hs id f k = some n → n < f
  | 0, _, _, h => by simp [dep] at h
  | f + 1, k, n, h => by
    unfold dep at h
    split at h
    · cases h
    · split at h
      · cases h; omega
      · split at h
        · cases h
        · split at h
          · cases h
          · rename_i j _
            cases hd : dep hs id f j with
            | none => rw [hd] at h; cases h
            | some m =>
              rw [hd] at h
              simp only [Option.map_some, Option.some.injEq] at h
              have := dep_le hs id f j m hd
              omega
end Go.Proofs.YtmenchnjajpkmaaGreatDoor.Mh
end

section
namespace Go.Proofs.YtmenchnjajpkmaaGreatDoor.Wh
open Go Go.RowKit Mem Codec CodecW Mh Ww ShaW
set_option linter.unusedVariables false

theorem szH {h : Hd} (ok : h.Ok) : (Tryz.prog.info? 41).map (·.size) = some h.cells.length := by rw [ok.len]; kernel_rfl
theorem range_prev {w : World} {b : Nat} {h : Hd} {e : TypeId} (hB : Blk w b h.cells e) : w.rangeAt b 0 (h.prev.map byt) := fun j v hv => by
  rw [Nat.zero_add]; have := Hd.at_prev (h := h) hv; rw [Nat.zero_add] at this; exact hB.cell this
theorem range_root {w : World} {b : Nat} {h : Hd} {e : TypeId} (ok : h.Ok) (hB : Blk w b h.cells e) : w.rangeAt b 32 (h.root.map byt) := fun j v hv => hB.cell (Hd.at_root ok hv)
set_option maxHeartbeats 4000000 in
set_option maxRecDepth 100000 in
theorem header_to (S : Nat → Prop) (w0 w : World) (q : Nat) (m : List UInt8) (bad : Bool) (h : Hd) (ok : h.Ok) (H : At S w0 w q m bad) (hlen : m.length + 80 ≤ 140737488355328) :
    Calls Tryz.prog 85 #[.pointer (some ⟨q, 0, none⟩), hv h] w fun e w' => e = .returned (.tuple #[]) ∧ At S w0 w' q (m ++ encH h) bad := by
  obtain ⟨cs, hcs⟩ : ∃ cs, h.cells.toArray = cs := ⟨_, rfl⟩
  show Calls _ _ #[_, .agg h.cells.toArray] _ _
  have HB := Lib.hid (show Blk (w.alloc (.cells cs 41)) w.heap.size h.cells 41 from Blk.new w _ _ _ hcs.symm)
  have HX := Lib.hid (fun w' m' => @At.box S w0 w w' q m bad (.cells cs 41) m' bad h.cells 41 H)
  have H1 := Lib.hid (H.enter (.cells cs 41))
  have HL := Lib.hid (fun w' m' => @At.leave S w0 w w' q m bad (.cells cs 41) m' bad H)
  have HP := Lib.hid (szD ok.1)
  have HR := Lib.hid (szD ok.2.1)
  have OK := Lib.hid ok
  have hz : (w.alloc (.cells cs 41)).heap.size = w.heap.size + 1 := by simp
  have hpl : h.prev.length = 32 := ok.1
  have hrl : h.root.length = 32 := ok.2.1
  have HPL := Lib.hid hpl
  have HRL := Lib.hid hrl
  rw [hcs]
  clear H hcs hpl hrl ok
  go_enter Tryz.func85, Tryz.ntmps85
  go_upto_region 1 with fail
  have HB0 := Lib.hid (fun w' m' g => HX.out w' m' g HB.out)
  generalize (w.alloc (.cells cs 41)) = w1 at *
  go_wp2_with (first | (with_reducible refine wpList_load_mid rfl _ _ rfl w.heap.size 0 rfl (h.prev.map byt) _ (range_prev HB.out) Tryz.underlying24 rfl HP.out ?_))
  refine (digest_calls _ _ w1 q m bad h.prev HPL.out H1.out (by omega)).mono ?_
  rintro e w2 ⟨rfl, g1⟩
  have B2 := Lib.hid (HB0.out _ _ g1)
  have H2 := Lib.hid g1
  clear g1 H1
  go_wp2_with (first | (with_reducible refine wpList_load_mid rfl _ _ rfl w.heap.size 32 rfl (h.root.map byt) _ (range_root OK.out B2.out) Tryz.underlying24 rfl HR.out ?_))
  refine (digest_calls _ _ w2 q _ bad h.root HRL.out H2.out (by rw [List.length_append, HPL.out]; omega)).mono ?_
  rintro e w3 ⟨rfl, g1⟩
  have B3 := Lib.hid (HB0.out _ _ g1)
  have H3 := Lib.hid g1
  clear g1 H2 B2
  obtain ⟨p, h1, h2, h3⟩ := H3.out.drew.opened
  have HW := Lib.hid h2
  have HQ := Lib.hid h1
  have c0 := h1.cell (i := 0) rfl
  have c1 : w3.cell? ⟨q, 0, none⟩ = some (.pointer (some ⟨p, 0, none⟩)) := c0
  have d0 : w3.cell? ⟨w.heap.size, 64, none⟩ = some (.int .u64 (h.height : Int)) := B3.out.cell (Hd.cell_height OK.out)
  clear h1 h2 h3
  go_wp2_with fail
  go_still_tail 6, (by kernel_rfl)
  change wpList _ _ _ _ _ w3.drew
  go_wp2_with fail
  refine (long_calls _ w3.drew p _ h.height OK.out.2.2.1 HW.out (by rw [List.length_append, List.length_append, HPL.out, HRL.out]; omega)).mono ?_
  rintro e w4 ⟨rfl, g1, g2⟩
  have H4 := Lib.hid (H3.out.drew.shut HQ.out g1 g2)
  have B4 := Lib.hid (HB0.out _ _ H4.out)
  clear g1 g2 H3 B3 HW HQ c0 c1 d0
  obtain ⟨p, h1, h2, h3⟩ := H4.out.drew.opened
  have HW := Lib.hid h2
  have HQ := Lib.hid h1
  have c0 := h1.cell (i := 0) rfl
  have c1 : w4.cell? ⟨q, 0, none⟩ = some (.pointer (some ⟨p, 0, none⟩)) := c0
  have d0 : w4.cell? ⟨w.heap.size, 65, none⟩ = some (.int .u64 (h.nonce : Int)) := B4.out.cell (Hd.cell_nonce OK.out)
  clear h1 h2 h3
  go_wp2_with fail
  go_still_tail 6, (by kernel_rfl)
  change wpList _ _ _ _ _ w4.drew
  go_wp2_with fail
  refine (long_calls _ w4.drew p _ h.nonce OK.out.2.2.2 HW.out (by simp only [List.length_append, HPL.out, HRL.out, num_length]; omega)).mono ?_
  rintro e w5 ⟨rfl, g1, g2⟩
  have H5 := Lib.hid (H4.out.drew.shut HQ.out g1 g2)
  have HF := Lib.hid (HL.out _ _ H5.out)
  clear g1 g2 H4 B4 HW HQ c0 c1 d0 HL HB0 HX HB
  go_wp2
  go_end0
  refine ⟨rfl, ?_⟩
  have := HF.out
  simp only [List.append_assoc] at this
  exact this
theorem encH_length {h : Hd} (ok : h.Ok) : (encH h).length = 80 := by simp [encH, ok.1, ok.2.1, num_length]
/-- a new writer's box -/
theorem made {w w1 : World} {p : Nat} (hp : WriterIs (fun k => k = p) w1 p []) : WwIs (fun k => k = p ∨ k = w1.heap.size) (w1.alloc (.cells #[.pointer (some ⟨p, 0, none⟩), .bool false] 166)) w1.heap.size [] false := by
  have hlt := hp.lt
  exact ⟨.inr rfl, p, Blk.new _ _ _ _ rfl, (hp.below ((Below.refl _ _).alloc (Nat.le_refl _) _)).mono (fun k _ h => ⟨.inl h, by omega⟩)⟩
theorem made_at {w1 : World} {p : Nat} (hp : WriterIs (fun k => k = p) w1 p []) : At (fun k => k = p ∨ k = w1.heap.size) (w1.alloc (.cells #[.pointer (some ⟨p, 0, none⟩), .bool false] 166)) (w1.alloc (.cells #[.pointer (some ⟨p, 0, none⟩), .bool false] 166)) w1.heap.size [] false :=
  At.start (made (w := w1) hp) (fun k h => by have := hp.lt; simp; omega)
set_option maxHeartbeats 4000000 in
set_option maxRecDepth 100000 in
theorem written_calls (w : World) (h : Hd) (ok : h.Ok) :
    Calls Tryz.prog 84 #[hv h, .func (.func 85) #[] #[]] w fun e w' => ∃ a c, e = .returned (.tuple #[.slice a 80 c, .int .i64 0]) ∧ OwnB w.heap.size 5 w' (.slice a 80 c) (encH h) ∧ Below w.heap.size w w' := by
  obtain ⟨cs, hcs⟩ : ∃ cs, h.cells.toArray = cs := ⟨_, rfl⟩
  show Calls _ _ #[.agg h.cells.toArray, _] _ _
  have HB := Lib.hid (show Blk (w.alloc (.cells cs 41)) w.heap.size h.cells 41 from Blk.new w _ _ _ hcs.symm)
  have B1 := Lib.hid (show Below w.heap.size w (w.alloc (.cells cs 41)) from (Below.refl _ _).alloc (Nat.le_refl _) _)
  have hz : w.heap.size + 1 ≤ (w.alloc (.cells cs 41)).heap.size := by simp
  have HZ := Lib.hid (szH ok)
  have HE := Lib.hid (encH_length ok)
  rw [hcs]
  have HC := Lib.hid hcs
  clear hcs
  go_enter Tryz.func84, Tryz.ntmps84
  go_upto_region 1 with fail
  generalize (w.alloc (.cells cs 41)) = w1 at *
  go_wp2_with fail
  refine (CodecW.new_calls w1).mono ?_
  rintro e w2 ⟨p, rfl, hp1, hp2, hp3⟩
  have hs2 := hp3.size
  have H2 := Lib.hid (made_at hp2)
  have HB2 := Lib.hid ((HB.out.below hp3).alloc (.cells #[.pointer (some ⟨p, 0, none⟩), .bool false] 166))
  have B2 := Lib.hid ((B1.out.trans (hp3.mono (by omega))).alloc (by have := B1.out.size; omega) (.cells #[.pointer (some ⟨p, 0, none⟩), .bool false] 166))
  have hs3 : (w2.alloc (.cells #[.pointer (some ⟨p, 0, none⟩), .bool false] 166)).heap.size = w2.heap.size + 1 := by simp
  have hpw : w.heap.size < p := by omega
  clear hp2 hp3 HB B1
  go_upto_region 2 with fail
  generalize (w2.alloc (.cells #[.pointer (some ⟨p, 0, none⟩), .bool false] 166)) = w3 at *
  go_wp2_with (first | (with_reducible refine wpList_load_blk rfl _ _ rfl w.heap.size h.cells rfl HB2.out _ Tryz.underlying41 rfl HZ.out ?_))
  rw [← HC.out]
  refine (header_to _ w3 w3 w2.heap.size [] false h ok H2.out (by simp)).mono ?_
  rintro e w4 ⟨rfl, g1⟩
  obtain ⟨⟨g2, p2, g3, g4⟩, g5, g6⟩ := id g1
  have hg5 := g5.size
  have c1 := g3.cell (i := 1) rfl
  have c0 := g3.cell (i := 0) rfl
  have HW := Lib.hid g4
  have B4 := Lib.hid (B2.out.trans (show Below w.heap.size w3 w4 from g5.below (by omega) (fun k h => by omega)))
  have hb4 := B4.out.size
  rw [List.nil_append] at HW
  clear g1 g2 g3 g4 g5 g6 H2 HB2 B2
  go_wp2_with fail
  refine (CodecR.bytes_calls _ w4 p2 _ HW.out (by rw [HE.out]; omega)).mono ?_
  rintro e w5 ⟨a, c, rfl, g1, g2⟩
  rw [HE.out] at g1
  rw [HE.out]
  have G1 := Lib.hid g1
  have BF := Lib.hid (B4.out.trans (g2.mono hb4))
  clear g1 g2 c0 c1 HW B4
  go_wp2
  go_ret2
  exact ⟨a, c, rfl, G1.out.mono hb4, BF.out⟩
set_option maxHeartbeats 4000000 in
set_option maxRecDepth 100000 in
theorem mainHeader_calls (w : World) (h : Hd) (ok : h.Ok) :
    Calls Tryz.prog 61 #[hv h] w fun e w' => ∃ a c, e = .returned (.slice a 80 c) ∧ OwnB w.heap.size 5 w' (.slice a 80 c) (encH h) ∧ Below w.heap.size w w' := by
  obtain ⟨cs, hcs⟩ : ∃ cs, h.cells.toArray = cs := ⟨_, rfl⟩
  show Calls _ _ #[.agg h.cells.toArray] _ _
  have HB := Lib.hid (show Blk (w.alloc (.cells cs 41)) w.heap.size h.cells 41 from Blk.new w _ _ _ hcs.symm)
  have B1 := Lib.hid (show Below w.heap.size w (w.alloc (.cells cs 41)) from (Below.refl _ _).alloc (Nat.le_refl _) _)
  have hz : (w.alloc (.cells cs 41)).heap.size = w.heap.size + 1 := by simp
  have HZ := Lib.hid (szH ok)
  rw [hcs]
  have HC := Lib.hid hcs
  clear hcs
  go_enter Tryz.func61, Tryz.ntmps61
  go_upto_region 1 with fail
  generalize (w.alloc (.cells cs 41)) = w1 at *
  go_wp2_with (first | (with_reducible refine wpList_load_blk rfl _ _ rfl w.heap.size h.cells rfl HB.out _ Tryz.underlying41 rfl HZ.out ?_))
  rw [← HC.out]
  refine (written_calls w1 h ok).mono ?_
  rintro e w2 ⟨a, c, rfl, g1, g2⟩
  have G1 := Lib.hid g1
  have G2 := Lib.hid (B1.out.trans (g2.mono (by omega)))
  clear g1 g2 B1 HB
  go_wp2
  go_ret
  exact ⟨a, c, rfl, G1.out.mono (by omega), G2.out⟩
/-- a digest's block, as it is made -/
theorem start32 (w : World) : ∃ W, w.alloc (.cells #[.int .u8 0, .int .u8 0, .int .u8 0, .int .u8 0, .int .u8 0, .int .u8 0, .int .u8 0, .int .u8 0, .int .u8 0, .int .u8 0, .int .u8 0, .int .u8 0, .int .u8 0, .int .u8 0, .int .u8 0, .int .u8 0, .int .u8 0, .int .u8 0, .int .u8 0, .int .u8 0, .int .u8 0, .int .u8 0, .int .u8 0, .int .u8 0, .int .u8 0, .int .u8 0, .int .u8 0, .int .u8 0, .int .u8 0, .int .u8 0, .int .u8 0, .int .u8 0] 24) = W ∧ Hid (Blk W w.heap.size (List.replicate 32 (.int .u8 0)) 24) ∧ Hid (Below w.heap.size w W) ∧ w.heap.size + 1 = W.heap.size :=
  ⟨_, rfl, Lib.hid (ShaW.new32 w), Lib.hid ((Below.refl _ _).alloc (Nat.le_refl _) _), by simp⟩
theorem byts_one (w : World) (v : Value) (l : List UInt8) (e : TypeId) (hv : Byt Any w v l) : Byts (w.alloc (.cells #[v] e)) (.slice (some ⟨w.heap.size, 0, none⟩) 1 1) [l] := by
  refine ⟨_, 1, rfl, ⟨by simp, by unfold maxLen; omega, fun h => by cases h⟩, .inr ⟨w.heap.size, 0, rfl, fun i hi => ?_⟩⟩
  obtain rfl : i = 0 := by simpa using hi
  exact ⟨v, (Blk.new w #[v] e [v] rfl).cell (i := 0) rfl, hv.below ((Below.refl _ _).alloc (Nat.le_refl _) _)⟩
theorem szDA {m : List UInt8} (h : m.length = 32) : (Tryz.prog.info? 24).map (·.size) = some (m.map byt).toArray.size := by rw [List.size_toArray, List.length_map, h]; kernel_rfl
set_option maxHeartbeats 4000000 in
set_option maxRecDepth 100000 in
theorem ref_header_to (S : Nat → Prop) (w0 w : World) (q : Nat) (m : List UInt8) (bad : Bool) (h : Hd) (ok : h.Ok) (H : Rw.RAt S w0 w q m bad) (hlen : m.length + 80 ≤ 140737488355328) :
    Calls Tryz.prog 60 #[.pointer (some ⟨q, 0, none⟩), hv h] w fun e w' => e = .returned (.tuple #[]) ∧ Rw.RAt S w0 w' q (m ++ encH h) bad := by
  obtain ⟨cs, hcs⟩ : ∃ cs, h.cells.toArray = cs := ⟨_, rfl⟩
  show Calls _ _ #[_, .agg h.cells.toArray] _ _
  have HB := Lib.hid (show Blk (w.alloc (.cells cs 41)) w.heap.size h.cells 41 from Blk.new w _ _ _ hcs.symm)
  have HX := Lib.hid (fun w' m' => @Rw.RAt.box S w0 w w' q m bad (.cells cs 41) m' bad h.cells 41 H)
  have H1 := Lib.hid (H.enter (.cells cs 41))
  have HL := Lib.hid (fun w' m' => @Rw.RAt.leave S w0 w w' q m bad (.cells cs 41) m' bad H)
  have HP := Lib.hid (szD ok.1)
  have HR := Lib.hid (szD ok.2.1)
  have OK := Lib.hid ok
  have hz : (w.alloc (.cells cs 41)).heap.size = w.heap.size + 1 := by simp
  have HPL := Lib.hid ok.1
  have HRL := Lib.hid ok.2.1
  rw [hcs]
  clear H hcs ok
  go_enter Tryz.func60, Tryz.ntmps60
  go_upto_region 1 with fail
  have HB0 := Lib.hid (fun w' m' g => HX.out w' m' g HB.out)
  generalize (w.alloc (.cells cs 41)) = w1 at *
  go_wp2_with (first | (with_reducible refine wpList_load_mid rfl _ _ rfl w.heap.size 0 rfl (h.prev.map byt) _ (range_prev HB.out) Tryz.underlying24 rfl HP.out ?_))
  refine (Rw.digest_to _ _ w1 q m bad h.prev HPL.out H1.out (by omega)).mono ?_
  rintro e w2 ⟨rfl, g1⟩
  have B2 := Lib.hid (HB0.out _ _ g1)
  have H2 := Lib.hid g1
  clear g1 H1
  go_wp2_with (first | (with_reducible refine wpList_load_mid rfl _ _ rfl w.heap.size 32 rfl (h.root.map byt) _ (range_root OK.out B2.out) Tryz.underlying24 rfl HR.out ?_))
  refine (Rw.digest_to _ _ w2 q _ bad h.root HRL.out H2.out (by rw [List.length_append, HPL.out]; omega)).mono ?_
  rintro e w3 ⟨rfl, g1⟩
  have B3 := Lib.hid (HB0.out _ _ g1)
  have H3 := Lib.hid g1
  have d0 : w3.cell? ⟨w.heap.size, 64, none⟩ = some (.int .u64 (h.height : Int)) := B3.out.cell (Hd.cell_height OK.out)
  clear g1 H2 B2
  go_wp2_with fail
  refine (Rw.num_to _ _ w3 q _ bad h.height 8 OK.out.2.2.1 (by omega) H3.out (by rw [List.length_append, List.length_append, HPL.out, HRL.out]; omega)).mono ?_
  rintro e w4 ⟨rfl, g1⟩
  have B4 := Lib.hid (HB0.out _ _ g1)
  have H4 := Lib.hid g1
  have d1 : w4.cell? ⟨w.heap.size, 65, none⟩ = some (.int .u64 (h.nonce : Int)) := B4.out.cell (Hd.cell_nonce OK.out)
  clear g1 H3 B3 d0
  go_wp2_with fail
  refine (Rw.num_to _ _ w4 q _ bad h.nonce 8 OK.out.2.2.2 (by omega) H4.out (by simp only [List.length_append, HPL.out, HRL.out, num_length]; omega)).mono ?_
  rintro e w5 ⟨rfl, g1⟩
  have HF := Lib.hid (HL.out _ _ g1)
  clear g1 H4 B4 d1 HL HB0 HX HB
  go_wp2
  go_end0
  refine ⟨rfl, ?_⟩
  have := HF.out
  simp only [List.append_assoc] at this
  exact this
set_option maxHeartbeats 4000000 in
set_option maxRecDepth 100000 in
theorem ref_mainHeader_calls (w : World) (h : Hd) (ok : h.Ok) :
    Calls Tryz.prog 38 #[hv h] w fun e w' => ∃ a c, e = .returned (.slice a 80 c) ∧ OwnB 0 5 w' (.slice a 80 c) (encH h) ∧ Below w.heap.size w w' := by
  obtain ⟨cs, hcs⟩ : ∃ cs, h.cells.toArray = cs := ⟨_, rfl⟩
  show Calls _ _ #[.agg h.cells.toArray] _ _
  have HB := Lib.hid (show Blk (w.alloc (.cells cs 41)) w.heap.size h.cells 41 from Blk.new w _ _ _ hcs.symm)
  have B1 := Lib.hid (show Below w.heap.size w (w.alloc (.cells cs 41)) from (Below.refl _ _).alloc (Nat.le_refl _) _)
  have hz : w.heap.size + 1 ≤ (w.alloc (.cells cs 41)).heap.size := by simp
  have HZ := Lib.hid (szH ok)
  have HE := Lib.hid (encH_length ok)
  rw [hcs]
  have HC := Lib.hid hcs
  clear hcs
  go_enter Tryz.func38, Tryz.ntmps38
  go_upto_region 1 with fail
  generalize (w.alloc (.cells cs 41)) = w1 at *
  have H2 := Lib.hid (Rw.RAt.start (RfW.RefIs.new w1) (fun k h => by simp; omega))
  have HB2 := Lib.hid (HB.out.alloc (.cells #[.slice none 0 0, .bool false] 91))
  have B2 := Lib.hid (B1.out.alloc (by omega) (.cells #[.slice none 0 0, .bool false] 91))
  have hs3 : w1.heap.size + 1 ≤ (w1.alloc (.cells #[.slice none 0 0, .bool false] 91)).heap.size := by simp
  clear HB B1
  go_upto_region 2 with fail
  generalize (w1.alloc (.cells #[.slice none 0 0, .bool false] 91)) = w3 at *
  go_wp2_with (first | (with_reducible refine wpList_load_blk rfl _ _ rfl w.heap.size h.cells rfl HB2.out _ Tryz.underlying41 rfl HZ.out ?_))
  rw [← HC.out]
  refine (ref_header_to _ w3 w3 w1.heap.size [] false h ok H2.out (by simp)).mono ?_
  rintro e w4 ⟨rfl, g1⟩
  obtain ⟨a, c, g2, g3, g4, _, _⟩ := g1.1.opened
  have g5 := g1.2.1
  have c0 := g2.cell (i := 0) rfl
  rw [List.nil_append, HE.out] at c0 g3
  have G3 := Lib.hid g3
  have BF := Lib.hid (B2.out.trans (show Below w.heap.size w3 w4 from g5.below (by omega) (fun k h => by omega)))
  clear g1 g2 g3 g4 g5 H2 B2 HB2
  go_wp2
  go_ret
  exact ⟨a, c, rfl, G3.out, BF.out⟩
set_option maxHeartbeats 4000000 in
set_option maxRecDepth 100000 in
theorem mainId_calls (w : World) (h : Hd) (ok : h.Ok) (hT : TabB w 1) :
    Calls Tryz.prog 41 #[hv h] w fun e w' => e = .returned (dv (mainId h)) ∧ Below w.heap.size w w' := by
  obtain ⟨cs, hcs⟩ : ∃ cs, h.cells.toArray = cs := ⟨_, rfl⟩
  show Calls _ _ #[.agg h.cells.toArray] _ _
  obtain ⟨w1, hw1⟩ : ∃ w1, w.alloc (.cells cs 41) = w1 := ⟨_, rfl⟩
  have HB := Lib.hid (show Blk w1 w.heap.size h.cells 41 from by rw [← hw1]; exact Blk.new w _ _ _ hcs.symm)
  have B1 := Lib.hid (show Below w.heap.size w w1 from by rw [← hw1]; exact (Below.refl _ _).alloc (Nat.le_refl _) _)
  have hz : w.heap.size + 1 = w1.heap.size := by rw [← hw1]; simp
  obtain ⟨W, hW, H0, BW, hs⟩ := start32 w1
  have HB2 := Lib.hid (HB.out.below BW.out)
  have B2 := Lib.hid (B1.out.trans (BW.out.mono (by omega)))
  have HT := Lib.hid (hT.below B2.out)
  have HZ := Lib.hid (szH ok)
  have hsz := BW.out.size
  rw [hcs]
  have HC := Lib.hid hcs
  clear hcs hT HB B1
  go_enter Tryz.func41, Tryz.ntmps41
  go_upto_region 1 with fail
  clear hw1 hW
  go_wp2_with (first | (with_reducible refine wpList_load_blk rfl _ _ rfl w.heap.size h.cells rfl HB2.out _ Tryz.underlying41 rfl HZ.out ?_))
  rw [← HC.out]
  refine (mainHeader_calls W h ok).mono ?_
  rintro e w2 ⟨a, c, rfl, g1, g2⟩
  have HBW := Lib.hid (show Byt Any w2 (.slice a 80 c) (encH h) from g1.byt.any)
  have H2 := Lib.hid (H0.out.below g2)
  have HT2 := Lib.hid (HT.out.below g2)
  have B3 := Lib.hid (B2.out.trans (g2.mono (by omega)))
  have hs2 := g2.size
  clear g1 g2 HB2 H0
  have HAL := Lib.hid (show Below w2.heap.size w2 (w2.alloc (.cells #[.slice a 80 c] 25)) from (Below.refl _ _).alloc (Nat.le_refl _) _)
  have HY := Lib.hid (byts_one w2 (.slice a 80 c) (encH h) 25 HBW.out)
  have HT3 := Lib.hid (HT2.out.below HAL.out)
  have HLE := Lib.hid (encH_length ok)
  go_wp2_with fail
  refine (tagged_calls _ idName _ [encH h] HY.out (by decide) (by simp [HLE.out]) (by simp) HT3.out).mono ?_
  rintro e w3 ⟨rfl, g⟩
  have H3 := Lib.hid ((H2.out.below HAL.out).below g)
  have B4 := Lib.hid (B3.out.trans ((HAL.out.trans (g.mono HAL.out.size)).mono (by omega)))
  have HML := Lib.hid (mainId_length h)
  have HONE := Lib.hid (one_cells (mainId h))
  have HE := Lib.hid (show mainId h = tagged idName [encH h] from rfl)
  rw [← HE.out]
  obtain ⟨m, hm⟩ : ∃ m, mainId h = m := ⟨_, rfl⟩
  rw [hm] at HML HONE ⊢
  have HM := Lib.hid hm
  clear g H2 B2 B3 HAL HY HBW hm HE
  go_wp2_with (with_reducible refine wpList_store_blk rfl _ _ _ rfl w1.heap.size (m.map byt) _ rfl _ rfl rfl H3.out (szD HML.out) (by simp [HML.out]) HONE.out ?_)
  exact bodyPost_ret (v := dv m) (results_cell_row Tryz.results41 _ _ w1.heap.size 24 _ (0, 0) _ rfl (H3.out.row _) Tryz.underlying24 rfl (szDA HML.out)) rfl ⟨by rw [HM.out], below_setRow B4.out (by omega) _⟩
set_option maxHeartbeats 4000000 in
set_option maxRecDepth 100000 in
theorem ref_mainId_calls (w : World) (h : Hd) (ok : h.Ok) (hT : TabB w 0) :
    Calls Tryz.prog 13 #[hv h] w fun e w' => e = .returned (dv (mainId h)) ∧ Below w.heap.size w w' := by
  obtain ⟨cs, hcs⟩ : ∃ cs, h.cells.toArray = cs := ⟨_, rfl⟩
  show Calls _ _ #[.agg h.cells.toArray] _ _
  obtain ⟨w1, hw1⟩ : ∃ w1, w.alloc (.cells cs 41) = w1 := ⟨_, rfl⟩
  have HB := Lib.hid (show Blk w1 w.heap.size h.cells 41 from by rw [← hw1]; exact Blk.new w _ _ _ hcs.symm)
  have B1 := Lib.hid (show Below w.heap.size w w1 from by rw [← hw1]; exact (Below.refl _ _).alloc (Nat.le_refl _) _)
  have hz : w.heap.size + 1 = w1.heap.size := by rw [← hw1]; simp
  obtain ⟨W, hW, H0, BW, hs⟩ := start32 w1
  have HB2 := Lib.hid (HB.out.below BW.out)
  have B2 := Lib.hid (B1.out.trans (BW.out.mono (by omega)))
  have HT := Lib.hid (hT.below B2.out)
  have HZ := Lib.hid (szH ok)
  have hsz := BW.out.size
  rw [hcs]
  have HC := Lib.hid hcs
  clear hcs hT HB B1
  go_enter Tryz.func13, Tryz.ntmps13
  go_upto_region 1 with fail
  clear hw1 hW
  go_wp2_with (first | (with_reducible refine wpList_load_blk rfl _ _ rfl w.heap.size h.cells rfl HB2.out _ Tryz.underlying41 rfl HZ.out ?_))
  rw [← HC.out]
  refine (ref_mainHeader_calls W h ok).mono ?_
  rintro e w2 ⟨a, c, rfl, g1, g2⟩
  have HBW := Lib.hid (show Byt Any w2 (.slice a 80 c) (encH h) from g1.byt.any)
  have H2 := Lib.hid (H0.out.below g2)
  have HT2 := Lib.hid (HT.out.below g2)
  have B3 := Lib.hid (B2.out.trans (g2.mono (by omega)))
  have hs2 := g2.size
  clear g1 g2 HB2 H0
  have HAL := Lib.hid (show Below w2.heap.size w2 (w2.alloc (.cells #[.slice a 80 c] 25)) from (Below.refl _ _).alloc (Nat.le_refl _) _)
  have HY := Lib.hid (byts_one w2 (.slice a 80 c) (encH h) 25 HBW.out)
  have HT3 := Lib.hid (HT2.out.below HAL.out)
  have HLE := Lib.hid (encH_length ok)
  go_wp2_with fail
  refine (ref_tagged_calls _ idName _ [encH h] HY.out (by decide) (by simp [HLE.out]) (by simp) HT3.out).mono ?_
  rintro e w3 ⟨rfl, g⟩
  have H3 := Lib.hid ((H2.out.below HAL.out).below g)
  have B4 := Lib.hid (B3.out.trans ((HAL.out.trans (g.mono HAL.out.size)).mono (by omega)))
  have HML := Lib.hid (mainId_length h)
  have HONE := Lib.hid (one_cells (mainId h))
  have HE := Lib.hid (show mainId h = tagged idName [encH h] from rfl)
  rw [← HE.out]
  obtain ⟨m, hm⟩ : ∃ m, mainId h = m := ⟨_, rfl⟩
  rw [hm] at HML HONE ⊢
  have HM := Lib.hid hm
  clear g H2 B2 B3 HAL HY HBW hm HE
  go_wp2_with (with_reducible refine wpList_store_blk rfl _ _ _ rfl w1.heap.size (m.map byt) _ rfl _ rfl rfl H3.out (szD HML.out) (by simp [HML.out]) HONE.out ?_)
  exact bodyPost_ret (v := dv m) (results_cell_row Tryz.results13 _ _ w1.heap.size 24 _ (0, 0) _ rfl (H3.out.row _) Tryz.underlying24 rfl (szDA HML.out)) rfl ⟨by rw [HM.out], below_setRow B4.out (by omega) _⟩
end Go.Proofs.YtmenchnjajpkmaaGreatDoor.Wh
end

section
namespace Go.Proofs.YtmenchnjajpkmaaGreatDoor.Maps
open Go Go.RowKit Mem
open Go.ChangeMaps Go.MapKept
open Go.Maps (Keyed)

/-- block b of w is a map that holds the pairs l, in the order in which they were laid in -/
def MapIs (P : Program) (k : TypeId) (w : World) (b : Nat) (l : List (Value × Value)) : Prop :=
  ∃ es clock, w.heap[b]? = some (.map es clock) ∧ es.toList.map (fun e => (e.key, e.val)) = l ∧ Stamped es clock ∧ ∀ p ∈ l, ∃ kl, keyOf P k p.1 = some kl
section
variable {P : Program} {k : TypeId} {w w' : World} {b : Nat} {l : List (Value × Value)}
theorem MapIs.lt (h : MapIs P k w b l) : b < w.heap.size := by
  obtain ⟨_, _, h, _⟩ := h
  exact (Array.getElem?_eq_some_iff.1 h).1
theorem MapIs.fr {S : Nat → Prop} (h : MapIs P k w b l) (hf : Fr S w w') (hn : ¬ S b) : MapIs P k w' b l := by
  have hlt := h.lt
  obtain ⟨es, clock, h1, h2⟩ := h
  exact ⟨es, clock, (hf.block b hlt hn).trans h1, h2⟩
theorem MapIs.below (h : MapIs P k w b l) (hf : Below w.heap.size w w') : MapIs P k w' b l := h.fr (Fr.ofBelow hf) (by have := h.lt; omega)
theorem MapIs.drew (h : MapIs P k w b l) : MapIs P k w.drew b l := h
theorem MapIs.new (P : Program) (k : TypeId) (w : World) : MapIs P k (w.alloc (.map #[] 0)) w.heap.size [] :=
  ⟨#[], 0, by rw [World.alloc]; simp, rfl, stamped_empty 0, by simp⟩
theorem MapIs.apart (h : MapIs P k w b l) : l.Pairwise (fun p q => p.1 ≠ q.1) := by
  obtain ⟨es, clock, _, rfl, hs, _⟩ := h
  rw [List.pairwise_map]
  exact ((stamped_iff es clock).1 hs).2.2
/-- what stands at a key -/
def AtKey (l : List (Value × Value)) (key : Value) (r : Option Value) : Prop := (r = none ∧ ∀ p ∈ l, p.1 ≠ key) ∨ ∃ v, r = some v ∧ (key, v) ∈ l
theorem pair_one {key u v : Value} : ∀ {l : List (Value × Value)}, l.Pairwise (fun p q => p.1 ≠ q.1) → (key, u) ∈ l → (key, v) ∈ l → u = v
  | p :: r, hp, hu, hv => by
    rw [List.pairwise_cons] at hp
    rcases List.mem_cons.1 hu with rfl | hu
    · rcases List.mem_cons.1 hv with hv | hv
      · exact (congrArg Prod.snd hv).symm
      · exact absurd rfl (hp.1 (key, v) hv)
    · rcases List.mem_cons.1 hv with hv | hv
      · rw [← hv] at hp; exact absurd rfl (hp.1 (key, u) hu)
      · exact pair_one hp.2 hu hv
theorem find_at (K : Keyed P k) {es : Array MapEntry} (he : es.toList.map (fun e => (e.key, e.val)) = l) (hl : ∀ p ∈ l, ∃ kl, keyOf P k p.1 = some kl) (hp : l.Pairwise (fun p q => p.1 ≠ q.1)) {key : Value} {kl : Lit} (hk : keyOf P k key = some kl) {r : Option Value} (hr : AtKey l key r) (w : World) :
    (r = none ∧ (Instr.findKey k key es.toList).run P w = .ok none w ∧ ∀ e ∈ es.toList, e.key ≠ key) ∨ ∃ j e, r = some e.val ∧ (Instr.findKey k key es.toList).run P w = .ok (some (j, e.val)) w ∧ es.toList[j]? = some e ∧ e.key = key := by
  have hes : ∀ e ∈ es.toList, ∃ l, keyOf P k e.key = some l := fun e hm => hl (e.key, e.val) (by rw [← he]; exact List.mem_map.2 ⟨e, hm, rfl⟩)
  rcases K.find w hk es.toList hes with ⟨h1, h2⟩ | ⟨j, e, h1, h2, h3⟩
  · left
    refine ⟨?_, h1, h2⟩
    rcases hr with ⟨hr, _⟩ | ⟨v, hr, hm⟩
    · exact hr
    · rw [← he] at hm
      obtain ⟨e, hm, e1⟩ := List.mem_map.1 hm
      exact absurd (congrArg Prod.fst e1) (h2 e hm)
  · right
    have hmem : (key, e.val) ∈ l := by rw [← he]; exact List.mem_map.2 ⟨e, List.mem_of_getElem? h2, by rw [h3]⟩
    refine ⟨j, e, ?_, h1, h2, h3⟩
    rcases hr with ⟨_, hr⟩ | ⟨v, hr, hm⟩
    · exact absurd rfl (hr _ hmem)
    · rw [hr, pair_one hp hm hmem]
/-- 'm[k]', 'v, is := m[k]' -/
theorem run_look {t e : TypeId} (h : MapIs P k w b l) (K : Keyed P k) (ht : P.underlying t = some (.map k e)) {z : Value} (hz : (zeroValue e).run P w = .ok z w) {key : Value} {kl : Lit} (hk : keyOf P k key = some kl) {r : Option Value} (hr : AtKey l key r) (ok : Bool) :
    (Instr.lookup t (.map (some b)) key ok).run P w = .ok (if ok = true then .tuple #[r.getD z, .bool r.isSome] else r.getD z) w := by
  have hp := h.apart
  obtain ⟨es, clock, hb, he, hs, hl⟩ := h
  rcases find_at K he hl hp hk hr w with ⟨rfl, h1, _⟩ | ⟨j, e, rfl, h1, _, _⟩
  · simp [Instr.lookup, run_underlying ht, MapKept.run_getObj_map hb, K.check w _ hk, h1, hz, Result.andThen]
  · simp [Instr.lookup, run_underlying ht, MapKept.run_getObj_map hb, K.check w _ hk, h1, Result.andThen]
/-- 'len(m)' -/
theorem run_len {t e : TypeId} (h : MapIs P k w b l) (ht : P.underlying t = some (.map k e)) (ty : TypeId) : (Builtin.len_ #[t] ty #[.map (some b)]).run P w = .ok (.int .i64 (l.length : Int)) w := by
  obtain ⟨es, clock, hb, rfl, _⟩ := h
  simp [Builtin.len_, run_underlying ht, MapKept.run_getObj_map hb, goInt, Result.andThen]
/-- 'm[k] = v' at a new key -/
theorem run_lay {t e : TypeId} (h : MapIs P k w b l) (K : Keyed P k) (ht : P.underlying t = some (.map k e)) {key : Value} {kl : Lit} (hk : keyOf P k key = some kl) (hr : ∀ p ∈ l, p.1 ≠ key) (val : Value) :
    ∃ w', (Instr.mapUpdate t (.map (some b)) key val).run P w = .ok () w' ∧ MapIs P k w' b (l ++ [(key, val)]) ∧ Fr (fun i => i = b) w w' := by
  have hp := h.apart
  obtain ⟨es, clock, hb, he, hs, hl⟩ := h
  rcases find_at K he hl hp hk (.inl ⟨rfl, hr⟩) w with ⟨_, h1, h2⟩ | ⟨j, e, h3, _⟩
  · refine ⟨setBlock w b (.map (es.push ⟨key, val, clock⟩) (clock + 1)), ?_, ⟨_, _, heap_setBlock_same hb _, by simp [he], stamped_push hs h2, ?_⟩, ⟨rfl, rfl, rfl, by simp [setBlock], fun i hi hne => heap_setBlock_other hb _ hne⟩⟩
    · simp [Instr.mapUpdate, run_underlying ht, MapKept.run_getObj_map hb, K.check w false hk, h1, MapKept.run_setObj_map _ hb, Result.andThen, setBlock]
    · intro p hp
      rcases List.mem_append.1 hp with hp | hp
      · exact hl p hp
      · rw [List.mem_singleton.1 hp]; exact ⟨kl, hk⟩
  · cases h3
end
section
variable {P : Program} {k : TypeId} {b : Nat} {l : List (Value × Value)} {w : World} {ops : Array Oper} {rest : List Oper} {o : Oper} {a : Act} {Q : Exit → Act → World → Prop}
theorem wpList_look (hg : o.guard = none) (m x : Operand) (t : TypeId) (ok : Bool) (hop : o.op = Op.lookup t m x ok) (e : TypeId) (K : Keyed P k) (ht : P.underlying t = some (.map k e)) {z : Value} (hz : (zeroValue e).run P w = .ok z w)
    (hm : a.eval m = .map (some b)) (h : MapIs P k w b l) (key : Value) (kl : Lit) (hx : a.eval x = key) (hk : keyOf P k key = some kl) (r : Option Value) (hr : AtKey l key r)
    (hK : wpList P ops Q rest (a.put o.dst (if ok = true then .tuple #[r.getD z, .bool r.isSome] else r.getD z)) w) : wpList P ops Q (o :: rest) a w := by
  refine wpList_plain hg fun K' hK' => ?_
  unfold Oper.wp
  simp [execOp, hop, hm, hx, run_look h K ht hz hk hr ok, Result.andThen]
  exact hK' _ _ hK
theorem wpList_lay (hg : o.guard = none) (m x v : Operand) (t : TypeId) (hop : o.op = Op.mapUpdate t m x v) (e : TypeId) (K : Keyed P k) (ht : P.underlying t = some (.map k e))
    (hm : a.eval m = .map (some b)) (h : MapIs P k w b l) (key val : Value) (kl : Lit) (hx : a.eval x = key) (hv : a.eval v = val) (hk : keyOf P k key = some kl) (hr : ∀ p ∈ l, p.1 ≠ key)
    (hK : ∀ w', MapIs P k w' b (l ++ [(key, val)]) → Fr (fun i => i = b) w w' → wpList P ops Q rest (a.put o.dst undef) w') : wpList P ops Q (o :: rest) a w := by
  refine wpList_plain hg fun K' hK' => ?_
  obtain ⟨w', hrun, r1, r2⟩ := run_lay h K ht hk hr val
  unfold Oper.wp
  simp [execOp, hop, hm, hx, hv, hrun, Result.andThen]
  exact hK' _ _ (hK w' r1 r2)
theorem wpList_maplen (hg : o.guard = none) (m : Operand) (t : TypeId) (hop : o.op = .call { callee := .builtin .len, args := #[m], argTypes := #[t] }) (e : TypeId) (ht : P.underlying t = some (.map k e))
    (hm : a.eval m = .map (some b)) (h : MapIs P k w b l) (hK : wpList P ops Q rest (a.put o.dst (.int .i64 (l.length : Int))) w) : wpList P ops Q (o :: rest) a w := by
  refine wpList_plain hg fun K' hK' => ?_
  unfold Oper.wp
  simp [execOp, hop, resolve, invoke, builtin, hm, run_len h ht, Result.andThen]
  exact hK' _ _ hK
end
section
variable {P : Program} {k : TypeId} {b : Nat} {l : List (Value × Value)} {w : World} {ops : Array Oper} {o : Oper} {a : Act} {Q : Exit → Act → World → Prop} {S : World → Prop} {K : Act → World → Prop}
/-- in a region that draws -/
theorem yieldsIf_look (hw : Region.wanted o (yielded ops a.tmps) = true) (m x : Operand) (t : TypeId) (ok : Bool) (hop : o.op = Op.lookup t m x ok) (e : TypeId) (K : Keyed P k) (ht : P.underlying t = some (.map k e)) {z : Value} (hz : ∀ w, (zeroValue e).run P w = .ok z w)
    (hm : a.eval m = .map (some b)) (h : ∀ w, S w → MapIs P k w b l) (key : Value) (kl : Lit) (hx : a.eval x = key) (hk : keyOf P k key = some kl) (r : Option Value) (hr : AtKey l key r) (u : Value) (hu : (if ok = true then .tuple #[r.getD z, .bool r.isSome] else r.getD z) = u) : YieldsIf P ops S o u a :=
  .inl ⟨hw, fun w hw' => by
    subst hu
    unfold execOp
    simp [hop, hm, hx, run_look (h w hw') K ht (hz w) hk hr ok, Result.andThen]⟩
theorem wp_lay (m x v : Operand) (t : TypeId) (hop : o.op = Op.mapUpdate t m x v ∨ o.op = Op.insert t m x v) (e : TypeId) (K' : Keyed P k) (ht : P.underlying t = some (.map k e))
    (hm : a.eval m = .map (some b)) (h : MapIs P k w b l) (key val : Value) (kl : Lit) (hx : a.eval x = key) (hv : a.eval v = val) (hk : keyOf P k key = some kl) (hr : ∀ p ∈ l, p.1 ≠ key)
    (hK : ∀ w', MapIs P k w' b (l ++ [(key, val)]) → Fr (fun i => i = b) w w' → K (a.put o.dst undef) w') : Oper.wp P o a w K Q := by
  obtain ⟨w', hrun, r1, r2⟩ := run_lay h K' ht hk hr val
  unfold Oper.wp
  rcases hop with hop | hop <;> simp [execOp, hop, hm, hx, hv, hrun, Result.andThen] <;> exact hK w' r1 r2
theorem wp_makeMap (t : TypeId) (ho : o.op = .makeMap t none) (h : ∀ w', MapIs P k w' w.heap.size [] → Below w.heap.size w w' → w.heap.size + 1 = w'.heap.size → K (a.put o.dst (.map (some w.heap.size))) w') : Oper.wp P o a w K Q := by
  unfold Oper.wp
  simp [execOp, ho, Instr.makeMap, Result.andThen]
  exact h _ (MapIs.new P k w) ((Below.refl _ _).alloc (Nat.le_refl _) _) (by simp)
end
/-- an array of bytes as a key -/
theorem mapM_some {α β : Type} (f : α → Option β) (g : α → β) : ∀ xs : List α, (∀ x ∈ xs, f x = some (g x)) → xs.mapM f = some (xs.map g)
  | [], _ => rfl
  | x :: xs, h => by rw [List.mapM_cons, h x (by simp), mapM_some f g xs (fun y hy => h y (by simp [hy]))]; rfl
theorem keyOf_bytes {P : Program} {k e : TypeId} {n : Nat} (hk : P.underlying k = some (.array n e)) (he : P.underlying e = some (.int .u8)) (hc : P.cellsOf k = n) (hce : P.cellsOf e = 1) (hkt : P.keyType k = true) (hts : 0 < P.types.size) (d : List UInt8) (hd : d.length = n) : ∃ kl, keyOf P k (.agg (d.map byt).toArray) = some kl := by
  have hf : (Value.agg (d.map byt).toArray).formed P k = true := by simp [Value.formed, hk, hc, hd]
  unfold keyOf
  simp only [hk, hkt, hf, Bool.and_self, if_true, Value.cells]
  unfold Program.keyLits
  simp only [hk]
  rw [if_pos (by simp [hd, hc])]
  obtain ⟨m, hm⟩ : ∃ m, P.types.size = m + 1 := ⟨P.types.size - 1, by omega⟩
  rw [hm]
  rw [mapM_some _ (fun i => [Lit.int .u8 ((d[i]?.getD 0).toNat : Int)]) _ (fun i hi => ?_)]
  · exact ⟨_, rfl⟩
  · have hi : i < d.length := by rw [hd]; exact List.mem_range.1 hi
    have hdt : ((d.map byt).toArray.toList.drop (i * P.cellsOf e)).take (P.cellsOf e) = [byt (d[i]'hi)] := by
      rw [hce, Nat.mul_one]
      rw [List.drop_eq_getElem_cons (by simpa using hi)]
      simp
    rw [hdt]
    have hw : (Lit.int .u8 ((d[i]'hi).toNat : Int)).wf = true := by
      have := (d[i]'hi).toNat_lt
      have e1 : IntKind.u8.min = 0 := by kernel_rfl
      have e2 : IntKind.u8.max = 255 := by kernel_rfl
      simp only [Lit.wf, e1, e2, decide_eq_true_eq, Bool.and_eq_true]
      omega
    unfold Program.keyLits
    simp only [he, List.getElem?_eq_getElem hi, Option.getD_some]
    simp only [hw, and_self, if_true]
end Go.Proofs.YtmenchnjajpkmaaGreatDoor.Maps
end

section
namespace Go.Proofs.YtmenchnjajpkmaaGreatDoor.Row
open Go Go.RowKit Mem

/-- a slice of the call's own that holds n values of so many cells, in a block from base on -/
def OwnV (size base : Nat) (e : TypeId) (w : World) (v : Value) (n : Nat) (vals : List Value) : Prop := w.ownsRow base e size v n vals
section
variable {size base base' : Nat} {e : TypeId} {w w' : World} {v : Value} {n : Nat} {vals : List Value}
theorem OwnV.nil (size base : Nat) (e : TypeId) (w : World) : OwnV size base e w (.slice none 0 0) 0 [] := World.ownsRow_nil _ _ _ _
theorem OwnV.drew (h : OwnV size base e w v n vals) : OwnV size base e w.drew v n vals := h
theorem OwnV.alloc (h : OwnV size base e w v n vals) (o : Obj) : OwnV size base e (w.alloc o) v n vals := World.ownsRow.alloc h o
theorem OwnV.fr {S : Nat → Prop} (h : OwnV size base e w v n vals) (hf : Fr S w w') (hn : ∀ k, v.ownBlock = some k → ¬ S k) : OwnV size base e w' v n vals := by
  refine ⟨h.1, ?_⟩
  rcases h.2 with h2 | ⟨g, cap, cur, rfl, hb, hgg, rest⟩
  · exact .inl h2
  · exact .inr ⟨g, cap, cur, rfl, hb, (hf.block g (Array.getElem?_eq_some_iff.1 hgg).1 (hn g rfl)).trans hgg, rest⟩
theorem OwnV.below (h : OwnV size base e w v n vals) (hf : Below w.heap.size w w') : OwnV size base e w' v n vals :=
  h.fr (Fr.ofBelow hf) (fun k hk h2 => by have := (World.ownsRow.lt h k hk).2; omega)
theorem OwnV.mono (h : OwnV size base e w v n vals) (hb : base' ≤ base) : OwnV size base' e w v n vals := by
  refine ⟨h.1, ?_⟩
  rcases h.2 with h2 | ⟨g, cap, cur, hv, hg, r⟩
  · exact .inl h2
  · exact .inr ⟨g, cap, cur, hv, by omega, r⟩
theorem OwnV.lt (h : OwnV size base e w v n vals) : ∀ k, v.ownBlock = some k → base ≤ k ∧ k < w.heap.size := World.ownsRow.lt h
theorem OwnV.len (h : OwnV size base e w v n vals) : vals.length = n * size := h.1
theorem OwnV.form (h : OwnV size base e w v n vals) : ∃ a cap, v = .slice a n cap ∧ n ≤ cap ∧ cap ≤ maxLen ∧ (a = none → cap = 0) := by
  rcases h.2 with ⟨rfl, rfl⟩ | ⟨g, cap, cur, hv, _, _, hc, hm, _⟩
  · exact ⟨none, 0, rfl, Nat.le_refl _, Nat.zero_le _, fun _ => rfl⟩
  · exact ⟨_, cap, hv, hc, hm, fun h => by cases h⟩
theorem OwnV.at (h : OwnV size base e w v n vals) (hn : 0 < n) : ∃ g cap, v = .slice (some ⟨g, 0, none⟩) n cap ∧ base ≤ g ∧ g < w.heap.size ∧ ∀ i (hi : i < n * size), w.cell? ⟨g, i, none⟩ = some (vals[i]'(by rw [h.len]; exact hi)) := by
  rcases h.2 with ⟨rfl, rfl⟩ | ⟨g, cap, cur, hv, hg, hh, hc, hm, hs, ht⟩
  · omega
  · subst hv
    refine ⟨g, cap, rfl, hg, (Array.getElem?_eq_some_iff.1 hh).1, fun i hi => ?_⟩
    have := h.cellAt i hi
    rw [this, List.getElem?_eq_getElem (by rw [h.len]; exact hi)]

/-- 'append(s, ..)' of a slice of the call's own and as many new values as lie at an address -/
theorem run_append_val {P : Program} (w : World) (t ty base e : TypeId) {z : Value} {bytes : Nat} (T : ElemT P t e z size bytes) (v : Value) (n : Nat) (vals : List Value) (hown : OwnV size base e w v n vals)
    (ad : Addr) (m c : Nat) (news : List Value) (hl : news.length = m * size) (hnews : ∀ j u, news[j]? = some u → w.cell? (ad.add j) = some u) (h1 : ∀ u ∈ news, u.oneCell' = true)
    (h63 : n + m ≤ maxLen) (hbytes : (n + m) * bytes ≤ 140737488355328) (hb : base ≤ w.heap.size) :
    ∃ a' cap' w', (Builtin.append_ #[t, t] ty #[v, .slice (some ad) m c]).run P w = .ok (.slice a' (n + m) cap') w' ∧ OwnV size base e w' (.slice a' (n + m) cap') (n + m) (vals ++ news) ∧ w.grownBy w' v.ownBlock ∧
      ((Value.slice a' (n + m) cap').ownBlock = v.ownBlock ∨ (Value.slice a' (n + m) cap').ownBlock = some w.heap.size) := by
  obtain ⟨i, hi, hz, hsz, hby⟩ := T.info
  obtain ⟨v', w', h0, h1, h2, h3, h4⟩ := run_append_own_at (P := P) w base t ty e i z size bytes T.und hi hz hsz hby T.zsz T.pos v n vals hown ad m c news hl hnews h1 h63 hbytes hb
  obtain ⟨a', cap', rfl, _⟩ := OwnV.form h1
  exact ⟨a', cap', w', h0, h1, h2, h4⟩

theorem wpList_append_val {P : Program} (w : World) {ops : Array Oper} {rest : List Oper} {o : Oper} {a : Act} {Q : Exit → Act → World → Prop} (hgd : o.guard = none) (s x : Operand) (t : TypeId)
    (ho : o.op = .call { callee := .builtin .append, args := #[s, x], argTypes := #[t, t] }) (base : Nat) (e : TypeId) {z : Value} {bytes : Nat} (T : ElemT P t e z size bytes)
    (v : Value) (n : Nat) (vals : List Value) (hs : a.eval s = v) (hown : OwnV size base e w v n vals) (ad : Addr) (m c : Nat) (news : List Value) (hx : a.eval x = .slice (some ad) m c) (hl : news.length = m * size)
    (hnews : ∀ j u, news[j]? = some u → w.cell? (ad.add j) = some u) (h1 : ∀ u ∈ news, u.oneCell' = true) (h63 : n + m ≤ maxLen) (hbytes : (n + m) * bytes ≤ 140737488355328) (hb : base ≤ w.heap.size)
    (h : ∀ (a' : Option Addr) (cap' : Nat) (w' : World), OwnV size base e w' (.slice a' (n + m) cap') (n + m) (vals ++ news) → w.grownBy w' v.ownBlock → ((Value.slice a' (n + m) cap').ownBlock = v.ownBlock ∨ (Value.slice a' (n + m) cap').ownBlock = some w.heap.size) → wpList P ops Q rest (a.put o.dst (.slice a' (n + m) cap')) w') :
    wpList P ops Q (o :: rest) a w := by
  obtain ⟨a', cap', w', h0, h1, h2, h4⟩ := run_append_val (P := P) w t o.type base e T v n vals hown ad m c news hl hnews h1 h63 hbytes hb
  refine wpList_plain hgd fun K hK => ?_
  unfold Oper.wp
  simp [execOp, ho, resolve, invoke, builtin, hs, hx, h0, Result.andThen]
  exact hK _ _ (h a' cap' w' h1 h2 h4)
/-- the same inside a fence -/
theorem wpListIn_append_val {F : Fence} {k : Nat} {P : Program} (w : World) {ops : Array Oper} {rest : List Oper} {o : Oper} {a : Act} {Q : Exit → Act → World → Prop} (hgd : o.guard = none) (s x : Operand) (t : TypeId)
    (ho : o.op = .call { callee := .builtin .append, args := #[s, x], argTypes := #[t, t] }) (base : Nat) (e : TypeId) {z : Value} {bytes : Nat} (T : ElemT P t e z size bytes)
    (v : Value) (n : Nat) (vals : List Value) (hs : a.eval s = v) (hown : OwnV size base e w v n vals) (ad : Addr) (m c : Nat) (news : List Value) (hx : a.eval x = .slice (some ad) m c) (hl : news.length = m * size)
    (hnews : ∀ j u, news[j]? = some u → w.cell? (ad.add j) = some u) (h1 : ∀ u ∈ news, u.oneCell' = true) (h63 : n + m ≤ maxLen) (hbytes : (n + m) * bytes ≤ 140737488355328) (hb : base ≤ w.heap.size)
    (h : ∀ (a' : Option Addr) (cap' : Nat) (w' : World), OwnV size base e w' (.slice a' (n + m) cap') (n + m) (vals ++ news) → w.grownBy w' v.ownBlock → ((Value.slice a' (n + m) cap').ownBlock = v.ownBlock ∨ (Value.slice a' (n + m) cap').ownBlock = some w.heap.size) → wpListIn F k P ops Q rest (a.put o.dst (.slice a' (n + m) cap')) w') :
    wpListIn F k P ops Q (o :: rest) a w := by
  obtain ⟨a', cap', w', h0, h1, h2, h4⟩ := run_append_val (P := P) w t o.type base e T v n vals hown ad m c news hl hnews h1 h63 hbytes hb
  refine wpListIn_plain hgd fun K hK => ?_
  unfold Oper.wpIn
  refine ⟨?_, ?_⟩
  · simp [Oper.about, ho, resolve, Target.leads, Sem.run_pure]
  · rw [Oper.semAt_plain F _ _ (by rw [ho]; intro c hc'; cases hc')]
    simp [execOp, ho, resolve, invoke, builtin, hs, hx, h0, Result.andThen]
    exact hK _ _ (h a' cap' w' h1 h2 h4)
end

/-- a list of texts: a slice of the call's own (or nil), in a block from base on, each of whose elements reads as a text that lies in another block from base on -/
def Texts (base : Nat) (e : TypeId) (w : World) (v : Value) (ls : List (List UInt8)) : Prop :=
  ∃ vals, OwnV 1 base e w v ls.length vals ∧ ∀ i (h : i < ls.length), ∃ x, vals[i]? = some x ∧ Byt (fun k => base ≤ k ∧ v.ownBlock ≠ some k) w x (ls[i]'h)
theorem Texts.nil (base : Nat) (e : TypeId) (w : World) : Texts base e w (.slice none 0 0) [] := ⟨[], OwnV.nil _ _ _ _, fun i h => by simp at h⟩
theorem Texts.fr {base : Nat} {e : TypeId} {w w' : World} {v : Value} {ls : List (List UInt8)} {S : Nat → Prop} (h : Texts base e w v ls) (hf : Fr S w w') (hn : ∀ k, k < w.heap.size → base ≤ k → ¬ S k) : Texts base e w' v ls := by
  obtain ⟨vals, h1, h2⟩ := h
  refine ⟨vals, h1.fr hf (fun k hk => hn k (h1.lt k hk).2 (h1.lt k hk).1), fun i hi => ?_⟩
  obtain ⟨x, hx, hb⟩ := h2 i hi
  exact ⟨x, hx, hb.fr hf (fun k hk h => hn k hk h.1)⟩
theorem Texts.below {base : Nat} {e : TypeId} {w w' : World} {v : Value} {ls : List (List UInt8)} (h : Texts base e w v ls) (hf : Below w.heap.size w w') : Texts base e w' v ls := by
  obtain ⟨vals, h1, h2⟩ := h
  refine ⟨vals, h1.below hf, fun i hi => ?_⟩
  obtain ⟨x, hx, hb⟩ := h2 i hi
  exact ⟨x, hx, hb.below hf⟩
theorem Texts.mono {base base' : Nat} {e : TypeId} {w : World} {v : Value} {ls : List (List UInt8)} (h : Texts base e w v ls) (hb : base' ≤ base) : Texts base' e w v ls := by
  obtain ⟨vals, h1, h2⟩ := h
  refine ⟨vals, h1.mono hb, fun i hi => ?_⟩
  obtain ⟨x, hx, hb'⟩ := h2 i hi
  exact ⟨x, hx, hb'.mono (fun k _ h => ⟨by omega, h.2⟩)⟩
theorem Texts.form {base : Nat} {e : TypeId} {w : World} {v : Value} {ls : List (List UInt8)} (h : Texts base e w v ls) : ∃ a cap, v = .slice a ls.length cap ∧ ls.length ≤ cap ∧ cap ≤ maxLen ∧ (a = none → cap = 0) := by
  obtain ⟨vals, h1, _⟩ := h
  exact h1.form
/-- one more, appended -/
theorem Texts.append {base : Nat} {e : TypeId} {w w1 w' : World} {v v' : Value} {ls : List (List UInt8)} {x : Value} {l : List UInt8} {vals : List Value} (hv : OwnV 1 base e w v ls.length vals)
    (hvals : ∀ i (h : i < ls.length), ∃ x, vals[i]? = some x ∧ Byt (fun k => base ≤ k ∧ v.ownBlock ≠ some k) w x (ls[i]'h)) (hx : Byt (fun k => base ≤ k ∧ v.ownBlock ≠ some k) w x l)
    (hw : Below w.heap.size w w1) (h1 : OwnV 1 base e w' v' (ls.length + 1) (vals ++ [x])) (h2 : w1.grownBy w' v.ownBlock) (h3 : v'.ownBlock = v.ownBlock ∨ v'.ownBlock = some w1.heap.size) : Texts base e w' v' (ls ++ [l]) := by
  have hs := hw.size
  have keep : ∀ (y : Value) (m : List UInt8), Byt (fun k => base ≤ k ∧ v.ownBlock ≠ some k) w y m → Byt (fun k => base ≤ k ∧ v'.ownBlock ≠ some k) w' y m := fun y m hy => by
    refine (((hy.lt.below hw).mono (E := fun k => k < w.heap.size ∧ base ≤ k ∧ v.ownBlock ≠ some k) (fun k _ h => h)).fr (Fr.ofGrown h2) (fun k _ h e => h.2.2 e)).mono (fun k _ h => ⟨h.2.1, fun e => ?_⟩)
    rcases h3 with h3 | h3
    · exact h.2.2 (h3 ▸ e)
    · rw [h3] at e; injection e with e; have := h.1; omega
  refine ⟨vals ++ [x], by rw [List.length_append]; exact h1, fun i hi => ?_⟩
  have hl := hv.len
  rw [List.length_append, List.length_singleton] at hi
  by_cases hlt : i < ls.length
  · obtain ⟨y, hy, hb⟩ := hvals i hlt
    refine ⟨y, by rw [List.getElem?_append_left (by omega)]; exact hy, ?_⟩
    rw [List.getElem_append_left hlt]
    exact keep _ _ hb
  · obtain rfl : i = ls.length := by omega
    refine ⟨x, by rw [List.getElem?_append_right (by omega)]; simp [hl], ?_⟩
    rw [List.getElem_append_right (by omega)]
    simp only [Nat.sub_self, List.getElem_cons_zero]
    exact keep _ _ hx
end Go.Proofs.YtmenchnjajpkmaaGreatDoor.Row
end
