/- Headers are compared: one with itself is the same. No condition. -/
import Derived.Test.YtmenchnjajpkmaaDoorTk
namespace Go.Proofs.YtmenchnjajpkmaaDoor.Tk
open Go Go.RowKit Mem Codec Mh Maps Ops Wh Ww ShaW Arr
theorem mapM_isSome {α β : Type} (f : α → Option β) : ∀ xs : List α, (∀ x ∈ xs, (f x).isSome = true) → (xs.mapM f).isSome = true
  | [], _ => rfl
  | x :: xs, h => by
    obtain ⟨y, hy⟩ := Option.isSome_iff_exists.1 (h x (by simp))
    obtain ⟨ys, hys⟩ := Option.isSome_iff_exists.1 (mapM_isSome f xs (fun z hz => h z (by simp [hz])))
    rw [List.mapM_cons, hy, hys]; rfl
theorem lits_u8 {P : Program} {e : TypeId} (he : P.underlying e = some (.int .u8)) (m : Nat) (c : UInt8) : (P.keyLits (m + 1) e [byt c]).isSome = true := by
  have hw : (Lit.int .u8 (c.toNat : Int)).wf = true := by
    have := c.toNat_lt
    have e1 : IntKind.u8.min = 0 := by kernel_rfl
    have e2 : IntKind.u8.max = 255 := by kernel_rfl
    simp only [Lit.wf, e1, e2, decide_eq_true_eq, Bool.and_eq_true]
    omega
  unfold Program.keyLits
  simp only [he]
  simp [hw]
theorem lits_bytes {P : Program} {k e : TypeId} {n : Nat} (hk : P.underlying k = some (.array n e)) (he : P.underlying e = some (.int .u8)) (hc : P.cellsOf k = n) (hce : P.cellsOf e = 1) (m : Nat) (d : List UInt8) (hd : d.length = n) : (P.keyLits (m + 2) k (d.map byt)).isSome = true := by
  unfold Program.keyLits
  simp only [hk]
  rw [if_pos (by simp [hd, hc]), Option.isSome_map]
  refine mapM_isSome _ _ (fun i hi => ?_)
  have hi : i < d.length := by rw [hd]; exact List.mem_range.1 hi
  have hdt : ((d.map byt).drop (i * P.cellsOf e)).take (P.cellsOf e) = [byt (d[i]'hi)] := by
    rw [hce, Nat.mul_one, List.drop_eq_getElem_cons (by simpa using hi)]
    simp
  rw [hdt]
  exact lits_u8 he m _
theorem lits_u64 {P : Program} {e : TypeId} (he : P.underlying e = some (.int .u64)) (m : Nat) (n : Nat) (hn : n < 18446744073709551616) : (P.keyLits (m + 1) e [.int .u64 (n : Int)]).isSome = true := by
  have hw : (Lit.int .u64 (n : Int)).wf = true := by
    have e1 : IntKind.u64.min = 0 := by kernel_rfl
    have e2 : IntKind.u64.max = 18446744073709551615 := by kernel_rfl
    simp only [Lit.wf, e1, e2, decide_eq_true_eq, Bool.and_eq_true]
    omega
  unfold Program.keyLits
  simp only [he]
  simp [hw]
theorem keyH (h : Hd) (ok : h.Ok) : ∃ kl, keyOf Tryd.prog 32 (hv h) = some kl := by
  have hf : (hv h).formed Tryd.prog 32 = true := by
    have : Tryd.prog.cellsOf 32 = 66 := by kernel_rfl
    simp [Value.formed, Tryd.underlying32, this, ok.len]
  have hkt : Tryd.prog.keyType 32 = true := by kernel_rfl
  obtain ⟨m, hm⟩ : ∃ m, Tryd.prog.types.size = m + 2 := ⟨Tryd.prog.types.size - 2, by have : 2 ≤ Tryd.prog.types.size := of_decide_eq_true (by kernel_rfl); omega⟩
  unfold keyOf
  simp only [Tryd.underlying32, hkt, hf, Bool.and_self, if_true, Value.cells, hm]
  refine Option.isSome_iff_exists.1 ?_
  rw [Option.isSome_map]
  unfold Program.keyLits
  simp only [Tryd.underlying32]
  have hl : h.cells.toArray.toList.length = Tryd.prog.cellsOf 32 := by
    have : Tryd.prog.cellsOf 32 = 66 := by kernel_rfl
    rw [this]; exact ok.len
  rw [if_pos ⟨hl, by simp⟩, Option.isSome_map]
  refine mapM_isSome _ _ (fun f hf => ?_)
  have cD : Tryd.prog.cellsOf 24 = 32 := by kernel_rfl
  have cU : Tryd.prog.cellsOf 30 = 1 := by kernel_rfl
  have e0 : (h.cells.drop 0).take 32 = h.prev.map byt := by simp [Hd.cells, ok.1]
  have e1 : (h.cells.drop 32).take 32 = h.root.map byt := by simp [Hd.cells, ok.1, ok.2.1]
  have e2 : (h.cells.drop 64).take 1 = [.int .u64 (h.height : Int)] := by rw [List.take_one, List.head?_drop, Hd.cell_height ok]; rfl
  have e3 : (h.cells.drop 65).take 1 = [.int .u64 (h.nonce : Int)] := by rw [List.take_one, List.head?_drop, Hd.cell_nonce ok]; rfl
  simp only [List.mem_cons, List.not_mem_nil, or_false] at hf
  rcases hf with rfl | rfl | rfl | rfl
  · show (Program.keyLits _ (m + 2) 24 ((h.cells.drop 0).take (Tryd.prog.cellsOf 24))).isSome = true
    rw [cD, e0]; exact lits_bytes Tryd.underlying24 Tryd.underlying5 cD (by kernel_rfl) m _ ok.1
  · show (Program.keyLits _ (m + 2) 24 ((h.cells.drop 32).take (Tryd.prog.cellsOf 24))).isSome = true
    rw [cD, e1]; exact lits_bytes Tryd.underlying24 Tryd.underlying5 cD (by kernel_rfl) m _ ok.2.1
  · show (Program.keyLits _ (m + 2) 30 ((h.cells.drop 64).take (Tryd.prog.cellsOf 30))).isSome = true
    rw [cU, e2]; exact lits_u64 Tryd.underlying30 (m + 1) _ ok.2.2.1
  · show (Program.keyLits _ (m + 2) 30 ((h.cells.drop 65).take (Tryd.prog.cellsOf 30))).isSome = true
    rw [cU, e3]; exact lits_u64 Tryd.underlying30 (m + 1) _ ok.2.2.2
theorem equalH (h : Hd) (ok : h.Ok) (w : World) : (Op.equalIn 10000 32 (hv h) (hv h)).run Tryd.prog w = .ok true w := by
  obtain ⟨kl, hk⟩ := keyH h ok
  obtain ⟨r, h1, h2⟩ := run_equal_deep (P := Tryd.prog) w (m := 3) (by omega) (by kernel_rfl) (by kernel_rfl) hk hk
  rw [h2.2 rfl] at h1
  exact h1
end Go.Proofs.YtmenchnjajpkmaaDoor.Tk
