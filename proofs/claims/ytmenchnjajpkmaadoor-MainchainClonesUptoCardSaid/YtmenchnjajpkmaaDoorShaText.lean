/- The walk of the reference's Text: a digest's bytes. No condition. -/
import Derived.Test.YtmenchnjajpkmaaDoorShaL0
import Derived.Test.YtmenchnjajpkmaaDoorQuiet
namespace Go.Proofs.YtmenchnjajpkmaaDoor.ShaW
open Go Go.RowKit Mem Sha

def TextRel (B : Nat) (w : World) (m q : List UInt8) (v : Value) (wx : World) : Prop :=
  Below B w wx ∧ Blk wx B (m.map byt) 24 ∧ OwnB (B + 1) 5 wx v q ∧ B < wx.heap.size
theorem TextRel.grows {B : Nat} {w w1 w2 : World} {m q q2 : List UInt8} {v v2 : Value} (h : TextRel B w m q v w1) (o1 : OwnB (B + 1) 5 w2 v2 q2) (o2 : Fr (fun k => v.ownBlock = some k) w1 w2) : TextRel B w m q2 v2 w2 := by
  have hne : ∀ k, v.ownBlock = some k → B + 1 ≤ k := fun k hk => (h.2.2.1.lt k hk).1
  exact ⟨h.1.trans (o2.below (Nat.le_of_lt h.2.2.2) (fun k hk => by have := hne k hk; omega)), h.2.1.fr o2 (fun e => by have := hne B e; omega), o1, by have := o2.size; have := h.2.2.2; omega⟩

theorem text_calls (w : World) (m : List UInt8) (hm : m.length = 32) :
    Calls Tryd.prog 26 #[.agg (m.map byt).toArray] w fun e w' => ∃ a c, e = .returned (.slice a 32 c) ∧ OwnB (w.heap.size + 1) 5 w' (.slice a 32 c) m ∧ Below w.heap.size w w' := by
  have h0 : TextRel w.heap.size w m [] (.slice none 0 0) (w.alloc (.cells (m.map byt).toArray 24)) :=
    ⟨(Below.refl _ _).alloc (Nat.le_refl _) _, Blk.new _ _ _ _ rfl, OwnB.nil _ _ _, by simp⟩
  have H0 := Lib.hid h0
  have HM := Lib.hid hm
  have hs : ((m.map byt).toArray).size = 32 := by simp [hm]
  clear h0 hm
  generalize (m.map byt).toArray = cs at *
  go_enter Tryd.func26, Tryd.ntmps26
  go_wp2
  go_loopw [3, 4] (fun v i wx => ∃ (n : Nat) (q : List UInt8), n ≤ 32 ∧ i = .int .i64 n ∧ q = m.take n ∧ q.length = n ∧ TextRel w.heap.size w m q v wx) (fun _ i _ => 32 - (intOf i).toNat)
  case atStart => exact ⟨0, [], by omega, rfl, rfl, rfl, H0.out⟩
  case round =>
    obtain ⟨n, q, hn, rfl, hq, hl, hR⟩ := hrel
    obtain ⟨xa, xc, rfl, hxk, _⟩ := id hR.2.2.1.byt
    have HR := Lib.hid hR
    have HQ := Lib.hid hq
    have hl1 : q.length ≤ n := by omega
    have hl2 : n ≤ q.length := by omega
    clear hq hl
    by_cases hlt : n < 32
    · have hn1 : n < m.length := by rw [HM.out]; exact hlt
      have c1 : wr.cell? ⟨w.heap.size, n, none⟩ = some (.int .u8 ((m[n]'hn1).toNat : Int)) := hR.2.1.cell (by simp [hn1])
      clear hR
      go_wp2_with (at_builtin; refine wpList_append_one _ rfl (.tmp 9) (.tmp 13) 56 rfl (w.heap.size + 1) 5 elemB _ q rfl HR.out.2.2.1 _ (m[n]'hn1) rfl rfl (by omega) (by have := HR.out.2.2.2; omega) ?_)
      intro va vc w2 o1 o2 o3
      have HR2 := Lib.hid (HR.out.grows o1 o2)
      clear o1 o2 o3 HR
      go_wp2
      go_roundw
      case rel => exact ⟨n + 1, _, by omega, by go_num, by rw [HQ.out, List.take_add_one, List.getElem?_eq_getElem hn1]; rfl, by simp; omega, HR2.out⟩
      case measure => simp [intOf]; omega
    · obtain rfl : n = 32 := by omega
      have hq2 : q = m := by rw [HQ.out]; exact List.take_of_length_le (by rw [HM.out]; omega)
      have h32 : q.length = 32 := by omega
      have HQ2 := Lib.hid hq2
      have H32 := Lib.hid h32
      clear hq2 h32 hR
      go_wp2
      go_ret
      refine ⟨xa, xc, by rw [H32.out]; rfl, ?_, HR.out.1⟩
      have := HR.out.2.2.1
      rw [H32.out, HQ2.out] at this
      exact this
end Go.Proofs.YtmenchnjajpkmaaDoor.ShaW
