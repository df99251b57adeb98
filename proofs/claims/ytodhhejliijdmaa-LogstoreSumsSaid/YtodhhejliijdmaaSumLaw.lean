/- LogstoreSums: for every text and every bit the program's checksum is the reference's, that of "123456789" is the known one, and a text with one bit turned has another one. No condition. -/
import Derived.Test.YtodhhejliijdmaaSum
import Derived.Lib.SlBytesConst
import Derived.RegionTactic
import Derived.ChangeAlike
namespace Go.Proofs.Ytodhhejliijdmaa.logstoreSums
open Go.RowKit
open Crc Mem SumW
set_option linter.unusedVariables false

theorem lit9 (w : World) : Byt Any (w.alloc (.cells #[.int .u8 49, .int .u8 50, .int .u8 51, .int .u8 52, .int .u8 53, .int .u8 54, .int .u8 55, .int .u8 56, .int .u8 57] 5 (9, 10)))
    (.slice (some ⟨w.heap.size, 0, none⟩) 9 9) [49, 50, 51, 52, 53, 54, 55, 56, 57] :=
  Byt.newBlock w _ _ _ _ _ _ rfl ⟨by decide, by decide⟩ trivial (fun i h => by match i, h with | 0, _ | 1, _ | 2, _ | 3, _ | 4, _ | 5, _ | 6, _ | 7, _ | 8, _ => rfl | j + 9, h => simp at h; omega)

theorem flip_int (c : UInt8) (k : Nat) (hk : k < 8) : bits .xor .u8 (c.toNat : Int) (2 ^ k % 256) = ((c ^^^ UInt8.ofNat (2 ^ k)).toNat : Int) := by
  have h := c.toNat_lt
  have : ((2 : Int) ^ k % 256) = ((2 ^ k % 256 : Nat) : Int) := by
    rw [Int.natCast_emod, Int.natCast_pow]; rfl
  rw [this, u8_xor_nat _ _ h (by omega), UInt8.toNat_xor, UInt8.toNat_ofNat']

theorem elemB : ElemT Try.prog 22 5 (.int .u8 0) 1 1 :=
  ⟨Try.underlying22, ⟨_, (info_parts (P := Try.prog) (e := 5) (z := .int .u8 0) (size := 1) (bytes := 1) (by kernel_rfl)).choose_spec⟩, rfl, by decide⟩

theorem walk (w : World) (v : Value) (l : List UInt8) {D : Nat → Prop} (hB : Byt D w v l) (hl : l.length ≤ 140737488351232) (at_ : Int) (w1 : (Lit.int .i64 at_).wf = true) :
    Calls Try.prog 3 #[v, .int .i64 at_] w fun e w' => e = .returned (.bool true) ∧ Below w.heap.size w w' := by
  have hB0 := hB
  have hbd := bounds_i64 w1
  obtain ⟨a, c, rfl, hk, hby⟩ := hB
  have kc := fun (w : World) (C : Array Value) (n c : Nat) => Lib.run_convert_bytes_const (P := Try.prog) w 22 5 C n c Try.underlying22 Try.underlying5
  go_enter Try.func3, Try.ntmps3
  go_wp2_with fail
  refine (sum_prog _ l _ hl hB0).mono ?_
  rintro e wa ⟨rfl, hb1⟩
  have hB1 := hB0.below hb1
  go_wp2_with fail
  refine (sum_ref _ l _ hl hB1).mono ?_
  rintro e w2 ⟨rfl, rfl⟩
  go_wp2_with fail
  clear kc
  refine (sum_prog _ _ _ (by simp) (lit9 wa)).mono ?_
  rintro e w2 ⟨rfl, hb2⟩
  rw [crc_known]
  have hb2' : Below wa.heap.size wa w2 := by
    refine Below.trans ?_ (hb2.mono (by simp))
    exact (Below.refl _ _).alloc (Nat.le_refl _) _
  have hB2 := hB1.below hb2'
  have hb3 : Below w.heap.size w w2 := hb1.trans (hb2'.mono hb1.size)
  clear hb1 hb2 hb2' hB1
  by_cases h0 : at_ < 0
  · go_wp2
    go_ret
    exact ⟨rfl, hb3⟩
  by_cases h1 : at_ / 8 ≥ l.length
  · go_wp2
    go_ret
    exact ⟨rfl, hb3⟩
  obtain ⟨n, rfl⟩ := Int.eq_ofNat_of_zero_le (by omega : 0 ≤ at_)
  go_wp2_with (at_builtin; refine wpList_append_byt _ rfl (.const (.slice none 0 0)) (.tmp 28) 22 rfl w2.heap.size 5 elemB _ [] rfl (OwnB.nil _ _ _) _ l rfl hB2 (by simp; omega) (Nat.le_refl _) ?_)
  intro v' w3 hown hg _
  obtain ⟨g, cap, rfl, hg1, hg2, hcl, hcm, hly, hfz⟩ := hown.shape (by intro e; subst e; simp only [List.length_nil] at h1; omega)
  have hb4 : Below w.heap.size w w3 := hb3.grown hg hb3.size (by intro k hk; cases hk)
  have hcell := hly (n / 8) (by omega)
  rw [Nat.zero_add] at hcell
  have hfr := hfz (n / 8)
  have hn8 : n % 8 < 8 := by omega
  have hset := Lib.hid (hly.set (n / 8) (by omega))
  have hb5 : w.heap.size ≤ g := by have := hb3.size; omega
  clear hg hown hly hfz hb3 hB2 hB0 hk
  go_wp2
  go_region
  rw [flip_int _ _ hn8]
  obtain ⟨hset⟩ : Nonempty (Lies (w3.setCell ⟨g, n / 8, none⟩ (.int .u8 ((l[n / 8]'(by omega) ^^^ UInt8.ofNat (2 ^ (n % 8))).toNat : Int))) g 0 (l.set (n / 8) (l[n / 8]'(by omega) ^^^ UInt8.ofNat (2 ^ (n % 8))))) := by
    have := hset.out (l[n / 8]'(by omega) ^^^ UInt8.ofNat (2 ^ (n % 8)))
    rw [Nat.zero_add] at this
    exact ⟨this⟩
  have hb6 : Below w.heap.size w (w3.setCell ⟨g, n / 8, none⟩ (.int .u8 ((l[n / 8]'(by omega) ^^^ UInt8.ofNat (2 ^ (n % 8))).toNat : Int))) := hb4.setCell hb5 _
  have hne := crc_turned l (n / 8) (by omega) _ (turned_ne (l[n / 8]'(by omega)) (n % 8) hn8)
  have hby6 : Byt Any (w3.setCell ⟨g, n / 8, none⟩ (.int .u8 ((l[n / 8]'(by omega) ^^^ UInt8.ofNat (2 ^ (n % 8))).toNat : Int))).drew (.slice (some ⟨g, 0, none⟩) l.length cap) (l.set (n / 8) (l[n / 8]'(by omega) ^^^ UInt8.ofNat (2 ^ (n % 8)))) :=
    hset.byt trivial (by simp) (by simpa using hcl) hcm
  have hl6 : (l.set (n / 8) (l[n / 8]'(by omega) ^^^ UInt8.ofNat (2 ^ (n % 8)))).length ≤ 140737488351232 := by simpa using hl
  clear hcell hfr hset
  generalize l.set (n / 8) (l[n / 8]'(by omega) ^^^ UInt8.ofNat (2 ^ (n % 8))) = m at *
  generalize (l[n / 8]'(by omega) ^^^ UInt8.ofNat (2 ^ (n % 8))) = x at *
  generalize w3.setCell ⟨g, n / 8, none⟩ (.int .u8 (x.toNat : Int)) = w4 at *
  go_wp2_with fail
  refine (sum_prog _ _ _ hl6 hby6).mono ?_
  rintro e w5 ⟨rfl, hb7⟩
  have hb8 : Below w.heap.size w w5 := hb6.drew.trans (hb7.mono hb6.size)
  have hne' : (((crc m).toNat : Int) != ((crc l).toNat : Int)) = true := by
    rw [bne_iff_ne]
    intro e
    exact hne (BitVec.eq_of_toNat_eq (by omega))
  clear hne hb7 hb6
  go_wp2
  go_ret
  exact ⟨rfl, hb8⟩
end Go.Proofs.Ytodhhejliijdmaa.logstoreSums
