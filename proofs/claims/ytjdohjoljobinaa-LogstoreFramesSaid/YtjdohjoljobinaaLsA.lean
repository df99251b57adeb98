/- The log's store: plain; its memory; the walk of Open on a disk without files. No condition. -/
import Derived.Test.YtjdohjoljobinaaDkE
import Derived.Scope
import Derived.WalkMore
namespace Go.Proofs.Ytjdohjoljobinaa.Ls
open Go Go.RowKit Mem Maps Ops Reps Dk
open Go.Maps (Keyed string_keyed)
set_option linter.unusedVariables false
set_option linter.unusedSimpArgs false

def LOG : Nm := [108, 111, 103]
def pairIs (D : Nat → Prop) (w : World) (p : Value × Value) (x : Nm × List UInt8) : Prop := p.1 = nmV x.1 ∧ x.1.length ≤ maxLen ∧ Byt D w p.2 x.2
def storeC (s : Nat) (q mb : Nat) (n : Nm) (size : Nat) : List Value := [.pointer (some ⟨q, 0, none⟩), nmV n, .map (some mb), .int .i64 (size : Int)]
structure StIs (w : World) (s q b mb : Nat) (n : Nm) (ps : List (Nm × List UInt8)) (size : Nat) : Prop where
  k : Blk w s (storeC s q mb n size) 124
  m : ∃ l, MapIs Try.prog 9 w mb l ∧ All2 (pairIs (fun k => k ≠ s ∧ k ≠ mb ∧ k ≠ q ∧ k ≠ b) w) l ps
  ne : s ≠ mb
section
variable {w w' : World} {s q b mb size : Nat} {n : Nm} {ps : List (Nm × List UInt8)} {S : Nat → Prop}
theorem StIs.fr (h : StIs w s q b mb n ps size) (hf : Fr S w w') (h1 : ¬ S s) (h2 : ¬ S mb) (h3 : ∀ k, k < w.heap.size → k ≠ s → k ≠ mb → k ≠ q → k ≠ b → ¬ S k) : StIs w' s q b mb n ps size := by
  obtain ⟨l, m1, m2⟩ := h.m
  exact ⟨h.k.fr hf h1, ⟨l, m1.fr hf h2, m2.imp fun _ _ ⟨a, b, c⟩ => ⟨a, b, c.fr hf (fun k hk hd => h3 k hk hd.1 hd.2.1 hd.2.2.1 hd.2.2.2)⟩⟩, h.ne⟩
theorem StIs.lt (h : StIs w s q b mb n ps size) : s < w.heap.size ∧ mb < w.heap.size := ⟨h.k.lt, h.m.choose_spec.1.lt⟩
theorem StIs.below (h : StIs w s q b mb n ps size) (hb : Below w.heap.size w w') : StIs w' s q b mb n ps size := h.fr (Fr.ofBelow hb) (by have := h.lt; omega) (by have := h.lt; omega) (fun k hk _ _ _ _ e => by omega)
end
def openedD (room : Int) : Disk := ⟨(newD room).room, 2, -1, false, [(LOG, [], 0)]⟩
def OpenT (w : World) (q b : Nat) (room : Int) (e : Ending) (w' : World) : Prop :=
  ∃ s mb, e = .returned (.tuple #[.pointer (some ⟨s, 0, none⟩), .int .i64 0]) ∧ w.heap.size ≤ s ∧ w.heap.size ≤ mb ∧ StIs w' s q b mb LOG [] 0 ∧ DkIs w' q b (openedD room) ∧ Fr (fun k => k = q ∨ k = b) w w'
def firstD (room : Int) : Disk := ⟨(newD room).room, 1, -1, false, [(LOG, [], 0)]⟩
theorem room_nn (room : Int) : 0 ≤ (newD room).room := by unfold newD; dsimp only; split <;> omega
theorem app_first (room : Int) : appendD (newD room) LOG [] = (firstD room, 0) := by
  unfold appendD
  rw [show (newD room).dead = false from rfl, if_neg (by decide), if_neg (by decide), if_neg (by have := room_nn room; show ¬ (newD room).room - (0 : Int) < 0; omega)]
  rfl
theorem sync_first (room : Int) : syncD (firstD room) LOG = (openedD room, 0) := by rfl
set_option maxHeartbeats 8000000 in
set_option maxRecDepth 100000 in
theorem open_calls (w : World) (q b : Nat) (room : Int) (H0 : DkIs w q b (newD room)) (hr : room ≤ 9223372036854775807) :
    Calls Try.prog 45 #[.pointer (some ⟨q, 0, none⟩), nmV LOG] w (OpenT w q b room) := by
  have H := Lib.hid H0
  have hlt := H0.lt
  clear H0
  have hrr : 0 ≤ (newD room).room ∧ (newD room).room ≤ 9223372036854775807 := by unfold newD; dsimp only; split <;> omega
  unfold nmV LOG
  go_enter Try.func45, Try.ntmps45
  go_wp2
  refine wp_scope_straight ?_
  go_upto_region 2 with (first
    | ((with_reducible refine wpList_makeMap (k := 9) rfl _ rfl (fun w1 k1 c1 z1 => ?_)); have K1 := Lib.hid k1; have B1 := Lib.hid c1; clear k1 c1)
    | ((with_reducible refine wpList_box rfl _ _ rfl [.pointer (some ⟨q, 0, none⟩), .string ⟨#[108, 111, 103]⟩, .map (some w.heap.size), .int .i64 0] rfl (fun w2 k2 c2 z2 => ?_)); have K2 := Lib.hid k2; have B2 := Lib.hid c2; clear k2 c2))
  have hz := z1
  have H2 := Lib.hid ((H.out.below B1.out).below B2.out)
  have S2 := Lib.hid (show StIs w2 w1.heap.size q b w.heap.size LOG [] 0 from ⟨K2.out, ⟨[], K1.out.below B2.out, .nil⟩, by omega⟩)
  have F2 := Lib.hid (show Fr (fun k => k = q ∨ k = b) w w2 from (Fr.ofBelowAll B1.out (Nat.le_refl _)).trans (Fr.ofBelowAll B2.out (by omega)))
  clear K1 B1 K2 B2 H z1
  go_wp2_with fail
  have hnm : Value.string (⟨#[108, 111, 103]⟩ ++ ⟨#[46, 110, 101, 119]⟩) = nmV [108, 111, 103, 46, 110, 101, 119] := by kernel_rfl
  rw [hnm]
  clear hnm
  refine (read_calls w2 q b (newD room) [108, 111, 103, 46, 110, 101, 119] H2.out (by simp [maxLen]) (by show 0 ≤ _; omega)).mono ?_
  rintro e w3 ⟨v3, rfl, hb3, g3⟩
  rw [show (lookF (newD room).fs [108, 111, 103, 46, 110, 101, 119]).isSome = false from rfl]
  have H3 := Lib.hid (H2.out.below g3)
  have S3 := Lib.hid (S2.out.below g3)
  have F3 := Lib.hid (F2.out.trans (show Fr (fun k => k = q ∨ k = b) w2 w3 from Fr.ofBelowAll g3 (Nat.le_refl _)))
  clear hb3 g3 H2 S2 F2
  go_wp2_with fail
  refine (read_calls w3 q b (newD room) LOG H3.out (by simp [maxLen, LOG]) (by show 0 ≤ _; omega)).mono ?_
  rintro e w4 ⟨v4, rfl, hb4, g4⟩
  rw [show (lookF (newD room).fs LOG).isSome = false from rfl]
  have hb4' : Byt (fun k => w3.heap.size ≤ k) w4 v4 [] := hb4
  obtain ⟨a4, c4, rfl, _⟩ := hb4'
  have H4 := Lib.hid (H3.out.below g4)
  have S4 := Lib.hid (S3.out.below g4)
  have F4 := Lib.hid (F3.out.trans (show Fr (fun k => k = q ∨ k = b) w3 w4 from Fr.ofBelowAll g4 (Nat.le_refl _)))
  clear hb4 g4 H3 S3 F3
  go_wp2_with fail
  refine (append_calls w4 q b (newD room) LOG (.slice none 0 0) [] H4.out (by simp [maxLen, LOG]) ⟨none, 0, rfl, ⟨Nat.le_refl _, Nat.zero_le _, fun _ => rfl⟩, .inl rfl⟩ (by show 0 ≤ _; omega) (by simp) hrr.1 hrr.2 ⟨by show (0 : Int) ≤ 0; omega, by show (0 : Int) < _; omega⟩ (by show (-1 : Int) ≤ -1; omega) (by show (-1 : Int) ≤ _; omega)).mono ?_
  rintro e w5 ⟨rfl, d5, f5⟩
  rw [app_first] at d5 ⊢
  have H5 := Lib.hid d5
  have S5 := Lib.hid (S4.out.fr f5 (fun e => by rcases e with e | e <;> omega) (fun e => by rcases e with e | e <;> omega) (fun k hk _ _ h1 h2 e => by rcases e with e | e; exact h1 e; exact h2 e))
  have F5 := Lib.hid (F4.out.trans f5)
  clear d5 f5 H4 S4 F4
  dsimp only
  have c3 := show w5.cell? ⟨w1.heap.size, 3, none⟩ = some (.int .i64 0) from S5.out.k.cell (i := 3) rfl
  have hlog : nmV LOG = .string ⟨#[108, 111, 103]⟩ := rfl
  have hsy := sync_calls w5 q b (firstD room) LOG H5.out (by simp [maxLen, LOG]) (by show 0 ≤ _; omega) ⟨by show (0 : Int) ≤ 1; omega, by show (1 : Int) < _; omega⟩ (by show (-1 : Int) ≤ -1; omega) (by show (-1 : Int) ≤ _; omega)
  rw [sync_first, hlog] at hsy
  dsimp only at hsy
  have HSY := Lib.hid hsy
  clear hsy
  go_wp2_with fail
  go_step3
  go_wp2
  go_loopw [53] (fun _ wx => wx = w5) (fun _ _ => 0)
  case atStart => rfl
  case round =>
    obtain rfl := hrel
    go_wp2_with fail
    refine HSY.out.mono ?_
    rintro e w6 ⟨rfl, d6, f6⟩
    have H6 := Lib.hid d6
    have S6 := Lib.hid (S5.out.fr f6 (fun e => by rcases e with e | e <;> omega) (fun e => by rcases e with e | e <;> omega) (fun k hk _ _ h1 h2 e => by rcases e with e | e; exact h1 e; exact h2 e))
    have F6 := Lib.hid (F5.out.trans f6)
    clear d6 f6
    go_wp2
    go_ret2
    exact ⟨w1.heap.size, w.heap.size, rfl, by omega, Nat.le_refl _, S6.out, H6.out, F6.out⟩
end Go.Proofs.Ytjdohjoljobinaa.Ls
