/- A range over a function whose iterator writes blocks of its own: what the iterator promises, and the law for the caller. Program-independent; no condition. -/
import Derived.RangeFuncNested
import Derived.RangeFuncBound
import Derived.RangeFuncCalls
import Derived.RangeFuncLeaves
import Derived.Test.YtjdohjoljobinaaMem
namespace Go.Proofs.Ytjdohjoljobinaa.Iter
open Go Go.RowKit Mem

/-- the iterator's word: it goes from state to state; T: the blocks that it turns; It: what it needs of memory; Y: what it yields; E: where it ends -/
def SeqC {σ : Type} (P : Program) (gf : Nat) (lb : Array Value) (T : Nat → Prop) (It : σ → World → Prop) (Y : σ → σ → Array Value → World → World → Prop) (E : σ → World → Prop) (s0 : σ) (w : World) : Prop :=
  ∀ (l : Nat) (J Jx : σ → World → Prop) (W : World), Below w.heap.size w W → w.heap.size + 2 ≤ W.heap.size →
    (∀ s A B, J s A → Fr T A B → J s B) →
    (∀ s s' vs A0 A, J s A0 → Fr T A0 A → Y s s' vs A0 A → It s' A → YieldAt Fence.wide 0 P l vs A fun e B => (e = .returned (.bool true) ∧ J s' B ∧ It s' B ∧ A.heap.size ≤ B.heap.size) ∨ (e = .returned (.bool false) ∧ Jx s' B)) →
    J s0 W →
    CallsIn Fence.wide 0 P gf (#[.func (.yield l) #[] #[]] ++ lb) W fun e B => (∃ v, e = .returned v) ∧ ((∃ s, E s B ∧ J s B) ∨ (∃ s, Jx s B))

/-- what a round leaves of the loop's record and of the block for its deferred calls -/
def Rec (D : Nat) (A B : World) : Prop := A.heap.size ≤ B.heap.size ∧ B.heap[D]? = A.heap[D]? ∧ B.heap[D + 1]? = A.heap[D + 1]?
theorem Rec.refl (D : Nat) (A : World) : Rec D A A := ⟨Nat.le_refl _, rfl, rfl⟩
theorem Rec.fr {D : Nat} {A B : World} {S : Nat → Prop} (h : Fr S A B) (hd : D + 1 < A.heap.size) (h1 : ¬ S D) (h2 : ¬ S (D + 1)) : Rec D A B :=
  ⟨h.size, h.block D (by omega) h1, h.block (D + 1) hd h2⟩
theorem Rec.trans {D : Nat} {A B C : World} (h : Rec D A B) (k : Rec D B C) : Rec D A C := ⟨Nat.le_trans h.1 k.1, k.2.1.trans h.2.1, k.2.2.trans h.2.2⟩
/-- how the body of a round may be left -/
def roundEnd {σ : Type} (D : Nat) (It : σ → World → Prop) (I : σ → World → Prop) (Ix : Code → σ → World → Prop) (s : σ) (A : World) : Exit → Act → World → Prop
  | .normal, _, B => Rec D A B ∧ I s B ∧ It s B
  | .ret, _, B => Rec D A B ∧ Ix .ret s B
  | .exit id, _, B => Rec D A B ∧ Ix (.exit id) s B
  | .goto t, _, B => Rec D A B ∧ Ix (.goto t) s B
  | .panic _, _, _ => False
  | .outgrown, _, _ => False
theorem Fr.putObj {S : Nat → Prop} (W : World) (r : Nat) (o : Obj) (h : S r) : Fr S W (W.putObj r o) :=
  ⟨rfl, rfl, rfl, by simp, fun k _ hn => World.putObj_heap_other (fun e => hn (e ▸ h))⟩

theorem rangeSeq {σ : Type} {P : Program} {g : Operand} {ps : Array Tmp} {assign body : Code} {Q : Exit → Act → World → Prop} {a : Act} {w : World} {gf : Nat} {lb : Array Value}
    (hg : a.eval g = .func (.func gf) #[] lb) (eg : ∀ args w, (callFunc gf args).run P w = .ok (.enter gf args) w)
    {T : Nat → Prop} {It : σ → World → Prop} {Y : σ → σ → Array Value → World → World → Prop} {E : σ → World → Prop} {s0 : σ} (hseq : SeqC P gf lb T It Y E s0 w)
    (hT : ∀ k, T k → k < w.heap.size)
    (hIt : ∀ s A B, It s A → Fr (fun b => b = w.heap.size + 1) A B → It s B)
    (hY : ∀ s s' vs A0 A B, Y s s' vs A0 A → w.heap.size + 1 < A0.heap.size → Fr (fun b => b = w.heap.size + 1) A B → Y s s' vs A0 B)
    (hE : ∀ s A B, E s A → Fr (fun b => b = w.heap.size + 1) A B → E s B)
    (hps : ∀ s s' vs A0 A, Y s s' vs A0 A → vs.size = ps.size)
    (I : σ → World → Prop) (Ix : Code → σ → World → Prop)
    (hI : ∀ s A B, I s A → Fr (fun b => T b ∨ b = w.heap.size + 1) A B → I s B)
    (hIx : ∀ c s A B, Ix c s A → Fr (fun b => b = w.heap.size + 1) A B → Ix c s B)
    (h0 : I s0 w) (a₁ : Array Value → Act)
    (hassign : ∀ (l : Nat) (vs : Array Value) (W : World) (K : Act → World → Prop), vs.size = ps.size → K (a₁ vs) W →
      assign.wpIn (Fence.wide.inRound l) 0 P (Exit.then K (fun _ _ _ => False)) { tmps := (ps.zip vs).foldl (fun t (p, v) => t.setIfInBounds p v) a.tmps, defers := [] } W)
    (hbody : ∀ (s s' : σ) (vs : Array Value) (A0 A : World), w.heap.size + 1 < A0.heap.size → I s A0 → Fr (fun b => T b ∨ b = w.heap.size + 1) A0 A → Y s s' vs A0 A → It s' A →
      body.wpIn (Fence.wide.inRound (w.heap.size + 1)) 0 P (roundEnd w.heap.size It I Ix s' A) (a₁ vs) A)
    (hdone : ∀ (s : σ) (W : World), E s W → I s W → W.heap[w.heap.size]? = some (.deferred (some [])) → Q .normal { a with defers := { target := .collected w.heap.size, args := #[] } :: a.defers } W)
    (hstop : ∀ (c : Code) (s : σ) (W : World), Ix c s W → W.heap[w.heap.size]? = some (.deferred (some [])) → c.wpIn Fence.wide 0 P Q { a with defers := { target := .collected w.heap.size, args := #[] } :: a.defers } W) :
    (Code.rangeFunc g ps assign body).wpIn Fence.wide 0 P Q a w := by
  refine wpIn_rangeFunc ?_
  intro fn hfn
  rw [show Fence.wide.round = none from rfl]
  obtain ⟨rec, hrec⟩ : ∃ rec : LoopState → Option Code → Loop, rec = fun st pe => { state := st, pending := pe, fn, tmps := a.tmps, params := ps, assign, body, defers := w.heap.size } := ⟨_, rfl⟩
  obtain ⟨W1, hW1⟩ : ∃ W1, (w.alloc (.deferred (some []))).alloc (.loop (rec .ready none)) = W1 := ⟨_, rfl⟩
  have hL1 : W1.heap[w.heap.size + 1]? = some (.loop (rec .ready none)) := by
    rw [← hW1]; have := World.alloc_heap_new (w.alloc (.deferred (some []))) (.loop (rec .ready none)); rwa [World.size_alloc] at this
  have hK1 : W1.heap[w.heap.size]? = some (.deferred (some [])) := by
    rw [← hW1]; exact (Below.heap_alloc _ _ _ (by simp)).trans (World.alloc_heap_new w _)
  have hb1 : Below w.heap.size w W1 := by
    rw [← hW1]; exact ((Below.refl _ w).alloc (Nat.le_refl _) _).alloc (by simp) _
  have hI1 : I s0 W1 := hI _ _ _ h0 (Fr.ofBelowAll hb1 (Nat.le_refl _))
  refine ⟨w.heap.size + 1, [{ target := .collected w.heap.size, args := #[] }], W1, { target := .fn (.func gf) lb, args := #[.func (.yield (w.heap.size + 1)) #[] #[]] }, W1, gf,
    #[.func (.yield (w.heap.size + 1)) #[] #[]] ++ lb, W1, ?_, ?_, ?_, ?_, fun h => by simp [Fence.wide] at h, ?_⟩
  · rw [← hW1, hrec]; exact run_enterLoop_outer _ _ _ _ _
  · simp only [resolve, hg]
    simp [go_sem]
  · intro f' _; trivial
  · simp [invoke, go_sem, eg]
  · refine (hseq (w.heap.size + 1)
      (fun s W => I s W ∧ W.heap[w.heap.size + 1]? = some (.loop (rec .ready none)) ∧ W.heap[w.heap.size]? = some (.deferred (some [])))
      (fun s W => ∃ c, Ix c s W ∧ W.heap[w.heap.size + 1]? = some (.loop (rec .done (some c))) ∧ W.heap[w.heap.size]? = some (.deferred (some [])))
      W1 hb1 (by rw [← hW1]; simp) ?_ ?_ ⟨hI1, hL1, hK1⟩).mono ?_
    · rintro s A B ⟨h1, h2, h3⟩ hf
      have hl := (Array.getElem?_eq_some_iff.1 h2).1
      exact ⟨hI _ _ _ h1 (hf.mono (fun k _ h => .inl h)), (hf.block _ hl (fun h => by have := hT _ h; omega)).trans h2, (hf.block _ (by omega) (fun h => by have := hT _ h; omega)).trans h3⟩
    · -- one round
      rintro s s' vs W0 W ⟨hi, hl0, hk0⟩ hf0 hYs hIt1
      have hlt0 : w.heap.size + 1 < W0.heap.size := (Array.getElem?_eq_some_iff.1 hl0).1
      have hl := (hf0.block _ hlt0 (fun h => by have := hT _ h; omega)).trans hl0
      have hk := (hf0.block _ (by omega : w.heap.size < W0.heap.size) (fun h => by have := hT _ h; omega)).trans hk0
      have hlt : w.heap.size + 1 < W.heap.size := (Array.getElem?_eq_some_iff.1 hl).1
      have hy := run_yield (P := P) (args := vs) hl (by rw [hrec]; exact hps _ _ _ _ _ hYs)
      rw [hrec] at hy
      refine ⟨fn, _, assign, body, hy, roundIn_of_wpIn hfn (hassign _ vs W _ (hps _ _ _ _ _ hYs) ⟨_, run_beginRound hl (by rw [hrec]), ?_⟩)⟩
      have hl2 : (W.putObj (w.heap.size + 1) (.loop { rec .ready none with state := .busy })).heap[w.heap.size + 1]? = some (.loop { rec .ready none with state := .busy }) := World.putObj_heap_same hlt
      have hk2 : (W.putObj (w.heap.size + 1) (.loop { rec .ready none with state := .busy })).heap[w.heap.size]? = some (.deferred (some [])) := (World.putObj_heap_other (by omega)).trans hk
      have hfb : ∀ (X : World) (o : Obj), Fr (fun b => b = w.heap.size + 1) X (X.putObj (w.heap.size + 1) o) := fun X o => Fr.putObj X _ o rfl
      refine wpIn_mono (hbody s s' vs W0 _ hlt0 hi ((hf0.mono (fun k _ h => .inl h)).trans ((hfb _ _).mono (fun k _ h => .inr h))) (hY _ _ _ _ _ _ hYs hlt0 (hfb _ _)) (hIt _ _ _ hIt1 (hfb _ _))) ?_
      have fin : ∀ (jump : Option Code) (W3 : World), Rec w.heap.size (W.putObj (w.heap.size + 1) (.loop { rec .ready none with state := .busy })) W3 →
          (Instr.endRound (w.heap.size + 1) jump).run P W3 = .ok (.bool jump.isNone) (W3.putObj (w.heap.size + 1) (.loop (rec (if jump.isNone then .ready else .done) jump))) ∧
          (W3.putObj (w.heap.size + 1) (.loop (rec (if jump.isNone then .ready else .done) jump))).heap[w.heap.size + 1]? = some (.loop (rec (if jump.isNone then .ready else .done) jump)) ∧
          (W3.putObj (w.heap.size + 1) (.loop (rec (if jump.isNone then .ready else .done) jump))).heap[w.heap.size]? = some (.deferred (some [])) := fun jump W3 hk3 => by
        have hl3 := hk3.2.2.trans hl2
        have := run_endRound (P := P) jump hl3
        rw [hrec] at this ⊢
        exact ⟨this, World.putObj_heap_same (Array.getElem?_eq_some_iff.1 hl3).1, (World.putObj_heap_other (by omega)).trans (hk3.2.1.trans hk2)⟩
      rintro e a3 W3 hp
      cases e with
      | normal =>
        obtain ⟨hk3, hi3, hit3⟩ := hp
        obtain ⟨hr, hl4, hk4⟩ := fin none W3 hk3
        exact ⟨_, _, hr, .inl ⟨rfl, ⟨hI _ _ _ hi3 ((hfb _ _).mono (fun k _ h => .inr h)), hl4, hk4⟩, hIt _ _ _ hit3 (hfb _ _), by have := hk3.1; simpa using this⟩⟩
      | ret =>
        obtain ⟨hk3, hi3⟩ := hp
        obtain ⟨hr, hl4, hk4⟩ := fin (some .ret) W3 hk3
        exact ⟨_, _, hr, .inr ⟨rfl, .ret, hIx _ _ _ _ hi3 (hfb _ _), hl4, hk4⟩⟩
      | exit id =>
        obtain ⟨hk3, hi3⟩ := hp
        obtain ⟨hr, hl4, hk4⟩ := fin (some (.exit id)) W3 hk3
        exact ⟨_, _, hr, .inr ⟨rfl, .exit id, hIx _ _ _ _ hi3 (hfb _ _), hl4, hk4⟩⟩
      | goto t =>
        obtain ⟨hk3, hi3⟩ := hp
        obtain ⟨hr, hl4, hk4⟩ := fin (some (.goto t)) W3 hk3
        exact ⟨_, _, hr, .inr ⟨rfl, .goto t, hIx _ _ _ _ hi3 (hfb _ _), hl4, hk4⟩⟩
      | panic ch => exact hp.elim
      | outgrown => exact hp.elim
    · -- behind the iterator
      have hfb : ∀ (X : World) (o : Obj), Fr (fun b => b = w.heap.size + 1) X (X.putObj (w.heap.size + 1) o) := fun X o => Fr.putObj X _ o rfl
      rintro e W2 ⟨⟨v, rfl⟩, (⟨s, hS, hi, hl, hk⟩ | ⟨s, c, hi, hl, hk⟩)⟩
      · exact ⟨none, _, by have := run_endLoop (P := P) hl (by rw [hrec]; simp); rw [hrec] at this; exact this, hdone s _ (hE _ _ _ hS (hfb _ _)) (hI _ _ _ hi ((hfb _ _).mono (fun k _ h => .inr h))) ((World.putObj_heap_other (by omega)).trans hk)⟩
      · exact ⟨some c, _, by have := run_endLoop (P := P) hl (by rw [hrec]; simp); rw [hrec] at this; exact this, hstop c s _ (hIx _ _ _ _ hi (hfb _ _)) ((World.putObj_heap_other (by omega)).trans hk)⟩
end Go.Proofs.Ytjdohjoljobinaa.Iter
