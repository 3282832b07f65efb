/-
  A loop over an iterator that writes cells of its own between two rounds: the contract (SeqSteps) and the law of the loop, over the kit's laws of records and rounds.
-/
import Derived.RangeFuncBox
import Derived.RangeFuncWrites
import Derived.RangeFuncLeaves
import Derived.Shelf.Abstract
import Derived.Below
import Derived.Test.YtdofpkdemmngeaaBase
namespace Go.Proofs.Ytdofpkdemmngeaa
open Go Go.RowKit Go.Shelf
set_option linter.unusedVariables false
/-- a step of the iterator's: of the blocks that lay there the cells at Bs alone may turn -/
def StepB (Bs : Nat) (t : TypeId) (A B : World) : Prop := A.grownBy B (some Bs) ∧ ∃ u, Boxed A Bs t u
theorem StepB.other {Bs : Nat} {t : TypeId} {A B : World} (h : StepB Bs t A B) {k : Nat} {o : Obj} (hk : A.heap[k]? = some o) (ho : o.isCells = false) : B.heap[k]? = some o := by
  obtain ⟨hg, u, hb⟩ := h
  refine (hg.block k (Array.getElem?_eq_some_iff.1 hk).1 ?_).trans hk
  intro e
  injection e with e
  subst e
  have hb' : A.heap[k]? = some (.cells #[u] t (0, 0)) := hb
  rw [hb'] at hk
  cases hk
  cases ho
/-- the contract: whatever the caller's invariants, so long as they abide the iterator's steps -/
def SeqSteps {α : Type} (F : Fence) (n : Nat) (P : Program) (g : Nat) (lb : Array Value) (Bs : Nat) (t : TypeId) (encs : α → Array Value) (Kp : World → World → Prop) (S Sp : List α → Prop) (N : Nat) (w : World) : Prop :=
  ∀ (l : Nat) (J Jx : List α → World → Prop) (W : World), Below w.heap.size w W → (∀ s A B, StepB Bs t A B → J s A → J s B) → (∀ s A B, StepB Bs t A B → Jx s A → Jx s B) →
    (∀ pre x A, J pre A → pre.length < N → YieldAt F (n - 1) P l (encs x) A fun e B => (e = .returned (.bool true) ∧ J (pre ++ [x]) B ∧ Kp A B) ∨ (e = .returned (.bool false) ∧ Jx (pre ++ [x]) B)) →
    J [] W →
    CallsIn F n P g (#[.func (.yield l) #[] #[]] ++ lb) W fun e B => (∃ v, e = .returned v) ∧ ((∃ xs, S xs ∧ J xs B) ∨ (∃ pre, Sp pre ∧ Jx pre B))
section
variable {F : Fence} {n : Nat} {P : Program}
theorem wpIn_rangeFunc_steps {α : Type} {g : Operand} {ps : Array Tmp} {assign body : Code} {Q : Exit → Act → World → Prop} {a : Act} {w : World}
    (hro : F.round = none) (h1 : 1 ≤ n) {gf : Nat} {lb : Array Value} (hg : a.eval g = .func (.func gf) #[] lb) (hFg : F.fn gf) (eg : ∀ args w, (callFunc gf args).run P w = .ok (.enter gf args) w)
    {Bs : Nat} {t : TypeId} {encs : α → Array Value} {Kp : World → World → Prop} {S Sp : List α → Prop} {N : Nat} (hseq : SeqSteps F (n - 1) P gf lb Bs t encs Kp S Sp N w)
    (hKt : ∀ {A B C : World}, Kp A B → Kp B C → Kp A C) (hKb : ∀ (W : World) (l : Nat) (o o' : Obj), w.heap.size ≤ l → W.heap[l]? = some o → o.isCells = false → o.isWalk = false → Kp W (W.putObj l o')) (hps : ∀ x, (encs x).size = ps.size)
    (I : List α → World → Prop) (Ix : Code → List α → World → Prop) (hI : OwnFrom w.heap.size I) (hIx : ∀ c, OwnFrom w.heap.size (Ix c)) (hIs : ∀ s A B, StepB Bs t A B → I s A → I s B) (hIxs : ∀ c s A B, StepB Bs t A B → Ix c s A → Ix c s B) (h0 : I [] w) (a₁ : α → Act)
    (hassign : ∀ (l : Nat) (x : α) (W : World) (K : Act → World → Prop), K (a₁ x) W →
      assign.wpIn (F.inRound l) (n - 1 - 1) P (Exit.then K (fun _ _ _ => False)) { tmps := (ps.zip (encs x)).foldl (fun t (p, v) => t.setIfInBounds p v) a.tmps, defers := [] } W)
    (hbody : ∀ (l : Nat) (pre : List α) (x : α) (W : World), w.heap.size ≤ l → I pre W → pre.length < N → body.wpIn (F.inRound l) (n - 1 - 1) P (ownPostG w.heap.size Kp I Ix (pre ++ [x]) W) (a₁ x) W)
    (hdone : ∀ (D : Nat) (xs : List α) (W : World), w.heap.size ≤ D → S xs → I xs W → W.heap[D]? = some (.deferred (some [])) → Q .normal { a with defers := { target := .collected D, args := #[] } :: a.defers } W)
    (hstop : ∀ (D : Nat) (c : Code) (pre : List α) (W : World), w.heap.size ≤ D → Sp pre → Ix c pre W → W.heap[D]? = some (.deferred (some [])) → c.wpIn F n P Q { a with defers := { target := .collected D, args := #[] } :: a.defers } W) :
    (Code.rangeFunc g ps assign body).wpIn F n P Q a w := by
  refine wpIn_rangeFunc fun fn hfn => ?_
  rw [hro]
  -- the loop's record
  obtain ⟨R, hR⟩ : ∃ R : LoopState → Option Code → Loop, R = fun st pe => { state := st, pending := pe, fn, tmps := a.tmps, params := ps, assign, body, defers := w.heap.size } := ⟨_, rfl⟩
  have hRd : (R .ready none).params = ps := by rw [hR]
  have hRs : (R .ready none).state = .ready := by rw [hR]
  obtain ⟨D, hD⟩ : ∃ D, w.heap.size = D := ⟨_, rfl⟩
  obtain ⟨V, hV⟩ : ∃ V, (w.alloc (.deferred (some []))).alloc (.loop (R .ready none)) = V := ⟨_, rfl⟩
  -- what the book-keeping says of a world: the record, the block for deferred calls
  let Bk : LoopState → Option Code → World → Prop := fun st pe W => W.heap[D + 1]? = some (.loop (R st pe)) ∧ W.heap[D]? = some (.deferred (some []))
  have hbk : Bk .ready none V := by
    constructor
    · rw [← hV]
      have := World.alloc_heap_new (w.alloc (.deferred (some []))) (.loop (R .ready none))
      rwa [World.size_alloc, hD] at this
    · rw [← hV, ← hD]
      exact (Below.heap_alloc _ _ _ (by simp)).trans (World.alloc_heap_new w _)
  have hbs : ∀ st pe A B, StepB Bs t A B → Bk st pe A → Bk st pe B := fun st pe A B h k => ⟨h.other k.1 rfl, h.other k.2 rfl⟩
  have hbp : ∀ st pe st' pe' W, Bk st pe W → Bk st' pe' (W.putObj (D + 1) (.loop (R st' pe'))) := fun st pe st' pe' W k =>
    ⟨World.putObj_heap_same (Array.getElem?_eq_some_iff.1 k.1).1, (World.putObj_heap_other (by omega)).trans k.2⟩
  have hI1 : I [] V := by rw [← hV]; exact hI.alloc _ (hI.alloc _ h0)
  have hb1 : Below w.heap.size w V := by rw [← hV]; exact ((Below.refl _ w).alloc (Nat.le_refl _) _).alloc (by simp) _
  refine ⟨D + 1, [{ target := .collected D, args := #[] }], V, { target := .fn (.func gf) lb, args := #[.func (.yield (D + 1)) #[] #[]] }, V, gf, #[.func (.yield (D + 1)) #[] #[]] ++ lb, V, ?_, ?_, ?_, ?_, fun _ => h1, ?_⟩
  · rw [← hV, hR, ← hD]; exact run_enterLoop_outer _ _ _ _ _
  · simp only [resolve, hg]
    simp [go_sem]
  · intro f' hf'
    simp [Target.leads] at hf'
    subst hf'
    exact hFg
  · simp [invoke, go_sem, eg]
  · refine (hseq (D + 1) (fun pre W => I pre W ∧ Bk .ready none W) (fun pre W => ∃ c, Ix c pre W ∧ Bk .done (some c) W) V hb1
      (fun s A B h k => ⟨hIs s A B h k.1, hbs _ _ A B h k.2⟩) (fun s A B h ⟨c, k1, k2⟩ => ⟨c, hIxs c s A B h k1, hbs _ _ A B h k2⟩) ?_ ⟨hI1, hbk⟩).mono ?_
    · rintro pre x W ⟨hi, hb⟩ hlen
      have hy := run_yield (P := P) (args := encs x) hb.1 (by rw [hRd]; exact hps x)
      rw [hR] at hy
      refine ⟨fn, _, assign, body, hy, roundIn_of_wpIn hfn (hassign _ x W _ ⟨_, run_beginRound hb.1 hRs, ?_⟩)⟩
      have e1 : ({ R .ready none with state := .busy } : Loop) = R .busy none := by rw [hR]
      rw [e1]
      have hb2 := hbp _ _ .busy none W hb
      have hw2 : Kp W (W.putObj (D + 1) (.loop (R .busy none))) := hKb _ _ _ _ (by omega) hb.1 rfl rfl
      refine wpIn_mono (hbody _ pre x _ (by omega) (hI.putObj _ hi (by omega) hb.1 rfl) hlen) ?_
      -- a round ends
      have fin : ∀ (j : Option Code) (W3 : World), KeepsFrom w.heap.size (W.putObj (D + 1) (.loop (R .busy none))) W3 →
          Bk .busy none W3 ∧ (Instr.endRound (D + 1) j).run P W3 = .ok (.bool j.isNone) (W3.putObj (D + 1) (.loop (R (if j.isNone then .ready else .done) j))) := fun j W3 hk => by
        have hb3 : Bk .busy none W3 := ⟨hk.same _ _ (by omega) hb2.1 rfl, hk.same _ _ (by omega) hb2.2 rfl⟩
        have hr := run_endRound (P := P) j hb3.1
        have e2 : ({ R .busy none with state := if j.isNone then .ready else .done, pending := j } : Loop) = R (if j.isNone then .ready else .done) j := by rw [hR]
        rw [e2] at hr
        exact ⟨hb3, hr⟩
      have out : ∀ (c : Code) (W3 : World), KeepsFrom w.heap.size (W.putObj (D + 1) (.loop (R .busy none))) W3 → Ix c (pre ++ [x]) W3 →
          ∃ v W4, (Instr.endRound (D + 1) (some c)).run P W3 = .ok v W4 ∧ v = .bool false ∧ ∃ c', Ix c' (pre ++ [x]) W4 ∧ Bk .done (some c') W4 := fun c W3 hk hx => by
        obtain ⟨hb3, hr⟩ := fin (some c) W3 hk
        exact ⟨_, _, hr, rfl, c, (hIx c).putObj _ hx (by omega) hb3.1 rfl, hbp _ _ .done (some c) W3 hb3⟩
      intro e a3 W3 hp
      cases e with
      | normal =>
        obtain ⟨hk, hkp, hi3⟩ := hp
        obtain ⟨hb3, hr⟩ := fin none W3 hk
        exact ⟨_, _, hr, .inl ⟨rfl, ⟨hI.putObj _ hi3 (by omega) hb3.1 rfl, hbp _ _ .ready none W3 hb3⟩, hKt (hKt hw2 hkp) (hKb _ _ _ _ (by omega) hb3.1 rfl rfl)⟩⟩
      | ret =>
        obtain ⟨v, W4, hr, rfl, hx⟩ := out _ W3 hp.1 hp.2
        exact ⟨_, _, hr, .inr ⟨rfl, hx⟩⟩
      | exit id =>
        obtain ⟨v, W4, hr, rfl, hx⟩ := out _ W3 hp.1 hp.2
        exact ⟨_, _, hr, .inr ⟨rfl, hx⟩⟩
      | goto t =>
        obtain ⟨v, W4, hr, rfl, hx⟩ := out _ W3 hp.1 hp.2
        exact ⟨_, _, hr, .inr ⟨rfl, hx⟩⟩
      | panic ch => exact hp.elim
      | outgrown => exact hp.elim
    · have fin : ∀ (st : LoopState) (pe : Option Code) (W : World), st ≠ .busy → Bk st pe W → (Instr.endLoop (D + 1)).run P W = .ok pe (W.putObj (D + 1) (.loop (R .exhausted pe))) := fun st pe W hst hb => by
        have := run_endLoop (P := P) hb.1 (by rw [hR]; exact hst)
        rw [hR] at this ⊢
        exact this
      rintro e W2 ⟨⟨v, rfl⟩, (⟨xs, hS, hi, hb⟩ | ⟨pre, hSp, c, hi, hb⟩)⟩
      · exact ⟨none, _, fin _ _ _ (by simp) hb, hdone _ xs _ (by omega) hS (hI.putObj _ hi (by omega) hb.1 rfl) (hbp _ _ .exhausted none W2 hb).2⟩
      · exact ⟨some c, _, fin _ _ _ (by simp) hb, hstop _ c pre _ (by omega) hSp ((hIx c).putObj _ hi (by omega) hb.1 rfl) (hbp _ _ .exhausted (some c) W2 hb).2⟩
end
end Go.Proofs.Ytdofpkdemmngeaa
