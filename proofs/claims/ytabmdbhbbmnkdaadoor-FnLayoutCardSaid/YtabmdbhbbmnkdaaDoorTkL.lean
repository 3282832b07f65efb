/-
  Tracks: their length, their cells. Plain.
-/
import Derived.Test.YtabmdbhbbmnkdaaDoorVtA
import Derived.Test.YtabmdbhbbmnkdaaDoorTkP
namespace Go.Proofs.YtabmdbhbbmnkdaaDoor
open Go Go.ChangeShapes Go.WideShapes Go.ChangeAt Go.RowKit Go.Joins lib
set_option linter.unusedVariables false
set_option maxRecDepth 100000
theorem enc_exact (f : Nat) (hf : f123 f) (b : Bool) (l : List UInt8) : (encF3 f b l).length = cellN f * l.length := by
  unfold encF3 cellN
  rcases hf with rfl | rfl | rfl
  · rw [if_pos rfl, encL_len, bitsL_len, if_neg (by omega)]; omega
  · rw [if_neg (by omega), if_pos rfl, encL_len, bitsL_len, if_neg (by omega)]; omega
  · rw [if_neg (by omega), if_neg (by omega), gcrL_len, if_pos rfl]
theorem wBytes_exact (f : Nat) (hf : f123 f) (s : WS) (l : List UInt8) : (wBytes f s l).2.length = s.2.length + cellN f * l.length := by
  show (s.2 ++ encF3 f s.1 l).length = _
  rw [List.length_append, enc_exact f hf]
theorem wMark_exact (f k : Nat) (hf : f123 f) (hk : f123 k) (s : WS) : (wMark f k s).2.length = s.2.length + runN f := by
  show ((wRun f s).2 ++ markL f k).length = _
  rw [List.length_append]
  rcases hf with rfl | rfl | rfl
  · have h1 : (wRun 1 s).2.length = s.2.length + 32 := by
      show (wBytes 1 s [0, 0]).2.length = _
      rw [wBytes_exact 1 (.inl rfl)]; rfl
    have h2 : (markL 1 k).length = 16 := by rcases hk with rfl | rfl | rfl <;> rfl
    rw [h1, h2]; rfl
  · have h1 : (wRun 2 s).2.length = s.2.length + 48 := by
      show (wBytes 2 s [0, 0, 0]).2.length = _
      rw [wBytes_exact 2 (.inr (.inl rfl))]; rfl
    have h2 : (markL 2 k).length = 64 := by rcases hk with rfl | rfl | rfl <;> rfl
    rw [h1, h2]; rfl
  · have h1 : (wRun 3 s).2.length = s.2.length + 10 := by
      show (s.2 ++ ten1).length = _
      rw [List.length_append]; rfl
    have h2 : (markL 3 k).length = 20 := by rcases hk with rfl | rfl | rfl <;> rfl
    rw [h1, h2]; rfl
theorem wSect_exact (f g : Nat) (hf : f123 f) (w : WS) (s : SS) (h : s.ok) : (wSect f g w s).2.length = w.2.length + (g * cellN f + sectN f s) := by
  unfold wSect
  simp only []
  rw [wBytes_exact f hf, wMark_exact f s.kd hf s.kd123, wBytes_exact f hf, wBytes_exact f hf, wMark_exact f 1 hf (.inl rfl), wBytes_exact f hf, fieldL_len, fieldL_len, List.length_replicate]
  have hd : s.dt.data.toList.length = 8 * 2 ^ s.sz.toNat := h.2.2.2.2
  rw [hd]
  unfold sectN
  rw [show s.id.length = 4 from rfl, show [fillY f, fillY f].length = 2 from rfl]
  generalize 8 * 2 ^ s.sz.toNat = d
  generalize cellN f = C
  rw [Nat.add_mul, Nat.mul_comm C g, Nat.mul_comm C (d + 2), Nat.add_mul]
  omega
theorem foldl_exact (f g : Nat) (hf : f123 f) : ∀ (l : List SS) (w : WS), (∀ s ∈ l, s.ok) → (l.foldl (wSect f g) w).2.length = w.2.length + (l.map fun s => g * cellN f + sectN f s).sum
  | [], w, _ => by simp
  | s :: r, w, h => by
    rw [List.foldl_cons, foldl_exact f g hf r _ (fun t ht => h t (List.mem_cons_of_mem _ ht)), wSect_exact f g hf w s (h s (List.mem_cons_self ..)), List.map_cons, List.sum_cons]
    omega
theorem track_len (f g : Nat) (hf : f123 f) (l : List SS) (h : ∀ s ∈ l, s.ok) : (trackL f g l).length = trackN f g l := by
  unfold trackL
  rw [wBytes_exact f hf, foldl_exact f g hf l _ h, List.length_replicate]
  unfold trackN
  rw [Nat.mul_comm (cellN f) g]
  show 0 + _ + _ = _
  omega
theorem CellL.append {a b : List UInt8} (ha : CellL a) (hb : CellL b) : CellL (a ++ b) := fun y hy => (List.mem_append.1 hy).elim (ha y) (hb y)
theorem gcr_cells : ∀ l : List UInt8, CellL (gcrL l)
  | [] => fun y hy => by simp [gcrL] at hy
  | x :: r => by
    have h1 : ∀ k, k < 16 → CellL (gcrT.getD k []) := by
      intro k hk y hy
      have : ∀ k, k < 16 → ∀ y ∈ gcrT.getD k [], y = 48 ∨ y = 49 := by decide
      exact this k hk y hy
    have hx := x.toNat_lt
    unfold gcrL
    rw [List.flatMap_cons]
    exact CellL.append (CellL.append (h1 _ (by omega)) (h1 _ (by omega))) (gcr_cells r)
theorem enc_cells (f : Nat) (b : Bool) (l : List UInt8) : CellL (encF3 f b l) := by
  unfold encF3
  split
  · exact fun y hy => encL_cells false _ _ y hy
  split
  · exact fun y hy => encL_cells true _ _ y hy
  · exact gcr_cells l
theorem mark_cells (f k : Nat) (hf : f123 f) (hk : f123 k) : CellL (markL f k) := by
  unfold CellL
  rcases hf with rfl | rfl | rfl <;> rcases hk with rfl | rfl | rfl <;> decide
theorem wBytes_cells (f : Nat) {s : WS} (h : CellL s.2) (l : List UInt8) : CellL (wBytes f s l).2 := CellL.append h (enc_cells f _ _)
theorem wMark_cells (f k : Nat) (hf : f123 f) (hk : f123 k) {s : WS} (h : CellL s.2) : CellL (wMark f k s).2 := by
  refine CellL.append ?_ (mark_cells f k hf hk)
  unfold wRun
  split
  · exact wBytes_cells f h _
  split
  · exact wBytes_cells f h _
  · exact CellL.append h (by unfold CellL; decide)
theorem foldl_cells (f g : Nat) (hf : f123 f) : ∀ (l : List SS) (w : WS), CellL w.2 → CellL (l.foldl (wSect f g) w).2
  | [], w, h => h
  | s :: r, w, h => by
    rw [List.foldl_cons]
    refine foldl_cells f g hf r _ ?_
    unfold wSect
    exact wBytes_cells f (wMark_cells f _ hf s.kd123 (wBytes_cells f (wBytes_cells f (wMark_cells f _ hf (.inl rfl) (wBytes_cells f h _)) _) _)) _
theorem track_cells (f g : Nat) (hf : f123 f) (l : List SS) : CellL (trackL f g l) := wBytes_cells f (foldl_cells f g hf l _ (fun y hy => by cases hy)) _
theorem track_pos (f g : Nat) (hf : f123 f) (hg : 1 ≤ g) (l : List SS) (h : ∀ s ∈ l, s.ok) : 1 ≤ (trackL f g l).length := by
  rw [track_len f g hf l h]
  unfold trackN
  have hc : 10 ≤ cellN f := by unfold cellN; split <;> omega
  have := Nat.mul_le_mul hg hc
  omega
end Go.Proofs.YtabmdbhbbmnkdaaDoor
