/-
  Tracks as bytes with or without a mark's clocks: the cells by their number, on the circle. Plain.
-/
import Derived.Test.YtabmdbhbbmnkdaaDoorBtQ
namespace Go.Proofs.YtabmdbhbbmnkdaaDoor
open Go Go.ChangeShapes Go.WideShapes Go.ChangeAt Go.RowKit lib
set_option linter.unusedVariables false
set_option maxRecDepth 100000
/-- a byte of a track; ph: its place in a mark, 0 for none; kd: the mark's kind -/
structure Itm where
  ph : Nat
  kd : Nat
  y : UInt8
def rbI (y : UInt8) : Itm := ⟨0, 0, y⟩
def noI : Itm := ⟨0, 0, 0⟩
/-- the clock at the place r of a byte -/
def clk (f : Nat) (mk p b : Bool) (r : Nat) : Bool := if f = 1 then !(mk && (r == 2 || r == 3 || r == 4)) else (!p && !b) && !(mk && r == 5)
def Itm.mk? (i : Itm) : Bool := i.ph != 0
def bI (y : UInt8) (r : Nat) : Bool := bitY y (7 - r)
def itC (f : Nat) (p : Bool) (i : Itm) : List UInt8 :=
  [cellB (clk f i.mk? p (bI i.y 0) 0), cellB (bI i.y 0), cellB (clk f i.mk? (bI i.y 0) (bI i.y 1) 1), cellB (bI i.y 1), cellB (clk f i.mk? (bI i.y 1) (bI i.y 2) 2), cellB (bI i.y 2), cellB (clk f i.mk? (bI i.y 2) (bI i.y 3) 3), cellB (bI i.y 3), cellB (clk f i.mk? (bI i.y 3) (bI i.y 4) 4), cellB (bI i.y 4), cellB (clk f i.mk? (bI i.y 4) (bI i.y 5) 5), cellB (bI i.y 5), cellB (clk f i.mk? (bI i.y 5) (bI i.y 6) 6), cellB (bI i.y 6), cellB (clk f i.mk? (bI i.y 6) (bI i.y 7) 7), cellB (bI i.y 7)]
/-- FM and MFM: the cells of items -/
def cellsI (f : Nat) : Bool → List Itm → List UInt8
  | _, [] => []
  | p, i :: r => itC f p i ++ cellsI f (bI i.y 7) r
def lastI (p : Bool) (l : List Itm) : Bool := (l.getLast?.map fun i => bI i.y 7).getD p
theorem itC_len (f : Nat) (p : Bool) (i : Itm) : (itC f p i).length = 16 := rfl
theorem cellsI_len (f : Nat) : ∀ (p : Bool) (l : List Itm), (cellsI f p l).length = 16 * l.length
  | _, [] => rfl
  | p, i :: r => by
    rw [cellsI, List.length_append, itC_len, cellsI_len f _ r, List.length_cons]
    omega
theorem lastI_cons (p : Bool) (i : Itm) (r : List Itm) : lastI p (i :: r) = lastI (bI i.y 7) r := by
  unfold lastI
  cases r with
  | nil => rfl
  | cons a s =>
    rw [List.getLast?_cons_cons]
    cases h : (a :: s).getLast? with
    | none => simp at h
    | some v => rfl
theorem cellsI_append (f : Nat) : ∀ (p : Bool) (a b : List Itm), cellsI f p (a ++ b) = cellsI f p a ++ cellsI f (lastI p a) b
  | _, [], b => rfl
  | p, i :: r, b => by
    rw [List.cons_append, cellsI, cellsI, cellsI_append f _ r b, lastI_cons, List.append_assoc]
theorem lastI_append (p : Bool) : ∀ (a b : List Itm), lastI p (a ++ b) = lastI (lastI p a) b
  | [], b => rfl
  | i :: r, b => by
    have h : ∀ (p : Bool) (a b : List Itm), lastI p (a ++ b) = lastI (lastI p a) b := by
      intro p a
      induction a generalizing p with
      | nil => intro b; rfl
      | cons x s ih => intro b; rw [List.cons_append, lastI_cons, lastI_cons, ih]
    exact h p (i :: r) b
/-- bytes without a mark -/
theorem encL_item (f : Nat) (hf : f = 1 ∨ f = 2) (p : Bool) (y : UInt8) (r : List Bool) : encL (decide (f = 2)) p (bitsY y ++ r) = itC f p (rbI y) ++ encL (decide (f = 2)) (bI y 7) r := by
  rcases hf with rfl | rfl
  · simp [bitsY, encL, itC, clk, rbI, Itm.mk?, bI]
  · simp [bitsY, encL, itC, clk, rbI, Itm.mk?, bI]
theorem encL_items (f : Nat) (hf : f = 1 ∨ f = 2) : ∀ (p : Bool) (l : List UInt8), encL (decide (f = 2)) p (bitsL l) = cellsI f p (l.map rbI)
  | p, [] => by unfold bitsL; rfl
  | p, y :: r => by
    have ih := encL_items f hf (bI y 7) r
    unfold bitsL at *
    rw [List.flatMap_cons, encL_item f hf, ih, List.map_cons, cellsI]
    rfl
theorem encF3_items (f : Nat) (hf : f = 1 ∨ f = 2) (p : Bool) (l : List UInt8) : encF3 f p l = cellsI f p (l.map rbI) := by
  rw [← encL_items f hf]
  unfold encF3
  rcases hf with rfl | rfl <;> rfl
theorem bI7 (y : UInt8) : bI y 7 = (y.toNat % 2 == 1) := by unfold bI bitY; simp
theorem lastY_items (p : Bool) (l : List UInt8) (h : l ≠ []) : lastY l = lastI p (l.map rbI) := by
  unfold lastY lastI
  rw [List.getLast?_map]
  cases e : l.getLast? with
  | none => exact absurd (List.getLast?_eq_none_iff.1 e) h
  | some y =>
    show (y.toNat % 2 == 1) = bI y 7
    rw [bI7]
/-- a writer's step on items -/
def wI (f : Nat) (s : WS) (l : List Itm) : WS := (lastI s.1 l, s.2 ++ cellsI f s.1 l)
theorem wI_append (f : Nat) (s : WS) (a b : List Itm) : wI f (wI f s a) b = wI f s (a ++ b) := by
  unfold wI
  simp only [lastI_append, cellsI_append, List.append_assoc]
theorem wBytes_items (f : Nat) (hf : f = 1 ∨ f = 2) (s : WS) (l : List UInt8) (h : l ≠ []) : wBytes f s l = wI f s (l.map rbI) := by
  unfold wBytes wI
  rw [encF3_items f hf, lastY_items s.1 l h]
def runI (f : Nat) : List Itm := if f = 1 then [rbI 0, rbI 0] else [rbI 0, rbI 0, rbI 0]
def markI (f k : Nat) : List Itm := if f = 1 then [⟨1, k, mY 1 k⟩] else [⟨1, k, 161⟩, ⟨2, k, 161⟩, ⟨3, k, 161⟩, rbI (mY 2 k)]
theorem itC_of (f : Nat) (p : Bool) (i j : Itm) (h1 : i.mk? = j.mk?) (h2 : i.y = j.y) : itC f p i = itC f p j := by
  unfold itC
  rw [h1, h2]
theorem itC_a1 (p : Bool) (ph k : Nat) (h : ph ≠ 0) : itC 2 p ⟨ph, k, 161⟩ = mfmMk := by
  rw [itC_of 2 p ⟨ph, k, 161⟩ ⟨1, 0, 161⟩ (by unfold Itm.mk?; simpa using h) rfl]
  revert p
  decide
theorem markL_items (f k : Nat) (hf : f = 1 ∨ f = 2) (p : Bool) : markL f k = cellsI f p (markI f k) := by
  rcases hf with rfl | rfl
  · unfold markL markI
    rw [if_pos rfl, if_pos rfl, cellsI, cellsI, List.append_nil]
    generalize mY 1 k = y
    rfl
  · unfold markL markI
    rw [if_neg (by omega), if_pos rfl, if_neg (by omega)]
    have e := encL_item 2 (.inr rfl) true (mY 2 k) []
    rw [List.append_nil] at e
    rw [show encL true true (bitsY (mY 2 k)) = encL (decide (2 = 2)) true (bitsY (mY 2 k)) from rfl, e]
    rw [cellsI, cellsI, cellsI, cellsI, cellsI, List.append_nil, encL, List.append_nil]
    rw [itC_a1 p 1 k (by omega), itC_a1 _ 2 k (by omega), itC_a1 _ 3 k (by omega), show bI (161 : UInt8) 7 = true from rfl, ← List.append_assoc, ← List.append_assoc]
theorem markI_last (f k : Nat) (hf : f = 1 ∨ f = 2) (hk : f123 k) (p : Bool) : (mByte f k % 2 == 1) = lastI p (markI f k) := by
  rcases hf with rfl | rfl <;> rcases hk with rfl | rfl | rfl <;> rfl
theorem wMark_items (f k : Nat) (hf : f = 1 ∨ f = 2) (hk : f123 k) (s : WS) : wMark f k s = wI f s (runI f ++ markI f k) := by
  rw [← wI_append]
  have hr : wRun f s = wI f s (runI f) := by
    unfold wRun runI
    rcases hf with rfl | rfl
    · rw [if_pos rfl, if_pos rfl, wBytes_items 1 (.inl rfl) s _ (by simp)]
      rfl
    · rw [if_neg (by omega), if_pos rfl, if_neg (by omega), wBytes_items 2 (.inr rfl) s _ (by simp)]
      rfl
  unfold wMark
  rw [hr, markL_items f k hf (wI f s (runI f)).1, markI_last f k hf hk (wI f s (runI f)).1]
  rfl
def sectI (f g : Nat) (s : SS) : List Itm := (List.replicate g (fillY f)).map rbI ++ (runI f ++ markI f 1) ++ (fieldL f 1 s.id s.bi).map rbI ++ [fillY f, fillY f].map rbI ++ (runI f ++ markI f s.kd) ++ (fieldL f s.kd s.dt.data.toList s.bd).map rbI
def trackI (f g : Nat) (l : List SS) : List Itm := l.flatMap (sectI f g) ++ (List.replicate g (fillY f)).map rbI
theorem field_ne (f k : Nat) (d : List UInt8) (b : Bool) : fieldL f k d b ≠ [] := by
  intro h
  have := fieldL_len f k d b
  rw [h] at this
  simp at this
theorem rep_ne {g : Nat} (hg : 1 ≤ g) (y : UInt8) : List.replicate g y ≠ [] := by
  intro h
  have := congrArg List.length h
  simp at this
  omega
theorem wSect_items (f g : Nat) (hf : f = 1 ∨ f = 2) (hg : 1 ≤ g) (w : WS) (s : SS) : wSect f g w s = wI f w (sectI f g s) := by
  unfold wSect sectI
  simp only []
  rw [wBytes_items f hf w _ (rep_ne hg _), wMark_items f 1 hf (.inl rfl), wBytes_items f hf _ _ (field_ne _ _ _ _), wBytes_items f hf _ _ (by simp), wMark_items f s.kd hf s.kd123, wBytes_items f hf _ _ (field_ne _ _ _ _)]
  simp only [wI_append]
theorem track_items (f g : Nat) (hf : f = 1 ∨ f = 2) (hg : 1 ≤ g) (l : List SS) : trackL f g l = cellsI f false (trackI f g l) := by
  unfold trackL trackI
  rw [wBytes_items f hf _ _ (rep_ne hg _)]
  have key : ∀ (l : List SS) (w : WS), l.foldl (wSect f g) w = wI f w (l.flatMap (sectI f g)) := by
    intro l
    induction l with
    | nil => intro w; unfold wI; simp [cellsI, lastI]
    | cons s r ih => intro w; rw [List.foldl_cons, wSect_items f g hf hg, ih, wI_append, List.flatMap_cons]
  rw [key, wI_append]
  show [] ++ cellsI f false _ = _
  rw [List.nil_append]
/-! ### the cells by their number -/
/-- the bit i of items -/
def blI (l : List Itm) (i : Nat) : Bool := bI (l.getD (i / 8) noI).y (i % 8)
def mkI (l : List Itm) (i : Nat) : Bool := (l.getD (i / 8) noI).mk?
def pbI (p : Bool) (l : List Itm) (i : Nat) : Bool := if i = 0 then p else blI l (i - 1)
theorem itC_even (f : Nat) (p : Bool) (i : Itm) (r : Nat) (h : r < 8) : (itC f p i)[2 * r]? = some (cellB (clk f i.mk? (if r = 0 then p else bI i.y (r - 1)) (bI i.y r) r)) := by
  have : r = 0 ∨ r = 1 ∨ r = 2 ∨ r = 3 ∨ r = 4 ∨ r = 5 ∨ r = 6 ∨ r = 7 := by omega
  rcases this with rfl | rfl | rfl | rfl | rfl | rfl | rfl | rfl <;> rfl
theorem itC_odd (f : Nat) (p : Bool) (i : Itm) (r : Nat) (h : r < 8) : (itC f p i)[2 * r + 1]? = some (cellB (bI i.y r)) := by
  have : r = 0 ∨ r = 1 ∨ r = 2 ∨ r = 3 ∨ r = 4 ∨ r = 5 ∨ r = 6 ∨ r = 7 := by omega
  rcases this with rfl | rfl | rfl | rfl | rfl | rfl | rfl | rfl <;> rfl
theorem blI_cons (x : Itm) (r : List Itm) (i : Nat) : blI (x :: r) (i + 8) = blI r i := by
  unfold blI
  rw [show (i + 8) / 8 = i / 8 + 1 by omega, show (i + 8) % 8 = i % 8 by omega, List.getD_cons_succ]
theorem blI_head (x : Itm) (r : List Itm) (i : Nat) (h : i < 8) : blI (x :: r) i = bI x.y i := by
  unfold blI
  rw [show i / 8 = 0 by omega, show i % 8 = i by omega]
  rfl
theorem mkI_cons (x : Itm) (r : List Itm) (i : Nat) : mkI (x :: r) (i + 8) = mkI r i := by
  unfold mkI
  rw [show (i + 8) / 8 = i / 8 + 1 by omega, List.getD_cons_succ]
theorem pbI_cons (p : Bool) (x : Itm) (r : List Itm) (i : Nat) : pbI p (x :: r) (i + 8) = pbI (bI x.y 7) r i := by
  unfold pbI
  rw [if_neg (by omega)]
  by_cases h : i = 0
  · rw [if_pos h, h]
    exact blI_head x r 7 (by omega)
  · rw [if_neg h, show i + 8 - 1 = (i - 1) + 8 by omega, blI_cons]
theorem cellsI_even (f : Nat) : ∀ (l : List Itm) (p : Bool) (i : Nat), i < 8 * l.length → (cellsI f p l)[2 * i]? = some (cellB (clk f (mkI l i) (pbI p l i) (blI l i) (i % 8)))
  | [], _, i, h => by simp at h
  | x :: r, p, i, h => by
    rw [cellsI]
    by_cases hi : i < 8
    · rw [List.getElem?_append_left (by rw [itC_len]; omega), itC_even f p x i hi, blI_head x r i hi]
      have e1 : mkI (x :: r) i = x.mk? := by unfold mkI; rw [show i / 8 = 0 by omega]; rfl
      have e2 : pbI p (x :: r) i = if i = 0 then p else bI x.y (i - 1) := by
        unfold pbI
        by_cases h0 : i = 0
        · rw [if_pos h0, if_pos h0]
        · rw [if_neg h0, if_neg h0, blI_head x r _ (by omega)]
      rw [e1, e2, show i % 8 = i by omega]
    · obtain ⟨j, rfl⟩ : ∃ j, i = j + 8 := ⟨i - 8, by omega⟩
      rw [List.getElem?_append_right (by rw [itC_len]; omega), itC_len, show 2 * (j + 8) - 16 = 2 * j by omega, cellsI_even f r _ j (by rw [List.length_cons] at h; omega), mkI_cons, pbI_cons, blI_cons, show (j + 8) % 8 = j % 8 by omega]
theorem cellsI_odd (f : Nat) : ∀ (l : List Itm) (p : Bool) (i : Nat), i < 8 * l.length → (cellsI f p l)[2 * i + 1]? = some (cellB (blI l i))
  | [], _, i, h => by simp at h
  | x :: r, p, i, h => by
    rw [cellsI]
    by_cases hi : i < 8
    · rw [List.getElem?_append_left (by rw [itC_len]; omega), itC_odd f p x i hi, blI_head x r i hi]
    · obtain ⟨j, rfl⟩ : ∃ j, i = j + 8 := ⟨i - 8, by omega⟩
      rw [List.getElem?_append_right (by rw [itC_len]; omega), itC_len, show 2 * (j + 8) + 1 - 16 = 2 * j + 1 by omega, cellsI_odd f r _ j (by rw [List.length_cons] at h; omega), blI_cons]
/-! ### on the circle -/
def iat (l : List Itm) (k : Nat) : Itm := l.getD (k % l.length) noI
def bAt (l : List Itm) (i : Nat) : Bool := bI (iat l (i / 8)).y (i % 8)
/-- the cell j of a circle -/
def cyc (c : List UInt8) (j : Nat) : UInt8 := c.getD (j % c.length) 0
theorem iat_add (l : List Itm) (k : Nat) : iat l (k + l.length) = iat l k := by unfold iat; rw [Nat.add_mod_right]
theorem bAt_add (l : List Itm) (i : Nat) : bAt l (i + 8 * l.length) = bAt l i := by
  unfold bAt
  rw [show (i + 8 * l.length) / 8 = i / 8 + l.length by omega, iat_add, show (i + 8 * l.length) % 8 = i % 8 by omega]
theorem bAt_lt (l : List Itm) (i : Nat) (h : i < 8 * l.length) : bAt l i = blI l i := by
  unfold bAt blI iat
  rw [Nat.mod_eq_of_lt (show i / 8 < l.length by omega)]
theorem mod_mul8 (i n : Nat) (hn : 0 < n) : i % (8 * n) / 8 = i / 8 % n ∧ i % (8 * n) % 8 = i % 8 := by
  constructor
  · rw [Nat.mod_mul_right_div_self]
  · rw [Nat.mod_mul_right_mod]
theorem bAt_mod (l : List Itm) (hn : 0 < l.length) (i : Nat) : bAt l i = blI l (i % (8 * l.length)) := by
  obtain ⟨h1, h2⟩ := mod_mul8 i l.length hn
  unfold bAt blI iat
  rw [h1, h2]
theorem cyc_odd (f : Nat) (p : Bool) (l : List Itm) (hn : 0 < l.length) (i : Nat) : cyc (cellsI f p l) (2 * i + 1) = cellB (bAt l i) := by
  unfold cyc
  rw [cellsI_len, bAt_mod l hn]
  have h2 : (2 * i + 1) % (16 * l.length) = 2 * (i % (8 * l.length)) + 1 := by
    rw [show 16 * l.length = 2 * (8 * l.length) by omega]
    have h3 := Nat.div_add_mod i (8 * l.length)
    have h4 : i % (8 * l.length) < 8 * l.length := Nat.mod_lt _ (by omega)
    generalize i % (8 * l.length) = m at *
    generalize i / (8 * l.length) = q at *
    rw [← h3, show 2 * (8 * l.length * q + m) + 1 = (2 * m + 1) + 2 * (8 * l.length) * q by rw [Nat.mul_add, Nat.mul_assoc 2 (8 * l.length) q]; omega, Nat.add_mul_mod_self_left, Nat.mod_eq_of_lt (by omega)]
  rw [h2, List.getD_eq_getElem?_getD, cellsI_odd f l p _ (Nat.mod_lt _ (by omega))]
  rfl
theorem cyc_even (f : Nat) (p : Bool) (l : List Itm) (hn : 0 < l.length) (hp : lastI p l = p) (i : Nat) : cyc (cellsI f p l) (2 * i) = cellB (clk f (iat l (i / 8)).mk? (bAt l (i + 8 * l.length - 1)) (bAt l i) (i % 8)) := by
  unfold cyc
  rw [cellsI_len]
  have h2 : (2 * i) % (16 * l.length) = 2 * (i % (8 * l.length)) := by
    rw [show 16 * l.length = 2 * (8 * l.length) by omega, Nat.mul_mod_mul_left]
  obtain ⟨e1, e2⟩ := mod_mul8 i l.length hn
  have hm : mkI l (i % (8 * l.length)) = (iat l (i / 8)).mk? := by
    unfold mkI iat
    rw [e1]
  have hpb : pbI p l (i % (8 * l.length)) = bAt l (i + 8 * l.length - 1) := by
    rw [bAt_mod l hn]
    unfold pbI
    have h3 := Nat.div_add_mod i (8 * l.length)
    have h4 : i % (8 * l.length) < 8 * l.length := Nat.mod_lt _ (by omega)
    have h5 : (i + 8 * l.length - 1) % (8 * l.length) = if i % (8 * l.length) = 0 then 8 * l.length - 1 else i % (8 * l.length) - 1 := by
      generalize i % (8 * l.length) = m at *
      generalize i / (8 * l.length) = q at *
      subst h3
      split
      · next h =>
        subst h
        rw [show 8 * l.length * q + 0 + 8 * l.length - 1 = (8 * l.length - 1) + 8 * l.length * q by omega, Nat.add_mul_mod_self_left, Nat.mod_eq_of_lt (by omega)]
      · rw [show 8 * l.length * q + m + 8 * l.length - 1 = (m - 1) + 8 * l.length * (q + 1) by rw [Nat.mul_add]; omega, Nat.add_mul_mod_self_left, Nat.mod_eq_of_lt (by omega)]
    rw [h5]
    split
    · rw [← hp]
      unfold lastI blI
      have hq : (8 * l.length - 1) / 8 = l.length - 1 := by omega
      rw [hq, show (8 * l.length - 1) % 8 = 7 by omega, List.getLast?_eq_getElem?, List.getD_eq_getElem?_getD, List.getElem?_eq_getElem (show l.length - 1 < l.length by omega)]
      rfl
    · rfl
  rw [h2, List.getD_eq_getElem?_getD, cellsI_even f l p _ (Nat.mod_lt _ (by omega)), hm, hpb, ← bAt_mod l hn, e2]
  rfl
end Go.Proofs.YtabmdbhbbmnkdaaDoor
