/-
  Marks on tracks, plain: the runs of ones and the marks of the group code.
-/
import Derived.Test.YtabmdbhbbmnkdaaDoorMpD
import Derived.Test.YtabmdbhbbmnkdaaDoorMkE
namespace Go.Proofs.YtabmdbhbbmnkdaaDoor
open Go Go.ChangeShapes Go.WideShapes Go.ChangeAt Go.RowKit lib
set_option linter.unusedVariables false
set_option linter.unusedSimpArgs false
set_option maxRecDepth 100000
def Chk.G : Chk → List UInt8
  | .r y => gcrY y
  | .m q => ten1 ++ ten1 ++ gcrY (mY 3 q)
def cellsG (L : List Chk) : List UInt8 := L.flatMap Chk.G
def gW (x : Chk) : Nat := match x with | .r _ => 10 | .m _ => 30
theorem gcrY_len (y : UInt8) : (gcrY y).length = 10 := by
  have := gcrL_len [y]
  rw [gcrL_one] at this
  simpa using this
theorem G_len (x : Chk) : x.G.length = gW x := by
  cases x with
  | r y => exact gcrY_len y
  | m q =>
    show (ten1 ++ ten1 ++ gcrY (mY 3 q)).length = 30
    rw [List.length_append, gcrY_len]
    rfl
theorem gW_pos (x : Chk) : 1 ≤ gW x := by cases x <;> simp [gW]
theorem wsum_cells (A : List Chk) : wsum gW A = (cellsG A).length := by
  unfold wsum cellsG
  rw [List.length_flatMap]
  congr 1
  apply List.map_congr_left
  intro x _
  exact (G_len x).symm
theorem wsum_ten : ∀ A : List Chk, wsum gW A % 10 = 0
  | [] => rfl
  | x :: r => by
    have := wsum_ten r
    have e : wsum gW (x :: r) = gW x + wsum gW r := by simp [wsum]
    rw [e]
    cases x <;> simp only [gW] <;> omega
theorem cellsG_split (A B : List Chk) (x : Chk) : cellsG (A ++ x :: B) = cellsG A ++ x.G ++ cellsG B := by
  unfold cellsG
  rw [List.flatMap_append, List.flatMap_cons, List.append_assoc]
theorem chunkG_at : ∀ (L : List Chk) (k : Nat), k < wsum gW L → ∃ (A B : List Chk) (x : Chk) (j : Nat), L = A ++ x :: B ∧ k = wsum gW A + j ∧ j < gW x
  | [], k, h => by simp [wsum] at h
  | x :: r, k, h => by
    have e : wsum gW (x :: r) = gW x + wsum gW r := by simp [wsum]
    by_cases hk : k < gW x
    · exact ⟨[], r, x, k, rfl, by simp [wsum], hk⟩
    · obtain ⟨A, B, y, j, e1, e2, e3⟩ := chunkG_at r (k - gW x) (by omega)
      refine ⟨x :: A, B, y, j, by rw [e1]; rfl, ?_, e3⟩
      have : wsum gW (x :: A) = gW x + wsum gW A := by simp [wsum]
      omega
theorem cyc_in {L A B : List Chk} {x : Chk} (h : L = A ++ x :: B) (j : Nat) (hj : j < gW x) : cyc (cellsG L) (wsum gW A + j) = x.G.getD j 0 := by
  have hl : (cellsG L).length = (cellsG A).length + gW x + (cellsG B).length := by rw [h, cellsG_split, List.length_append, List.length_append, G_len]
  rw [wsum_cells]
  unfold cyc
  rw [Nat.mod_eq_of_lt (by omega), h, cellsG_split, List.getD_eq_getElem?_getD, List.getElem?_append_left (by rw [List.length_append, G_len]; omega), List.getElem?_append_right (by omega), show (cellsG A).length + j - (cellsG A).length = j by omega, ← List.getD_eq_getElem?_getD]
theorem nib_zero : ∀ h, h < 16 → ¬ ((gcrT.getD h []).getD 0 0 = 49 ∧ (gcrT.getD h []).getD 1 0 = 49 ∧ (gcrT.getD h []).getD 2 0 = 49 ∧ (gcrT.getD h []).getD 3 0 = 49 ∧ (gcrT.getD h []).getD 4 0 = 49) := by decide
theorem nib_len : ∀ h, h < 16 → (gcrT.getD h []).length = 5 := by decide
theorem gcrY_group (y : UInt8) (j : Nat) (hj : j = 0 ∨ j = 5) : ¬ (∀ i, i < 5 → (gcrY y).getD (j + i) 0 = 49) := by
  have hy := y.toNat_lt
  have h1 : y.toNat / 16 < 16 := by omega
  have h2 : y.toNat % 16 < 16 := by omega
  have e : gcrY y = gcrT.getD (y.toNat / 16) [] ++ gcrT.getD (y.toNat % 16) [] := rfl
  have l1 := nib_len _ h1
  have l2 := nib_len _ h2
  intro h
  rw [e] at h
  rcases hj with rfl | rfl
  · refine nib_zero _ h1 ?_
    have k : ∀ i, i < 5 → (gcrT.getD (y.toNat / 16) []).getD i 0 = 49 := fun i hi => by
      have := h i hi
      rwa [Nat.zero_add, List.getD_eq_getElem?_getD, List.getElem?_append_left (by omega), ← List.getD_eq_getElem?_getD] at this
    exact ⟨k 0 (by omega), k 1 (by omega), k 2 (by omega), k 3 (by omega), k 4 (by omega)⟩
  · refine nib_zero _ h2 ?_
    have k : ∀ i, i < 5 → (gcrT.getD (y.toNat % 16) []).getD i 0 = 49 := fun i hi => by
      have := h i hi
      rwa [List.getD_eq_getElem?_getD, List.getElem?_append_right (by omega), l1, show 5 + i - 5 = i by omega, ← List.getD_eq_getElem?_getD] at this
    exact ⟨k 0 (by omega), k 1 (by omega), k 2 (by omega), k 3 (by omega), k 4 (by omega)⟩
/-- five ones at a group's place lie in a sync -/
theorem group_sync (L : List Chk) (t : Nat) (ht : 5 * t < wsum gW L) (h : ∀ i, i < 5 → cyc (cellsG L) (5 * t + i) = 49) : ∃ A B q j, L = A ++ .m q :: B ∧ 5 * t = wsum gW A + 5 * j ∧ j < 4 := by
  obtain ⟨A, B, x, j, e1, e2, e3⟩ := chunkG_at L (5 * t) ht
  have hA := wsum_ten A
  have hh : ∀ i, i < 5 → x.G.getD (j + i) 0 = 49 := fun i hi => by
    have h5 : j + i < gW x := by
      have : gW x % 10 = 0 := by cases x <;> simp [gW]
      omega
    rw [← cyc_in e1 (j + i) h5, show wsum gW A + (j + i) = 5 * t + i by omega]
    exact h i hi
  cases x with
  | r y =>
    have : gW (.r y) = 10 := rfl
    exact absurd hh (gcrY_group y j (by omega))
  | m q =>
    have : gW (.m q) = 30 := rfl
    by_cases hj : j < 20
    · exact ⟨A, B, q, j / 5, e1, by omega, by omega⟩
    · exfalso
      refine gcrY_group (mY 3 q) (j - 20) (by omega) fun i hi => ?_
      have := hh i hi
      have e : Chk.G (.m q) = (ten1 ++ ten1) ++ gcrY (mY 3 q) := rfl
      have l : (ten1 ++ ten1).length = 20 := rfl
      rw [e, List.getD_eq_getElem?_getD, List.getElem?_append_right (by omega), l, show j + i - 20 = j - 20 + i by omega, ← List.getD_eq_getElem?_getD] at this
      exact this
/-- ahead of each mark lies a filler -/
def Pre (L : List Chk) : Prop := ∀ A B q, L = A ++ .m q :: B → ∃ A', A = A' ++ [.r 85]
/-- the cells about a sync -/
theorem sync_cells (L : List Chk) (hP : Pre L) (A B : List Chk) (q : Nat) (hq : f123 q) (e : L = A ++ .m q :: B) :
    10 ≤ wsum gW A ∧ wsum gW A + 30 ≤ wsum gW L ∧ cyc (cellsG L) (wsum gW A - 5) = 48 ∧ (∀ i, i < 24 → cyc (cellsG L) (wsum gW A - 4 + i) = 49) ∧ cyc (cellsG L) (wsum gW A + 20) = 48 ∧ ∀ i, i < 10 → cyc (cellsG L) (wsum gW A + 20 + i) = (gcrY (mY 3 q)).getD i 0 := by
  obtain ⟨A', rfl⟩ := hP A B q e
  have hA : wsum gW (A' ++ [.r 85]) = wsum gW A' + 10 := by simp [wsum, gW]
  have hL : wsum gW L = wsum gW A' + 10 + 30 + wsum gW B := by rw [e]; simp [wsum, gW]; omega
  have e' : L = A' ++ .r 85 :: (.m q :: B) := by rw [e]; simp
  have c1 := fun j hj => cyc_in e' j hj
  have c2 := fun j hj => cyc_in e j hj
  rw [hA] at c2 ⊢
  refine ⟨by omega, by omega, ?_, fun i hi => ?_, ?_, fun i hi => ?_⟩
  · rw [show wsum gW A' + 10 - 5 = wsum gW A' + 5 by omega, c1 5 (by decide)]
    decide
  · by_cases h4 : i < 4
    · rw [show wsum gW A' + 10 - 4 + i = wsum gW A' + (6 + i) by omega, c1 (6 + i) (by show 6 + i < 10; omega)]
      have : i = 0 ∨ i = 1 ∨ i = 2 ∨ i = 3 := by omega
      rcases this with rfl | rfl | rfl | rfl <;> decide
    · rw [show wsum gW A' + 10 - 4 + i = wsum gW A' + 10 + (i - 4) by omega, c2 (i - 4) (by show i - 4 < 30; omega)]
      have e2 : Chk.G (.m q) = (ten1 ++ ten1) ++ gcrY (mY 3 q) := rfl
      have l : (ten1 ++ ten1).length = 20 := rfl
      rw [e2, List.getD_eq_getElem?_getD, List.getElem?_append_left (by omega), ← List.getD_eq_getElem?_getD]
      have : ∀ k, k < 20 → (ten1 ++ ten1).getD k 0 = 49 := by decide
      exact this _ (by omega)
  · rw [c2 20 (by show 20 < 30; omega)]
    rcases hq with rfl | rfl | rfl <;> decide
  · rw [show wsum gW A' + 10 + 20 + i = wsum gW A' + 10 + (20 + i) by omega, c2 (20 + i) (by show 20 + i < 30; omega)]
    have e2 : Chk.G (.m q) = (ten1 ++ ten1) ++ gcrY (mY 3 q) := rfl
    have l : (ten1 ++ ten1).length = 20 := rfl
    rw [e2, List.getD_eq_getElem?_getD, List.getElem?_append_right (by omega), l, show 20 + i - 20 = i by omega, ← List.getD_eq_getElem?_getD]
theorem cnt_ones {c : List UInt8} {a : Nat} (h : 10 ≤ cntU c a) : ∀ i, i < 10 → cyc c (a + i) = 49 := by
  intro i hi
  unfold cntU at h
  have hlt : i < ((List.range c.length).takeWhile fun k => cyc c (a + k) == 49).length := by omega
  have hm : ((List.range c.length).takeWhile fun k => cyc c (a + k) == 49)[i] ∈ ((List.range c.length).takeWhile fun k => cyc c (a + k) == 49) := List.getElem_mem hlt
  have hp : (cyc c (a + ((List.range c.length).takeWhile fun k => cyc c (a + k) == 49)[i]) == 49) = true := by
    have := List.all_takeWhile (l := List.range c.length) (p := fun k => cyc c (a + k) == 49)
    rw [List.all_eq_true] at this
    exact this _ hm
  have he : ((List.range c.length).takeWhile fun k => cyc c (a + k) == 49)[i] = i := by
    have hpre := List.takeWhile_prefix (l := List.range c.length) (fun k => cyc c (a + k) == 49)
    have := hpre.getElem hlt
    rw [this]
    simp
  rw [he] at hp
  simpa using hp
theorem cyc_add (c : List UInt8) (k : Nat) : cyc c (k + c.length) = cyc c k := by unfold cyc; rw [Nat.add_mod_right]
/-- the runs of ten ones and more -/
theorem sync_iff (L : List Chk) (hL : ∀ x ∈ L, x.ok) (hP : Pre L) (a l : Nat) : (a, l) ∈ syncU (cellsG L) (cellsG L).length ↔ ∃ A B q, L = A ++ .m q :: B ∧ a = wsum gW A - 4 ∧ l = 24 := by
  have hn : (cellsG L).length = wsum gW L := (wsum_cells L).symm
  have fwd : ∀ A B q, L = A ++ .m q :: B → syncA (cellsG L) (wsum gW A - 4) = [(wsum gW A - 4, 24)] := by
    intro A B q e
    obtain ⟨h1, h2, h3, h4, h5, _⟩ := sync_cells L hP A B q (hL (.m q) (by rw [e]; simp)) e
    have hc : cntU (cellsG L) (wsum gW A - 4) = 24 := by
      refine cntU_eq (by omega) h4 (.inr ?_)
      rw [show wsum gW A - 4 + 24 = wsum gW A + 20 by omega, h5]
      decide
    unfold syncA
    rw [hc, if_pos]
    refine ⟨h4 0 (by omega), ?_, by omega⟩
    rw [show wsum gW A - 4 + (cellsG L).length - 1 = wsum gW A - 5 + (cellsG L).length by omega, cyc_add, h3]
    decide
  constructor
  · intro h
    unfold syncU at h
    rw [List.mem_flatMap] at h
    obtain ⟨b, hb, hx⟩ := h
    rw [List.mem_range] at hb
    have hcond : cyc (cellsG L) b = 49 ∧ cyc (cellsG L) (b + (cellsG L).length - 1) ≠ 49 ∧ 10 ≤ cntU (cellsG L) b := by
      by_cases hc : cyc (cellsG L) b = 49 ∧ cyc (cellsG L) (b + (cellsG L).length - 1) ≠ 49 ∧ 10 ≤ cntU (cellsG L) b
      · exact hc
      · unfold syncA at hx
        rw [if_neg hc] at hx
        cases hx
    obtain ⟨k1, k2, k3⟩ := hcond
    have ones := cnt_ones k3
    have hdiv : wsum gW L % 10 = 0 := wsum_ten L
    have key : ∃ A B q, L = A ++ .m q :: B ∧ b = wsum gW A - 4 := by
      obtain ⟨t, ht⟩ : ∃ t, t = (b + 4) / 5 := ⟨_, rfl⟩
      by_cases htn : 5 * t < wsum gW L
      · obtain ⟨A, B, q, j, e, e2, hj⟩ := group_sync L t htn (fun i hi => by
          have := ones (5 * t - b + i) (by omega)
          rwa [show b + (5 * t - b + i) = 5 * t + i by omega] at this)
        refine ⟨A, B, q, e, ?_⟩
        obtain ⟨h1, h2, h3, h4, h5, _⟩ := sync_cells L hP A B q (hL (.m q) (by rw [e]; simp)) e
        by_cases hb4 : b = wsum gW A - 4
        · exact hb4
        · exfalso
          apply k2
          by_cases hb5 : wsum gW A - 4 < b
          · rw [show b + (cellsG L).length - 1 = (b - 1) + (cellsG L).length by omega, cyc_add]
            have := h4 (b - 1 - (wsum gW A - 4)) (by omega)
            rwa [show wsum gW A - 4 + (b - 1 - (wsum gW A - 4)) = b - 1 by omega] at this
          · have := ones (wsum gW A - 5 - b) (by omega)
            rw [show b + (wsum gW A - 5 - b) = wsum gW A - 5 by omega, h3] at this
            exact absurd this (by decide)
      · exfalso
        have ht0 : 5 * t = wsum gW L := by omega
        obtain ⟨A, B, q, j, e, e2, hj⟩ := group_sync L 0 (by omega) (fun i hi => by
          have := ones (5 * t - b + i) (by omega)
          rw [show b + (5 * t - b + i) = (5 * 0 + i) + (cellsG L).length by omega, cyc_add] at this
          exact this)
        obtain ⟨h1, _⟩ := sync_cells L hP A B q (hL (.m q) (by rw [e]; simp)) e
        omega
    obtain ⟨A, B, q, e, rfl⟩ := key
    rw [fwd A B q e, List.mem_singleton] at hx
    injection hx with h1 h2
    exact ⟨A, B, q, e, h1, h2⟩
  · rintro ⟨A, B, q, e, rfl, rfl⟩
    obtain ⟨h1, h2, _⟩ := sync_cells L hP A B q (hL (.m q) (by rw [e]; simp)) e
    unfold syncU
    rw [List.mem_flatMap]
    exact ⟨wsum gW A - 4, List.mem_range.2 (by omega), by rw [fwd A B q e]; simp⟩
end Go.Proofs.YtabmdbhbbmnkdaaDoor
