/-
  A text cut at a byte: plain.
-/
import Derived.Test.YtdofpkdemmngeaaName
import Derived.Lib.Split
import Derived.Lib.SplitLaws
namespace Go.Proofs.Ytdofpkdemmngeaa
open Go Go.ChangeShapes Go.WideShapes Go.ChangeAt Go.RowKit lib
set_option linter.unusedVariables false
set_option maxRecDepth 100000
/-- the pieces of a list between the bytes c -/
def splitB (c : UInt8) : List UInt8 → List (List UInt8)
  | [] => [[]]
  | x :: r => if x = c then [] :: splitB c r else match splitB c r with
    | [] => [[x]]
    | p :: q => (x :: p) :: q
theorem splitB_ne (c : UInt8) : ∀ l, splitB c l ≠ []
  | [] => by simp [splitB]
  | x :: r => by
    unfold splitB
    split
    · simp
    · split <;> simp
theorem splitB_hit {c : UInt8} (r : List UInt8) : splitB c (c :: r) = [] :: splitB c r := by rw [splitB, if_pos rfl]
theorem splitB_miss {c x : UInt8} {r : List UInt8} (h : x ≠ c) {p : List UInt8} {q : List (List UInt8)} (hs : splitB c r = p :: q) : splitB c (x :: r) = (x :: p) :: q := by rw [splitB, if_neg h, hs]
theorem splitB_snoc {c x : UInt8} : ∀ (l : List UInt8) (o : List (List UInt8)) (p : List UInt8), splitB c l = o ++ [p] → splitB c (l ++ [x]) = if x = c then (o ++ [p]) ++ [[]] else o ++ [p ++ [x]]
  | [], o, p, h => by
    have h1 : o = [] ∧ p = [] := by
      cases o with
      | nil => simp [splitB] at h; exact ⟨rfl, h⟩
      | cons a o => simp [splitB] at h
    obtain ⟨rfl, rfl⟩ := h1
    by_cases hx : x = c
    · subst hx; simp [splitB]
    · simp [splitB, hx]
  | y :: r, o, p, h => by
    by_cases hy : y = c
    · subst hy
      rw [splitB_hit] at h
      cases o with
      | nil =>
        simp only [List.nil_append, List.cons.injEq] at h
        exact absurd h.2 (splitB_ne _ _)
      | cons a o =>
        simp only [List.cons_append, List.cons.injEq] at h
        obtain ⟨rfl, h⟩ := h
        have ih := splitB_snoc (x := x) r o p h
        rw [List.cons_append, splitB_hit, ih]
        split <;> simp
    · obtain ⟨a, q, hs⟩ : ∃ a q, splitB c r = a :: q := by
        cases hs : splitB c r with
        | nil => exact absurd hs (splitB_ne _ _)
        | cons a q => exact ⟨a, q, rfl⟩
      rw [splitB_miss hy hs] at h
      cases o with
      | nil =>
        simp only [List.nil_append, List.cons.injEq] at h
        obtain ⟨rfl, rfl⟩ := h
        have ih := splitB_snoc (x := x) r [] a (by simpa using hs)
        rw [List.cons_append]
        by_cases hx : x = c
        · rw [if_pos hx] at ih ⊢
          rw [splitB_miss hy ih]
          rfl
        · rw [if_neg hx] at ih ⊢
          rw [splitB_miss hy ih]
          rfl
      | cons b o =>
        simp only [List.cons_append, List.cons.injEq] at h
        obtain ⟨rfl, h⟩ := h
        have ih := splitB_snoc (x := x) r (a :: o) p (by rw [hs, h]; rfl)
        rw [List.cons_append]
        by_cases hx : x = c
        · rw [if_pos hx] at ih ⊢
          rw [splitB_miss hy ih]
          rfl
        · rw [if_neg hx] at ih ⊢
          rw [splitB_miss hy ih]
          rfl
/-- a piece, the byte c, and what follows -/
theorem splitB_piece {c : UInt8} {r : List UInt8} : ∀ p : List UInt8, c ∉ p → splitB c (p ++ c :: r) = p :: splitB c r
  | [], _ => splitB_hit r
  | x :: p, h => by
    have h1 : x ≠ c := fun e => h (by rw [e]; exact List.mem_cons_self)
    have ih := splitB_piece (r := r) p (fun q => h (List.mem_cons_of_mem _ q))
    rw [List.cons_append, splitB_miss h1 ih]
theorem splitB_none {c : UInt8} : ∀ p : List UInt8, c ∉ p → splitB c p = [p]
  | [], _ => rfl
  | x :: p, h => by
    have h1 : x ≠ c := fun e => h (by rw [e]; exact List.mem_cons_self)
    have ih := splitB_none p (fun q => h (List.mem_cons_of_mem _ q))
    rw [splitB_miss h1 ih]
/-- what was split is joined again -/
def joinB (c : UInt8) : List (List UInt8) → List UInt8
  | [] => []
  | [p] => p
  | p :: q :: r => p ++ c :: joinB c (q :: r)
theorem joinB_split (c : UInt8) : ∀ l, joinB c (splitB c l) = l
  | [] => rfl
  | x :: r => by
    have ih := joinB_split c r
    obtain ⟨a, q, hs⟩ : ∃ a q, splitB c r = a :: q := by
      cases hs : splitB c r with
      | nil => exact absurd hs (splitB_ne _ _)
      | cons a q => exact ⟨a, q, rfl⟩
    by_cases hx : x = c
    · subst hx
      rw [splitB_hit, hs, joinB, ← hs, ih]
      rfl
    · rw [splitB_miss hx hs]
      rw [hs] at ih
      cases q with
      | nil => rw [joinB] at ih ⊢; rw [ih]
      | cons b q => rw [joinB] at ih ⊢; rw [← ih]; rfl
theorem splitB_free {c : UInt8} : ∀ (l : List UInt8) (p : List UInt8), p ∈ splitB c l → c ∉ p
  | [], p, h => by
    simp [splitB] at h
    subst h
    simp
  | x :: r, p, h => by
    obtain ⟨a, q, hs⟩ : ∃ a q, splitB c r = a :: q := by
      cases hs : splitB c r with
      | nil => exact absurd hs (splitB_ne _ _)
      | cons a q => exact ⟨a, q, rfl⟩
    have ih := splitB_free (c := c) r
    by_cases hx : x = c
    · subst hx
      rw [splitB_hit] at h
      rcases List.mem_cons.1 h with rfl | h
      · simp
      · exact ih p h
    · rw [splitB_miss hx hs] at h
      rw [hs] at ih
      rcases List.mem_cons.1 h with rfl | h
      · intro hm
        rcases List.mem_cons.1 hm with e | hm
        · exact hx e.symm
        · exact ih a List.mem_cons_self hm
      · exact ih p (List.mem_cons_of_mem _ h)
theorem splitB_len {c : UInt8} : ∀ l : List UInt8, (splitB c l).length ≤ l.length + 1
  | [] => by simp [splitB]
  | x :: r => by
    have ih := splitB_len (c := c) r
    obtain ⟨a, q, hs⟩ : ∃ a q, splitB c r = a :: q := by
      cases hs : splitB c r with
      | nil => exact absurd hs (splitB_ne _ _)
      | cons a q => exact ⟨a, q, rfl⟩
    by_cases hx : x = c
    · subst hx
      rw [splitB_hit]
      simp; omega
    · rw [splitB_miss hx hs]
      rw [hs] at ih
      simpa using (by simp at ih; omega : q.length + 1 ≤ r.length + 1 + 1)
theorem splitK_one (c : UInt8) : ∀ l : List UInt8, Lib.splitK [c] 0 (Lib.count l [c]) l = splitB c l
  | [] => by rw [Lib.count_one]; rfl
  | b :: l => by
    have ih := splitK_one c l
    by_cases h : b = c
    · subst h
      have hix : Lib.index (b :: l) [b] = ((0 : Nat) : Int) := by rw [Lib.index]; simp [List.isPrefixOf]
      rw [Lib.count_cons_eq, Nat.add_comm, Lib.splitK, hix, splitB_hit, ← ih]
      simp
    · have hix : Lib.index (b :: l) [c] = if Lib.index l [c] == -1 then -1 else Lib.index l [c] + 1 := by
        have hp : ([c] : List UInt8).isPrefixOf (b :: l) = false := by simp [List.isPrefixOf, Ne.symm h]
        rw [Lib.index, hp]; simp
      rw [Lib.count_cons_ne b c l h]
      cases hk : Lib.count l [c] with
      | zero =>
        rw [hk] at ih
        rw [Lib.splitK] at ih ⊢
        rw [splitB_miss h ih.symm]
      | succ k =>
        rw [hk, Lib.splitK] at ih
        rw [Lib.splitK, hix]
        by_cases hm : Lib.index l [c] = -1
        · rw [hm] at ih ⊢
          simp at ih ⊢
          rw [splitB_miss h ih.symm]
        · have hg := Lib.index_ge l [c]
          have hb : (Lib.index l [c] == -1) = false := by simpa using hm
          rw [hb] at ih ⊢
          obtain ⟨i, hi⟩ := Int.eq_ofNat_of_zero_le (show 0 ≤ Lib.index l [c] by omega)
          rw [hi] at ih ⊢
          have hb2 : (((i : Nat) : Int) + 1 == -1) = false := by simp; omega
          simp only [Bool.false_eq_true, if_false, hb2, Int.toNat_natCast, Nat.add_zero, show ((i : Int) + 1).toNat = i + 1 by omega, List.length_cons, List.length_nil] at ih ⊢
          rw [splitB_miss h ih.symm]
          simp
/-- the pieces of a text between bytes c -/
def piecesT (c : UInt8) (s : ByteArray) : List ByteArray := (splitB c s.data.toList).map fun l => ⟨l.toArray⟩
theorem piecesT_lib (c : UInt8) (s : ByteArray) : Lib.splitB ⟨#[c]⟩ 0 (Lib.countB s ⟨#[c]⟩) s = piecesT c s := by
  have h := Lib.splitB_data ⟨#[c]⟩ 0 (Lib.countB s ⟨#[c]⟩) s
  have e : Lib.countB s ⟨#[c]⟩ = Lib.count s.data.toList [c] := rfl
  rw [e] at h ⊢
  have h2 : (⟨#[c]⟩ : ByteArray).data.toList = [c] := rfl
  rw [h2, splitK_one] at h
  unfold piecesT
  rw [← h, List.map_map]
  exact (List.map_id _).symm
theorem piecesT_lib_len (c : UInt8) (s : ByteArray) : Lib.countB s ⟨#[c]⟩ + 1 = (piecesT c s).length := by
  rw [← piecesT_lib]
  exact (Lib.splitB_all ⟨#[c]⟩ (Nat.le_refl 1) 0 _ s rfl).symm
theorem piecesT_len (c : UInt8) (s : ByteArray) : (piecesT c s).length = (splitB c s.data.toList).length := by unfold piecesT; simp
theorem piecesT_pos (c : UInt8) (s : ByteArray) : 0 < (piecesT c s).length := by
  rw [piecesT_len]
  have := splitB_ne c s.data.toList
  exact List.length_pos_iff.2 this
end Go.Proofs.Ytdofpkdemmngeaa
