/-
  The order of texts; increasing lists with the same members are the same: plain.
-/
import Derived.Test.YtdofpkdemmngeaaBase
import Derived.Sort.Walk0
namespace Go.Proofs.Ytdofpkdemmngeaa
open Go Go.ChangeShapes Go.WideShapes Go.ChangeAt Go.RowKit lib
set_option linter.unusedVariables false
set_option maxRecDepth 100000
def ltB (a b : ByteArray) : Bool := Op.bytesLess a.toList b.toList
def kB (a : ByteArray) : List UInt8 := a.data.toList
theorem ltB_iff (a b : ByteArray) : ltB a b = true ↔ kB a < kB b := by
  unfold ltB kB
  rw [bytesLess_eq, ByteArray.toList_eq, ByteArray.toList_eq, decide_eq_true_iff]
theorem ltB_ff (a b : ByteArray) : ltB a b = false ↔ kB b ≤ kB a := by
  rw [← Bool.not_eq_true, ltB_iff]
  exact List.not_lt
theorem kB_inj {a b : ByteArray} (h : kB a = kB b) : a = b := WideShapes.bytes_inj h
/-- increasing lists with the same members are the same -/
theorem inc_unique : ∀ {l m : List (List UInt8)}, (l.Pairwise fun a b => a < b) → (m.Pairwise fun a b => a < b) → (∀ x, x ∈ l ↔ x ∈ m) → l = m
  | [], [], _, _, _ => rfl
  | [], b :: m, _, _, h => by have := (h b).2 List.mem_cons_self; simp at this
  | a :: l, [], _, _, h => by have := (h a).1 List.mem_cons_self; simp at this
  | a :: l, b :: m, hl, hm, h => by
    have hl' := List.pairwise_cons.1 hl
    have hm' := List.pairwise_cons.1 hm
    have hab : a = b := by
      rcases List.mem_cons.1 ((h a).1 List.mem_cons_self) with e | e
      · exact e
      · rcases List.mem_cons.1 ((h b).2 List.mem_cons_self) with e2 | e2
        · exact e2.symm
        · exact absurd (hl'.1 b e2) (List.lt_asymm (hm'.1 a e))
    subst hab
    congr 1
    refine inc_unique hl'.2 hm'.2 fun x => ?_
    constructor
    · intro hx
      rcases List.mem_cons.1 ((h x).1 (List.mem_cons_of_mem _ hx)) with e | e
      · subst e; exact absurd (hl'.1 x hx) (List.lt_irrefl x)
      · exact e
    · intro hx
      rcases List.mem_cons.1 ((h x).2 (List.mem_cons_of_mem _ hx)) with e | e
      · subst e; exact absurd (hm'.1 x hx) (List.lt_irrefl x)
      · exact e
/-- two lists of pairs, increasing by their names, with the same members are the same -/
def IncF (L : List (ByteArray × ByteArray)) : Prop := L.Pairwise fun a b => kB a.1 < kB b.1
theorem incF_unique : ∀ {l m : List (ByteArray × ByteArray)}, IncF l → IncF m → (∀ x, x ∈ l ↔ x ∈ m) → l = m
  | [], [], _, _, _ => rfl
  | [], b :: m, _, _, h => by have := (h b).2 List.mem_cons_self; simp at this
  | a :: l, [], _, _, h => by have := (h a).1 List.mem_cons_self; simp at this
  | a :: l, b :: m, hl, hm, h => by
    have hl' := List.pairwise_cons.1 hl
    have hm' := List.pairwise_cons.1 hm
    have hab : a = b := by
      rcases List.mem_cons.1 ((h a).1 List.mem_cons_self) with e | e
      · exact e
      · rcases List.mem_cons.1 ((h b).2 List.mem_cons_self) with e2 | e2
        · exact e2.symm
        · exact absurd (hl'.1 b e2) (List.lt_asymm (hm'.1 a e))
    subst hab
    congr 1
    refine incF_unique hl'.2 hm'.2 fun x => ?_
    constructor
    · intro hx
      rcases List.mem_cons.1 ((h x).1 (List.mem_cons_of_mem _ hx)) with e | e
      · subst e; exact absurd (hl'.1 x hx) (List.lt_irrefl _)
      · exact e
    · intro hx
      rcases List.mem_cons.1 ((h x).2 (List.mem_cons_of_mem _ hx)) with e | e
      · subst e; exact absurd (hm'.1 x hx) (List.lt_irrefl _)
      · exact e
/-- a file put in behind those with lesser names -/
def putF (x : ByteArray × ByteArray) : List (ByteArray × ByteArray) → List (ByteArray × ByteArray)
  | [] => [x]
  | y :: r => if ltB y.1 x.1 = true then y :: putF x r else x :: y :: r
theorem putF_at {x : ByteArray × ByteArray} : ∀ (L : List (ByteArray × ByteArray)) (k : Nat), k ≤ L.length → (∀ i, i < k → ltB (L.getD i (⟨#[]⟩, ⟨#[]⟩)).1 x.1 = true) → (k = L.length ∨ ltB (L.getD k (⟨#[]⟩, ⟨#[]⟩)).1 x.1 = false) → putF x L = L.take k ++ x :: L.drop k
  | [], k, h, _, _ => by
    obtain rfl : k = 0 := by simpa using h
    rfl
  | y :: r, 0, _, _, h => by
    rcases h with h | h
    · simp at h
    · rw [List.getD_cons_zero] at h
      rw [putF, if_neg (by rw [h]; decide)]
      rfl
  | y :: r, k + 1, hk, hlt, h => by
    have h0 := hlt 0 (by omega)
    rw [List.getD_cons_zero] at h0
    rw [putF, if_pos h0, List.take_succ_cons, List.drop_succ_cons, List.cons_append]
    rw [putF_at r k (by simpa using hk) (fun i hi => by have := hlt (i + 1) (by omega); rwa [List.getD_cons_succ] at this) (by
      rcases h with h | h
      · left; simpa using h
      · right; rwa [List.getD_cons_succ] at h)]
theorem putF_mem {x z : ByteArray × ByteArray} : ∀ L : List (ByteArray × ByteArray), z ∈ putF x L ↔ z = x ∨ z ∈ L
  | [] => by simp [putF]
  | y :: r => by
    rw [putF]
    split
    · simp only [List.mem_cons, putF_mem r]
      constructor
      · rintro (h | h | h)
        · exact .inr (.inl h)
        · exact .inl h
        · exact .inr (.inr h)
      · rintro (h | h | h)
        · exact .inr (.inl h)
        · exact .inl h
        · exact .inr (.inr h)
    · simp
theorem putF_len {x : ByteArray × ByteArray} : ∀ L : List (ByteArray × ByteArray), (putF x L).length = L.length + 1
  | [] => rfl
  | y :: r => by
    rw [putF]
    split
    · simp [putF_len r]
    · simp
theorem putF_inc {x : ByteArray × ByteArray} : ∀ {L : List (ByteArray × ByteArray)}, IncF L → (∀ y, y ∈ L → y.1 ≠ x.1) → IncF (putF x L)
  | [], _, _ => List.pairwise_singleton _ _
  | y :: r, h, hx => by
    have h' := List.pairwise_cons.1 h
    rw [putF]
    split
    · rename_i hl
      refine List.pairwise_cons.2 ⟨fun z hz => ?_, putF_inc h'.2 (fun q hq => hx q (List.mem_cons_of_mem _ hq))⟩
      rcases (putF_mem r).1 hz with rfl | hz
      · exact (ltB_iff _ _).1 hl
      · exact h'.1 z hz
    · rename_i hl
      have hle : kB x.1 ≤ kB y.1 := (ltB_ff _ _).1 (by simpa using hl)
      have hlt : kB x.1 < kB y.1 := Std.lt_of_le_of_ne hle (fun e => hx y List.mem_cons_self (kB_inj e).symm)
      refine List.pairwise_cons.2 ⟨fun z hz => ?_, h⟩
      rcases List.mem_cons.1 hz with rfl | hz
      · exact hlt
      · exact List.lt_trans hlt (h'.1 z hz)
end Go.Proofs.Ytdofpkdemmngeaa
