/-
  Names in increasing order, each once: plain.
-/
import Derived.Test.YtmgcaiilocifbaaDoorLtP
import Derived.Test.YtmgcaiilocifbaaDoorStrX
import Derived.Test.YtmgcaiilocifbaaDoorXuS
namespace Go.Proofs.YtmgcaiilocifbaaDoor
open Go Go.ChangeShapes Go.WideShapes Go.ChangeAt Go.RowKit lib
set_option linter.unusedVariables false
set_option linter.unusedSimpArgs false
set_option maxRecDepth 100000
theorem uptoX_ok {d : Array (List UInt8)} (hs : ∀ i j, i < j → j < d.size → d[i]! ≤ d[j]!) : ∀ m, m ≤ d.size → ((Lib.compactUpTo d m).Pairwise fun a b => a < b) ∧ ∀ x, x ∈ Lib.compactUpTo d m ↔ ∃ j, j < m ∧ d[j]! = x
  | 0, _ => by
    have h0 : Lib.compactUpTo d 0 = [] := rfl
    rw [h0]
    exact ⟨List.Pairwise.nil, fun x => ⟨fun h => by simp at h, fun ⟨j, hj, _⟩ => absurd hj (by omega)⟩⟩
  | m + 1, hm => by
    obtain ⟨h1, h2⟩ := uptoX_ok hs m (by omega)
    rw [Lib.compactUpTo_succ]
    by_cases hk : Lib.keeps d m = true
    · rw [if_pos hk]
      constructor
      · refine List.pairwise_append.2 ⟨h1, List.pairwise_singleton _ _, fun a ha b hb => ?_⟩
        obtain ⟨j, hj, rfl⟩ := (h2 a).1 ha
        obtain rfl : b = d[m]! := by simpa using hb
        have hne : d[m]! ≠ d[m - 1]! := by
          unfold Lib.keeps at hk
          rw [decide_eq_true_iff] at hk
          rcases hk with hk | hk
          · omega
          · exact hk
        have hlt : d[m - 1]! < d[m]! := Std.lt_of_le_of_ne (hs (m - 1) m (by omega) (by omega)) (fun e => hne e.symm)
        by_cases hjm : j = m - 1
        · rw [hjm]; exact hlt
        · exact List.lt_of_le_of_lt (hs j (m - 1) (by omega) (by omega)) hlt
      · intro x
        rw [List.mem_append, h2]
        constructor
        · rintro (⟨j, hj, hx⟩ | hx)
          · exact ⟨j, by omega, hx⟩
          · exact ⟨m, by omega, by have := List.mem_singleton.1 hx; exact this.symm⟩
        · rintro ⟨j, hj, hx⟩
          by_cases hjm : j = m
          · right; subst hjm; simp [hx]
          · exact .inl ⟨j, by omega, hx⟩
    · rw [if_neg hk, List.append_nil]
      refine ⟨h1, fun x => ?_⟩
      rw [h2]
      constructor
      · rintro ⟨j, hj, hx⟩
        exact ⟨j, by omega, hx⟩
      · rintro ⟨j, hj, hx⟩
        by_cases hjm : j = m
        · subst hjm
          unfold Lib.keeps at hk
          simp only [decide_eq_true_iff, not_or, Classical.not_not] at hk
          exact ⟨j - 1, by omega, by rw [← hk.2, hx]⟩
        · exact ⟨j, by omega, hx⟩
/-- sorted and compacted: increasing, with the same members -/
theorem compact_sort (N : List (List UInt8)) : ((Lib.compact (N.mergeSort fun x y => decide (x ≤ y))).Pairwise fun a b => a < b) ∧ ∀ x, x ∈ Lib.compact (N.mergeSort fun x y => decide (x ≤ y)) ↔ x ∈ N := by
  have hp := List.pairwise_mergeSort (le := fun x y : List UInt8 => decide (x ≤ y)) (fun a b c h1 h2 => by simp only [decide_eq_true_eq] at *; exact List.le_trans h1 h2) (fun a b => by have := List.le_total a b; simpa using this) N
  obtain ⟨D, hD⟩ : ∃ D, (N.mergeSort fun x y => decide (x ≤ y)) = D := ⟨_, rfl⟩
  have hmem : ∀ x, x ∈ D ↔ x ∈ N := fun x => by rw [← hD]; exact List.mem_mergeSort
  rw [hD] at hp ⊢
  have hs : ∀ i j, i < j → j < D.toArray.size → D.toArray[i]! ≤ D.toArray[j]! := by
    intro i j hij hj
    have hj' : j < D.length := by simpa using hj
    have := (List.pairwise_iff_getElem.1 hp) i j (by omega) hj' hij
    rw [getElem!_pos D.toArray i (by simp; omega), getElem!_pos D.toArray j (by simpa using hj')]
    simpa using this
  obtain ⟨h1, h2⟩ := uptoX_ok hs D.length (by simp)
  unfold Lib.compact
  refine ⟨h1, fun x => ?_⟩
  rw [h2]
  have hD2 : (∃ j, j < D.length ∧ D.toArray[j]! = x) ↔ x ∈ D := by
    rw [List.mem_iff_getElem]
    constructor
    · rintro ⟨j, hj, hx⟩
      rw [getElem!_pos D.toArray j (by simpa using hj)] at hx
      exact ⟨j, hj, by simpa using hx⟩
    · rintro ⟨j, hj, hx⟩
      exact ⟨j, hj, by rw [getElem!_pos D.toArray j (by simpa using hj)]; simpa using hx⟩
  rw [hD2, hmem]
open Classical in
/-- a name among increasing ones, once -/
noncomputable def putN (x : ByteArray) : List ByteArray → List ByteArray
  | [] => [x]
  | a :: l => if ltB a x = true then a :: putN x l else if a = x then a :: l else x :: a :: l
theorem putN_mem {x z : ByteArray} : ∀ L : List ByteArray, z ∈ putN x L ↔ z = x ∨ z ∈ L
  | [] => by simp [putN]
  | a :: l => by
    unfold putN
    split
    · simp only [List.mem_cons, putN_mem l]
      constructor
      · rintro (h | h | h)
        · exact .inr (.inl h)
        · exact .inl h
        · exact .inr (.inr h)
      · rintro (h | h | h)
        · exact .inr (.inl h)
        · exact .inl h
        · exact .inr (.inr h)
    · split
      · rename_i h
        subst h
        simp
      · simp
theorem putN_len {x : ByteArray} : ∀ L : List ByteArray, (putN x L).length ≤ L.length + 1
  | [] => by simp [putN]
  | a :: l => by
    unfold putN
    have := putN_len (x := x) l
    split
    · simp only [List.length_cons]; omega
    · split <;> simp
theorem putN_inc {x : ByteArray} : ∀ {L : List ByteArray}, (L.Pairwise fun a b => kB a < kB b) → (putN x L).Pairwise fun a b => kB a < kB b
  | [], _ => by simp [putN]
  | a :: l, h => by
    obtain ⟨h1, h2⟩ := List.pairwise_cons.1 h
    unfold putN
    split
    · rename_i hl
      refine List.pairwise_cons.2 ⟨fun b hb => ?_, putN_inc h2⟩
      rcases (putN_mem l).1 hb with rfl | hb
      · exact (ltB_iff _ _).1 hl
      · exact h1 b hb
    · rename_i hl
      split
      · exact h
      · rename_i hne
        have hle : kB x ≤ kB a := (ltB_ff _ _).1 (by simpa using hl)
        have hlt : kB x < kB a := Std.lt_of_le_of_ne hle (fun e => hne (kB_inj e).symm)
        refine List.pairwise_cons.2 ⟨fun b hb => ?_, h⟩
        rcases List.mem_cons.1 hb with rfl | hb
        · exact hlt
        · exact List.lt_trans hlt (h1 b hb)
theorem putN_at {x : ByteArray} : ∀ (L : List ByteArray) (k : Nat), k ≤ L.length → (∀ i, i < k → ltB (L.getD i ⟨#[]⟩) x = true) → (k = L.length ∨ ltB (L.getD k ⟨#[]⟩) x = false) → ((k < L.length ∧ L.getD k ⟨#[]⟩ = x → putN x L = L) ∧ (¬ (k < L.length ∧ L.getD k ⟨#[]⟩ = x) → putN x L = L.take k ++ [x] ++ L.drop k))
  | [], k, hk, _, _ => by
    simp only [List.length_nil, Nat.le_zero_eq] at hk
    subst hk
    exact ⟨fun h => absurd h.1 (by simp), fun _ => rfl⟩
  | a :: l, 0, _, _, h => by
    have hf : ltB a x = false := by
      rcases h with h | h
      · simp at h
      · simpa using h
    unfold putN
    rw [if_neg (by rw [hf]; decide)]
    refine ⟨fun h => ?_, fun h => ?_⟩
    · rw [if_pos (by simpa using h.2)]
    · rw [if_neg (fun e => h ⟨by simp, by simpa using e⟩)]
      rfl
  | a :: l, k + 1, hk, hlt, h => by
    have h0 : ltB a x = true := by simpa using hlt 0 (by omega)
    have ih := putN_at l k (by simpa using hk) (fun i hi => by simpa using hlt (i + 1) (by omega)) (by
      rcases h with h | h
      · left; simpa using h
      · right; simpa using h)
    unfold putN
    rw [if_pos h0]
    refine ⟨fun q => ?_, fun q => ?_⟩
    · rw [ih.1 ⟨by simpa using q.1, by simpa using q.2⟩]
    · rw [ih.2 (fun e => q ⟨by simpa using e.1, by simpa using e.2⟩)]
      rfl
/-- the names of some entries, increasing -/
noncomputable def nmsX (z : Nat) (U : Nat → UInt8) : List Nat → List ByteArray := fun l => l.foldl (fun L k => putN (xen z U k).nm L) []
theorem nmsX_snoc (z : Nat) (U : Nat → UInt8) (l : List Nat) (k : Nat) : nmsX z U (l ++ [k]) = putN (xen z U k).nm (nmsX z U l) := by
  unfold nmsX
  rw [List.foldl_append]
  rfl
theorem fold_mem (f : Nat → ByteArray) (x : ByteArray) : ∀ (l : List Nat) (L : List ByteArray), x ∈ l.foldl (fun L k => putN (f k) L) L ↔ x ∈ L ∨ ∃ k, k ∈ l ∧ f k = x
  | [], L => by simp
  | a :: l, L => by
    rw [List.foldl_cons, fold_mem f x l, putN_mem]
    constructor
    · rintro ((h | h) | ⟨k, h1, h2⟩)
      · exact .inr ⟨a, List.mem_cons_self, h.symm⟩
      · exact .inl h
      · exact .inr ⟨k, List.mem_cons_of_mem _ h1, h2⟩
    · rintro (h | ⟨k, h1, h2⟩)
      · exact .inl (.inr h)
      · rcases List.mem_cons.1 h1 with rfl | h1
        · exact .inl (.inl h2.symm)
        · exact .inr ⟨k, h1, h2⟩
theorem fold_inc (f : Nat → ByteArray) : ∀ (l : List Nat) (L : List ByteArray), (L.Pairwise fun a b => kB a < kB b) → (l.foldl (fun L k => putN (f k) L) L).Pairwise fun a b => kB a < kB b
  | [], L, h => h
  | a :: l, L, h => fold_inc f l _ (putN_inc h)
theorem fold_len (f : Nat → ByteArray) : ∀ (l : List Nat) (L : List ByteArray), (l.foldl (fun L k => putN (f k) L) L).length ≤ L.length + l.length
  | [], L => by simp
  | a :: l, L => by
    have h1 := fold_len f l (putN (f a) L)
    have h2 := putN_len (x := f a) L
    rw [List.foldl_cons, List.length_cons]
    omega
theorem nmsX_len (z : Nat) (U : Nat → UInt8) (l : List Nat) : (nmsX z U l).length ≤ l.length := by
  have := fold_len (fun k => (xen z U k).nm) l []
  unfold nmsX
  simpa using this
/-- both ways give one list -/
theorem names_same (z : Nat) (U : Nat → UInt8) (l : List Nat) (N : List ByteArray) (h : ∀ x, x ∈ N ↔ ∃ k, k ∈ l ∧ (xen z U k).nm = x) : Lib.compact ((N.map kB).mergeSort fun x y => decide (x ≤ y)) = (nmsX z U l).map kB := by
  obtain ⟨h1, h2⟩ := compact_sort (N.map kB)
  refine inc_unique h1 (List.pairwise_map.2 (fold_inc _ l [] List.Pairwise.nil)) fun x => ?_
  rw [h2, List.mem_map, List.mem_map]
  constructor
  · rintro ⟨b, hb, rfl⟩
    exact ⟨b, (fold_mem _ b l []).2 (.inr ((h b).1 hb)), rfl⟩
  · rintro ⟨b, hb, rfl⟩
    rcases (fold_mem _ b l []).1 hb with h3 | h3
    · cases h3
    · exact ⟨b, (h b).2 h3, rfl⟩
end Go.Proofs.YtmgcaiilocifbaaDoor
