/-
  The files that are not the same in two lists: plain.
-/
import Derived.Test.YtdofpkdemmngeaaVfT
import Derived.Test.YtdofpkdemmngeaaFIdx
import Derived.Test.YtdofpkdemmngeaaLtP
import Derived.Test.YtdofpkdemmngeaaShelf
namespace Go.Proofs.Ytdofpkdemmngeaa
open Go Go.ChangeShapes Go.WideShapes Go.ChangeAt Go.RowKit lib
set_option linter.unusedVariables false
set_option maxRecDepth 100000
/-- the reference's list with a name put in -/
def putS (x : ByteArray) : List ByteArray → List ByteArray
  | [] => [x]
  | y :: r => if ltB y x = true then y :: putS x r else x :: y :: r
theorem putS_at {x : ByteArray} : ∀ (L : List ByteArray) (k : Nat), k ≤ L.length → (∀ i, i < k → ltB (L.getD i ⟨#[]⟩) x = true) → (k = L.length ∨ ltB (L.getD k ⟨#[]⟩) x = false) → putS x L = L.take k ++ x :: L.drop k
  | [], k, h, _, _ => by
    obtain rfl : k = 0 := by simpa using h
    rfl
  | y :: r, 0, _, _, h => by
    rcases h with h | h
    · simp at h
    · rw [List.getD_cons_zero] at h
      rw [putS, if_neg (by rw [h]; decide)]
      rfl
  | y :: r, k + 1, hk, hlt, h => by
    have h0 := hlt 0 (by omega)
    rw [List.getD_cons_zero] at h0
    rw [putS, if_pos h0, List.take_succ_cons, List.drop_succ_cons, List.cons_append]
    rw [putS_at r k (by simpa using hk) (fun i hi => by have := hlt (i + 1) (by omega); rwa [List.getD_cons_succ] at this) (by
      rcases h with h | h
      · left; simpa using h
      · right; rwa [List.getD_cons_succ] at h)]
theorem putS_mem {x z : ByteArray} : ∀ L : List ByteArray, z ∈ putS x L ↔ z = x ∨ z ∈ L
  | [] => by simp [putS]
  | y :: r => by
    rw [putS]
    split
    · simp only [List.mem_cons, putS_mem r]
      constructor
      · rintro (h | h | h)
        · exact .inr (.inl h)
        · exact .inl h
        · exact .inr (.inr h)
      · rintro (h | h | h)
        · exact .inr (.inl h)
        · exact .inl h
        · exact .inr (.inr h)
    · simp
def Inc (L : List ByteArray) : Prop := L.Pairwise fun a b => kB a < kB b
theorem putS_inc {x : ByteArray} : ∀ {L : List ByteArray}, Inc L → x ∉ L → Inc (putS x L)
  | [], _, _ => List.pairwise_singleton _ _
  | y :: r, h, hx => by
    have h' := List.pairwise_cons.1 h
    rw [putS]
    split
    · rename_i hl
      refine List.pairwise_cons.2 ⟨fun z hz => ?_, putS_inc h'.2 (fun q => hx (List.mem_cons_of_mem _ q))⟩
      rcases (putS_mem r).1 hz with rfl | hz
      · exact (ltB_iff _ _).1 hl
      · exact h'.1 z hz
    · rename_i hl
      have hle : kB x ≤ kB y := (ltB_ff _ _).1 (by simpa using hl)
      have hlt : kB x < kB y := Std.lt_of_le_of_ne hle (fun e => hx (by rw [kB_inj e]; exact List.mem_cons_self))
      refine List.pairwise_cons.2 ⟨fun z hz => ?_, h⟩
      rcases List.mem_cons.1 hz with rfl | hz
      · exact hlt
      · exact List.lt_trans hlt (h'.1 z hz)
open Classical in
/-- the reference's names of files that are not in another list -/
noncomputable def missS (gs : List (ByteArray × ByteArray)) : List (ByteArray × ByteArray) → List ByteArray → List ByteArray
  | [], out => out
  | f :: r, out => missS gs r (if f ∉ gs ∧ f.1 ∉ out then putS f.1 out else out)
theorem missS_put {gs r : List (ByteArray × ByteArray)} {f : ByteArray × ByteArray} {out : List ByteArray} (h : f ∉ gs) (h2 : f.1 ∉ out) : missS gs (f :: r) out = missS gs r (putS f.1 out) := by rw [missS, if_pos ⟨h, h2⟩]
theorem missS_pass {gs r : List (ByteArray × ByteArray)} {f : ByteArray × ByteArray} {out : List ByteArray} (h : f ∈ gs ∨ f.1 ∈ out) : missS gs (f :: r) out = missS gs r out := by
  rw [missS, if_neg (fun q => by rcases h with h | h; exact q.1 h; exact q.2 h)]
theorem missS_inc {gs : List (ByteArray × ByteArray)} : ∀ (fs : List (ByteArray × ByteArray)) (out : List ByteArray), Inc out → Inc (missS gs fs out)
  | [], out, h => h
  | f :: r, out, h => by
    rw [missS]
    refine missS_inc r _ ?_
    split
    · rename_i q
      exact putS_inc h q.2
    · exact h
theorem missS_mem {gs : List (ByteArray × ByteArray)} {x : ByteArray} : ∀ (fs : List (ByteArray × ByteArray)) (out : List ByteArray), x ∈ missS gs fs out ↔ x ∈ out ∨ ∃ f, f ∈ fs ∧ f ∉ gs ∧ f.1 = x
  | [], out => by simp [missS]
  | f :: r, out => by
    rw [missS, missS_mem r]
    constructor
    · rintro (h | ⟨g, h1, h2, h3⟩)
      · split at h
        · rename_i q
          rcases (putS_mem out).1 h with rfl | h
          · exact .inr ⟨f, List.mem_cons_self, q.1, rfl⟩
          · exact .inl h
        · exact .inl h
      · exact .inr ⟨g, List.mem_cons_of_mem _ h1, h2, h3⟩
    · rintro (h | ⟨g, h1, h2, h3⟩)
      · left
        split
        · exact (putS_mem out).2 (.inr h)
        · exact h
      · rcases List.mem_cons.1 h1 with rfl | h1
        · left
          split
          · exact (putS_mem out).2 (.inl h3.symm)
          · rename_i q
            by_cases hm : g.1 ∈ out
            · rw [← h3]; exact hm
            · exact absurd ⟨h2, hm⟩ q
        · exact .inr ⟨g, h1, h2, h3⟩
open Classical in
/-- the program's names of files that are not in another list -/
noncomputable def difS (gs : List (ByteArray × ByteArray)) (fs : List (ByteArray × ByteArray)) : List ByteArray := (fs.filter fun f => decide (f ∉ gs)).map Prod.fst
theorem difS_mem {gs fs : List (ByteArray × ByteArray)} {x : ByteArray} : x ∈ difS gs fs ↔ ∃ f, f ∈ fs ∧ f ∉ gs ∧ f.1 = x := by
  unfold difS
  simp only [List.mem_map, List.mem_filter, decide_eq_true_eq]
  constructor
  · rintro ⟨f, ⟨h1, h2⟩, h3⟩
    exact ⟨f, h1, h2, h3⟩
  · rintro ⟨f, h1, h2, h3⟩
    exact ⟨f, ⟨h1, h2⟩, h3⟩
theorem difS_nil (gs : List (ByteArray × ByteArray)) : difS gs [] = [] := rfl
theorem difS_len (gs fs : List (ByteArray × ByteArray)) : (difS gs fs).length ≤ fs.length := by
  unfold difS
  rw [List.length_map]
  exact List.length_filter_le _ _
theorem difS_out {gs fs : List (ByteArray × ByteArray)} {f : ByteArray × ByteArray} (h : f ∉ gs) : difS gs (fs ++ [f]) = difS gs fs ++ [f.1] := by
  unfold difS
  simp [List.filter_append, h]
theorem difS_in {gs fs : List (ByteArray × ByteArray)} {f : ByteArray × ByteArray} (h : f ∈ gs) : difS gs (fs ++ [f]) = difS gs fs := by
  unfold difS
  simp [List.filter_append, h]
theorem upto_ok {d : Array (List UInt8)} (hs : ∀ i j, i < j → j < d.size → d[i]! ≤ d[j]!) : ∀ m, m ≤ d.size → ((Lib.compactUpTo d m).Pairwise fun a b => a < b) ∧ ∀ x, x ∈ Lib.compactUpTo d m ↔ ∃ j, j < m ∧ d[j]! = x
  | 0, _ => by
    have h0 : Lib.compactUpTo d 0 = [] := rfl
    rw [h0]
    exact ⟨List.Pairwise.nil, fun x => ⟨fun h => by simp at h, fun ⟨j, hj, _⟩ => absurd hj (by omega)⟩⟩
  | m + 1, hm => by
    obtain ⟨h1, h2⟩ := upto_ok hs m (by omega)
    rw [Lib.compactUpTo_succ]
    by_cases hk : Lib.keeps d m = true
    · rw [if_pos hk]
      constructor
      · refine List.pairwise_append.2 ⟨h1, List.pairwise_singleton _ _, fun a ha b hb => ?_⟩
        obtain ⟨j, hj, rfl⟩ := (h2 a).1 ha
        obtain rfl : b = d[m]! := by simpa using hb
        have hne : d[m]! ≠ d[m - 1]! := by
          unfold Lib.keeps at hk
          rw [decide_eq_true_iff] at hk
          rcases hk with hk | hk
          · omega
          · exact hk
        have hlt : d[m - 1]! < d[m]! := Std.lt_of_le_of_ne (hs (m - 1) m (by omega) (by omega)) (fun e => hne e.symm)
        by_cases hjm : j = m - 1
        · rw [hjm]; exact hlt
        · exact List.lt_of_le_of_lt (hs j (m - 1) (by omega) (by omega)) hlt
      · intro x
        rw [List.mem_append, h2]
        constructor
        · rintro (⟨j, hj, hx⟩ | hx)
          · exact ⟨j, by omega, hx⟩
          · exact ⟨m, by omega, by have := List.mem_singleton.1 hx; exact this.symm⟩
        · rintro ⟨j, hj, hx⟩
          by_cases hjm : j = m
          · right; subst hjm; simp [hx]
          · exact .inl ⟨j, by omega, hx⟩
    · rw [if_neg hk, List.append_nil]
      refine ⟨h1, fun x => ?_⟩
      rw [h2]
      constructor
      · rintro ⟨j, hj, hx⟩
        exact ⟨j, by omega, hx⟩
      · rintro ⟨j, hj, hx⟩
        by_cases hjm : j = m
        · subst hjm
          unfold Lib.keeps at hk
          simp only [decide_eq_true_iff, not_or, Classical.not_not] at hk
          exact ⟨j - 1, by omega, by rw [← hk.2, hx]⟩
        · exact ⟨j, by omega, hx⟩
theorem chg_same (fa fb : List (ByteArray × ByteArray)) : Lib.compact (((difS fb fa ++ difS fa fb).map kB).mergeSort fun x y => decide (x ≤ y)) = (missS fa fb (missS fb fa [])).map kB := by
  obtain ⟨N, hN⟩ : ∃ N, (difS fb fa ++ difS fa fb).map kB = N := ⟨_, rfl⟩
  rw [hN]
  have hp := List.pairwise_mergeSort (le := fun x y : List UInt8 => decide (x ≤ y)) (fun a b c h1 h2 => by simp only [decide_eq_true_eq] at *; exact List.le_trans h1 h2) (fun a b => by have := List.le_total a b; simpa using this) N
  have hlen : (N.mergeSort fun x y => decide (x ≤ y)).length = N.length := List.length_mergeSort _
  obtain ⟨D, hD⟩ : ∃ D, (N.mergeSort fun x y => decide (x ≤ y)) = D := ⟨_, rfl⟩
  have hmem : ∀ x, x ∈ D ↔ x ∈ N := fun x => by rw [← hD]; exact List.mem_mergeSort
  rw [hD] at hp ⊢
  have hs : ∀ i j, i < j → j < D.toArray.size → D.toArray[i]! ≤ D.toArray[j]! := by
    intro i j hij hj
    have hj' : j < D.length := by simpa using hj
    have := (List.pairwise_iff_getElem.1 hp) i j (by omega) hj' hij
    rw [getElem!_pos D.toArray i (by simp; omega), getElem!_pos D.toArray j (by simpa using hj')]
    simpa using this
  obtain ⟨h1, h2⟩ := upto_ok hs D.length (by simp)
  unfold Lib.compact
  refine inc_unique h1 ?_ fun x => ?_
  · have := missS_inc (gs := fa) fb _ (missS_inc (gs := fb) fa [] List.Pairwise.nil)
    exact List.pairwise_map.2 this
  · rw [h2]
    have hD2 : (∃ j, j < D.length ∧ D.toArray[j]! = x) ↔ x ∈ D := by
      rw [List.mem_iff_getElem]
      constructor
      · rintro ⟨j, hj, hx⟩
        rw [getElem!_pos D.toArray j (by simpa using hj)] at hx
        exact ⟨j, hj, by simpa using hx⟩
      · rintro ⟨j, hj, hx⟩
        exact ⟨j, hj, by rw [getElem!_pos D.toArray j (by simpa using hj)]; simpa using hx⟩
    rw [hD2, hmem, ← hN, List.mem_map, List.mem_map]
    constructor
    · rintro ⟨b, hb, rfl⟩
      refine ⟨b, ?_, rfl⟩
      rw [missS_mem, missS_mem]
      rcases List.mem_append.1 hb with h | h
      · exact .inl (.inr (difS_mem.1 h))
      · exact .inr (difS_mem.1 h)
    · rintro ⟨b, hb, rfl⟩
      refine ⟨b, ?_, rfl⟩
      rw [missS_mem, missS_mem] at hb
      rcases hb with (h | h) | h
      · simp at h
      · exact List.mem_append.2 (.inl (difS_mem.2 h))
      · exact List.mem_append.2 (.inr (difS_mem.2 h))
end Go.Proofs.Ytdofpkdemmngeaa
