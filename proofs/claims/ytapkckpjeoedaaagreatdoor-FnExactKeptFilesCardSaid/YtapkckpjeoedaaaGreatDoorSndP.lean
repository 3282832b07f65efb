/-
  Disks of chains: the files without problems: plain.
-/
import Derived.Test.YtapkckpjeoedaaaGreatDoorProbP
import Derived.Test.YtapkckpjeoedaaaGreatDoorReadP
import Derived.Test.YtapkckpjeoedaaaGreatDoorLtP
namespace Go.Proofs.YtapkckpjeoedaaaGreatDoor
open Go Go.ChangeShapes Go.WideShapes Go.ChangeAt Go.RowKit lib
set_option linter.unusedVariables false
set_option maxRecDepth 100000
/-- a walk that ends well is a chain -/
theorem walk_chain {t n : Nat} {L : Nat → Nat} {own : Nat → Int} : ∀ (m : Nat) (l : List Nat) (last a : Nat), ChL t n l → n + 1 ≤ l.length + m → (walkGo t n L own m l last a).2.1 = 0 → chainGo t n L m l a = ((walkGo t n L own m l last a).1, 0)
  | 0, l, last, a, h, hm, _ => by have := h.len; omega
  | m + 1, l, last, a, h, hm, h0 => by
    by_cases h1 : t ≤ a ∧ a < n
    · by_cases h2 : a ∈ l
      · rw [walkGo_loop h1 h2] at h0; cases h0
      · by_cases h3 : 0 ≤ own a
        · rw [walkGo_cross h1 h2 h3] at h0; cases h0
        · by_cases h4 : L a = 255
          · rw [walkGo_end h1 h2 h3 h4, chainGo, if_pos h1, if_neg h2, if_neg (by rw [h4]; decide), if_pos h4]
          · by_cases h5 : isOpenN (L a) = true
            · rw [walkGo_open h1 h2 h3 h5] at h0; cases h0
            · have h5' : isOpenN (L a) = false := by simpa using h5
              rw [walkGo_step h1 h2 h3 h4 h5'] at h0 ⊢
              rw [chainGo, if_pos h1, if_neg h2, if_neg h5, if_neg h4]
              exact walk_chain m _ _ _ (h.snoc h1 h2) (by rw [List.length_append]; simp; omega) h0
    · rw [walkGo_range h1] at h0; cases h0
theorem walkOf_chain {t n : Nat} {L : Nat → Nat} {own : Nat → Int} {first : Nat} (h : (walkOf t n L own first).2.1 = 0) : chainOf t n L first = ((walkOf t n L own first).1, 0) := by
  unfold chainOf walkOf at *
  split
  · rfl
  · rename_i h0
    rw [if_neg h0] at h
    exact walk_chain _ _ _ _ (ChL.nil t n) (by simp) h
open Classical in
/-- whether an entry is used and has no problem -/
noncomputable def sndB (n z t : Nat) (U : Nat → UInt8) (k : Nat) : Bool := decide (okE (fun i => U (dirN n z * z + k * 12 + i))) && (entK n z U k).us && (probsN n z U k (walkN n z t U k)).isEmpty
/-- its file -/
noncomputable def sndF (n z t : Nat) (U : Nat → UInt8) (k : Nat) : ByteArray × ByteArray := ((entK n z U k).nm, bstr (entK n z U k).l (chB z U (walkN n z t U k).1))
/-- the files in the order of entries -/
noncomputable def sndL (n z t : Nat) (U : Nat → UInt8) : Nat → List (ByteArray × ByteArray)
  | 0 => []
  | k + 1 => if sndB n z t U k = true then sndL n z t U k ++ [sndF n z t U k] else sndL n z t U k
/-- the files by their names -/
noncomputable def sndS (n z t : Nat) (U : Nat → UInt8) : Nat → List (ByteArray × ByteArray)
  | 0 => []
  | k + 1 => if sndB n z t U k = true then putF (sndF n z t U k) (sndS n z t U k) else sndS n z t U k
section
variable {n z t : Nat} {U : Nat → UInt8}
theorem sndL_hit {k : Nat} (h : sndB n z t U k = true) : sndL n z t U (k + 1) = sndL n z t U k ++ [sndF n z t U k] := by rw [sndL, if_pos h]
theorem sndL_miss {k : Nat} (h : sndB n z t U k = false) : sndL n z t U (k + 1) = sndL n z t U k := by rw [sndL, if_neg (by simp [h])]
theorem sndS_hit {k : Nat} (h : sndB n z t U k = true) : sndS n z t U (k + 1) = putF (sndF n z t U k) (sndS n z t U k) := by rw [sndS, if_pos h]
theorem sndS_miss {k : Nat} (h : sndB n z t U k = false) : sndS n z t U (k + 1) = sndS n z t U k := by rw [sndS, if_neg (by simp [h])]
theorem sndL_len : ∀ k, (sndL n z t U k).length ≤ k
  | 0 => Nat.le_refl _
  | k + 1 => by
    have := sndL_len k
    rw [sndL]
    split
    · simp; omega
    · omega
theorem sndS_len : ∀ k, (sndS n z t U k).length = (sndL n z t U k).length
  | 0 => rfl
  | k + 1 => by
    have := sndS_len k
    rw [sndL, sndS]
    split
    · rw [putF_len, List.length_append, this]; rfl
    · exact this
theorem sndL_named : ∀ (k : Nat) (f : ByteArray × ByteArray), f ∈ sndL n z t U k → namedTo n z U f.1 k
  | 0, f, h => by cases h
  | k + 1, f, h => by
    have hm : ∀ g : ByteArray × ByteArray, g ∈ sndL n z t U k → namedTo n z U g.1 (k + 1) := fun g hg => by
      obtain ⟨i, hi, h1⟩ := sndL_named k g hg
      exact ⟨i, by omega, h1⟩
    rw [sndL] at h
    split at h
    · rename_i hb
      rcases List.mem_append.1 h with h | h
      · exact hm f h
      · rw [List.mem_singleton.1 h]
        refine ⟨k, by omega, ?_, rfl⟩
        unfold sndB at hb
        simp only [Bool.and_eq_true] at hb
        exact hb.1.2
    · exact hm f h
theorem sndB_okE {k : Nat} (h : sndB n z t U k = true) : okE (fun i => U (dirN n z * z + k * 12 + i)) := by
  unfold sndB at h
  simp only [Bool.and_eq_true, decide_eq_true_eq] at h
  exact h.1.1
theorem sndB_us {k : Nat} (h : sndB n z t U k = true) : (entK n z U k).us = true := by
  unfold sndB at h
  simp only [Bool.and_eq_true] at h
  exact h.1.2
theorem sndB_probs {k : Nat} (h : sndB n z t U k = true) : pro1 n z U (entK n z U k).nm k = [] ∧ pro2 (walkN n z t U k).2.1 (walkN n z t U k).2.2 = [] ∧ pro3 (walkN n z t U k).1.length (needN z (entK n z U k).l) = [] := by
  have h1 := sndB_okE h
  have h2 := sndB_us h
  unfold sndB probsN at h
  rw [if_pos h1, if_pos h2] at h
  simp only [Bool.and_eq_true, List.isEmpty_iff, List.append_eq_nil_iff] at h
  exact ⟨h.2.1.1, h.2.1.2, h.2.2⟩
theorem sndB_name {k : Nat} (h : sndB n z t U k = true) : ¬ namedTo n z U (entK n z U k).nm k := by
  intro hn
  have := (sndB_probs h).1
  unfold pro1 at this
  rw [if_pos hn] at this
  cases this
theorem sndB_walk {k : Nat} (h : sndB n z t U k = true) : (walkN n z t U k).2.1 = 0 := by
  have := (sndB_probs h).2.1
  unfold pro2 at this
  split at this
  · assumption
  · cases this
theorem sndB_len {k : Nat} (h : sndB n z t U k = true) : (walkN n z t U k).1.length = needN z (entK n z U k).l := by
  have := (sndB_probs h).2.2
  unfold pro3 at this
  split at this
  · cases this
  · split at this
    · cases this
    · omega
theorem sndB_chain {k : Nat} (h : sndB n z t U k = true) : chainOf t n (lkN z U) (entK n z U k).f = ((walkN n z t U k).1, 0) := by
  have h1 := sndB_walk h
  rw [walkN_used (sndB_us h)] at h1 ⊢
  exact walkOf_chain h1
theorem sndS_mem : ∀ (k : Nat) (f : ByteArray × ByteArray), f ∈ sndS n z t U k ↔ f ∈ sndL n z t U k
  | 0, f => Iff.rfl
  | k + 1, f => by
    rw [sndL, sndS]
    split
    · rw [putF_mem, List.mem_append, List.mem_singleton, sndS_mem k]
      exact Or.comm
    · exact sndS_mem k f
theorem sndS_inc : ∀ k, IncF (sndS n z t U k)
  | 0 => List.Pairwise.nil
  | k + 1 => by
    rw [sndS]
    split
    · rename_i hb
      refine putF_inc (sndS_inc k) fun y hy e => ?_
      have := sndL_named k y ((sndS_mem k y).1 hy)
      rw [e] at this
      exact sndB_name hb this
    · exact sndS_inc k
theorem sndL_distinct : ∀ k, ((sndL n z t U k).map Prod.fst).Nodup
  | 0 => List.nodup_nil
  | k + 1 => by
    rw [sndL]
    split
    · rename_i hb
      rw [List.map_append, List.nodup_append]
      refine ⟨sndL_distinct k, by simp, ?_⟩
      intro a ha b hb2
      obtain ⟨f, hf, rfl⟩ := List.mem_map.1 ha
      have hb3 : b = (entK n z U k).nm := by simpa [sndF] using hb2
      rw [hb3]
      intro e
      have := sndL_named k f hf
      rw [e] at this
      exact sndB_name hb this
    · exact sndL_distinct k
/-- the files of the program, sorted by their names in whatever way, are those of the reference -/
theorem snd_sorted {k : Nat} {D : List (ByteArray × ByteArray)} (hp : D.Perm (sndL n z t U k)) (hs : D.Pairwise fun a b => kB a.1 ≤ kB b.1) : D = sndS n z t U k := by
  refine incF_unique ?_ (sndS_inc k) fun x => by rw [sndS_mem]; exact hp.mem_iff
  have hn : (D.map Prod.fst).Nodup := (hp.map Prod.fst).nodup_iff.2 (sndL_distinct k)
  have hn2 : D.Pairwise fun a b => a.1 ≠ b.1 := by
    unfold List.Nodup at hn
    rwa [List.pairwise_map] at hn
  exact (hs.and hn2).imp fun ⟨h1, h2⟩ => Std.lt_of_le_of_ne h1 (fun e => h2 (kB_inj e))
end
end Go.Proofs.YtapkckpjeoedaaaGreatDoor
