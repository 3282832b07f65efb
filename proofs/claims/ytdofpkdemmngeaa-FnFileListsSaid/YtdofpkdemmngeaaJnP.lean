/-
  Two lists of files joined: plain.
-/
import Derived.Test.YtdofpkdemmngeaaLtP
import Derived.Test.YtdofpkdemmngeaaFIdx
namespace Go.Proofs.Ytdofpkdemmngeaa
open Go Go.ChangeShapes Go.WideShapes Go.ChangeAt Go.RowKit lib
set_option linter.unusedVariables false
set_option linter.unusedSimpArgs false
set_option maxRecDepth 100000
abbrev FL2 := ByteArray × ByteArray
def f0 : FL2 := (⟨#[]⟩, ⟨#[]⟩)
theorem gF {L : List FL2} {i : Nat} (h : i < L.length) : L.getD i f0 = L[i] := by rw [List.getD_eq_getElem?_getD, List.getElem?_eq_getElem h]; rfl
theorem gF_mem {L : List FL2} {i : Nat} (h : i < L.length) : L.getD i f0 ∈ L := by rw [gF h]; exact List.getElem_mem h
theorem gF_take {L : List FL2} {i : Nat} (h : i < L.length) : L.take (i + 1) = L.take i ++ [L.getD i f0] := by rw [gF h, List.take_add_one, List.getElem?_eq_getElem h]; rfl
theorem mem_gF {L : List FL2} {x : FL2} (h : x ∈ L) : ∃ i, i < L.length ∧ L.getD i f0 = x := by
  obtain ⟨i, hi, he⟩ := List.mem_iff_getElem.1 h
  exact ⟨i, hi, (gF hi).trans he⟩
theorem incF_at {L : List FL2} (h : IncF L) {i j : Nat} (hij : i < j) (hj : j < L.length) : kB (L.getD i f0).1 < kB (L.getD j f0).1 := by
  rw [gF hj, gF (by omega)]
  exact List.pairwise_iff_getElem.1 h i j (by omega) hj hij
theorem incF_name {L : List FL2} (h : IncF L) {x y : FL2} (hx : x ∈ L) (hy : y ∈ L) (he : x.1 = y.1) : x = y := by
  obtain ⟨i, hi, rfl⟩ := mem_gF hx
  obtain ⟨j, hj, rfl⟩ := mem_gF hy
  rcases Nat.lt_trichotomy i j with h1 | rfl | h1
  · have := incF_at h h1 hj; rw [he] at this; exact absurd this (List.lt_irrefl _)
  · rfl
  · have := incF_at h h1 hi; rw [he] at this; exact absurd this (List.lt_irrefl _)
/-- a list is the two joined -/
def JoinIs (FA FB M : List FL2) : Prop := IncF M ∧ ∀ x, x ∈ M ↔ x ∈ FA ∨ x ∈ FB
/-- two files have one name -/
def ConfF (FA FB : List FL2) : Prop := ∃ f g, f ∈ FA ∧ g ∈ FB ∧ f.1 = g.1 ∧ f ≠ g
theorem join_unique {FA FB M N : List FL2} (h : JoinIs FA FB M) (h2 : JoinIs FA FB N) : M = N := incF_unique h.1 h2.1 (fun x => (h.2 x).trans (h2.2 x).symm)
open Classical in
noncomputable def joinL (FA FB : List FL2) : List FL2 := if h : ∃ M, JoinIs FA FB M then Classical.choose h else []
theorem joinL_is {FA FB M : List FL2} (h : JoinIs FA FB M) : joinL FA FB = M := by
  unfold joinL
  rw [dif_pos ⟨M, h⟩]
  exact join_unique (Classical.choose_spec _) h
theorem conf_not {FA FB M : List FL2} (h : JoinIs FA FB M) : ¬ ConfF FA FB := by
  rintro ⟨f, g, hf, hg, he, hn⟩
  exact hn (incF_name h.1 ((h.2 f).2 (.inl hf)) ((h.2 g).2 (.inr hg)) he)
/-- the first m without equal neighbours -/
def ddU (D : List FL2) : Nat → List FL2
  | 0 => []
  | m + 1 => if 0 < m ∧ D.getD m f0 = D.getD (m - 1) f0 then ddU D m else ddU D m ++ [D.getD m f0]
theorem ddU_skip {D : List FL2} {m : Nat} (h : D.getD (m + 1) f0 = D.getD m f0) : ddU D (m + 2) = ddU D (m + 1) := by
  rw [ddU, if_pos ⟨by omega, by simpa using h⟩]
theorem ddU_keep {D : List FL2} {m : Nat} (h : D.getD (m + 1) f0 ≠ D.getD m f0) : ddU D (m + 2) = ddU D (m + 1) ++ [D.getD (m + 1) f0] := by
  rw [ddU, if_neg (fun q => h (by simpa using q.2))]
theorem ddU_one (D : List FL2) : ddU D 1 = [D.getD 0 f0] := rfl
theorem ddU_last {D : List FL2} : ∀ m, ∃ P, ddU D (m + 1) = P ++ [D.getD m f0]
  | 0 => ⟨[], rfl⟩
  | m + 1 => by
    by_cases h : D.getD (m + 1) f0 = D.getD m f0
    · obtain ⟨P, hP⟩ := ddU_last (D := D) m
      exact ⟨P, by rw [ddU_skip h, hP, h]⟩
    · exact ⟨_, ddU_keep h⟩
theorem ddU_mem {D : List FL2} {x : FL2} : ∀ m, x ∈ ddU D m ↔ ∃ j, j < m ∧ D.getD j f0 = x
  | 0 => by simp [ddU]
  | 1 => by
    rw [ddU_one, List.mem_singleton]
    exact ⟨fun h => ⟨0, by omega, h.symm⟩, fun ⟨j, hj, he⟩ => by
      obtain rfl : j = 0 := by omega
      exact he.symm⟩
  | m + 2 => by
    have ih := ddU_mem (D := D) (x := x) (m + 1)
    by_cases h : D.getD (m + 1) f0 = D.getD m f0
    · rw [ddU_skip h, ih]
      constructor
      · rintro ⟨j, hj, he⟩; exact ⟨j, by omega, he⟩
      · rintro ⟨j, hj, he⟩
        rcases Nat.lt_succ_iff_lt_or_eq.1 hj with h1 | rfl
        · exact ⟨j, h1, he⟩
        · exact ⟨m, by omega, by rw [← h]; exact he⟩
    · rw [ddU_keep h, List.mem_append, ih, List.mem_singleton]
      constructor
      · rintro (⟨j, hj, he⟩ | he)
        · exact ⟨j, by omega, he⟩
        · exact ⟨m + 1, by omega, he.symm⟩
      · rintro ⟨j, hj, he⟩
        rcases Nat.lt_succ_iff_lt_or_eq.1 hj with h1 | rfl
        · exact .inl ⟨j, h1, he⟩
        · exact .inr he.symm
theorem ddU_len (D : List FL2) : ∀ m, (ddU D m).length ≤ m
  | 0 => by simp [ddU]
  | m + 1 => by
    have := ddU_len D m
    rw [ddU]
    split
    · omega
    · rw [List.length_append]; simp; omega
theorem ddU_pos (D : List FL2) (m : Nat) : 1 ≤ (ddU D (m + 1)).length := by
  obtain ⟨P, hP⟩ := ddU_last (D := D) m
  rw [hP, List.length_append]; simp
theorem ddU_sub {D : List FL2} : ∀ m, m ≤ D.length → (ddU D m).Sublist (D.take m)
  | 0, _ => by simp [ddU]
  | m + 1, h => by
    have ih := ddU_sub (D := D) m (by omega)
    rw [ddU, gF_take (by omega)]
    split
    · exact ih.trans (List.sublist_append_left _ _)
    · exact List.Sublist.append ih (List.Sublist.refl _)
/-- without equal neighbours and with no two of one name, a list in its order increases -/
theorem ddU_inc {D : List FL2} (hs : D.Pairwise fun a b => kB a.1 ≤ kB b.1) (hu : ∀ x y, x ∈ D → y ∈ D → x.1 = y.1 → x = y) : ∀ m, m ≤ D.length → IncF (ddU D m)
  | 0, _ => List.Pairwise.nil
  | 1, _ => by rw [ddU_one]; exact List.pairwise_singleton _ _
  | m + 2, h => by
    have ih := ddU_inc hs hu (m + 1) (by omega)
    by_cases hk : D.getD (m + 1) f0 = D.getD m f0
    · rw [ddU_skip hk]; exact ih
    · rw [ddU_keep hk]
      have hle : ∀ j, j ≤ m → kB (D.getD j f0).1 ≤ kB (D.getD m f0).1 := fun j hj => by
        rcases Nat.eq_or_lt_of_le hj with rfl | h1
        · exact List.le_refl _
        · rw [gF (by omega), gF (by omega)]
          exact List.pairwise_iff_getElem.1 hs j m (by omega) (by omega) h1
      have hlt : kB (D.getD m f0).1 < kB (D.getD (m + 1) f0).1 := by
        refine Std.lt_of_le_of_ne ?_ (fun e => hk (hu _ _ (gF_mem (by omega)) (gF_mem (by omega)) (kB_inj e).symm))
        rw [gF (by omega), gF (by omega)]
        exact List.pairwise_iff_getElem.1 hs m (m + 1) (by omega) (by omega) (by omega)
      refine List.pairwise_append.2 ⟨ih, List.pairwise_singleton _ _, fun x hx y hy => ?_⟩
      rw [List.mem_singleton] at hy
      subst hy
      obtain ⟨j, hj, rfl⟩ := (ddU_mem (m + 1)).1 hx
      exact Std.lt_of_le_of_lt (hle j (by omega)) hlt
/-- two neighbours have one name -/
def adjF (C : List FL2) (i : Nat) : Prop := ∃ j, j + 1 < i ∧ (C.getD j f0).1 = (C.getD (j + 1) f0).1
theorem adjF_inc {C : List FL2} (hs : C.Pairwise fun a b => kB a.1 ≤ kB b.1) : ¬ adjF C C.length ↔ IncF C := by
  constructor
  · intro hn
    refine List.pairwise_iff_getElem.2 fun i j hi hj hij => ?_
    have h1 : kB C[i].1 < kB C[i + 1].1 := by
      refine Std.lt_of_le_of_ne (List.pairwise_iff_getElem.1 hs i (i + 1) hi (by omega) (by omega)) fun e => hn ⟨i, by omega, ?_⟩
      rw [gF hi, gF (by omega)]
      exact kB_inj e
    rcases Nat.eq_or_lt_of_le (show i + 1 ≤ j by omega) with rfl | h
    · exact h1
    · exact Std.lt_of_lt_of_le h1 (List.pairwise_iff_getElem.1 hs (i + 1) j (by omega) hj h)
  · rintro h ⟨j, hj, he⟩
    have := incF_at h (show j < j + 1 by omega) hj
    rw [he] at this
    exact absurd this (List.lt_irrefl _)
theorem adjF_more {C : List FL2} {i : Nat} (h : ¬ adjF C (i + 1)) (hn : (C.getD i f0).1 ≠ (C.getD (i + 1) f0).1) : ¬ adjF C (i + 2) := by
  rintro ⟨j, hj, he⟩
  rcases Nat.eq_or_lt_of_le (show j + 1 ≤ i + 1 by omega) with h1 | h1
  · obtain rfl : j = i := by omega
    exact hn he
  · exact h ⟨j, by omega, he⟩
/-- the program's way -/
theorem prog_join {FA FB D : List FL2} (ha : IncF FA) (hb : IncF FB) (hp : D.Perm (FA ++ FB)) (hs : D.Pairwise fun a b => kB a.1 ≤ kB b.1) :
    (adjF (ddU D D.length) (ddU D D.length).length → ConfF FA FB) ∧ (¬ adjF (ddU D D.length) (ddU D D.length).length → JoinIs FA FB (ddU D D.length)) := by
  have hmD : ∀ x, x ∈ D ↔ x ∈ FA ∨ x ∈ FB := fun x => by rw [hp.mem_iff, List.mem_append]
  have hm : ∀ x, x ∈ ddU D D.length ↔ x ∈ D := fun x => by
    rw [ddU_mem]
    constructor
    · rintro ⟨j, hj, rfl⟩; exact gF_mem hj
    · exact mem_gF
  have hsC : (ddU D D.length).Pairwise fun a b => kB a.1 ≤ kB b.1 := by
    have := ddU_sub (D := D) D.length (Nat.le_refl _)
    rw [List.take_length] at this
    exact hs.sublist this
  constructor
  · intro h
    refine Classical.byContradiction fun hc => (adjF_inc hsC).2 (ddU_inc hs ?_ _ (Nat.le_refl _)) h
    intro x y hx hy he
    refine Classical.byContradiction fun hne => ?_
    rcases (hmD x).1 hx with h1 | h1 <;> rcases (hmD y).1 hy with h2 | h2
    · exact hne (incF_name ha h1 h2 he)
    · exact hc ⟨x, y, h1, h2, he, hne⟩
    · exact hc ⟨y, x, h2, h1, he.symm, fun q => hne q.symm⟩
    · exact hne (incF_name hb h1 h2 he)
  · intro h
    exact ⟨(adjF_inc hsC).1 h, fun x => (hm x).trans (hmD x)⟩
/-- the reference's state: i of the first list and j of the second are out -/
structure MrgF (FA FB : List FL2) (i j : Nat) (O : List FL2) : Prop where
  inc : IncF O
  mem : ∀ x, x ∈ O ↔ x ∈ FA.take i ∨ x ∈ FB.take j
  ltA : ∀ x, x ∈ O → ∀ k, i ≤ k → k < FA.length → kB x.1 < kB (FA.getD k f0).1
  ltB : ∀ x, x ∈ O → ∀ k, j ≤ k → k < FB.length → kB x.1 < kB (FB.getD k f0).1
  non : ∀ f g, f ∈ FA.take i → g ∈ FB → f.1 = g.1 → f = g
theorem MrgF.start (FA FB : List FL2) : MrgF FA FB 0 0 [] := ⟨List.Pairwise.nil, fun x => by simp, fun x h => (by cases h), fun x h => (by cases h), fun f g h => (by simp at h)⟩
theorem incF_snoc {O : List FL2} {y : FL2} (h : IncF O) (hy : ∀ x, x ∈ O → kB x.1 < kB y.1) : IncF (O ++ [y]) := List.pairwise_append.2 ⟨h, List.pairwise_singleton _ _, fun x hx z hz => by rw [List.mem_singleton] at hz; subst hz; exact hy x hx⟩
theorem incF_le {L : List FL2} (h : IncF L) {i k : Nat} (hik : i ≤ k) (hk : k < L.length) : kB (L.getD i f0).1 ≤ kB (L.getD k f0).1 := by
  rcases Nat.eq_or_lt_of_le hik with rfl | h1
  · exact List.le_refl _
  · exact Std.le_of_lt (incF_at h h1 hk)
theorem MrgF.other {FA FB O : List FL2} {i j : Nat} (h : MrgF FA FB i j O) (ha : IncF FA) (hb : IncF FB) (hi : i < FA.length) (hj : j < FB.length) (hlt : kB (FB.getD j f0).1 < kB (FA.getD i f0).1) : MrgF FA FB i (j + 1) (O ++ [FB.getD j f0]) := by
  refine ⟨incF_snoc h.inc (fun x hx => h.ltB x hx j (Nat.le_refl _) hj), fun x => ?_, fun x hx k h1 h2 => ?_, fun x hx k h1 h2 => ?_, h.non⟩
  · rw [List.mem_append, h.mem, gF_take hj, List.mem_append, or_assoc]
  · rcases List.mem_append.1 hx with h3 | h3
    · exact h.ltA x h3 k h1 h2
    · rw [List.mem_singleton] at h3; subst h3
      exact Std.lt_of_lt_of_le hlt (incF_le ha h1 h2)
  · rcases List.mem_append.1 hx with h3 | h3
    · exact h.ltB x h3 k (by omega) h2
    · rw [List.mem_singleton] at h3; subst h3
      exact incF_at hb (by omega) h2
theorem MrgF.conf {FA FB : List FL2} {i j : Nat} (hi : i < FA.length) (hj : j < FB.length) (he : (FB.getD j f0).1 = (FA.getD i f0).1) (hn : FB.getD j f0 ≠ FA.getD i f0) : ConfF FA FB := ⟨_, _, gF_mem hi, gF_mem hj, he.symm, fun q => hn q.symm⟩
theorem MrgF.both {FA FB O : List FL2} {i j : Nat} (h : MrgF FA FB i j O) (ha : IncF FA) (hb : IncF FB) (hi : i < FA.length) (hj : j < FB.length) (he : FB.getD j f0 = FA.getD i f0) : MrgF FA FB (i + 1) (j + 1) (O ++ [FA.getD i f0]) := by
  refine ⟨incF_snoc h.inc (fun x hx => h.ltA x hx i (Nat.le_refl _) hi), fun x => ?_, fun x hx k h1 h2 => ?_, fun x hx k h1 h2 => ?_, fun f g hf hg hfg => ?_⟩
  · rw [List.mem_append, h.mem, gF_take hj, gF_take hi, List.mem_append, List.mem_append, he]
    constructor
    · rintro ((h1 | h1) | h1)
      · exact .inl (.inl h1)
      · exact .inr (.inl h1)
      · exact .inl (.inr h1)
    · rintro ((h1 | h1) | (h1 | h1))
      · exact .inl (.inl h1)
      · exact .inr h1
      · exact .inl (.inr h1)
      · exact .inr h1
  · rcases List.mem_append.1 hx with h3 | h3
    · exact h.ltA x h3 k (by omega) h2
    · rw [List.mem_singleton] at h3; subst h3
      exact incF_at ha (by omega) h2
  · rcases List.mem_append.1 hx with h3 | h3
    · exact h.ltB x h3 k (by omega) h2
    · rw [List.mem_singleton] at h3; subst h3
      rw [← he]
      exact incF_at hb (by omega) h2
  · rw [gF_take hi, List.mem_append, List.mem_singleton] at hf
    rcases hf with h1 | rfl
    · exact h.non f g h1 hg hfg
    · rw [← he] at hfg ⊢
      exact incF_name hb (gF_mem hj) hg hfg
theorem MrgF.alone {FA FB O : List FL2} {i j : Nat} (h : MrgF FA FB i j O) (ha : IncF FA) (hb : IncF FB) (hi : i < FA.length) (hlt : j < FB.length → kB (FA.getD i f0).1 < kB (FB.getD j f0).1) : MrgF FA FB (i + 1) j (O ++ [FA.getD i f0]) := by
  refine ⟨incF_snoc h.inc (fun x hx => h.ltA x hx i (Nat.le_refl _) hi), fun x => ?_, fun x hx k h1 h2 => ?_, fun x hx k h1 h2 => ?_, fun f g hf hg hfg => ?_⟩
  · rw [List.mem_append, h.mem, gF_take hi, List.mem_append]
    constructor
    · rintro ((h1 | h1) | h1)
      · exact .inl (.inl h1)
      · exact .inr h1
      · exact .inl (.inr h1)
    · rintro ((h1 | h1) | h1)
      · exact .inl (.inl h1)
      · exact .inr h1
      · exact .inl (.inr h1)
  · rcases List.mem_append.1 hx with h3 | h3
    · exact h.ltA x h3 k (by omega) h2
    · rw [List.mem_singleton] at h3; subst h3
      exact incF_at ha (by omega) h2
  · rcases List.mem_append.1 hx with h3 | h3
    · exact h.ltB x h3 k h1 h2
    · rw [List.mem_singleton] at h3; subst h3
      exact Std.lt_of_lt_of_le (hlt (by omega)) (incF_le hb h1 h2)
  · rw [gF_take hi, List.mem_append, List.mem_singleton] at hf
    rcases hf with h1 | rfl
    · exact h.non f g h1 hg hfg
    · obtain ⟨k, hk, rfl⟩ := mem_gF hg
      rcases Nat.lt_or_ge k j with h2 | h2
      · have h3 : FB.getD k f0 ∈ O := (h.mem _).2 (.inr (by rw [← List.take_append_drop k (FB.take j), List.take_take, Nat.min_eq_left (by omega)]; exact List.mem_append_right _ (by rw [List.mem_iff_getElem]; exact ⟨0, by simp; omega, by simp [List.getD_eq_getElem?_getD, hk]⟩)))
        have h4 := h.ltA _ h3 i (Nat.le_refl _) hi
        rw [hfg] at h4
        exact absurd h4 (List.lt_irrefl _)
      · have h4 := Std.lt_of_lt_of_le (hlt (by omega)) (incF_le hb h2 hk)
        rw [hfg] at h4
        exact absurd h4 (List.lt_irrefl _)
theorem MrgF.done {FA FB O : List FL2} {j : Nat} (h : MrgF FA FB FA.length j O) (hb : IncF FB) (hj : j ≤ FB.length) : JoinIs FA FB (O ++ FB.drop j) := by
  refine ⟨List.pairwise_append.2 ⟨h.inc, hb.sublist (List.drop_sublist _ _), fun x hx y hy => ?_⟩, fun x => ?_⟩
  · obtain ⟨k, hk, rfl⟩ := mem_gF hy
    rw [List.length_drop] at hk
    have : (FB.drop j).getD k f0 = FB.getD (j + k) f0 := by rw [List.getD_eq_getElem?_getD, List.getElem?_drop, ← List.getD_eq_getElem?_getD]
    rw [this]
    exact h.ltB x hx (j + k) (by omega) (by omega)
  · rw [List.mem_append, h.mem, List.take_length, or_assoc, ← List.mem_append (s := FB.take j), List.take_append_drop]
end Go.Proofs.Ytdofpkdemmngeaa
