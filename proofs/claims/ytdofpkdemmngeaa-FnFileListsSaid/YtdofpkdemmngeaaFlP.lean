/-
  Lists of files: what joining, comparing and reading back have in common. Plain.
-/
import Derived.Test.YtdofpkdemmngeaaJnT
import Derived.Test.YtdofpkdemmngeaaChgT
import Derived.Test.YtdofpkdemmngeaaRfxT
namespace Go.Proofs.Ytdofpkdemmngeaa
open Go Go.ChangeShapes Go.WideShapes Go.ChangeAt Go.RowKit lib
set_option linter.unusedVariables false
set_option maxRecDepth 100000
theorem conf_comm {FA FB : List FL2} : ConfF FA FB ↔ ConfF FB FA :=
  ⟨fun ⟨f, g, h1, h2, h3, h4⟩ => ⟨g, f, h2, h1, h3.symm, fun e => h4 e.symm⟩, fun ⟨f, g, h1, h2, h3, h4⟩ => ⟨g, f, h2, h1, h3.symm, fun e => h4 e.symm⟩⟩
theorem JoinIs.comm {FA FB M : List FL2} (h : JoinIs FA FB M) : JoinIs FB FA M := ⟨h.1, fun x => (h.2 x).trans or_comm⟩
theorem joinL_comm (FA FB : List FL2) : joinL FA FB = joinL FB FA := by
  by_cases h : ∃ M, JoinIs FA FB M
  · obtain ⟨M, h⟩ := h
    rw [joinL_is h, joinL_is h.comm]
  · have h2 : ¬ ∃ M, JoinIs FB FA M := fun ⟨M, e⟩ => h ⟨M, e.comm⟩
    unfold joinL
    rw [dif_neg h, dif_neg h2]
theorem jCode_comm (n m : Nat) (s t : Nat → ByteArray) : jCode n m s t = jCode m n t s := by
  unfold jCode
  rw [joinL_comm]
  by_cases h : VF n s ∧ VF m t
  · rw [if_pos h, if_pos h.symm]
    by_cases hc : ConfF (filS s n) (filS t m)
    · rw [if_pos hc, if_pos (conf_comm.1 hc)]
    · rw [if_neg hc, if_neg (fun e => hc (conf_comm.1 e))]
  · rw [if_neg h, if_neg (fun e => h e.symm)]
theorem jLen_comm (n m : Nat) (s t : Nat → ByteArray) : jLen n m s t = jLen m n t s := by
  unfold jLen
  rw [jCode_comm, joinL_comm]
/-- two valid lists without a conflict have a join -/
theorem join_exists {FA FB : List FL2} (ha : IncF FA) (hb : IncF FB) (hc : ¬ ConfF FA FB) : ∃ M, JoinIs FA FB M := by
  obtain ⟨D, hD⟩ : ∃ D, (FA ++ FB).mergeSort (fun x y => decide (kB x.1 ≤ kB y.1)) = D := ⟨_, rfl⟩
  have hp : D.Perm (FA ++ FB) := by rw [← hD]; exact List.mergeSort_perm _ _
  have hs : D.Pairwise fun a b => kB a.1 ≤ kB b.1 := by
    have := List.pairwise_mergeSort (le := fun x y : FL2 => decide (kB x.1 ≤ kB y.1)) (fun a b c h1 h2 => by
      simp only [decide_eq_true_eq] at *
      exact List.le_trans h1 h2) (fun a b => by
      simp only [Bool.or_eq_true, decide_eq_true_eq]
      exact List.le_total _ _) (FA ++ FB)
    rw [hD] at this
    exact this.imp fun h => by simpa using h
  have h := prog_join ha hb hp hs
  by_cases e : adjF (ddU D D.length) (ddU D D.length).length
  · exact absurd (h.1 e) hc
  · exact ⟨_, h.2 e⟩
theorem jCode_zero {n m : Nat} {s t : Nat → ByteArray} (h : jCode n m s t = 0) : (VF n s ∧ VF m t) ∧ JoinIs (filS s n) (filS t m) (joinL (filS s n) (filS t m)) ∧ (joinL (filS s n) (filS t m)).length ≤ 16 := by
  unfold jCode at h
  by_cases h1 : VF n s ∧ VF m t
  · rw [if_pos h1] at h
    by_cases h2 : ConfF (filS s n) (filS t m)
    · rw [if_pos h2] at h; exact absurd h (by decide)
    · rw [if_neg h2] at h
      by_cases h3 : 16 < (joinL (filS s n) (filS t m)).length
      · rw [if_pos h3] at h; exact absurd h (by decide)
      · obtain ⟨M, hM⟩ := join_exists (vf_inc h1.1) (vf_inc h1.2) h2
        refine ⟨h1, ?_, by omega⟩
        rw [joinL_is hM]
        exact hM
  · rw [if_neg h1] at h; exact absurd h (by decide)
theorem filS_fAtP (L : List FL2) : filS (fAt L) L.length = L := by
  unfold filS
  apply List.ext_getElem
  · simp
  · intro i h1 h2
    simp only [List.getElem_map, List.getElem_range]
    rw [fAt_name, fAt_data, List.getD_eq_getElem?_getD, List.getElem?_eq_getElem h2]
    rfl
/-- a file of a valid list -/
def okP (f : FL2) : Prop := NameS f.1 ∧ f.2.size ≤ 512
theorem vf_mem {n : Nat} {s : Nat → ByteArray} (h : VF n s) {f : FL2} (hf : f ∈ filS s n) : okP f := by
  obtain ⟨i, hi, rfl⟩ := filS_mem.1 hf
  exact ⟨(h.2 i hi).1, (h.2 i hi).2.1⟩
theorem vf_of {L : List FL2} (h16 : L.length ≤ 16) (hok : ∀ f, f ∈ L → okP f) (hinc : IncF L) : VF L.length (fAt L) := by
  refine ⟨h16, fun i hi => ⟨?_, ?_, fun h0 => ?_⟩⟩
  · rw [fAt_name, List.getD_eq_getElem?_getD, List.getElem?_eq_getElem hi]
    exact (hok _ (List.getElem_mem hi)).1
  · rw [fAt_data, List.getD_eq_getElem?_getD, List.getElem?_eq_getElem hi]
    exact (hok _ (List.getElem_mem hi)).2
  · rw [fAt_name, fAt_name]
    exact (ltB_iff _ _).2 (incF_at hinc (by omega) hi)
theorem join_vf {n m : Nat} {s t : Nat → ByteArray} (h : jCode n m s t = 0) : VF (jLen n m s t) (fAt (joinL (filS s n) (filS t m))) := by
  obtain ⟨⟨h1, h2⟩, hj, h16⟩ := jCode_zero h
  have e : jLen n m s t = (joinL (filS s n) (filS t m)).length := by unfold jLen; rw [if_pos h]
  rw [e]
  refine vf_of h16 (fun f hf => ?_) hj.1
  rcases (hj.2 f).1 hf with e | e
  · exact vf_mem h1 e
  · exact vf_mem h2 e
/-! changed files -/
theorem chg_mem {n m : Nat} {s t : Nat → ByteArray} (x : ByteArray) : x ∈ chgL s n t m ↔ (∃ f, f ∈ filS s n ∧ f ∉ filS t m ∧ f.1 = x) ∨ (∃ f, f ∈ filS t m ∧ f ∉ filS s n ∧ f.1 = x) := by
  unfold chgL
  rw [missS_mem, missS_mem]
  simp
theorem chg_inc (n m : Nat) (s t : Nat → ByteArray) : Inc (chgL s n t m) := missS_inc _ _ (missS_inc _ _ List.Pairwise.nil)
theorem inc_eq {l m : List ByteArray} (h1 : Inc l) (h2 : Inc m) (h : ∀ x, x ∈ l ↔ x ∈ m) : l = m := by
  have e : l.map kB = m.map kB := inc_unique (List.pairwise_map.2 h1) (List.pairwise_map.2 h2) (fun y => by
    simp only [List.mem_map]
    exact ⟨fun ⟨a, ha, e⟩ => ⟨a, (h a).1 ha, e⟩, fun ⟨a, ha, e⟩ => ⟨a, (h a).2 ha, e⟩⟩)
  exact (List.map_inj_right fun a b e => kB_inj e).1 e
theorem chg_comm (n m : Nat) (s t : Nat → ByteArray) : chgL s n t m = chgL t m s n := inc_eq (chg_inc _ _ _ _) (chg_inc _ _ _ _) (fun x => by rw [chg_mem, chg_mem]; exact or_comm)
theorem chg_nil {n m : Nat} {s t : Nat → ByteArray} (h1 : VF n s) (h2 : VF m t) : chgL s n t m = [] ↔ filS s n = filS t m := by
  constructor
  · intro h
    refine incF_unique (vf_inc h1) (vf_inc h2) fun f => ⟨fun hf => Classical.byContradiction fun hn => ?_, fun hf => Classical.byContradiction fun hn => ?_⟩
    · have : f.1 ∈ chgL s n t m := (chg_mem _).2 (.inl ⟨f, hf, hn, rfl⟩)
      rw [h] at this; cases this
    · have : f.1 ∈ chgL s n t m := (chg_mem _).2 (.inr ⟨f, hf, hn, rfl⟩)
      rw [h] at this; cases this
  · intro h
    refine List.eq_nil_iff_forall_not_mem.2 fun x hx => ?_
    rcases (chg_mem x).1 hx with ⟨f, h3, h4, _⟩ | ⟨f, h3, h4, _⟩
    · exact h4 (h ▸ h3)
    · exact h4 (h ▸ h3)
theorem filS_eq {n m : Nat} {s t : Nat → ByteArray} : filS s n = filS t m ↔ n = m ∧ ∀ i, i < n * 2 → s i = t i := by
  constructor
  · intro h
    have hl : n = m := by have := congrArg List.length h; rwa [filS_len, filS_len] at this
    subst hl
    refine ⟨rfl, fun i hi => ?_⟩
    have hj : i / 2 < n := by omega
    have h2 : (filS s n)[i / 2]? = (filS t n)[i / 2]? := by rw [h]
    simp only [filS, List.getElem?_map, List.getElem?_range hj, Option.map_some, Option.some.injEq, Prod.mk.injEq] at h2
    rcases Nat.mod_two_eq_zero_or_one i with e | e
    · have : i / 2 * 2 = i := by omega
      rw [this] at h2
      exact h2.1
    · have : i / 2 * 2 + 1 = i := by omega
      rw [this] at h2
      exact h2.2
  · rintro ⟨rfl, h⟩
    unfold filS
    refine List.map_congr_left fun i hi => ?_
    rw [List.mem_range] at hi
    rw [h (i * 2) (by omega), h (i * 2 + 1) (by omega)]
theorem incF_nodup {L : List FL2} (h : IncF L) : L.Nodup := h.imp fun h e => by
  subst e
  exact absurd h (List.lt_irrefl _)
/-- a list that has grown: as many names as are new -/
theorem chg_len {n : Nat} {s : Nat → ByteArray} {M : List FL2} (hM : IncF M) (h1 : VF n s) (hsub : ∀ f, f ∈ filS s n → f ∈ M) : (chgL (fAt M) M.length s n).length + n = M.length := by
  have hF := vf_inc h1
  open Classical in
  have hI : IncF (M.filter fun f => decide (f ∉ filS s n)) := hM.filter _
  have e : chgL (fAt M) M.length s n = (M.filter fun f => decide (f ∉ filS s n)).map Prod.fst := by
    refine inc_eq (chg_inc _ _ _ _) (List.pairwise_map.2 hI) fun x => ?_
    rw [chg_mem, filS_fAtP]
    simp only [List.mem_map, List.mem_filter, decide_eq_true_eq]
    constructor
    · rintro (⟨f, h2, h3, h4⟩ | ⟨f, h2, h3, _⟩)
      · exact ⟨f, ⟨h2, h3⟩, h4⟩
      · exact absurd (hsub f h2) h3
    · rintro ⟨f, ⟨h2, h3⟩, h4⟩
      exact .inl ⟨f, h2, h3, h4⟩
  have hJ : IncF (M.filter fun f => decide (f ∈ filS s n)) := hM.filter _
  have e2 : (M.filter fun f => decide (f ∈ filS s n)) = filS s n := incF_unique hJ hF fun f => by
    simp only [List.mem_filter, decide_eq_true_eq]
    exact ⟨fun h => h.2, fun h => ⟨hsub f h, h⟩⟩
  rw [e, List.length_map]
  have key : ∀ L : List FL2, (L.filter fun f => decide (f ∉ filS s n)).length + (L.filter fun f => decide (f ∈ filS s n)).length = L.length := by
    intro L
    induction L with
    | nil => rfl
    | cons a r ih =>
      by_cases ha : a ∈ filS s n
      · rw [List.filter_cons_of_neg (by simpa using ha), List.filter_cons_of_pos (by simpa using ha), List.length_cons, List.length_cons]
        omega
      · rw [List.filter_cons_of_pos (by simpa using ha), List.filter_cons_of_neg (by simpa using ha), List.length_cons, List.length_cons]
        omega
  have := key M
  rw [e2, filS_len] at this
  exact this
/-- a valid list's text reads back -/
theorem isText_of {n : Nat} {s : Nat → ByteArray} (h : VF n s) : IsText (ftx s n) (filS s n) := by
  have hl : (filS s n).length = n := filS_len s n
  have hn : ∀ j, j < n * 2 → nthF (filS s n) j = s j := by
    intro j hj
    have hi : j / 2 < n := by omega
    have e : (filS s n).getD (j / 2) (⟨#[]⟩, ⟨#[]⟩) = (s (j / 2 * 2), s (j / 2 * 2 + 1)) := by
      rw [List.getD_eq_getElem?_getD]
      simp [filS, hi]
    unfold nthF
    rw [e]
    split
    · show s (j / 2 * 2) = s j
      rw [show j / 2 * 2 = j by omega]
    · show s (j / 2 * 2 + 1) = s j
      rw [show j / 2 * 2 + 1 = j by omega]
  have hx : ∀ k, k ≤ n → ftx (nthF (filS s n)) k = ftx s k := by
    intro k
    induction k with
    | zero => intro _; rfl
    | succ k ih =>
      intro hk
      rw [ftx, ftx, ih (by omega)]
      unfold lineS
      rw [hn (k * 2) (by omega), hn (k * 2 + 1) (by omega)]
  unfold IsText
  rw [hl]
  refine ⟨⟨h.1, fun i hi => ?_⟩, hx n (Nat.le_refl _)⟩
  have hk := h.2 i hi
  unfold okF
  rw [hn (i * 2) (by omega), hn (i * 2 + 1) (by omega)]
  refine ⟨hk.1, hk.2.1, fun h0 => ?_⟩
  rw [hn ((i - 1) * 2) (by omega)]
  exact hk.2.2 h0
end Go.Proofs.Ytdofpkdemmngeaa
