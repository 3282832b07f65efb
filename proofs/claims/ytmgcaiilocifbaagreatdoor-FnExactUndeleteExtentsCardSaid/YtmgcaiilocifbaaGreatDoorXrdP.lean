/-
  Disks of extents: the contents of a file: plain: the extents in the order of their numbers, and one after another by number.
-/
import Derived.Test.YtmgcaiilocifbaaGreatDoorXpbP
namespace Go.Proofs.YtmgcaiilocifbaaGreatDoor
open Go Go.ChangeShapes Go.WideShapes Go.ChangeAt Go.RowKit lib
set_option linter.unusedVariables false
set_option linter.unusedSimpArgs false
set_option maxRecDepth 100000
/-- whether an entry can be an extent of a complete file, the last one or another one -/
def wholeX (n t z : Nat) (last : Prop) (e : XE) : Prop := (∀ b, b ∈ e.bl → inX n t b) ∧ (¬ last → e.bl.length = 4 ∧ e.tl = (z : Int)) ∧ (last → (e.bl.length = 0 → e.no = 0 ∧ e.tl = 0) ∧ (0 < e.bl.length → 0 < e.tl))
/-- whether extents, in the order of their numbers, are complete -/
def okX (n t z : Nat) (D : List XE) : Prop := ∀ i, i < D.length → (D.getD i xe0).no = (i : Int) ∧ wholeX n t z (i + 1 = D.length) (D.getD i xe0)
/-- the entries with a number among the first i -/
def withNo (L : List XE) (k : Int) : List XE := L.filter fun e => e.no == k
theorem withNo_hit {L : List XE} {k : Int} {e : XE} (h : e.no = k) : withNo (L ++ [e]) k = withNo L k ++ [e] := by unfold withNo; rw [List.filter_append]; simp [h]
theorem withNo_miss {L : List XE} {k : Int} {e : XE} (h : ¬ e.no = k) : withNo (L ++ [e]) k = withNo L k := by unfold withNo; rw [List.filter_append]; simp [h]
def fnd (L : List XE) (k : Int) : XE := (withNo L k).getLastD xe0
theorem fnd_hit {L : List XE} {k : Int} {e : XE} (h : e.no = k) : fnd (L ++ [e]) k = e := by unfold fnd; rw [withNo_hit h]; simp [List.getLastD_eq_getLast?]
theorem fnd_miss {L : List XE} {k : Int} {e : XE} (h : ¬ e.no = k) : fnd (L ++ [e]) k = fnd L k := by unfold fnd; rw [withNo_miss h]
def okS (n t z : Nat) (L : List XE) (k : Nat) : Prop := (withNo L k).length = 1 ∧ wholeX n t z (k + 1 = L.length) (fnd L k)
/-- the bytes of blocks -/
def blksB (U : Nat → UInt8) (z : Nat) (l : List Int) : List UInt8 := l.flatMap fun b => (List.range z).map fun j => U (b.toNat * z + j)
theorem blksB_len (U : Nat → UInt8) (z : Nat) (l : List Int) : (blksB U z l).length = l.length * z := by
  unfold blksB
  induction l with
  | nil => simp
  | cons a l ih => rw [List.flatMap_cons, List.length_append, ih]; simp [Nat.add_mul]; omega
theorem blksB_snoc (U : Nat → UInt8) (z : Nat) (l : List Int) (b : Int) : blksB U z (l ++ [b]) = blksB U z l ++ (List.range z).map fun j => U (b.toNat * z + j) := by
  unfold blksB; simp
/-- the bytes of an extent -/
def entB (U : Nat → UInt8) (z : Nat) (e : XE) : List UInt8 := (blksB U z e.bl).take (if e.bl.length = 0 then 0 else (e.bl.length - 1) * z + e.tl.toNat)
theorem entB_none {U : Nat → UInt8} {z : Nat} {e : XE} (h : e.bl.length = 0) : entB U z e = [] := by unfold entB; rw [if_pos h]; rfl
theorem entB_some {U : Nat → UInt8} {z : Nat} {e : XE} (h : ¬ e.bl.length = 0) : entB U z e = (blksB U z e.bl).take ((e.bl.length - 1) * z + e.tl.toNat) := by unfold entB; rw [if_neg h]
theorem entB_full {U : Nat → UInt8} {z : Nat} {e : XE} (h : e.bl.length = 4) (ht : e.tl = (z : Int)) : entB U z e = blksB U z e.bl := by
  rw [entB_some (by omega), List.take_of_length_le]
  rw [blksB_len, h, ht]
  simp
  omega
theorem entB_len (U : Nat → UInt8) (z : Nat) (e : XE) : (entB U z e).length ≤ e.bl.length * z := by
  unfold entB
  rw [List.length_take, blksB_len]
  exact Nat.min_le_right _ _
/-- the contents of extents, one after another -/
def fileB (U : Nat → UInt8) (z : Nat) (D : List XE) : List UInt8 := D.flatMap (entB U z)
theorem fileB_snoc (U : Nat → UInt8) (z : Nat) (D : List XE) (e : XE) : fileB U z (D ++ [e]) = fileB U z D ++ entB U z e := by unfold fileB; simp
theorem fileB_len {U : Nat → UInt8} {z : Nat} : ∀ (D : List XE), (∀ e, e ∈ D → e.bl.length ≤ 4) → (fileB U z D).length ≤ D.length * (4 * z)
  | [], _ => by simp [fileB]
  | a :: D, h => by
    have ih := fileB_len (U := U) (z := z) D (fun e he => h e (List.mem_cons_of_mem _ he))
    have h1 := entB_len U z a
    have h2 := Nat.mul_le_mul_right z (h a List.mem_cons_self)
    unfold fileB at ih ⊢
    rw [List.flatMap_cons, List.length_append, List.length_cons, Nat.add_mul]
    omega
/-- the contents, one number after another -/
def outS (U : Nat → UInt8) (z : Nat) (L : List XE) (k : Nat) : List UInt8 := (List.range k).flatMap fun (j : Nat) => entB U z (fnd L (j : Int))
theorem outS_more (U : Nat → UInt8) (z : Nat) (L : List XE) (k : Nat) : outS U z L (k + 1) = outS U z L k ++ entB U z (fnd L k) := by
  unfold outS; rw [List.range_succ, List.flatMap_append]; simp
theorem getD_at {D : List XE} {i : Nat} (h : i < D.length) : D.getD i xe0 = D[i] := by simp [List.getD_eq_getElem?_getD, h]
/-- numbers 0, 1, .. in this order: one entry has each -/
theorem only_one {D : List XE} (h : ∀ i, i < D.length → (D.getD i xe0).no = (i : Int)) {k : Nat} (hk : k < D.length) : withNo D k = [D.getD k xe0] := by
  have hsplit : D = D.take k ++ D.getD k xe0 :: D.drop (k + 1) := by
    rw [getD_at hk, ← List.drop_eq_getElem_cons hk, List.take_append_drop]
  have h1 : (D.take k).filter (fun e => e.no == (k : Int)) = [] := by
    rw [List.filter_eq_nil_iff]
    intro e he hc
    obtain ⟨i, hi, rfl⟩ := List.mem_iff_getElem.1 he
    simp only [List.length_take] at hi
    rw [List.getElem_take] at hc
    have := h i (by omega)
    rw [getD_at (by omega)] at this
    simp [this] at hc
    omega
  have h2 : (D.drop (k + 1)).filter (fun e => e.no == (k : Int)) = [] := by
    rw [List.filter_eq_nil_iff]
    intro e he hc
    obtain ⟨i, hi, rfl⟩ := List.mem_iff_getElem.1 he
    simp only [List.length_drop] at hi
    rw [List.getElem_drop] at hc
    have := h (k + 1 + i) (by omega)
    rw [getD_at (by omega)] at this
    simp [this] at hc
    omega
  have h3 := h k hk
  generalize D.getD k xe0 = x at *
  unfold withNo
  rw [hsplit, List.filter_append, h1, List.nil_append, List.filter_cons, if_pos (by simp [h3]), h2]
theorem places {D : List XE} (hs : D.Pairwise fun a b => a.no ≤ b.no) (h : ∀ k : Nat, k < D.length → ∃ i, i < D.length ∧ (D.getD i xe0).no = (k : Int)) : ∀ i, i < D.length → (D.getD i xe0).no = (i : Int) := by
  have hle : ∀ i j, i ≤ j → j < D.length → (D.getD i xe0).no ≤ (D.getD j xe0).no := fun i j hij hj => by
    rcases Nat.eq_or_lt_of_le hij with rfl | hlt
    · exact Int.le_refl _
    · rw [getD_at (by omega), getD_at hj]
      exact List.pairwise_iff_getElem.1 hs i j (by omega) hj hlt
  have up : ∀ k i, k < D.length → i < D.length → (D.getD i xe0).no = (k : Int) → k ≤ i := by
    intro k
    induction k with
    | zero => intro i _ _ _; omega
    | succ k ih =>
      intro i hk hi he
      obtain ⟨j, hj, hje⟩ := h k (by omega)
      have h1 := ih j (by omega) hj hje
      rcases Nat.lt_or_ge j i with h2 | h2
      · omega
      · have := hle i j h2 hj
        omega
  have dn : ∀ d k i, k + d + 1 = D.length → i < D.length → (D.getD i xe0).no = (k : Int) → i ≤ k := by
    intro d
    induction d with
    | zero => intro k i hk hi he; omega
    | succ d ih =>
      intro k i hk hi he
      obtain ⟨j, hj, hje⟩ := h (k + 1) (by omega)
      have h1 := ih (k + 1) j (by omega) hj hje
      rcases Nat.lt_or_ge i j with h2 | h2
      · omega
      · have := hle j i h2 hi
        omega
  intro i hi
  obtain ⟨j, hj, hje⟩ := h i hi
  have h1 := up i j hi hj hje
  have h2 := dn (D.length - i - 1) i j (by omega) hj hje
  obtain rfl : i = j := by omega
  exact hje
/-- the two ways agree -/
theorem ways_agree {n t z : Nat} {U : Nat → UInt8} {D L : List XE} (hp : D.Perm L) (hs : D.Pairwise fun a b => a.no ≤ b.no) :
    (okX n t z D ↔ ∀ k, k < L.length → okS n t z L k) ∧ (okX n t z D → outS U z L L.length = fileB U z D) := by
  have hl := hp.length_eq
  have hfnd : (∀ i, i < D.length → (D.getD i xe0).no = (i : Int)) → ∀ k, k < D.length → withNo L k = [D.getD k xe0] ∧ fnd L k = D.getD k xe0 := fun h k hk => by
    have h1 : withNo L k = [D.getD k xe0] := by
      have h2 := hp.filter (fun e => e.no == (k : Int))
      have h3 := only_one h hk
      unfold withNo at h3 ⊢
      rw [h3] at h2
      exact (List.perm_singleton.1 h2.symm)
    exact ⟨h1, by unfold fnd; rw [h1]; rfl⟩
  refine ⟨⟨fun h k hk => ?_, fun h => ?_⟩, fun h => ?_⟩
  · obtain ⟨h1, h2⟩ := hfnd (fun i hi => (h i hi).1) k (by omega)
    unfold okS
    rw [h1, h2, ← hl]
    exact ⟨rfl, (h k (by omega)).2⟩
  · have h0 := places hs (fun k hk => by
      have h1 := (h k (by omega)).1
      obtain ⟨e, he⟩ := List.length_eq_one_iff.1 h1
      have hm : e ∈ withNo L k := by rw [he]; exact List.mem_singleton.2 rfl
      unfold withNo at hm
      rw [List.mem_filter] at hm
      obtain ⟨i, hi, hie⟩ := List.mem_iff_getElem.1 (hp.mem_iff.2 hm.1)
      exact ⟨i, hi, by rw [getD_at hi, hie]; simpa using hm.2⟩)
    intro i hi
    refine ⟨h0 i hi, ?_⟩
    have h1 := (h i (by omega)).2
    rw [(hfnd h0 i hi).2, ← hl] at h1
    exact h1
  · have h0 := hfnd (fun i hi => (h i hi).1)
    unfold outS fileB
    rw [← hl]
    have e1 : (List.range D.length).flatMap (fun (j : Nat) => entB U z (fnd L (j : Int))) = (List.range D.length).flatMap (fun j => entB U z (D.getD j xe0)) := by
      rw [List.flatMap_def, List.flatMap_def]
      congr 1
      apply List.map_congr_left
      intro j hj
      rw [(h0 j (by simpa using hj)).2]
    rw [e1, List.flatMap_def, List.flatMap_def]
    congr 1
    apply List.ext_getElem
    · simp
    · intro i h1 h2
      simp only [List.getElem_map, List.getElem_range]
      rw [getD_at (by simpa using h1)]
end Go.Proofs.YtmgcaiilocifbaaGreatDoor
