/-
  slices.SortStableFunc: plain: exchanging two ranges, rotating, merging by the method of SymMerge, and the runs of the blocks.
  slices.SortStableFunc at impl.ExtentEntry: the walks. (Printed by mkstb.py.)
  slices.SortStableFunc at impl.ExtentEntry: the walks: merging, the whole. (Printed by mkstb.py.)
  slices.SortStableFunc at impl.ExtentEntry: the whole: a sorted permutation. (Printed by mkstb.py.)
  slices.SortStableFunc at impl.ExtentEntry: a row of the call's own, sorted. (Printed by mkstb.py.)
-/
import Derived.Sort.LotA
import Derived.Sort.LotD2
import Derived.Test.YtdofpkdemmngeaaBase
import Derived.Shelf.SlSortCmp.KitK
import Derived.Sort.WalkB2
import Derived.Sort.WalkB12
import Derived.Deep.LoopGhost
import Derived.Deep.DeepCutAuto
import Derived.Deep.CutBlock
import Derived.Outline
import Derived.Test.YtdofpkdemmngeaaIns
import Derived.Sort.OwnSorted
import Derived.Lib.OwnBridge
namespace Go.Proofs.Ytdofpkdemmngeaa
open Go Go.Sort
set_option linter.unusedVariables false
section
variable {α : Type} [Inhabited α] {lt : α → α → Bool}
/-! ### ranges exchanged -/
def swr (d : Array α) (a b : Nat) : Nat → Array α
  | 0 => d
  | i + 1 => swp (swr d a b i) (a + i) (b + i)
theorem swr_size (d : Array α) (a b n : Nat) : (swr d a b n).size = d.size := by
  induction n with
  | zero => rfl
  | succ n ih => unfold swr; rw [swp_size, ih]
theorem swr_get (d : Array α) (a b : Nat) : ∀ n, a + n ≤ b → b + n ≤ d.size → ∀ k, (swr d a b n)[k]! = if a ≤ k ∧ k < a + n then d[b + (k - a)]! else if b ≤ k ∧ k < b + n then d[a + (k - b)]! else d[k]!
  | 0, _, _, k => by
    rw [if_neg (by omega), if_neg (by omega)]
    rfl
  | n + 1, h1, h2, k => by
    have ih := swr_get d a b n (by omega) (by omega)
    have hs := swr_size d a b n
    show (swp (swr d a b n) (a + n) (b + n))[k]! = _
    rw [swp_get _ (by omega) (by omega)]
    by_cases hk1 : k = b + n
    · subst hk1
      rw [if_pos rfl, ih, if_neg (by omega), if_neg (by omega), if_neg (by omega), if_pos (by omega)]
      congr 1
      omega
    · rw [if_neg hk1]
      by_cases hk2 : k = a + n
      · subst hk2
        rw [if_pos rfl, ih, if_neg (by omega), if_neg (by omega), if_pos (by omega)]
        congr 1
        omega
      · rw [if_neg hk2, ih]
        by_cases h3 : a ≤ k ∧ k < a + n
        · rw [if_pos h3, if_pos (by omega)]
        · by_cases h4 : b ≤ k ∧ k < b + n
          · rw [if_neg h3, if_pos h4, if_neg (by omega), if_pos (by omega)]
          · rw [if_neg h3, if_neg h4, if_neg (by omega), if_neg (by omega)]
theorem swr_perm (d : Array α) (a b lo hi : Nat) (hla : lo ≤ a) (hab : a ≤ b) : ∀ n, b + n ≤ hi → hi ≤ d.size → PermIn lo hi d (swr d a b n)
  | 0, _, _ => permIn_refl _ _ _
  | n + 1, h1, h2 => by
    have hs := swr_size d a b n
    exact permIn_trans _ _ _ _ _ (swr_perm d a b lo hi hla hab n (by omega) h2) (swp_permIn _ _ _ _ _ (by omega) (by omega) (by omega) (by omega) (by omega))
/-! ### rotation -/
/-- the part m..b comes ahead of the part a..m -/
def Rot (a m b : Nat) (d d' : Array α) : Prop := PermIn a b d d' ∧ (∀ t, t < b - m → d'[a + t]! = d[m + t]!) ∧ (∀ t, t < m - a → d'[a + (b - m) + t]! = d[a + t]!)
theorem rot_none {a m b : Nat} {d : Array α} (h : a = m ∨ m = b) : Rot a m b d d :=
  ⟨permIn_refl _ _ _, fun t ht => by rcases h with rfl | rfl; · rfl
                                     · omega,
   fun t ht => by rcases h with rfl | rfl; · omega
                  · rw [Nat.sub_self, Nat.add_zero]⟩
theorem rot_end {m i : Nat} {d : Array α} (hi : i ≤ m) (hb : m + i ≤ d.size) : Rot (m - i) m (m + i) d (swr d (m - i) m i) := by
  have hg := swr_get d (m - i) m i (by omega) hb
  refine ⟨swr_perm d _ _ _ _ (Nat.le_refl _) (by omega) i (Nat.le_refl _) hb, fun t ht => ?_, fun t ht => ?_⟩
  · rw [hg, if_pos (by omega)]
    congr 1
    omega
  · rw [hg, if_neg (by omega), if_pos (by omega)]
    congr 1
    omega
theorem rot_left {m i j : Nat} {d d' : Array α} (hij : j < i) (hi : i ≤ m) (hb : m + j ≤ d.size) (h : Rot (m - (i - j)) m (m + j) (swr d (m - i) m j) d') : Rot (m - i) m (m + j) d d' := by
  have hg := swr_get d (m - i) m j (by omega) hb
  have hs := swr_size d (m - i) m j
  obtain ⟨h1, h2, h3⟩ := h
  refine ⟨permIn_trans _ _ _ _ _ (swr_perm d _ _ (m - i) (m + j) (Nat.le_refl _) (by omega) j (Nat.le_refl _) hb) (permIn_mono _ _ _ _ _ _ (by omega) (Nat.le_refl _) (by omega) h1), fun t ht => ?_, fun t ht => ?_⟩
  · rw [h1.2.1 _ (.inl (by omega)), hg, if_pos (by omega)]
    congr 1
    omega
  · by_cases htj : t < j
    · have := h2 t (by omega)
      rw [show m - i + (m + j - m) + t = m - (i - j) + t by omega, this, hg, if_neg (by omega), if_pos (by omega)]
      congr 1
      omega
    · have := h3 (t - j) (by omega)
      rw [show m - i + (m + j - m) + t = m - (i - j) + (m + j - m) + (t - j) by omega, this, hg, if_neg (by omega), if_neg (by omega)]
      congr 1
      omega
theorem rot_right {m i j : Nat} {d d' : Array α} (hij : i < j) (hi : i ≤ m) (hb : m + j ≤ d.size) (h : Rot (m - i) m (m + (j - i)) (swr d (m - i) (m + j - i) i) d') : Rot (m - i) m (m + j) d d' := by
  have hg := swr_get d (m - i) (m + j - i) i (by omega) (by omega)
  have hs := swr_size d (m - i) (m + j - i) i
  obtain ⟨h1, h2, h3⟩ := h
  refine ⟨permIn_trans _ _ _ _ _ (swr_perm d _ _ (m - i) (m + j) (Nat.le_refl _) (by omega) i (by omega) hb) (permIn_mono _ _ _ _ _ _ (Nat.le_refl _) (by omega) (by omega) h1), fun t ht => ?_, fun t ht => ?_⟩
  · by_cases htj : t < j - i
    · rw [h2 t (by omega), hg, if_neg (by omega), if_neg (by omega)]
    · have := h3 (t - (j - i)) (by omega)
      rw [show m - i + t = m - i + (m + (j - i) - m) + (t - (j - i)) by omega, this, hg, if_pos (by omega)]
      congr 1
      omega
  · rw [h1.2.1 _ (.inr (by omega)), hg, if_neg (by omega), if_pos (by omega)]
    congr 1
    omega
/-! ### one element moved -/
/-- the element at a moved up by n places -/
def mvU (d : Array α) (a : Nat) : Nat → Array α
  | 0 => d
  | i + 1 => swp (mvU d a i) (a + i) (a + i + 1)
theorem mvU_size (d : Array α) (a n : Nat) : (mvU d a n).size = d.size := by
  induction n with
  | zero => rfl
  | succ n ih => unfold mvU; rw [swp_size, ih]
theorem mvU_get (d : Array α) (a : Nat) : ∀ n, a + n < d.size → ∀ k, (mvU d a n)[k]! = if a ≤ k ∧ k < a + n then d[k + 1]! else if k = a + n then d[a]! else d[k]!
  | 0, _, k => by
    rw [if_neg (by omega)]
    by_cases hk : k = a + 0
    · rw [if_pos hk, hk]; rfl
    · rw [if_neg hk]; rfl
  | n + 1, h2, k => by
    have ih := mvU_get d a n (by omega)
    have hs := mvU_size d a n
    show (swp (mvU d a n) (a + n) (a + n + 1))[k]! = _
    rw [swp_get _ (by omega) (by omega)]
    by_cases hk1 : k = a + n + 1
    · subst hk1
      rw [if_pos rfl, ih, if_neg (by omega), if_pos rfl, if_neg (by omega), if_pos (by omega)]
    · rw [if_neg hk1]
      by_cases hk2 : k = a + n
      · subst hk2
        rw [if_pos rfl, ih, if_neg (by omega), if_neg (by omega), if_pos (by omega)]
      · rw [if_neg hk2, ih]
        by_cases h3 : a ≤ k ∧ k < a + n
        · rw [if_pos h3, if_pos (by omega)]
        · rw [if_neg h3, if_neg (by omega), if_neg (by omega), if_neg (by omega)]
theorem mvU_perm (d : Array α) (a lo hi : Nat) (hla : lo ≤ a) : ∀ n, a + n < hi → hi ≤ d.size → PermIn lo hi d (mvU d a n)
  | 0, _, _ => permIn_refl _ _ _
  | n + 1, h1, h2 => by
    have hs := mvU_size d a n
    exact permIn_trans _ _ _ _ _ (mvU_perm d a lo hi hla n (by omega) h2) (swp_permIn _ _ _ _ _ (by omega) (by omega) (by omega) (by omega) (by omega))
/-- the element at m moved down by n places -/
def mvD (d : Array α) (m : Nat) : Nat → Array α
  | 0 => d
  | i + 1 => swp (mvD d m i) (m - i) (m - i - 1)
theorem mvD_size (d : Array α) (m n : Nat) : (mvD d m n).size = d.size := by
  induction n with
  | zero => rfl
  | succ n ih => unfold mvD; rw [swp_size, ih]
theorem mvD_get (d : Array α) (m : Nat) (hm : m < d.size) : ∀ n, n ≤ m → ∀ k, (mvD d m n)[k]! = if m - n < k ∧ k ≤ m then d[k - 1]! else if k = m - n then d[m]! else d[k]!
  | 0, _, k => by
    rw [if_neg (by omega)]
    by_cases hk : k = m - 0
    · rw [if_pos hk, hk]; rfl
    · rw [if_neg hk]; rfl
  | n + 1, h2, k => by
    have ih := mvD_get d m hm n (by omega)
    have hs := mvD_size d m n
    show (swp (mvD d m n) (m - n) (m - n - 1))[k]! = _
    rw [swp_get _ (by omega) (by omega)]
    by_cases hk1 : k = m - n - 1
    · subst hk1
      rw [if_pos rfl, ih, if_neg (by omega), if_pos rfl, if_neg (by omega), if_pos (by omega)]
    · rw [if_neg hk1]
      by_cases hk2 : k = m - n
      · subst hk2
        rw [if_pos rfl, ih, if_neg (by omega), if_neg (by omega), if_pos (by omega)]
      · rw [if_neg hk2, ih]
        by_cases h3 : m - n < k ∧ k ≤ m
        · rw [if_pos h3, if_pos (by omega)]
        · rw [if_neg h3, if_neg (by omega), if_neg (by omega), if_neg (by omega)]
theorem mvD_perm (d : Array α) (m lo hi : Nat) (hmh : m < hi) (hhi : hi ≤ d.size) : ∀ n, lo + n ≤ m → PermIn lo hi d (mvD d m n)
  | 0, _ => permIn_refl _ _ _
  | n + 1, h1 => by
    have hs := mvD_size d m n
    exact permIn_trans _ _ _ _ _ (mvD_perm d m lo hi hmh hhi n (by omega)) (swp_permIn _ _ _ _ _ (by omega) (by omega) (by omega) (by omega) (by omega))
/-! ### merging -/
/-- two sorted runs are one -/
def Mrg (lt : α → α → Bool) (a b : Nat) (d d' : Array α) : Prop := PermIn a b d d' ∧ SortedIn lt a b d'
omit [Inhabited α] in
theorem swo_up (hS : SWO lt) {x h p : α} (h1 : lt h p = false) (h2 : lt h x = true) : lt p x = true := by
  cases hc : lt p x with
  | true => rfl
  | false => have := hS.ntrans _ _ _ h1 hc; rw [h2] at this; cases this
omit [Inhabited α] in
theorem swo_dn (hS : SWO lt) {x h p : α} (h1 : lt p h = false) (h2 : lt x h = true) : lt x p = true := by
  cases hc : lt x p with
  | true => rfl
  | false => have := hS.ntrans _ _ _ hc h1; rw [h2] at this; cases this
theorem sorted_le (hS : SWO lt) {a b : Nat} {d : Array α} (h : SortedIn lt a b d) {p q : Nat} (hp : a ≤ p) (hpq : p ≤ q) (hq : q < b) : lt d[q]! d[p]! = false := by
  rcases Nat.lt_or_ge p q with h1 | h1
  · exact h p q hp h1 hq
  · obtain rfl : p = q := by omega
    exact hS.irrefl _
/-- the first search: where the one element on the left belongs -/
def Se1 (lt : α → α → Bool) (d : Array α) (a m b i j : Nat) : Prop := m ≤ i ∧ i ≤ j ∧ j ≤ b ∧ (∀ p, m ≤ p → p < i → lt d[p]! d[a]! = true) ∧ (∀ p, j ≤ p → p < b → lt d[p]! d[a]! = false)
theorem se1_start {d : Array α} {a m b : Nat} (h : m ≤ b) : Se1 lt d a m b m b := ⟨Nat.le_refl _, h, Nat.le_refl _, fun p h1 h2 => by omega, fun p h1 h2 => by omega⟩
theorem se1_up (hS : SWO lt) {d : Array α} {a m b i j h : Nat} (hs : SortedIn lt m b d) (H : Se1 lt d a m b i j) (h1 : i ≤ h) (h2 : h < j) (hl : lt d[h]! d[a]! = true) : Se1 lt d a m b (h + 1) j := by
  obtain ⟨g1, g2, g3, g4, g5⟩ := H
  exact ⟨by omega, by omega, g3, fun p hp hq => swo_up hS (sorted_le hS hs hp (by omega) (by omega)) hl, g5⟩
theorem se1_dn (hS : SWO lt) {d : Array α} {a m b i j h : Nat} (hs : SortedIn lt m b d) (H : Se1 lt d a m b i j) (h1 : i ≤ h) (h2 : h < j) (hl : lt d[h]! d[a]! = false) : Se1 lt d a m b i h := by
  obtain ⟨g1, g2, g3, g4, g5⟩ := H
  exact ⟨g1, h1, by omega, g4, fun p hp hq => hS.ntrans _ _ _ (sorted_le hS hs (show m ≤ h by omega) hp hq) hl⟩
theorem se1_end (hS : SWO lt) {d : Array α} {a m b i : Nat} (hm : m = a + 1) (hb : b ≤ d.size) (hmb : m ≤ b) (hs : SortedIn lt m b d) (H : Se1 lt d a m b i i) : Mrg lt a b d (mvU d a (i - 1 - a)) := by
  obtain ⟨g1, g2, g3, g4, g5⟩ := H
  have hg := mvU_get d a (i - 1 - a) (by omega)
  refine ⟨mvU_perm d a a b (Nat.le_refl _) _ (by omega) hb, fun p q hp hpq hq => ?_⟩
  rw [hg, hg]
  by_cases q1 : a ≤ q ∧ q < a + (i - 1 - a)
  · rw [if_pos q1, if_pos (by omega)]
    exact hs (p + 1) (q + 1) (by omega) (by omega) (by omega)
  · rw [if_neg q1]
    by_cases q2 : q = a + (i - 1 - a)
    · rw [if_pos q2, if_pos (by omega)]
      exact hS.asymm (g4 (p + 1) (by omega) (by omega))
    · rw [if_neg q2]
      by_cases p1 : a ≤ p ∧ p < a + (i - 1 - a)
      · rw [if_pos p1]
        exact hs (p + 1) q (by omega) (by omega) hq
      · rw [if_neg p1]
        by_cases p2 : p = a + (i - 1 - a)
        · rw [if_pos p2]
          exact g5 q (by omega) hq
        · rw [if_neg p2]
          exact hs p q (by omega) hpq hq
/-- the second search: where the one element on the right belongs -/
def Se2 (lt : α → α → Bool) (d : Array α) (a m i j : Nat) : Prop := a ≤ i ∧ i ≤ j ∧ j ≤ m ∧ (∀ p, a ≤ p → p < i → lt d[m]! d[p]! = false) ∧ (∀ p, j ≤ p → p < m → lt d[m]! d[p]! = true)
theorem se2_start {d : Array α} {a m : Nat} (h : a ≤ m) : Se2 lt d a m a m := ⟨Nat.le_refl _, h, Nat.le_refl _, fun p h1 h2 => by omega, fun p h1 h2 => by omega⟩
theorem se2_up (hS : SWO lt) {d : Array α} {a m i j h : Nat} (hs : SortedIn lt a m d) (H : Se2 lt d a m i j) (h1 : i ≤ h) (h2 : h < j) (hl : lt d[m]! d[h]! = false) : Se2 lt d a m (h + 1) j := by
  obtain ⟨g1, g2, g3, g4, g5⟩ := H
  exact ⟨by omega, by omega, g3, fun p hp hq => hS.ntrans _ _ _ hl (sorted_le hS hs hp (by omega) (by omega)), g5⟩
theorem se2_dn (hS : SWO lt) {d : Array α} {a m i j h : Nat} (hs : SortedIn lt a m d) (H : Se2 lt d a m i j) (h1 : i ≤ h) (h2 : h < j) (hl : lt d[m]! d[h]! = true) : Se2 lt d a m i h := by
  obtain ⟨g1, g2, g3, g4, g5⟩ := H
  exact ⟨g1, h1, by omega, g4, fun p hp hq => swo_dn hS (sorted_le hS hs (show a ≤ h by omega) hp hq) hl⟩
theorem se2_end (hS : SWO lt) {d : Array α} {a m b i : Nat} (hm : b = m + 1) (hb : b ≤ d.size) (hs : SortedIn lt a m d) (H : Se2 lt d a m i i) : Mrg lt a b d (mvD d m (m - i)) := by
  obtain ⟨g1, g2, g3, g4, g5⟩ := H
  have hg := mvD_get d m (by omega) (m - i) (by omega)
  refine ⟨mvD_perm d m a b (by omega) hb _ (by omega), fun p q hp hpq hq => ?_⟩
  rw [hg, hg]
  by_cases p1 : m - (m - i) < p ∧ p ≤ m
  · rw [if_pos (by omega : m - (m - i) < q ∧ q ≤ m), if_pos p1]
    exact hs (p - 1) (q - 1) (by omega) (by omega) (by omega)
  · rw [if_neg p1]
    by_cases q1 : m - (m - i) < q ∧ q ≤ m
    · rw [if_pos q1]
      by_cases p2 : p = m - (m - i)
      · rw [if_pos p2]
        exact hS.asymm (g5 (q - 1) (by omega) (by omega))
      · rw [if_neg p2]
        exact hs p (q - 1) hp (by omega) (by omega)
    · rw [if_neg q1]
      by_cases q2 : q = m - (m - i)
      · rw [if_pos q2, if_neg (by omega)]
        exact g4 p hp (by omega)
      · rw [if_neg q2, if_neg (by omega)]
        exact hs p q hp hpq (by omega)
/-- the third search: where both runs are cut -/
def Se3 (lt : α → α → Bool) (d : Array α) (lo hi p s r : Nat) : Prop := lo ≤ s ∧ s ≤ r ∧ r ≤ hi ∧ (s = lo ∨ lt d[p - (s - 1)]! d[s - 1]! = false) ∧ (r = hi ∨ lt d[p - r]! d[r]! = true)
theorem se3_start {d : Array α} {lo hi p : Nat} (h : lo ≤ hi) : Se3 lt d lo hi p lo hi := ⟨Nat.le_refl _, h, Nat.le_refl _, .inl rfl, .inl rfl⟩
theorem se3_up {d : Array α} {lo hi p s r c : Nat} (H : Se3 lt d lo hi p s r) (h1 : s ≤ c) (h2 : c < r) (hl : lt d[p - c]! d[c]! = false) : Se3 lt d lo hi p (c + 1) r := by
  obtain ⟨g1, g2, g3, g4, g5⟩ := H
  exact ⟨by omega, by omega, g3, .inr (by rw [Nat.add_sub_cancel]; exact hl), g5⟩
theorem se3_dn {d : Array α} {lo hi p s r c : Nat} (H : Se3 lt d lo hi p s r) (h1 : s ≤ c) (h2 : c < r) (hl : lt d[p - c]! d[c]! = true) : Se3 lt d lo hi p s c := by
  obtain ⟨g1, g2, g3, g4, g5⟩ := H
  exact ⟨g1, h1, by omega, g4, .inr hl⟩
/-- the bounds of the third search -/
def SeB (a m b mid lo hi : Nat) : Prop := (mid < m ∧ lo + b = mid + m ∧ hi = mid) ∨ (m ≤ mid ∧ lo = a ∧ hi = m)
theorem seB_bounds {a m b mid lo hi s : Nat} (hB : SeB a m b mid lo hi) (ham : a < m) (hmb : m < b) (hmid : mid = (a + b) / 2) (h1 : lo ≤ s) (h2 : s ≤ hi) : a ≤ s ∧ s ≤ m ∧ s ≤ mid ∧ m + mid - s ≤ b ∧ m ≤ m + mid - s ∧ mid ≤ m + mid - s ∧ a ≤ mid ∧ mid < b := by
  unfold SeB at hB; omega
/-- both parts behind the rotation are made of sorted runs, and nothing on the right is less than what is on the left -/
theorem rot_cross (hS : SWO lt) {d d' : Array α} {a m b mid lo hi s : Nat} (hB : SeB a m b mid lo hi) (ham : a < m) (hmb : m < b) (hmid : mid = (a + b) / 2) (hL : SortedIn lt a m d) (hR : SortedIn lt m b d) (H : Se3 lt d lo hi (mid + m - 1) s s) (hr : Rot s m (m + mid - s) d d') :
    SortedIn lt a s d' ∧ SortedIn lt s mid d' ∧ SortedIn lt mid (m + mid - s) d' ∧ SortedIn lt (m + mid - s) b d' ∧ ∀ p q, a ≤ p → p < mid → mid ≤ q → q < b → lt d'[q]! d'[p]! = false := by
  obtain ⟨g1, g2, g3, g4, g5⟩ := H
  have hb := seB_bounds hB ham hmb hmid g1 g3
  obtain ⟨e, he⟩ : ∃ e, e = m + mid - s := ⟨_, rfl⟩
  rw [← he] at hr hb ⊢
  have ha1 : ∀ k, k < s ∨ e ≤ k → d'[k]! = d[k]! := hr.1.2.1
  have ha2 : ∀ k, s ≤ k → k < mid → d'[k]! = d[m + (k - s)]! := fun k h1 h2 => by
    have := hr.2.1 (k - s) (by omega)
    rwa [show s + (k - s) = k by omega] at this
  have ha3 : ∀ k, mid ≤ k → k < e → d'[k]! = d[s + (k - mid)]! := fun k h1 h2 => by
    have := hr.2.2 (k - mid) (by omega)
    rwa [show s + (e - m) + (k - mid) = k by omega] at this
  have c1 : ∀ p q, a ≤ p → p < s → e ≤ q → q < b → lt d[q]! d[p]! = false := fun p q h1 h2 h3 h4 => by
    have h6 : lt d[e]! d[s - 1]! = false := by
      rcases g4 with h5 | h5
      · unfold SeB at hB; omega
      · rwa [show mid + m - 1 - (s - 1) = e by omega] at h5
    exact hS.ntrans _ _ _ (sorted_le hS hR (show m ≤ e by omega) h3 h4) (hS.ntrans _ _ _ h6 (sorted_le hS hL h1 (show p ≤ s - 1 by omega) (by omega)))
  have c2 : ∀ p q, m ≤ p → p < e → s ≤ q → q < m → lt d[q]! d[p]! = false := fun p q h1 h2 h3 h4 => by
    have h6 : lt d[e - 1]! d[s]! = true := by
      rcases g5 with h5 | h5
      · unfold SeB at hB; omega
      · rwa [show mid + m - 1 - s = e - 1 by omega] at h5
    exact hS.ntrans _ _ _ (sorted_le hS hL (show a ≤ s by omega) h3 h4) (hS.ntrans _ _ _ (hS.asymm h6) (sorted_le hS hR h1 (show p ≤ e - 1 by omega) (by omega)))
  refine ⟨fun p q h1 h2 h3 => ?_, fun p q h1 h2 h3 => ?_, fun p q h1 h2 h3 => ?_, fun p q h1 h2 h3 => ?_, fun p q h1 h2 h3 h4 => ?_⟩
  · rw [ha1 p (by omega), ha1 q (by omega)]
    exact hL p q h1 h2 (by omega)
  · rw [ha2 p h1 (by omega), ha2 q (by omega) h3]
    exact hR _ _ (by omega) (by omega) (by omega)
  · rw [ha3 p h1 (by omega), ha3 q (by omega) h3]
    exact hL _ _ (by omega) (by omega) (by omega)
  · rw [ha1 p (by omega), ha1 q (by omega)]
    exact hR p q (by omega) h2 h3
  · by_cases hp : p < s
    · rw [ha1 p (.inl hp)]
      by_cases hq : q < e
      · rw [ha3 q h3 hq]
        exact sorted_le hS hL h1 (by omega) (by omega)
      · rw [ha1 q (by omega)]
        exact c1 p q h1 hp (by omega) h4
    · rw [ha2 p (by omega) h2]
      by_cases hq : q < e
      · rw [ha3 q h3 hq]
        exact c2 _ _ (by omega) (by omega) (by omega) (by omega)
      · rw [ha1 q (by omega)]
        exact sorted_le hS hR (by omega) (by omega) h4
/-- one run, if one of the two is empty -/
theorem one_run {d : Array α} {a s c : Nat} (h1 : SortedIn lt a s d) (h2 : SortedIn lt s c d) (hs : ¬ (a < s ∧ s < c)) (ha : a ≤ s) (hc : s ≤ c) : SortedIn lt a c d := by
  rcases Nat.eq_or_lt_of_le ha with rfl | h
  · exact h2
  · obtain rfl : s = c := by omega
    exact h1
/-- the two parts merged -/
theorem mrg_both (hS : SWO lt) {d d1 d2 d3 : Array α} {a mid b s e : Nat} (hd : d.size = d1.size) (hab : a ≤ mid) (hmb : mid ≤ b) (hb : b ≤ d.size) (has : a ≤ s) (heb : e ≤ b) (h0 : PermIn s e d d1) (h1 : Mrg lt a mid d1 d2) (h2 : Mrg lt mid b d2 d3) (hc : ∀ p q, a ≤ p → p < mid → mid ≤ q → q < b → lt d1[q]! d1[p]! = false) : Mrg lt a b d d3 := by
  have s1 := h1.1.1
  have s2 := h2.1.1
  refine ⟨permIn_trans _ _ _ _ _ (permIn_mono _ _ _ _ _ _ has heb hb h0) (permIn_trans _ _ _ _ _ (permIn_mono _ _ _ _ _ _ (Nat.le_refl _) hmb (by omega) h1.1) (permIn_mono _ _ _ _ _ _ hab (Nat.le_refl _) (by omega) h2.1)), fun p q hp hpq hq => ?_⟩
  have hcross : ∀ p q, a ≤ p → p < mid → mid ≤ q → q < b → lt d3[q]! d3[p]! = false := fun p q x1 x2 x3 x4 => by
    rw [h2.1.2.1 p (.inl x2)]
    refine permIn_all d2 d3 mid b (fun y => lt y d2[p]! = false) (by omega) h2.1 (fun i i1 i2 => ?_) q x3 x4
    show lt d2[i]! d2[p]! = false
    rw [h1.1.2.1 i (.inr i1)]
    exact permIn_all d1 d2 a mid (fun y => lt d1[i]! y = false) (by omega) h1.1 (fun j j1 j2 => hc j i j1 j2 i1 i2) p x1 x2
  by_cases hqm : q < mid
  · rw [h2.1.2.1 p (.inl (by omega)), h2.1.2.1 q (.inl hqm)]
    exact h1.2 p q hp hpq hqm
  · by_cases hpm : p < mid
    · exact hcross p q hp hpm (by omega) hq
    · exact h2.2 p q (by omega) hpq hq
theorem mrg_none {d : Array α} {a b : Nat} (h : SortedIn lt a b d) : Mrg lt a b d d := ⟨permIn_refl _ _ _, h⟩
/-! ### the blocks -/
/-- the blocks of z places that end at a or before are sorted, each by itself -/
def Done (lt : α → α → Bool) (z a : Nat) (d : Array α) : Prop := ∀ x, z ∣ x → x + z ≤ a → SortedIn lt x (x + z) d
/-- the blocks of z places from lo on are sorted, the last one may be shorter -/
def Fine (lt : α → α → Bool) (z lo n : Nat) (d : Array α) : Prop := ∀ x, z ∣ x → lo ≤ x → SortedIn lt x (min (x + z) n) d
theorem sorted_out {d d' : Array α} {a b a' b' : Nat} (h : SortedIn lt a b d) (hp : PermIn a' b' d d') (ho : b ≤ a' ∨ b' ≤ a) : SortedIn lt a b d' := h.congr fun i h1 h2 => hp.2.1 i (by omega)
theorem sorted_sub {d : Array α} {a b a' b' : Nat} (h : SortedIn lt a b d) (ha : a ≤ a') (hb : b' ≤ b) : SortedIn lt a' b' d := fun i j h1 h2 h3 => h i j (by omega) h2 (by omega)
theorem dvd_next {z x a : Nat} (hx : z ∣ x) (ha : z ∣ a) (h : x < a) : x + z ≤ a := by
  obtain ⟨k, rfl⟩ := hx
  obtain ⟨l, rfl⟩ := ha
  have hkl : k < l := Nat.lt_of_mul_lt_mul_left h
  have := Nat.mul_le_mul_left z (show k + 1 ≤ l from hkl)
  rwa [Nat.mul_add, Nat.mul_one] at this
theorem done_none {z : Nat} {d : Array α} (hz : 0 < z) : Done lt z 0 d := fun x hx h => by omega
theorem done_step {z a : Nat} {d d' : Array α} (h : Done lt z a d) (ha : z ∣ a) (hp : PermIn a (a + z) d d') (hs : SortedIn lt a (a + z) d') : Done lt z (a + z) d' := fun x hx hl => by
  rcases Nat.lt_trichotomy x a with h1 | rfl | h1
  · have := dvd_next hx ha h1
    exact sorted_out (h x hx this) hp (.inl this)
  · exact hs
  · have := dvd_next ha hx h1
    exact fun i j i1 i2 i3 => by omega
theorem done_last {z a n : Nat} {d d' : Array α} (h : Done lt z a d) (ha : z ∣ a) (han : a ≤ n) (hn : n < a + z) (hp : PermIn a n d d') (hs : SortedIn lt a n d') : Fine lt z 0 n d' := fun x hx hl => by
  rcases Nat.lt_trichotomy x a with h1 | rfl | h1
  · have := dvd_next hx ha h1
    rw [Nat.min_eq_left (by omega)]
    exact sorted_out (h x hx this) hp (.inl this)
  · rw [Nat.min_eq_right (by omega)]
    exact hs
  · have := dvd_next ha hx h1
    exact fun i j i1 i2 i3 => by omega
theorem fine_all {z n : Nat} {d : Array α} (h : Fine lt z 0 n d) (hz : n ≤ z) : SortedIn lt 0 n d := by
  have := h 0 (Nat.dvd_zero z) (Nat.le_refl _)
  rwa [Nat.zero_add, Nat.min_eq_right hz] at this
theorem fine_left {z a n : Nat} {d : Array α} (h : Fine lt z a n d) (ha : z ∣ a) (hn : a + z ≤ n) : SortedIn lt a (a + z) d := by
  have := h a ha (Nat.le_refl _)
  rwa [Nat.min_eq_left hn] at this
theorem fine_right {z a n b : Nat} {d : Array α} (h : Fine lt z a n d) (ha : z ∣ a) (hb : b = min (a + z + z) n) : SortedIn lt (a + z) b d := by
  rw [hb]
  exact h (a + z) ((Nat.dvd_add_right ha).2 (Nat.dvd_refl z)) (by omega)
theorem fine_step {z a b n : Nat} {d d' : Array α} (hab : a ≤ b) (h : Fine lt z a n d) (hp : PermIn a b d d') : Fine lt z b n d' := fun x hx hl => sorted_out (h x hx (by omega)) hp (.inr hl)
theorem fine_two {z a n : Nat} {d : Array α} (h : Done lt (2 * z) a d) (ha : 2 * z ∣ a) (han : a ≤ n) (hs : SortedIn lt a n d) (hn : n < a + 2 * z) : Fine lt (2 * z) 0 n d :=
  done_last h ha han hn (permIn_refl _ _ _) hs
end
end Go.Proofs.Ytdofpkdemmngeaa
namespace Go.Proofs.Ytdofpkdemmngeaa
open Go Go.Shelf Go.RowKit Go.Lib Go.Sort lib
set_option linter.unusedVariables false
set_option linter.unusedSimpArgs false
end Go.Proofs.Ytdofpkdemmngeaa
namespace Go.Proofs.Ytdofpkdemmngeaa
open Go Go.Shelf Go.RowKit Go.Lib Go.Sort lib
set_option linter.unusedVariables false
set_option linter.unusedSimpArgs false
end Go.Proofs.Ytdofpkdemmngeaa
namespace Go.Proofs.Ytdofpkdemmngeaa
open Go Go.Shelf Go.RowKit Go.Lib Go.Sort lib
set_option linter.unusedVariables false
set_option linter.unusedSimpArgs false
end Go.Proofs.Ytdofpkdemmngeaa
namespace Go.Proofs.Ytdofpkdemmngeaa
open Go Go.Shelf Go.ChangeShapes Go.WideShapes Go.ChangeAt Go.RowKit Go.Sort Go.Lib lib
set_option linter.unusedVariables false
set_option linter.unusedSimpArgs false
set_option maxRecDepth 100000
section
variable {α : Type} {enc : α → List Value} {k : Nat}
theorem flatR_len (hk : ∀ x, (enc x).length = k) (L : List α) : (L.flatMap enc).length = L.length * k := by
  induction L with
  | nil => simp
  | cons f r ih => rw [List.flatMap_cons, List.length_append, ih, List.length_cons, hk, Nat.add_mul, Nat.one_mul, Nat.add_comm]
theorem flatR_get [Inhabited α] (hk : ∀ x, (enc x).length = k) : ∀ (L : List α) (j : Nat), j < L.length * k → (L.flatMap enc)[j]? = (enc L.toArray[j / k]!)[j % k]?
  | [], j, h => absurd h (by simp)
  | f :: r, j, h => by
    have hk0 : 0 < k := by
      rcases Nat.eq_zero_or_pos k with h0 | h0
      · subst h0; simp at h
      · exact h0
    rw [List.flatMap_cons]
    by_cases hj : j < k
    · rw [List.getElem?_append_left (by rw [hk]; exact hj), Nat.div_eq_of_lt hj, Nat.mod_eq_of_lt hj]
      rfl
    · rw [List.getElem?_append_right (by rw [hk]; omega), hk]
      rw [List.length_cons, Nat.add_mul, Nat.one_mul] at h
      rw [flatR_get hk r (j - k) (by omega)]
      have e1 : j / k = (j - k) / k + 1 := by
        rw [Nat.div_eq_sub_div hk0 (by omega)]
      have e2 : j % k = (j - k) % k := by rw [Nat.mod_eq_sub_mod (by omega)]
      rw [e1, e2]
      congr 2
      simp [List.getElem!_eq_getElem?_getD]
theorem flatR_at [Inhabited α] (hk : ∀ x, (enc x).length = k) {L : List α} {j : Nat} (hj : j < L.length * k) : (L.flatMap enc)[j]? = some ((flatK enc k L.toArray)[j]!) := by
  rw [get_flatK _ _ _ _ (by simpa using hj), flatR_get hk L j hj]
  have hk0 : 0 < k := by
    rcases Nat.eq_zero_or_pos k with h0 | h0
    · subst h0; simp at hj
    · exact h0
  have hm : j % k < (enc L.toArray[j / k]!).length := by rw [hk]; exact Nat.mod_lt _ hk0
  rw [List.getElem?_eq_getElem hm]
  congr 1
  exact (getElem!_pos (enc L.toArray[j / k]!) (j % k) hm).symm
theorem putR_take [Inhabited α] (hk : ∀ x, (enc x).length = k) {cur : Array Value} {D : List α} (h : D.length * k ≤ cur.size) : (putCells id 0 (flatK enc k D.toArray) cur).toList.take (D.length * k) = D.flatMap enc := by
  apply List.ext_getElem?
  intro j
  by_cases hj : j < D.length * k
  · rw [List.getElem?_take_of_lt hj, Array.getElem?_toList, flatR_at hk hj]
    have hjc : j < cur.size := by omega
    simp only [putCells, Array.getElem?_mapIdx, Array.getElem?_eq_getElem hjc, Option.map_some]
    rw [if_pos (by simp; omega), Nat.sub_zero]
    rfl
  · rw [List.getElem?_eq_none (by simp; omega), List.getElem?_eq_none (by rw [flatR_len hk]; omega)]
end
end Go.Proofs.Ytdofpkdemmngeaa
