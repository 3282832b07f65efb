/-
  Marks on tracks, plain: the list of marks of FM or MFM.
-/
import Derived.Test.YtabmdbhbbmnkdaaDoorMpB
namespace Go.Proofs.YtabmdbhbbmnkdaaDoor
open Go Go.ChangeShapes Go.WideShapes Go.ChangeAt Go.RowKit lib
set_option linter.unusedVariables false
set_option linter.unusedSimpArgs false
set_option maxRecDepth 100000
def MkS (L : List Mk) : Prop := L.Pairwise fun a b => a.at' < b.at'
theorem mem_putM {m x : Mk} : ∀ L : List Mk, x ∈ putM m L ↔ x = m ∨ x ∈ L
  | [] => by simp [putM]
  | y :: r => by
    rw [putM]
    split
    · simp only [List.mem_cons, mem_putM r]
      constructor
      · rintro (h | h | h)
        · exact .inr (.inl h)
        · exact .inl h
        · exact .inr (.inr h)
      · rintro (h | h | h)
        · exact .inr (.inl h)
        · exact .inl h
        · exact .inr (.inr h)
    · simp
theorem putM_s {m : Mk} : ∀ {L : List Mk}, MkS L → (∀ y ∈ L, y.at' ≠ m.at') → MkS (putM m L)
  | [], _, _ => List.pairwise_singleton _ _
  | y :: r, h, hn => by
    obtain ⟨h1, h2⟩ := List.pairwise_cons.1 h
    rw [putM]
    split
    · next hlt =>
      refine List.pairwise_cons.2 ⟨fun x hx => ?_, putM_s h2 fun z hz => hn z (List.mem_cons_of_mem _ hz)⟩
      rcases (mem_putM r).1 hx with rfl | hx
      · exact hlt
      · exact h1 x hx
    · next hge =>
      have := hn y (List.mem_cons_self ..)
      refine List.pairwise_cons.2 ⟨fun x hx => ?_, h⟩
      rcases List.mem_cons.1 hx with rfl | hx
      · omega
      · have := h1 x hx
        omega
theorem mem_puts {x : Mk} : ∀ (l o : List Mk), x ∈ puts o l ↔ x ∈ o ∨ x ∈ l
  | [], o => by simp [puts]
  | m :: r, o => by
    show x ∈ puts (putM m o) r ↔ _
    rw [mem_puts r, mem_putM, List.mem_cons]
    constructor
    · rintro ((h | h) | h)
      · exact .inr (.inl h)
      · exact .inl h
      · exact .inr (.inr h)
    · rintro (h | h | h)
      · exact .inl (.inr h)
      · exact .inl (.inl h)
      · exact .inr h
theorem puts_s : ∀ {l o : List Mk}, MkS o → (l.Pairwise fun a b => a.at' ≠ b.at') → (∀ x ∈ o, ∀ y ∈ l, x.at' ≠ y.at') → MkS (puts o l)
  | [], o, h, _, _ => h
  | m :: r, o, h, h2, h3 => by
    obtain ⟨h4, h5⟩ := List.pairwise_cons.1 h2
    refine puts_s (l := r) (o := putM m o) (putM_s h fun y hy => h3 y hy m (List.mem_cons_self ..)) h5 fun x hx y hy => ?_
    rcases (mem_putM o).1 hx with rfl | hx
    · exact h4 y hy
    · exact h3 x hx y (List.mem_cons_of_mem _ hy)
theorem mks_uniq : ∀ {L M : List Mk}, MkS L → MkS M → (∀ x, x ∈ L ↔ x ∈ M) → L = M
  | [], [], _, _, _ => rfl
  | [], y :: r, _, _, h => absurd ((h y).2 (List.mem_cons_self ..)) (by simp)
  | x :: r, [], _, _, h => absurd ((h x).1 (List.mem_cons_self ..)) (by simp)
  | x :: r, y :: s, h1, h2, h => by
    obtain ⟨a1, a2⟩ := List.pairwise_cons.1 h1
    obtain ⟨b1, b2⟩ := List.pairwise_cons.1 h2
    have e : x = y := by
      rcases List.mem_cons.1 ((h x).1 (List.mem_cons_self ..)) with e | hx
      · exact e
      · rcases List.mem_cons.1 ((h y).2 (List.mem_cons_self ..)) with e | hy
        · exact e.symm
        · have := b1 x hx
          have := a1 y hy
          omega
    subst e
    rw [mks_uniq a2 b2 fun z => ?_]
    constructor
    · intro hz
      rcases List.mem_cons.1 ((h z).1 (List.mem_cons_of_mem _ hz)) with rfl | hz2
      · have := a1 z hz
        omega
      · exact hz2
    · intro hz
      rcases List.mem_cons.1 ((h z).2 (List.mem_cons_of_mem _ hz)) with rfl | hz2
      · have := b1 z hz
        omega
      · exact hz2
/-- marks as they lie: place of a mark behind k cells, its body -/
def scanC (W : Chk → Nat) (g : Nat → Nat → Mk) : Nat → List Chk → List Mk
  | _, [] => []
  | k, .r y :: r => scanC W g (k + W (.r y)) r
  | k, .m q :: r => g k q :: scanC W g (k + W (.m q)) r
def wsum (W : Chk → Nat) (A : List Chk) : Nat := (A.map W).sum
theorem mem_scan (W : Chk → Nat) (g : Nat → Nat → Mk) (x : Mk) : ∀ (L : List Chk) (k : Nat), x ∈ scanC W g k L ↔ ∃ A B q, L = A ++ .m q :: B ∧ x = g (k + wsum W A) q
  | [], k => by simp [scanC]
  | .r y :: r, k => by
    rw [scanC, mem_scan W g x r]
    constructor
    · rintro ⟨A, B, q, e, hx⟩
      refine ⟨.r y :: A, B, q, by rw [e]; rfl, ?_⟩
      rw [hx]
      simp [wsum, Nat.add_assoc]
    · rintro ⟨A, B, q, e, hx⟩
      cases A with
      | nil => cases e
      | cons a A =>
        rw [List.cons_append] at e
        injection e with e1 e2
        subst e1
        refine ⟨A, B, q, e2, ?_⟩
        rw [hx]
        simp [wsum, Nat.add_assoc]
  | .m y :: r, k => by
    rw [scanC, List.mem_cons, mem_scan W g x r]
    constructor
    · rintro (rfl | ⟨A, B, q, e, hx⟩)
      · exact ⟨[], r, y, rfl, by simp [wsum]⟩
      · refine ⟨.m y :: A, B, q, by rw [e]; rfl, ?_⟩
        rw [hx]
        simp [wsum, Nat.add_assoc]
    · rintro ⟨A, B, q, e, hx⟩
      cases A with
      | nil =>
        rw [List.nil_append] at e
        injection e with e1 e2
        injection e1 with e1
        subst e1
        left
        rw [hx]
        simp [wsum]
      | cons a A =>
        rw [List.cons_append] at e
        injection e with e1 e2
        subst e1
        refine .inr ⟨A, B, q, e2, ?_⟩
        rw [hx]
        simp [wsum, Nat.add_assoc]
theorem scan_s (W : Chk → Nat) (hW : ∀ x, 1 ≤ W x) (g : Nat → Nat → Mk) (hg : ∀ k q k' q', k < k' → (g k q).at' < (g k' q').at') (L : List Chk) : ∀ k, MkS (scanC W g k L) := by
  induction L with
  | nil => intro k; exact List.Pairwise.nil
  | cons a r ih =>
    intro k
    cases a with
    | r y => exact ih _
    | m y =>
      rw [scanC]
      refine List.pairwise_cons.2 ⟨fun x hx => ?_, ih _⟩
      rw [mem_scan] at hx
      obtain ⟨A, B, q, _, rfl⟩ := hx
      refine hg _ _ _ _ ?_
      have := hW (.m y)
      omega
theorem scan_kd (W : Chk → Nat) (g : Nat → Nat → Mk) (hg : ∀ k q, (g k q).kd = q) (L : List Chk) : ∀ k, (scanC W g k L).map Mk.kd = L.filterMap fun x => match x with | .r _ => none | .m q => some q := by
  induction L with
  | nil => intro k; rfl
  | cons a r ih =>
    intro k
    cases a with
    | r y => exact ih _
    | m y =>
      rw [scanC, List.map_cons, hg, ih]
      rfl
theorem wsum_uniq (W : Chk → Nat) (hW : ∀ x, 1 ≤ W x) : ∀ (A A' B B' : List Chk) (x x' : Chk), A ++ x :: B = A' ++ x' :: B' → wsum W A = wsum W A' → A = A' ∧ x = x'
  | [], [], _, _, x, x', e, _ => by
    rw [List.nil_append, List.nil_append] at e
    injection e with e1 _
    exact ⟨rfl, e1⟩
  | [], a :: A, _, _, _, _, _, h => by
    have := hW a
    simp [wsum] at h
    omega
  | a :: A, [], _, _, _, _, _, h => by
    have := hW a
    simp [wsum] at h
    omega
  | a :: A, a' :: A', B, B', x, x', e, h => by
    rw [List.cons_append, List.cons_append] at e
    injection e with e1 e2
    subst e1
    have h2 : wsum W A = wsum W A' := by
      simp only [wsum, List.map_cons, List.sum_cons] at h
      unfold wsum
      omega
    obtain ⟨h3, h4⟩ := wsum_uniq W hW A A' B B' x x' e2 h2
    exact ⟨by rw [h3], h4⟩
/-- marks by their chunks: what is found of each kind is what lies there -/
theorem marks_scan (f : Nat) (c : List UInt8) (L : List Chk) (hL : ∀ x ∈ L, x.ok) (W : Chk → Nat) (hW : ∀ x, 1 ≤ W x) (g : Nat → Nat → Mk) (hg : ∀ k q k' q', k < k' → (g k q).at' < (g k' q').at')
    (hm : ∀ q, f123 q → ∀ x, x ∈ foundU f c q ↔ ∃ A B, L = A ++ .m q :: B ∧ x = g (wsum W A) q) (hd : ∀ q, f123 q → (foundU f c q).Pairwise fun a b => a.at' ≠ b.at') : marksK f c 3 = scanC W g 0 L := by
  have hx : ∀ q q', f123 q → f123 q' → q ≠ q' → ∀ x ∈ foundU f c q, ∀ y ∈ foundU f c q', x.at' ≠ y.at' := by
    intro q q' h1 h2 hne x hx y hy e
    obtain ⟨A, B, e1, rfl⟩ := (hm q h1 x).1 hx
    obtain ⟨A', B', e2, rfl⟩ := (hm q' h2 y).1 hy
    have hw : wsum W A = wsum W A' := by
      rcases Nat.lt_trichotomy (wsum W A) (wsum W A') with h | h | h
      · have := hg _ q _ q' h; omega
      · exact h
      · have := hg _ q' _ q h; omega
    obtain ⟨_, h4⟩ := wsum_uniq W hW A A' B B' _ _ (e1.symm.trans e2) hw
    injection h4 with h4
    exact hne h4
  have s1 : MkS (marksK f c 1) := puts_s (o := []) List.Pairwise.nil (hd 1 (.inl rfl)) (fun x hx => by cases hx)
  have m1 : ∀ x, x ∈ marksK f c 1 ↔ x ∈ foundU f c 1 := fun x => by
    show x ∈ puts [] (foundU f c 1) ↔ _
    rw [mem_puts]; simp
  have s2 : MkS (marksK f c 2) := puts_s (o := marksK f c 1) s1 (hd 2 (.inr (.inl rfl))) (fun x hx1 y hy => hx 1 2 (.inl rfl) (.inr (.inl rfl)) (by omega) x ((m1 x).1 hx1) y hy)
  have m2 : ∀ x, x ∈ marksK f c 2 ↔ x ∈ foundU f c 1 ∨ x ∈ foundU f c 2 := fun x => by
    show x ∈ puts (marksK f c 1) (foundU f c 2) ↔ _
    rw [mem_puts, m1]
  have s3 : MkS (marksK f c 3) := puts_s (o := marksK f c 2) s2 (hd 3 (.inr (.inr rfl))) (fun x hx1 y hy => by
    rcases (m2 x).1 hx1 with h | h
    · exact hx 1 3 (.inl rfl) (.inr (.inr rfl)) (by omega) x h y hy
    · exact hx 2 3 (.inr (.inl rfl)) (.inr (.inr rfl)) (by omega) x h y hy)
  have m3 : ∀ x, x ∈ marksK f c 3 ↔ (x ∈ foundU f c 1 ∨ x ∈ foundU f c 2) ∨ x ∈ foundU f c 3 := fun x => by
    show x ∈ puts (marksK f c 2) (foundU f c 3) ↔ _
    rw [mem_puts, m2]
  refine mks_uniq s3 (scan_s W hW g hg L 0) fun x => ?_
  rw [m3, mem_scan]
  constructor
  · rintro ((h | h) | h)
    · obtain ⟨A, B, e, hx⟩ := (hm 1 (.inl rfl) x).1 h
      exact ⟨A, B, 1, e, by rw [hx, Nat.zero_add]⟩
    · obtain ⟨A, B, e, hx⟩ := (hm 2 (.inr (.inl rfl)) x).1 h
      exact ⟨A, B, 2, e, by rw [hx, Nat.zero_add]⟩
    · obtain ⟨A, B, e, hx⟩ := (hm 3 (.inr (.inr rfl)) x).1 h
      exact ⟨A, B, 3, e, by rw [hx, Nat.zero_add]⟩
  · rintro ⟨A, B, q, e, hx⟩
    rw [Nat.zero_add] at hx
    have hq : f123 q := hL (.m q) (by rw [e]; simp)
    have := (hm q hq x).2 ⟨A, B, e, hx⟩
    rcases hq with rfl | rfl | rfl
    · exact .inl (.inl this)
    · exact .inl (.inr this)
    · exact .inr this
end Go.Proofs.YtabmdbhbbmnkdaaDoor
