/-
  Marks on tracks, plain: where a pattern of FM or MFM fits.
-/
import Derived.Test.YtabmdbhbbmnkdaaDoorMpA
namespace Go.Proofs.YtabmdbhbbmnkdaaDoor
open Go Go.ChangeShapes Go.WideShapes Go.ChangeAt Go.RowKit lib
set_option linter.unusedVariables false
set_option linter.unusedSimpArgs false
set_option maxRecDepth 100000
theorem iat_shift (l : List Itm) (k d : Nat) : iat l (k + d) = iat l (k % l.length + d) := by
  unfold iat
  rw [Nat.mod_add_mod]
theorem iat_pred (l : List Itm) (k t : Nat) (hk : 1 ≤ k) (h : k % l.length = t + 1) : iat l (k - 1) = iat l t := by
  have h1 := Nat.div_add_mod k l.length
  have e : k - 1 = l.length * (k / l.length) + t := by omega
  unfold iat
  rw [e, Nat.mul_add_mod]
theorem cellB_t (b : Bool) : cellB b = 49 ↔ b = true := by cases b <;> decide
theorem cellB_f (b : Bool) : cellB b = 48 ↔ b = false := by cases b <;> decide
theorem fits_get {c p : List UInt8} {a : Nat} (h : fitsU c p a = true) (j : Nat) (hj : j < p.length) : cyc c (a + j) = p.getD j 0 := by
  unfold fitsU at h
  rw [List.all_eq_true] at h
  have := h j (List.mem_range.2 hj)
  simpa using this
/-- the clock on the circle -/
def eAt (f : Nat) (l : List Itm) (i : Nat) : Bool := clk f (iat l (i / 8)).mk? (bAt l (i + 8 * l.length - 1)) (bAt l i) (i % 8)
theorem bAt_pred (l : List Itm) (i : Nat) (h : 1 ≤ i) : bAt l (i + 8 * l.length - 1) = bAt l (i - 1) := by
  rw [show i + 8 * l.length - 1 = (i - 1) + 8 * l.length by omega, bAt_add]
theorem e1_false {l : List Itm} {i : Nat} (h : eAt 1 l i = false) : (iat l (i / 8)).mk? = true ∧ (i % 8 = 2 ∨ i % 8 = 3 ∨ i % 8 = 4) := by
  unfold eAt clk at h
  rw [if_pos rfl] at h
  simp at h
  refine ⟨h.1, ?_⟩
  omega
theorem e1_true {l : List Itm} {i : Nat} (h : eAt 1 l i = true) (hm : (iat l (i / 8)).mk? = true) : ¬ (i % 8 = 2 ∨ i % 8 = 3 ∨ i % 8 = 4) := by
  unfold eAt clk at h
  rw [if_pos rfl, hm] at h
  simp at h
  omega
theorem e2_false {l : List Itm} {i : Nat} (h1 : 1 ≤ i) (h : eAt 2 l i = false) (hp : bAt l (i - 1) = false) (hb : bAt l i = false) : (iat l (i / 8)).mk? = true ∧ i % 8 = 5 := by
  unfold eAt clk at h
  rw [if_neg (by omega), bAt_pred l i h1, hp, hb] at h
  simpa using h
section
variable {f : Nat} {p : Bool} {l : List Itm} (hn : 0 < l.length) (hp : lastI p l = p)
include hn hp
theorem even_cell (i : Nat) : cyc (cellsI f p l) (2 * i) = cellB (eAt f l i) := cyc_even f p l hn hp i
omit hp in
theorem odd_cell (i : Nat) : cyc (cellsI f p l) (2 * i + 1) = cellB (bAt l i) := cyc_odd f p l hn i
end
theorem bAt_item (l : List Itm) (k r : Nat) (hr : r < 8) : bAt l (8 * k + r) = bI (iat l k).y r := by
  unfold bAt
  rw [show (8 * k + r) / 8 = k by omega, show (8 * k + r) % 8 = r by omega]
theorem kd_eq1 (f kd q : Nat) (hf : f = 1 ∨ f = 2) (h1 : f123 kd) (h2 : f123 q) (h5 : bI (mY f kd) 5 = bI (mY f q) 5) (h7 : bI (mY f kd) 7 = bI (mY f q) 7) : kd = q := by
  rcases hf with rfl | rfl <;> rcases h1 with rfl | rfl | rfl <;> rcases h2 with rfl | rfl | rfl <;> first | rfl | (exfalso; revert h5 h7; decide)
/-- FM: a pattern fits at a mark alone -/
theorem fm_fits (L : List Chk) (hL : ∀ x ∈ L, x.ok) (p : Bool) (hp : lastI p (itemsC 1 L) = p) (h0 : itemsC 1 L ≠ []) (q : Nat) (hq : f123 q) (a : Nat) (ha : a < 16 * (itemsC 1 L).length) (h : fitsU (cellsI 1 p (itemsC 1 L)) (markL 1 q) a = true) :
    ∃ A B, L = A ++ .m q :: B ∧ a = 16 * ((itemsC 1 A).length + 2) := by
  have hN : 0 < (itemsC 1 L).length := List.length_pos_iff.2 h0
  have hc := fun i => even_cell (f := 1) hN hp i
  have ho := fun i => odd_cell (f := 1) (p := p) hN i
  have hmk := fun k hk => mk_chunk 1 (.inl rfl) L hL k h0 hk
  have hsp : ∀ (A B : List Chk) (kd j : Nat), L = A ++ .m kd :: B → j < 3 → iat (itemsC 1 L) ((itemsC 1 A).length + j) = (Chk.I 1 (.m kd)).getD j noI := fun A B kd j e hj => iat_in (l := itemsC 1 L) (A := itemsC 1 A) (X := Chk.I 1 (.m kd)) (B := itemsC 1 B) (by rw [e, itemsC_split]) j (by exact hj)
  have hlen : (markL 1 q).length = 16 := by rcases hq with rfl | rfl | rfl <;> rfl
  have hg := fun j hj => fits_get h j (by rw [hlen]; exact hj)
  generalize hll : itemsC 1 L = l at *
  rcases Nat.mod_two_eq_zero_or_one a with he | he
  · obtain ⟨i, rfl⟩ : ∃ i, a = 2 * i := ⟨a / 2, by omega⟩
    have E : ∀ r, r < 8 → cellB (eAt 1 l (i + r)) = (markL 1 q).getD (2 * r) 0 := fun r hr => by
      rw [← hc, show 2 * (i + r) = 2 * i + 2 * r by omega]; exact hg _ (by omega)
    have D : ∀ r, r < 8 → cellB (bAt l (i + r)) = (markL 1 q).getD (2 * r + 1) 0 := fun r hr => by
      rw [← ho, show 2 * (i + r) + 1 = 2 * i + (2 * r + 1) by omega]; exact hg _ (by omega)
    have E2 : eAt 1 l (i + 2) = false := by rw [← cellB_f, E 2 (by omega)]; rcases hq with rfl | rfl | rfl <;> rfl
    have E3 : eAt 1 l (i + 3) = false := by rw [← cellB_f, E 3 (by omega)]; rcases hq with rfl | rfl | rfl <;> rfl
    have E4 : eAt 1 l (i + 4) = false := by rw [← cellB_f, E 4 (by omega)]; rcases hq with rfl | rfl | rfl <;> rfl
    obtain ⟨m2, r2⟩ := e1_false E2
    obtain ⟨m3, r3⟩ := e1_false E3
    obtain ⟨m4, r4⟩ := e1_false E4
    have hi8 : i % 8 = 0 := by omega
    obtain ⟨A, B, kd, j, e1, hkd, e2, e3⟩ := hmk _ m2
    rw [if_pos rfl] at e3
    subst e3
    have hk : (i + 2) / 8 = i / 8 := by omega
    rw [hk, Nat.mod_eq_of_lt (by omega)] at e2
    have hy : (iat l (i / 8)).y = mY 1 kd := by
      rw [e2, hsp A B kd 2 e1 (by omega)]
      rfl
    have B5 : bI (mY 1 kd) 5 = bI (mY 1 q) 5 := by
      have := D 5 (by omega)
      rw [show i + 5 = 8 * (i / 8) + 5 by omega, bAt_item _ _ _ (by omega), hy] at this
      rcases hq with rfl | rfl | rfl
      · rw [show (markL 1 1).getD (2 * 5 + 1) 0 = 49 from rfl, cellB_t] at this; rw [this]; rfl
      · rw [show (markL 1 2).getD (2 * 5 + 1) 0 = 48 from rfl, cellB_f] at this; rw [this]; rfl
      · rw [show (markL 1 3).getD (2 * 5 + 1) 0 = 48 from rfl, cellB_f] at this; rw [this]; rfl
    have B7 : bI (mY 1 kd) 7 = bI (mY 1 q) 7 := by
      have := D 7 (by omega)
      rw [show i + 7 = 8 * (i / 8) + 7 by omega, bAt_item _ _ _ (by omega), hy] at this
      rcases hq with rfl | rfl | rfl
      · rw [show (markL 1 1).getD (2 * 7 + 1) 0 = 48 from rfl, cellB_f] at this; rw [this]; rfl
      · rw [show (markL 1 2).getD (2 * 7 + 1) 0 = 49 from rfl, cellB_t] at this; rw [this]; rfl
      · rw [show (markL 1 3).getD (2 * 7 + 1) 0 = 48 from rfl, cellB_f] at this; rw [this]; rfl
    have := kd_eq1 1 kd q (.inl rfl) hkd hq B5 B7
    subst this
    exact ⟨A, B, e1, by omega⟩
  · exfalso
    obtain ⟨i, rfl⟩ : ∃ i, a = 2 * i + 1 := ⟨a / 2, by omega⟩
    have E : ∀ r, r < 8 → cellB (eAt 1 l (i + r + 1)) = (markL 1 q).getD (2 * r + 1) 0 := fun r hr => by
      rw [← hc, show 2 * (i + r + 1) = 2 * i + 1 + (2 * r + 1) by omega]; exact hg _ (by omega)
    have D : ∀ r, r < 8 → cellB (bAt l (i + r)) = (markL 1 q).getD (2 * r) 0 := fun r hr => by
      rw [← ho, show 2 * (i + r) + 1 = 2 * i + 1 + 2 * r by omega]; exact hg _ (by omega)
    have E4 : eAt 1 l (i + 5) = true := by rw [← cellB_t, E 4 (by omega)]; rcases hq with rfl | rfl | rfl <;> rfl
    rcases hq with rfl | rfl | rfl
    · have E6 : eAt 1 l (i + 7) = true := by rw [← cellB_t, E 6 (by omega)]; rfl
      have E7 : eAt 1 l (i + 8) = false := by rw [← cellB_f, E 7 (by omega)]; rfl
      have D0 : bAt l i = true := by have := D 0 (by omega); rw [← cellB_t]; exact this
      obtain ⟨m7, r7⟩ := e1_false E7
      have hi8 : i % 8 = 2 := by
        by_cases h3 : (i + 8) % 8 = 2
        · omega
        · exfalso
          refine e1_true E6 ?_ (by omega)
          rw [show (i + 7) / 8 = (i + 8) / 8 by omega]
          exact m7
      obtain ⟨A, B, kd, j, e1, hkd, e2, e3⟩ := hmk _ m7
      rw [if_pos rfl] at e3
      subst e3
      have hpr := iat_pred l ((i + 8) / 8) ((itemsC 1 A).length + 1) (by omega) e2
      rw [hsp A B kd 1 e1 (by omega), show (i + 8) / 8 - 1 = i / 8 by omega, show (Chk.I 1 (.m kd)).getD 1 noI = rbI 0 from rfl] at hpr
      rw [show i = 8 * (i / 8) + 2 by omega, bAt_item _ _ _ (by omega), hpr] at D0
      exact absurd D0 (by decide)
    · have E5 : eAt 1 l (i + 6) = false := by rw [← cellB_f, E 5 (by omega)]; rfl
      have E6 : eAt 1 l (i + 7) = true := by rw [← cellB_t, E 6 (by omega)]; rfl
      obtain ⟨m5, r5⟩ := e1_false E5
      have h2 : (i + 6) % 8 = 2 := by
        by_cases h3 : (i + 6) % 8 = 2
        · exact h3
        · exfalso
          refine e1_true E4 ?_ (by omega)
          rw [show (i + 5) / 8 = (i + 6) / 8 by omega]
          exact m5
      refine e1_true E6 ?_ (by omega)
      rw [show (i + 7) / 8 = (i + 6) / 8 by omega]
      exact m5
    · have E5 : eAt 1 l (i + 6) = false := by rw [← cellB_f, E 5 (by omega)]; rfl
      have D4 : bAt l (i + 4) = false := by rw [← cellB_f, D 4 (by omega)]; rfl
      obtain ⟨m5, r5⟩ := e1_false E5
      have h2 : (i + 6) % 8 = 2 := by
        by_cases h3 : (i + 6) % 8 = 2
        · exact h3
        · exfalso
          refine e1_true E4 ?_ (by omega)
          rw [show (i + 5) / 8 = (i + 6) / 8 by omega]
          exact m5
      obtain ⟨A, B, kd, j, e1, hkd, e2, e3⟩ := hmk _ m5
      rw [if_pos rfl] at e3
      subst e3
      have hy : (iat l ((i + 6) / 8)).y = mY 1 kd := by
        have := iat_shift l ((i + 6) / 8) 0
        rw [Nat.add_zero, Nat.add_zero] at this
        rw [this, e2, hsp A B kd 2 e1 (by omega)]
        rfl
      rw [show i + 4 = 8 * ((i + 6) / 8) + 0 by omega, bAt_item _ _ _ (by omega), hy] at D4
      revert D4
      rcases hkd with rfl | rfl | rfl <;> decide
theorem mfm_get (q j : Nat) (h : j < 48) : (markL 2 q).getD j 0 = (mfmMk ++ mfmMk ++ mfmMk).getD j 0 := by
  unfold markL
  rw [if_neg (by omega), if_pos rfl, List.getD_eq_getElem?_getD, List.getD_eq_getElem?_getD, List.getElem?_append_left (by exact h)]
/-- MFM: a pattern fits at a mark alone -/
theorem mfm_fits (L : List Chk) (hL : ∀ x ∈ L, x.ok) (p : Bool) (hp : lastI p (itemsC 2 L) = p) (h0 : itemsC 2 L ≠ []) (q : Nat) (hq : f123 q) (a : Nat) (ha : a < 16 * (itemsC 2 L).length) (h : fitsU (cellsI 2 p (itemsC 2 L)) (markL 2 q) a = true) :
    ∃ A B, L = A ++ .m q :: B ∧ a = 16 * ((itemsC 2 A).length + 3) := by
  have hN : 0 < (itemsC 2 L).length := List.length_pos_iff.2 h0
  have hc := fun i => even_cell (f := 2) hN hp i
  have ho := fun i => odd_cell (f := 2) (p := p) hN i
  have hmk := fun k hk => mk_chunk 2 (.inr rfl) L hL k h0 hk
  have hsp : ∀ (A B : List Chk) (kd j : Nat), L = A ++ .m kd :: B → j < 7 → iat (itemsC 2 L) ((itemsC 2 A).length + j) = (Chk.I 2 (.m kd)).getD j noI := fun A B kd j e hj => iat_in (l := itemsC 2 L) (A := itemsC 2 A) (X := Chk.I 2 (.m kd)) (B := itemsC 2 B) (by rw [e, itemsC_split]) j (by exact hj)
  have hlen : (markL 2 q).length = 64 := by rcases hq with rfl | rfl | rfl <;> rfl
  have hg := fun j hj => fits_get h j (by rw [hlen]; exact hj)
  generalize hll : itemsC 2 L = l at *
  rcases Nat.mod_two_eq_zero_or_one a with he | he
  · obtain ⟨i, rfl⟩ : ∃ i, a = 2 * i := ⟨a / 2, by omega⟩
    have E : ∀ r, r < 32 → cellB (eAt 2 l (i + r)) = (markL 2 q).getD (2 * r) 0 := fun r hr => by
      rw [← hc, show 2 * (i + r) = 2 * i + 2 * r by omega]; exact hg _ (by omega)
    have D : ∀ r, r < 32 → cellB (bAt l (i + r)) = (markL 2 q).getD (2 * r + 1) 0 := fun r hr => by
      rw [← ho, show 2 * (i + r) + 1 = 2 * i + (2 * r + 1) by omega]; exact hg _ (by omega)
    have key : ∀ t, t < 3 → (iat l ((i + 8 * t + 5) / 8)).mk? = true ∧ (i + 8 * t + 5) % 8 = 5 := by
      intro t ht
      have ht3 : t = 0 ∨ t = 1 ∨ t = 2 := by omega
      refine e2_false (by omega) ?_ ?_ ?_
      · rw [show i + 8 * t + 5 = i + (8 * t + 5) by omega, ← cellB_f, E _ (by omega), mfm_get _ _ (by omega)]
        rcases ht3 with rfl | rfl | rfl <;> rfl
      · rw [show i + 8 * t + 5 - 1 = i + (8 * t + 4) by omega, ← cellB_f, D _ (by omega), mfm_get _ _ (by omega)]
        rcases ht3 with rfl | rfl | rfl <;> rfl
      · rw [show i + 8 * t + 5 = i + (8 * t + 5) by omega, ← cellB_f, D _ (by omega), mfm_get _ _ (by omega)]
        rcases ht3 with rfl | rfl | rfl <;> rfl
    obtain ⟨m0, r0⟩ := key 0 (by omega)
    obtain ⟨m1, _⟩ := key 1 (by omega)
    obtain ⟨m2, _⟩ := key 2 (by omega)
    have hk0 : (i + 8 * 0 + 5) / 8 = i / 8 := by omega
    have hk1 : (i + 8 * 1 + 5) / 8 = i / 8 + 1 := by omega
    have hk2 : (i + 8 * 2 + 5) / 8 = i / 8 + 2 := by omega
    rw [hk0] at m0
    rw [hk1] at m1
    rw [hk2] at m2
    obtain ⟨A, B, kd, j, e1, hkd, e2, e3⟩ := hmk _ m0
    rw [if_neg (by omega)] at e3
    have hj : j = 3 := by
      have : j = 3 ∨ j = 4 ∨ j = 5 := by omega
      rcases this with rfl | rfl | rfl
      · rfl
      · rw [iat_shift, e2, Nat.add_assoc, hsp A B kd 6 e1 (by omega)] at m2
        exact absurd m2 (by simp [Chk.I, runI, markI, rbI, Itm.mk?])
      · rw [iat_shift, e2, Nat.add_assoc, hsp A B kd 6 e1 (by omega)] at m1
        exact absurd m1 (by simp [Chk.I, runI, markI, rbI, Itm.mk?])
    subst hj
    have hy : (iat l (i / 8 + 3)).y = mY 2 kd := by
      rw [iat_shift, e2, Nat.add_assoc, hsp A B kd 6 e1 (by omega)]
      rfl
    rw [Nat.mod_eq_of_lt (by omega)] at e2
    have B5 : bI (mY 2 kd) 5 = bI (mY 2 q) 5 := by
      have := D 29 (by omega)
      rw [show i + 29 = 8 * (i / 8 + 3) + 5 by omega, bAt_item _ _ _ (by omega), hy] at this
      rcases hq with rfl | rfl | rfl
      · rw [show (markL 2 1).getD (2 * 29 + 1) 0 = 49 from rfl, cellB_t] at this; rw [this]; rfl
      · rw [show (markL 2 2).getD (2 * 29 + 1) 0 = 48 from rfl, cellB_f] at this; rw [this]; rfl
      · rw [show (markL 2 3).getD (2 * 29 + 1) 0 = 48 from rfl, cellB_f] at this; rw [this]; rfl
    have B7 : bI (mY 2 kd) 7 = bI (mY 2 q) 7 := by
      have := D 31 (by omega)
      rw [show i + 31 = 8 * (i / 8 + 3) + 7 by omega, bAt_item _ _ _ (by omega), hy] at this
      rcases hq with rfl | rfl | rfl
      · rw [show (markL 2 1).getD (2 * 31 + 1) 0 = 48 from rfl, cellB_f] at this; rw [this]; rfl
      · rw [show (markL 2 2).getD (2 * 31 + 1) 0 = 49 from rfl, cellB_t] at this; rw [this]; rfl
      · rw [show (markL 2 3).getD (2 * 31 + 1) 0 = 48 from rfl, cellB_f] at this; rw [this]; rfl
    have := kd_eq1 2 kd q (.inr rfl) hkd hq B5 B7
    subst this
    exact ⟨A, B, e1, by omega⟩
  · exfalso
    obtain ⟨i, rfl⟩ : ∃ i, a = 2 * i + 1 := ⟨a / 2, by omega⟩
    have E1 : eAt 2 l (i + 2) = false := by
      rw [← cellB_f, ← hc, show 2 * (i + 2) = 2 * i + 1 + 3 by omega, hg 3 (by omega), mfm_get _ _ (by omega)]; rfl
    have D1 : bAt l (i + 1) = false := by
      rw [← cellB_f, ← ho, show 2 * (i + 1) + 1 = 2 * i + 1 + 2 by omega, hg 2 (by omega), mfm_get _ _ (by omega)]; rfl
    have D2 : bAt l (i + 2) = false := by
      rw [← cellB_f, ← ho, show 2 * (i + 2) + 1 = 2 * i + 1 + 4 by omega, hg 4 (by omega), mfm_get _ _ (by omega)]; rfl
    have D5 : bAt l (i + 5) = false := by
      rw [← cellB_f, ← ho, show 2 * (i + 5) + 1 = 2 * i + 1 + 10 by omega, hg 10 (by omega), mfm_get _ _ (by omega)]; rfl
    obtain ⟨m2, r2⟩ := e2_false (by omega) E1 (by rw [show i + 2 - 1 = i + 1 by omega]; exact D1) D2
    obtain ⟨A, B, kd, j, e1, hkd, e2, e3⟩ := hmk _ m2
    rw [if_neg (by omega)] at e3
    have hb : bI (iat l ((i + 2) / 8 + 1)).y 0 = true := by
      rw [iat_shift, e2, Nat.add_assoc, hsp A B kd (j + 1) e1 (by omega)]
      have : j = 3 ∨ j = 4 ∨ j = 5 := by omega
      rcases this with rfl | rfl | rfl
      · show bI 161 0 = true
        decide
      · show bI 161 0 = true
        decide
      · rcases hkd with rfl | rfl | rfl <;> rfl
    rw [show i + 5 = 8 * ((i + 2) / 8 + 1) + 0 by omega, bAt_item _ _ _ (by omega), hb] at D5
    cases D5
/-- a pattern fits at its mark -/
theorem fits_mark (f : Nat) (hf : f = 1 ∨ f = 2) (A B : List Chk) (q : Nat) (p : Bool) : fitsU (cellsI f p (itemsC f (A ++ .m q :: B))) (markL f q) (16 * ((itemsC f A).length + (runI f).length)) = true := by
  have e : itemsC f (A ++ .m q :: B) = (itemsC f A ++ runI f) ++ (markI f q ++ itemsC f B) := by
    rw [itemsC_split]
    show itemsC f A ++ (runI f ++ markI f q) ++ itemsC f B = _
    simp only [List.append_assoc]
  have hPL : (itemsC f A ++ runI f).length = (itemsC f A).length + (runI f).length := List.length_append
  obtain ⟨P, hP⟩ : ∃ P, itemsC f A ++ runI f = P := ⟨_, rfl⟩
  rw [hP] at e hPL
  rw [e, cellsI_append, cellsI_append, ← markL_items f q hf, ← hPL]
  have hl := cellsI_len f p P
  generalize cellsI f p P = X at *
  generalize cellsI f (lastI (lastI p P) (markI f q)) (itemsC f B) = Z
  rw [← hl]
  refine fitsU_true fun j hj => ?_
  unfold cyc
  rw [Nat.mod_eq_of_lt (by rw [List.length_append, List.length_append]; omega), List.getD_eq_getElem?_getD, List.getElem?_append_right (by omega), List.getElem?_append_left (by omega), show X.length + j - X.length = j by omega, ← List.getD_eq_getElem?_getD]
end Go.Proofs.YtabmdbhbbmnkdaaDoor
