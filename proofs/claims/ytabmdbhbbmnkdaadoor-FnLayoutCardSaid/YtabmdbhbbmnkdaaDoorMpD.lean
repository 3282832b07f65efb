/-
  Marks on tracks, plain: the marks of a built track in FM or MFM.
-/
import Derived.Test.YtabmdbhbbmnkdaaDoorMpC
namespace Go.Proofs.YtabmdbhbbmnkdaaDoor
open Go Go.ChangeShapes Go.WideShapes Go.ChangeAt Go.RowKit lib
set_option linter.unusedVariables false
set_option linter.unusedSimpArgs false
set_option maxRecDepth 100000
def chW (f : Nat) (x : Chk) : Nat := (x.I f).length
theorem chW_pos (f : Nat) (x : Chk) : 1 ≤ chW f x := by
  cases x with
  | r y => exact Nat.le_refl 1
  | m q =>
    unfold chW
    show 1 ≤ (runI f ++ markI f q).length
    rw [List.length_append]
    have : 1 ≤ (runI f).length := by unfold runI; split <;> simp
    omega
theorem wsum_items (f : Nat) (A : List Chk) : wsum (chW f) A = (itemsC f A).length := by
  unfold wsum itemsC
  rw [List.length_flatMap]
  rfl
def mG (f n : Nat) (k q : Nat) : Mk := ⟨q, 16 * (k + (runI f).length), (16 * (k + (runI f).length) + (markL f q).length) % n⟩
theorem marks12 (f : Nat) (hf : f = 1 ∨ f = 2) (L : List Chk) (hL : ∀ x ∈ L, x.ok) (p : Bool) (hp : lastI p (itemsC f L) = p) (h0 : itemsC f L ≠ []) : marksK f (cellsI f p (itemsC f L)) 3 = scanC (chW f) (mG f (16 * (itemsC f L).length)) 0 L := by
  have hlen := cellsI_len f p (itemsC f L)
  have hml : ∀ q, f123 q → (markL f q).length = 16 * (markI f q).length := by
    intro q hq
    rcases hf with rfl | rfl <;> rcases hq with rfl | rfl | rfl <;> rfl
  refine marks_scan f _ L hL (chW f) (chW_pos f) _ (fun k q k' q' h => by show 16 * _ < 16 * _; omega) (fun q hq x => ?_) (fun q hq => ?_)
  · have hmem : ∀ a, a ∈ findU (cellsI f p (itemsC f L)) (markL f q) (16 * (itemsC f L).length) ↔ ∃ A B, L = A ++ .m q :: B ∧ a = 16 * ((itemsC f A).length + (runI f).length) := by
      intro a
      unfold findU
      rw [List.mem_filter, List.mem_range]
      constructor
      · rintro ⟨h1, h2⟩
        rcases hf with rfl | rfl
        · exact fm_fits L hL p hp h0 q hq a h1 h2
        · exact mfm_fits L hL p hp h0 q hq a h1 h2
      · rintro ⟨A, B, e, rfl⟩
        refine ⟨?_, by rw [e]; exact fits_mark f hf A B q p⟩
        have : (itemsC f L).length = (itemsC f A).length + ((runI f ++ markI f q).length) + (itemsC f B).length := by
          rw [e, itemsC_split, List.length_append, List.length_append]
          rfl
        rw [List.length_append] at this
        have : 1 ≤ (markI f q).length := by unfold markI; split <;> simp
        omega
    unfold foundU
    have hP : markP f q = markL f q := by unfold markP; rw [if_neg (by omega)]
    rw [hP, if_neg (show ¬ f = 3 by omega), hlen]
    constructor
    · intro hx
      split at hx
      · cases hx
      · rw [List.mem_map] at hx
        obtain ⟨a, ha, rfl⟩ := hx
        obtain ⟨A, B, e, rfl⟩ := (hmem a).1 ha
        exact ⟨A, B, e, by rw [wsum_items]; rfl⟩
    · rintro ⟨A, B, e, rfl⟩
      have : (itemsC f L).length = (itemsC f A).length + ((runI f ++ markI f q).length) + (itemsC f B).length := by
        rw [e, itemsC_split, List.length_append, List.length_append]
        rfl
      rw [List.length_append] at this
      rw [if_neg (by rw [hml q hq]; omega), List.mem_map]
      exact ⟨_, (hmem _).2 ⟨A, B, e, rfl⟩, by rw [wsum_items]; rfl⟩
  · unfold foundU
    have hP : markP f q = markL f q := by unfold markP; rw [if_neg (by omega)]
    rw [hP, if_neg (show ¬ f = 3 by omega)]
    split
    · exact List.Pairwise.nil
    · rw [List.pairwise_map]
      refine List.Pairwise.imp ?_ (List.Pairwise.filter _ List.pairwise_lt_range)
      intro a b h
      exact Nat.ne_of_lt h
/-- a track as chunks -/
def sectC (f g : Nat) (s : SS) : List Chk := (List.replicate g (fillY f)).map Chk.r ++ [.m 1] ++ (fieldL f 1 s.id s.bi).map Chk.r ++ [.r (fillY f), .r (fillY f)] ++ [.m s.kd] ++ (fieldL f s.kd s.dt.data.toList s.bd).map Chk.r
def trackC (f g : Nat) (l : List SS) : List Chk := l.flatMap (sectC f g) ++ (List.replicate g (fillY f)).map Chk.r
theorem items_r (f : Nat) (l : List UInt8) : itemsC f (l.map Chk.r) = l.map rbI := by
  unfold itemsC
  induction l with
  | nil => rfl
  | cons x r ih => rw [List.map_cons, List.flatMap_cons, ih]; rfl
theorem itemsC_append (f : Nat) (a b : List Chk) : itemsC f (a ++ b) = itemsC f a ++ itemsC f b := List.flatMap_append
theorem sect_items (f g : Nat) (s : SS) : itemsC f (sectC f g s) = sectI f g s := by
  unfold sectC sectI
  simp only [itemsC_append, items_r]
  have h1 : ∀ q, itemsC f [Chk.m q] = runI f ++ markI f q := fun q => by unfold itemsC; simp [Chk.I]
  have h2 : itemsC f [.r (fillY f), .r (fillY f)] = [fillY f, fillY f].map rbI := rfl
  rw [h1, h1, h2]
theorem trackC_items (f g : Nat) (l : List SS) : itemsC f (trackC f g l) = trackI f g l := by
  unfold trackC trackI
  rw [itemsC_append, items_r]
  congr 1
  induction l with
  | nil => rfl
  | cons x r ih => rw [List.flatMap_cons, List.flatMap_cons, itemsC_append, sect_items, ih]
theorem r_ok (l : List UInt8) : ∀ x ∈ l.map Chk.r, x.ok := by
  intro x hx
  rw [List.mem_map] at hx
  obtain ⟨y, _, rfl⟩ := hx
  trivial
theorem track_ok (f g : Nat) (l : List SS) : ∀ x ∈ trackC f g l, x.ok := by
  intro x hx
  unfold trackC at hx
  rcases List.mem_append.1 hx with h | h
  · rw [List.mem_flatMap] at h
    obtain ⟨s, _, hs⟩ := h
    unfold sectC at hs
    simp only [List.mem_append, List.mem_singleton] at hs
    rcases hs with ((((h | h) | h) | h) | h) | h
    · exact r_ok _ x h
    · subst h; exact .inl rfl
    · exact r_ok _ x h
    · exact r_ok [fillY f, fillY f] x h
    · subst h; exact s.kd123
    · exact r_ok _ x h
  · exact r_ok _ x h
def kindsC (L : List Chk) : List Nat := L.filterMap fun x => match x with | .r _ => none | .m q => some q
theorem kinds_r (l : List UInt8) : kindsC (l.map Chk.r) = [] := by
  unfold kindsC
  induction l with
  | nil => rfl
  | cons x r ih => rw [List.map_cons, List.filterMap_cons]; exact ih
theorem kinds_append (a b : List Chk) : kindsC (a ++ b) = kindsC a ++ kindsC b := List.filterMap_append
theorem track_kinds (f g : Nat) (l : List SS) : kindsC (trackC f g l) = l.flatMap fun s => [1, s.kd] := by
  unfold trackC
  rw [kinds_append, kinds_r, List.append_nil]
  induction l with
  | nil => rfl
  | cons s r ih =>
    rw [List.flatMap_cons, List.flatMap_cons, kinds_append, ih]
    congr 1
    unfold sectC
    simp only [kinds_append, kinds_r]
    rfl
end Go.Proofs.YtabmdbhbbmnkdaaDoor
