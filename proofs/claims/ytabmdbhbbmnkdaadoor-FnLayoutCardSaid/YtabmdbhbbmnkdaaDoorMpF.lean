/-
  Marks on tracks, plain: the marks of a built track in the group code.
-/
import Derived.Test.YtabmdbhbbmnkdaaDoorMpE
namespace Go.Proofs.YtabmdbhbbmnkdaaDoor
open Go Go.ChangeShapes Go.WideShapes Go.ChangeAt Go.RowKit lib
set_option linter.unusedVariables false
set_option linter.unusedSimpArgs false
set_option maxRecDepth 100000
theorem markP3 (q : Nat) : markP 3 q = gcrY (mY 3 q) := by
  unfold markP markL
  rw [if_pos rfl, if_neg (by omega), if_neg (by omega)]
  exact List.drop_left (l₁ := ten1)
theorem sync_lt (c : List UInt8) (n : Nat) : (syncU c n).Pairwise fun x y => x.1 < y.1 := by
  unfold syncU
  rw [List.pairwise_flatMap]
  have hs : ∀ a x, x ∈ syncA c a → x.1 = a := by
    intro a x hx
    unfold syncA at hx
    split at hx
    · rw [List.mem_singleton] at hx
      rw [hx]
    · cases hx
  refine ⟨fun a _ => ?_, List.Pairwise.imp ?_ List.pairwise_lt_range⟩
  · unfold syncA
    split
    · exact List.pairwise_singleton _ _
    · exact List.Pairwise.nil
  · intro a b h x hx y hy
    rw [hs a x hx, hs b y hy]
    exact h
theorem kd_eq3 (a b : Nat) (h1 : f123 a) (h2 : f123 b) (h : ∀ i, i < 10 → (gcrY (mY 3 a)).getD i 0 = (gcrY (mY 3 b)).getD i 0) : a = b := by
  rcases h1 with rfl | rfl | rfl <;> rcases h2 with rfl | rfl | rfl <;> first | rfl | (exfalso; have h5 := h 5 (by omega); have h6 := h 6 (by omega); have h7 := h 7 (by omega); have h8 := h 8 (by omega); have h9 := h 9 (by omega); revert h5 h6 h7 h8 h9; decide)
def gG (n : Nat) (k q : Nat) : Mk := ⟨q, k + 6, (k + 40) % n⟩
theorem marks3 (y : UInt8) (L : List Chk) (hL : ∀ x ∈ L, x.ok) (hP : Pre (.r y :: L)) : marksK 3 (cellsG (.r y :: L)) 3 = scanC gW (gG (cellsG (.r y :: L)).length) 0 L := by
  have hok : ∀ x ∈ Chk.r y :: L, x.ok := fun x hx => by
    rcases List.mem_cons.1 hx with rfl | h
    · trivial
    · exact hL x h
  have hsy := sync_iff (.r y :: L) hok hP
  have hn : wsum gW (.r y :: L) = 10 + wsum gW L := by simp [wsum, gW]
  have hlen : (cellsG (.r y :: L)).length = 10 + wsum gW L := by rw [← hn, wsum_cells]
  have hfu : ∀ q, foundU 3 (cellsG (.r y :: L)) q = (syncU (cellsG (.r y :: L)) (cellsG (.r y :: L)).length).flatMap fun s => if fitsU (cellsG (.r y :: L)) (gcrY (mY 3 q)) (s.1 + s.2) then [⟨q, s.1, (s.1 + s.2 + 10) % (cellsG (.r y :: L)).length⟩] else [] := by
    intro q
    unfold foundU
    rw [markP3, gcrY_len, if_neg (by omega), if_pos rfl]
  refine marks_scan 3 _ L hL gW gW_pos _ (fun k q k' q' h => by show k + 6 < k' + 6; omega) (fun q hq x => ?_) (fun q hq => ?_)
  · rw [hfu, List.mem_flatMap]
    constructor
    · rintro ⟨⟨a, l⟩, hs, hx⟩
      obtain ⟨A, B, q', e, rfl, rfl⟩ := (hsy a l).1 hs
      have hq' : f123 q' := hok (.m q') (by rw [e]; simp)
      obtain ⟨h1, h2, h3, h4, h5, h6⟩ := sync_cells _ hP A B q' hq' e
      split at hx
      · next hf =>
        rw [List.mem_singleton] at hx
        have : q' = q := kd_eq3 q' q hq' hq fun i hi => by
          have := fits_get hf i (by rw [gcrY_len]; exact hi)
          rw [← this, ← h6 i hi]
          simp only
          congr 1
          omega
        subst this
        cases A with
        | nil => cases e
        | cons a A =>
          rw [List.cons_append] at e
          injection e with e1 e2
          subst e1
          have hw : wsum gW (.r y :: A) = 10 + wsum gW A := by simp [wsum, gW]
          refine ⟨A, B, e2, ?_⟩
          rw [hx, hw]
          unfold gG
          rw [show 10 + wsum gW A - 4 = wsum gW A + 6 by omega]
          show (⟨q', wsum gW A + 6, (wsum gW A + 6 + 24 + 10) % _⟩ : Mk) = _
          rw [show wsum gW A + 6 + 24 + 10 = wsum gW A + 40 by omega]
      · cases hx
    · rintro ⟨A, B, e, rfl⟩
      have e' : Chk.r y :: L = (.r y :: A) ++ .m q :: B := by rw [e]; rfl
      have hw : wsum gW (.r y :: A) = 10 + wsum gW A := by simp [wsum, gW]
      obtain ⟨h1, h2, h3, h4, h5, h6⟩ := sync_cells _ hP _ B q hq e'
      refine ⟨(wsum gW (.r y :: A) - 4, 24), (hsy _ _).2 ⟨_, B, q, e', rfl, rfl⟩, ?_⟩
      have hf : fitsU (cellsG (.r y :: L)) (gcrY (mY 3 q)) (wsum gW (.r y :: A) - 4 + 24) = true := fitsU_true fun j hj => by
        rw [gcrY_len] at hj
        rw [← h6 j hj]
        congr 1
        omega
      rw [if_pos hf, List.mem_singleton]
      unfold gG
      rw [hw, show 10 + wsum gW A - 4 = wsum gW A + 6 by omega]
      show _ = (⟨q, wsum gW A + 6, (wsum gW A + 6 + 24 + 10) % _⟩ : Mk)
      rw [show wsum gW A + 6 + 24 + 10 = wsum gW A + 40 by omega]
  · rw [hfu, List.pairwise_flatMap]
    refine ⟨fun s _ => ?_, List.Pairwise.imp ?_ (sync_lt _ _)⟩
    · split
      · exact List.pairwise_singleton _ _
      · exact List.Pairwise.nil
    · intro s t h x hx z hz
      split at hx
      · split at hz
        · rw [List.mem_singleton] at hx hz
          rw [hx, hz]
          exact Nat.ne_of_lt h
        · cases hz
      · cases hx
/-! ### the track -/
theorem cellsG_append (a b : List Chk) : cellsG (a ++ b) = cellsG a ++ cellsG b := List.flatMap_append
theorem cells_r (l : List UInt8) : cellsG (l.map Chk.r) = gcrL l := by
  unfold cellsG gcrL
  induction l with
  | nil => rfl
  | cons x r ih => rw [List.map_cons, List.flatMap_cons, List.flatMap_cons, ih]; rfl
theorem wBytes3 (s : WS) (l : List UInt8) : (wBytes 3 s l).2 = s.2 ++ cellsG (l.map Chk.r) := by
  rw [cells_r]
  show s.2 ++ encF3 3 s.1 l = _
  rfl
theorem wMark3 (k : Nat) (s : WS) : (wMark 3 k s).2 = s.2 ++ cellsG [.m k] := by
  have e : cellsG [.m k] = ten1 ++ (ten1 ++ gcrY (mY 3 k)) := by
    unfold cellsG
    rw [List.flatMap_cons, List.flatMap_nil, List.append_nil]
    show ten1 ++ ten1 ++ gcrY (mY 3 k) = _
    rw [List.append_assoc]
  rw [e, ← List.append_assoc]
  rfl
theorem wSect3 (g : Nat) (w : WS) (s : SS) : (wSect 3 g w s).2 = w.2 ++ cellsG (sectC 3 g s) := by
  unfold wSect sectC
  simp only [wBytes3, wMark3, cellsG_append, List.append_assoc]
  rfl
theorem track3 (g : Nat) (l : List SS) : trackL 3 g l = cellsG (trackC 3 g l) := by
  unfold trackL trackC
  rw [wBytes3, cellsG_append]
  congr 1
  have key : ∀ (l : List SS) (w : WS), (l.foldl (wSect 3 g) w).2 = w.2 ++ cellsG (l.flatMap (sectC 3 g)) := by
    intro l
    induction l with
    | nil => intro w; simp [cellsG]
    | cons s r ih => intro w; rw [List.foldl_cons, ih, wSect3, List.flatMap_cons, cellsG_append, List.append_assoc]
  rw [key]
  rfl
def preB : Bool → List Chk → Prop
  | _, [] => True
  | _, .r y :: r => preB (decide (y = 85)) r
  | b, .m _ :: r => b = true ∧ preB false r
theorem preB_pre : ∀ (L : List Chk) (b : Bool), preB b L → ∀ A B q, L = A ++ .m q :: B → (A = [] ∧ b = true) ∨ ∃ A', A = A' ++ [.r 85]
  | [], b, _, A, B, q, e => by simp at e
  | .r y :: r, b, h, A, B, q, e => by
    cases A with
    | nil => cases e
    | cons a A =>
      rw [List.cons_append] at e
      injection e with e1 e2
      subst e1
      rcases preB_pre r _ h A B q e2 with ⟨rfl, h2⟩ | ⟨A', rfl⟩
      · have : y = 85 := by simpa using h2
        subst this
        exact .inr ⟨[], rfl⟩
      · exact .inr ⟨.r y :: A', rfl⟩
  | .m y :: r, b, h, A, B, q, e => by
    cases A with
    | nil => exact .inl ⟨rfl, h.1⟩
    | cons a A =>
      rw [List.cons_append] at e
      injection e with e1 e2
      subst e1
      rcases preB_pre r _ h.2 A B q e2 with ⟨rfl, h2⟩ | ⟨A', rfl⟩
      · cases h2
      · exact .inr ⟨.m y :: A', rfl⟩
theorem preB_r (X : List Chk) (hX : ∀ b, preB b X) : ∀ (l : List UInt8) (b : Bool), preB b (l.map Chk.r ++ X)
  | [], b => hX b
  | y :: r, b => preB_r X hX r _
theorem preB_fill (X : List Chk) (hX : preB true X) : ∀ (g : Nat) (b : Bool), 1 ≤ g → preB b ((List.replicate g 85).map Chk.r ++ X)
  | 0, _, h => by omega
  | 1, b, _ => hX
  | g + 2, b, _ => preB_fill X hX (g + 1) true (by omega)
theorem preB_sect (g : Nat) (hg : 1 ≤ g) (s : SS) (X : List Chk) (hX : ∀ b, preB b X) (b : Bool) : preB b (sectC 3 g s ++ X) := by
  unfold sectC
  simp only [List.append_assoc]
  refine preB_fill _ ?_ g b hg
  refine ⟨rfl, preB_r _ (fun b => ?_) _ _⟩
  exact ⟨rfl, preB_r _ hX _ _⟩
/-- ahead of each mark of a track lies a filler -/
theorem pre_track (g : Nat) (hg : 1 ≤ g) (l : List SS) : Pre (trackC 3 g l) := by
  have hX : ∀ b, preB b ((List.replicate g (fillY 3)).map Chk.r) := fun b => by
    have := preB_r [] (fun _ => trivial) (List.replicate g (fillY 3)) b
    rwa [List.append_nil] at this
  have h : ∀ l : List SS, ∀ b, preB b (l.flatMap (sectC 3 g) ++ (List.replicate g (fillY 3)).map Chk.r) := by
    intro l
    induction l with
    | nil => intro b; exact hX b
    | cons s r ih =>
      intro b
      rw [List.flatMap_cons, List.append_assoc]
      exact preB_sect g hg s _ ih b
  intro A B q e
  rcases preB_pre _ false (h l false) A B q e with ⟨_, h2⟩ | h2
  · cases h2
  · exact h2
/-! ### all formats -/
theorem track_split (f g : Nat) (hg : 1 ≤ g) (l : List SS) : ∃ L, trackC f g l = .r (fillY f) :: L := by
  obtain ⟨g', rfl⟩ : ∃ g', g = g' + 1 := ⟨g - 1, by omega⟩
  unfold trackC
  cases l with
  | nil => exact ⟨_, rfl⟩
  | cons s r => exact ⟨_, rfl⟩
theorem last_fill (g : Nat) (hg : 1 ≤ g) (X : List Itm) (p : Bool) (y : UInt8) : lastI p (X ++ (List.replicate g y).map rbI) = bI y 7 := by
  obtain ⟨g', rfl⟩ : ∃ g', g = g' + 1 := ⟨g - 1, by omega⟩
  rw [List.replicate_succ', List.map_append, ← List.append_assoc, lastI_append]
  rfl
/-- the marks of a built track, by their kinds -/
theorem track_marks (f g : Nat) (hf : f123 f) (hg : 1 ≤ g) (l : List SS) : (marksK f (trackL f g l) 3).map Mk.kd = l.flatMap fun s => [1, s.kd] := by
  have hok := track_ok f g l
  rw [← track_kinds f g l]
  have h12 : f = 1 ∨ f = 2 → (marksK f (trackL f g l) 3).map Mk.kd = kindsC (trackC f g l) := by
    intro hf
    have hit := trackC_items f g l
    have h0 : itemsC f (trackC f g l) ≠ [] := by
      obtain ⟨L, e⟩ := track_split f g hg l
      rw [e]
      simp [itemsC, Chk.I]
    have hlast : ∀ p, lastI p (itemsC f (trackC f g l)) = bI (fillY f) 7 := fun p => by
      rw [hit]
      unfold trackI
      exact last_fill g hg _ p _
    have hc : trackL f g l = cellsI f (bI (fillY f) 7) (itemsC f (trackC f g l)) := by
      rw [track_items f g hf hg, hit]
      rcases hf with rfl | rfl
      · cases e : trackI 1 g l with
        | nil => rfl
        | cons a r => rfl
      · rfl
    rw [hc, marks12 f hf (trackC f g l) hok _ (hlast _) h0]
    exact scan_kd _ _ (fun k q => rfl) _ _
  rcases hf with rfl | rfl | rfl
  · exact h12 (.inl rfl)
  · exact h12 (.inr rfl)
  · obtain ⟨L, e⟩ := track_split 3 g hg l
    have hp := pre_track g hg l
    rw [e] at hok hp
    rw [track3, e]
    rw [marks3 _ L (fun x hx => hok x (List.mem_cons_of_mem _ hx)) hp]
    rw [scan_kd _ _ (fun k q => rfl)]
    rfl
end Go.Proofs.YtabmdbhbbmnkdaaDoor
