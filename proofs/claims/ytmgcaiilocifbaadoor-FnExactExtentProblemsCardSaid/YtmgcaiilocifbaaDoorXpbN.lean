/-
  Disks of extents: the problems of an entry's number and length: the program's side.
-/
import Derived.Test.YtmgcaiilocifbaaDoorXpbT
import Derived.Deep.DeepCutAuto
namespace Go.Proofs.YtmgcaiilocifbaaDoor
open Go Go.ChangeShapes Go.WideShapes Go.ChangeAt Go.RowKit lib
set_option linter.unusedVariables false
set_option linter.unusedSimpArgs false
set_option maxRecDepth 100000
theorem flat5 {α : Type} {f : α → List Value} (hf : ∀ x, (f x).length = 5) : ∀ (L : List α) (i j : Nat) (x : α), L[i]? = some x → j < 5 → (L.flatMap f)[i * 5 + j]? = (f x)[j]?
  | [], i, j, x, h, _ => by simp at h
  | y :: L, 0, j, x, h, hj => by
    simp only [List.getElem?_cons_zero, Option.some.injEq] at h
    subst h
    rw [List.flatMap_cons, Nat.zero_mul, Nat.zero_add, List.getElem?_append_left (by rw [hf]; exact hj)]
  | y :: L, i + 1, j, x, h, hj => by
    rw [List.getElem?_cons_succ] at h
    rw [List.flatMap_cons, List.getElem?_append_right (by rw [hf]; omega), hf, show (i + 1) * 5 + j - 5 = i * 5 + j by omega]
    exact flat5 hf L i j x h hj
/-- the cells of entry i of a row -/
theorem eRow_at {B c : Nat} {w : World} {A : Option Addr} {l : List Nat} {en : Nat → XE} {a : Nat → Option Addr} {cc : Nat → Nat} (h : ERow B w A l.length c (l.map fun j => (en j, a j, cc j))) {i : Nat} (hi : i < l.length) :
    ∃ g, A = some ⟨g, 0, none⟩ ∧ g < w.heap.size ∧ w.cell? ⟨g, i * 5, none⟩ = some (.int .i64 (en (l.getD i 0)).st) ∧ w.cell? ⟨g, i * 5 + 1, none⟩ = some (.string (en (l.getD i 0)).nm) ∧ w.cell? ⟨g, i * 5 + 2, none⟩ = some (.int .i64 (en (l.getD i 0)).no) ∧ w.cell? ⟨g, i * 5 + 3, none⟩ = some (.int .i64 (en (l.getD i 0)).tl) ∧ w.cell? ⟨g, i * 5 + 4, none⟩ = some (.slice (a (l.getD i 0)) (en (l.getD i 0)).bl.length (cc (l.getD i 0))) := by
  unfold ERow at h
  obtain ⟨g, cap, hv, hlt, _⟩ := h.form (by omega)
  injection hv with hA _ hC
  subst hA hC
  have hs := own_sl h
  have hx : (l.map fun j => (en j, a j, cc j))[i]? = some (en (l.getD i 0), a (l.getD i 0), cc (l.getD i 0)) := by
    rw [List.getElem?_map, List.getElem?_eq_getElem hi, List.getD_eq_getElem?_getD, List.getElem?_eq_getElem hi]
    rfl
  have key : ∀ j, j < 5 → ∀ v, (((en (l.getD i 0)).cells (a (l.getD i 0)) (cc (l.getD i 0)))[j]? = some v) → w.cell? ⟨g, i * 5 + j, none⟩ = some v := by
    intro j hj v hv
    obtain ⟨b, o, e1, _, hc⟩ := hs (i * 5 + j) (by omega)
    simp only [Option.some.injEq, Addr.mk.injEq, and_true] at e1
    obtain ⟨rfl, rfl⟩ := e1
    rw [Nat.zero_add] at hc
    rw [hc]
    dsimp only
    rw [List.getD_eq_getElem?_getD, flat5 (f := fun p : XE × Option Addr × Nat => p.1.cells p.2.1 p.2.2) (fun _ => rfl) _ i j _ hx hj, hv]
    rfl
  have hg : g < w.heap.size := by
    obtain ⟨b, o, e1, hb, _⟩ := hs (i * 5) (by omega)
    simp only [Option.some.injEq, Addr.mk.injEq, and_true] at e1
    omega
  exact ⟨g, rfl, hg, key 0 (by omega) _ rfl, key 1 (by omega) _ rfl, key 2 (by omega) _ rfl, key 3 (by omega) _ rfl, key 4 (by omega) _ rfl⟩
/-- a wrong number among the extents of a file -/
def badNoX (no : Int) (k : Nat) (f : Nat → Int) (l : List Nat) : Prop := (∃ i, i < l.length ∧ l.getD i 0 < k ∧ f (l.getD i 0) = no) ∨ ¬ (no = 0 ∨ ∃ i, i < l.length ∧ f (l.getD i 0) = no - 1)
/-- some extent has a greater number -/
def moreX (no : Int) (f : Nat → Int) (l : List Nat) : Prop := ∃ i, i < l.length ∧ no < f (l.getD i 0)
/-- a wrong number of blocks or a wrong tail -/
def badLenX (m : Nat) (no tl : Int) (z : Nat) (mo : Prop) : Prop := (m = 0 ∧ (no ≠ 0 ∨ tl ≠ 0)) ∨ (0 < m ∧ tl = 0) ∨ (¬ (m = 4 ∧ tl = z) ∧ mo)
set_option maxHeartbeats 4000000 in
theorem implBadNo_any {w : World} {e : XE} {A A1 A2 : Option Addr} {ca k c1 c2 Bd : Nat} {l : List Nat} {en : Nat → XE} {a : Nat → Option Addr} {cc : Nat → Nat} (he : 0 ≤ e.no ∧ e.no ≤ 31) (her : ERow Bd w A1 l.length c1 (l.map fun j => (en j, a j, cc j))) (hna : NatR Bd w A2 c2 l) (hl : l.length ≤ 32)
    (b : Bool) (hb : b = true ↔ badNoX e.no k (fun j => (en j).no) l) :
    Calls Tryd.prog 44 #[e.val A ca, .int .i64 k, .slice A1 l.length c1, .slice A2 l.length c2] w fun r w' => r = .returned (.bool b) ∧ Below w.heap.size w w' := by
  obtain ⟨st, nm, no, tl, bl⟩ := e
  unfold XE.val
  simp only at he hb ⊢
  generalize bl.length = m at *
  have hr := Rw.new w 56 #[.int .i64 st, .string nm, .int .i64 no, .int .i64 tl, .slice A m ca]
  have hal := (Below.refl w.heap.size w).alloc (Nat.le_refl _) (.cells #[.int .i64 st, .string nm, .int .i64 no, .int .i64 tl, .slice A m ca] 56)
  have HER := Lib.hid (her.below hal)
  have HNA := Lib.hid (hna.below hal)
  have HB := Lib.hid hb
  have HAL := Lib.hid hal
  have hs0 : (w.alloc (.cells #[.int .i64 st, .string nm, .int .i64 no, .int .i64 tl, .slice A m ca] 56)).heap.size = w.heap.size + 1 := World.size_alloc _ _
  have HS0 := Lib.hid hs0
  clear her hna hb hal hs0
  go_enter Tryd.func44, Tryd.ntmps44
  go_upto_region 1 with fail
  generalize w.alloc (.cells #[.int .i64 st, .string nm, .int .i64 no, .int .i64 tl, .slice A m ca] 56) = W0 at *
  have hc2 := hr.cell 2
  have HR := Lib.hid hr
  clear hr
  go_wp2_with fail
  go_loopw [9, 10, 11, 17] (fun s9 s10 s11 s17 wr => ∃ (i : Nat) (v : Bool), i ≤ l.length ∧ s17 = .int .i64 i ∧ s9 = .bool v ∧ (v = true ↔ (no = 0 ∨ ∃ i', i' < i ∧ (en (l.getD i' 0)).no = no - 1)) ∧ (∀ i', i' < i → ¬ (l.getD i' 0 < k ∧ (en (l.getD i' 0)).no = no)) ∧ Below W0.heap.size W0 wr) (fun _ _ _ i _ => l.length - (intOf i).toNat)
  case atStart => exact ⟨0, (no == 0), Nat.zero_le _, rfl, rfl, by simp, fun i' h => absurd h (by omega), Below.refl _ _⟩
  case round =>
    obtain ⟨i, v, hi, rfl, rfl, hv, hnot, hb⟩ := hrel
    have hwr := hb.size
    have HNOT := Lib.hid hnot
    have HV := Lib.hid hv
    clear hnot hv
    have hlw : w.heap.size < W0.heap.size := by have := HS0.out; omega
    have hrr := (HR.out.below hb hlw).cell 2
    by_cases hlt : i < l.length
    · obtain ⟨g, rfl, hg, k0, k1, k2, k3, k4⟩ := eRow_at (HER.out.below hb) hlt
      obtain ⟨b2, o2, rfl, hb2l, hcj⟩ := (HNA.out.below hb).sl i hlt
      dsimp only at hcj
      obtain ⟨j, hj⟩ : ∃ j, l.getD i 0 = j := ⟨_, rfl⟩
      rw [hj] at k0 k1 k2 k3 k4 hcj
      obtain ⟨ej, hej⟩ : ∃ ej, en j = ej := ⟨_, rfl⟩
      rw [hej] at k0 k1 k2 k3 k4
      have hw1 : IntKind.i64.wrap (no - 1) = no - 1 := by rw [IntKind.wrap_i64]; omega
      have HJ := Lib.hid hj
      have HEJ := Lib.hid hej
      clear hj hej
      have hq2 := (Rw.new wr 56 #[.int .i64 ej.st, .string ej.nm, .int .i64 ej.no, .int .i64 ej.tl, .slice (a j) ej.bl.length (cc j)]).cell 2
      have hbn := hb.alloc hwr (.cells #[.int .i64 ej.st, .string ej.nm, .int .i64 ej.no, .int .i64 ej.tl, .slice (a j) ej.bl.length (cc j)] 56)
      have hrn := (HR.out.below hbn hlw).cell 2
      have HBN := Lib.hid hbn
      have hcj5 := (((Below.refl wr.heap.size wr).alloc (Nat.le_refl _) (.cells #[.int .i64 ej.st, .string ej.nm, .int .i64 ej.no, .int .i64 ej.tl, .slice (a j) ej.bl.length (cc j)] 56)).cell (p := ⟨b2, o2 + i, none⟩) hb2l).trans hcj
      go_upto_region 5 with fail
      generalize wr.alloc (.cells #[.int .i64 ej.st, .string ej.nm, .int .i64 ej.no, .int .i64 ej.tl, .slice (a j) ej.bl.length (cc j)] 56) = W5 at *
      have HLO : Hid (badNoX no k (fun j => (en j).no) l ↔ (∃ i, i < l.length ∧ l.getD i 0 < k ∧ (en (l.getD i 0)).no = no) ∨ ¬ (no = 0 ∨ ∃ i, i < l.length ∧ (en (l.getD i 0)).no = no - 1)) := Lib.hid Iff.rfl
      have hnext : ∀ i', i' < i + 1 → i' < i ∨ i' = i := fun i' h => by omega
      have HNX := Lib.hid hnext
      clear hnext k0 k1 k3 k4 hb
      by_cases hjk : j < k
      · have e1 : decide ((j : Int) < (k : Int)) = true := by simp; omega
        have e1' : ((j : Int) < (k : Int)) = True := by simp; omega
        by_cases hee : ej.no = no
        · have e2 : (ej.no == no) = true := by simp [hee]
          have e2' : (ej.no = no) = True := by simp [hee]
          have hbt : b = true := HB.out.2 (HLO.out.2 (.inl ⟨i, hlt, by rw [HJ.out]; exact hjk, by rw [HJ.out, HEJ.out]; exact hee⟩))
          subst hbt
          clear hee hjk
          go_wp2_with fail
          go_ret
          exact ⟨rfl, HAL.out.trans (HBN.out.mono (by omega))⟩
        · have e2 : (ej.no == no) = false := by simp [hee]
          have e2' : (ej.no = no) = False := by simp [hee]
          have hn2 : ∀ i', i' < i + 1 → ¬ (l.getD i' 0 < k ∧ (en (l.getD i' 0)).no = no) := fun i' h => by
            rcases HNX.out i' h with h | rfl
            · exact HNOT.out i' h
            · rw [HJ.out, HEJ.out]; exact fun q => hee q.2
          have HN2 := Lib.hid hn2
          clear hn2 hee
          cases v with
          | true =>
            have HV2 := Lib.hid (show true = true ↔ (no = 0 ∨ ∃ i', i' < i + 1 ∧ (en (l.getD i' 0)).no = no - 1) from ⟨fun _ => (HV.out.1 rfl).imp id fun ⟨i', h1, h2⟩ => ⟨i', by omega, h2⟩, fun _ => rfl⟩)
            go_wp2_with fail
            go_roundw
            case rel => exact ⟨i + 1, true, by omega, by go_num, rfl, HV2.out, HN2.out, HBN.out⟩
            case measure => simp [intOf]; omega
          | false =>
            obtain ⟨v2, hv2⟩ : ∃ v2, v2 = (ej.no == no - 1) := ⟨_, rfl⟩
            have hv3 : v2 = true ↔ ej.no = no - 1 := by rw [hv2]; simp
            have HV2 := Lib.hid (show v2 = true ↔ (no = 0 ∨ ∃ i', i' < i + 1 ∧ (en (l.getD i' 0)).no = no - 1) from by
              rw [hv3]
              constructor
              · exact fun h => .inr ⟨i, by omega, by rw [HJ.out, HEJ.out]; exact h⟩
              · rintro (h | ⟨i', h1, h2⟩)
                · exact absurd (HV.out.2 (.inl h)) (by decide)
                · rcases HNX.out i' h1 with h | rfl
                  · exact absurd (HV.out.2 (.inr ⟨i', h, h2⟩)) (by decide)
                  · rw [HJ.out, HEJ.out] at h2; exact h2)
            have HV4 := Lib.hid hv2
            clear hv3 hv2
            go_wp2_with fail
            go_roundw
            case rel => exact ⟨i + 1, v2, by omega, by go_num, by rw [HV4.out], HV2.out, HN2.out, HBN.out⟩
            case measure => simp [intOf]; omega
      · have e1 : decide ((j : Int) < (k : Int)) = false := by simp; omega
        have e1' : ((j : Int) < (k : Int)) = False := by simp; omega
        have hn2 : ∀ i', i' < i + 1 → ¬ (l.getD i' 0 < k ∧ (en (l.getD i' 0)).no = no) := fun i' h => by
          rcases HNX.out i' h with h | rfl
          · exact HNOT.out i' h
          · rw [HJ.out]; exact fun q => hjk q.1
        have HN2 := Lib.hid hn2
        clear hn2 hjk
        cases v with
        | true =>
          have HV2 := Lib.hid (show true = true ↔ (no = 0 ∨ ∃ i', i' < i + 1 ∧ (en (l.getD i' 0)).no = no - 1) from ⟨fun _ => (HV.out.1 rfl).imp id fun ⟨i', h1, h2⟩ => ⟨i', by omega, h2⟩, fun _ => rfl⟩)
          go_wp2_with fail
          go_roundw
          case rel => exact ⟨i + 1, true, by omega, by go_num, rfl, HV2.out, HN2.out, HBN.out⟩
          case measure => simp [intOf]; omega
        | false =>
          obtain ⟨v2, hv2⟩ : ∃ v2, v2 = (ej.no == no - 1) := ⟨_, rfl⟩
          have hv3 : v2 = true ↔ ej.no = no - 1 := by rw [hv2]; simp
          have HV2 := Lib.hid (show v2 = true ↔ (no = 0 ∨ ∃ i', i' < i + 1 ∧ (en (l.getD i' 0)).no = no - 1) from by
            rw [hv3]
            constructor
            · exact fun h => .inr ⟨i, by omega, by rw [HJ.out, HEJ.out]; exact h⟩
            · rintro (h | ⟨i', h1, h2⟩)
              · exact absurd (HV.out.2 (.inl h)) (by decide)
              · rcases HNX.out i' h1 with h | rfl
                · exact absurd (HV.out.2 (.inr ⟨i', h, h2⟩)) (by decide)
                · rw [HJ.out, HEJ.out] at h2; exact h2)
          have HV4 := Lib.hid hv2
          clear hv3 hv2
          go_wp2_with fail
          go_roundw
          case rel => exact ⟨i + 1, v2, by omega, by go_num, by rw [HV4.out], HV2.out, HN2.out, HBN.out⟩
          case measure => simp [intOf]; omega
    · obtain rfl : i = l.length := by omega
      have hbv : b = !v := by
        rw [Bool.eq_iff_iff, HB.out]
        unfold badNoX
        simp only [Bool.not_eq_true', ← Bool.not_eq_true, HV.out]
        constructor
        · rintro (⟨i, h1, h2⟩ | h)
          · exact absurd h2 (HNOT.out i h1)
          · exact h
        · exact .inr
      subst hbv
      go_wp2_with fail
      go_ret
      exact ⟨rfl, HAL.out.trans (hb.mono (by omega))⟩
theorem badLen1_any {w : World} {e : XE} {A : Option Addr} {ca q : Nat} {no : Int} (hq : q < w.heap.size) (h2 : w.cell? ⟨q, 2, none⟩ = some (.int .i64 no)) :
    Calls Tryd.prog 79 #[e.val A ca, .pointer (some ⟨q, 0, none⟩)] w fun r w' => r = .returned (.bool (decide (no < e.no))) ∧ Below w.heap.size w w' := by
  obtain ⟨st, nm, no2, tl, bl⟩ := e
  unfold XE.val
  simp only
  generalize bl.length = m
  have hr := (Rw.new w 56 #[.int .i64 st, .string nm, .int .i64 no2, .int .i64 tl, .slice A m ca]).cell 2
  have hal := (Below.refl w.heap.size w).alloc (Nat.le_refl _) (.cells #[.int .i64 st, .string nm, .int .i64 no2, .int .i64 tl, .slice A m ca] 56)
  have h3 := (hal.cell (p := ⟨q, 2, none⟩) hq).trans h2
  have HAL := Lib.hid hal
  clear h2 hal
  go_enter Tryd.func79, Tryd.ntmps79
  go_upto_region 1 with fail
  generalize w.alloc (.cells #[.int .i64 st, .string nm, .int .i64 no2, .int .i64 tl, .slice A m ca] 56) = W0 at *
  go_wp2_with fail
  go_ret
  exact ⟨rfl, HAL.out⟩
theorem indexLen_any {w : World} {A1 : Option Addr} {q c1 Bd : Nat} {l : List Nat} {en : Nat → XE} {a : Nat → Option Addr} {cc : Nat → Nat} {no : Int} (her : ERow Bd w A1 l.length c1 (l.map fun j => (en j, a j, cc j))) (hl : l.length ≤ 32) (hq : q < w.heap.size) (h2 : w.cell? ⟨q, 2, none⟩ = some (.int .i64 no)) (b : Bool) (hb : b = true ↔ moreX no (fun j => (en j).no) l) :
    Calls Tryd.prog 102 #[.slice A1 l.length c1, .func (.func 79) #[] #[.pointer (some ⟨q, 0, none⟩)]] w fun r w' => ∃ i : Int, r = .returned (.int .i64 i) ∧ decide (0 ≤ i) = b ∧ Below w.heap.size w w' := by
  have HER := Lib.hid her
  have HB := Lib.hid hb
  have HLO : Hid (moreX no (fun j => (en j).no) l ↔ ∃ i, i < l.length ∧ no < (en (l.getD i 0)).no) := Lib.hid Iff.rfl
  have H2 := Lib.hid (fun (W : World) (hW : Below w.heap.size w W) => (hW.cell (p := ⟨q, 2, none⟩) hq).trans h2)
  clear her hb h2
  go_enter Tryd.func102, Tryd.ntmps102
  go_wp2_with fail
  go_loopw [5, 8] (fun s5 s8 wr => ∃ i : Nat, i ≤ l.length ∧ s8 = .int .i64 i ∧ (∀ i', i' < i → ¬ no < (en (l.getD i' 0)).no) ∧ Below w.heap.size w wr) (fun _ i _ => l.length - (intOf i).toNat)
  case atStart => exact ⟨0, Nat.zero_le _, rfl, fun i' h => absurd h (by omega), Below.refl _ _⟩
  case round =>
    obtain ⟨i, hi, rfl, hnot, hb⟩ := hrel
    have HNOT := Lib.hid hnot
    have hwr := hb.size
    clear hnot
    by_cases hlt : i < l.length
    · obtain ⟨g, rfl, hg, k0, k1, k2, k3, k4⟩ := eRow_at (HER.out.below hb) hlt
      obtain ⟨j, hj⟩ : ∃ j, l.getD i 0 = j := ⟨_, rfl⟩
      rw [hj] at k0 k1 k2 k3 k4
      obtain ⟨ej, hej⟩ : ∃ ej, en j = ej := ⟨_, rfl⟩
      rw [hej] at k0 k1 k2 k3 k4
      have HJ := Lib.hid hj
      have HEJ := Lib.hid hej
      have HV := Lib.hid (badLen1_any (e := ej) (A := a j) (ca := cc j) (show q < wr.heap.size by omega) (H2.out _ hb))
      unfold XE.val at HV
      clear hj hej
      by_cases hlt2 : no < ej.no
      · rw [show decide (no < ej.no) = true by simp [hlt2]] at HV
        have hbt : b = true := HB.out.2 (HLO.out.2 ⟨i, hlt, by rw [HJ.out, HEJ.out]; exact hlt2⟩)
        subst hbt
        clear hlt2
        go_wp2_with (go_at_call 79; refine HV.out.mono ?_; rintro r w1 ⟨rfl, hb1⟩)
        go_ret
        exact ⟨_, rfl, by simp, hb.trans (hb1.mono hwr)⟩
      · rw [show decide (no < ej.no) = false by simp; omega] at HV
        have hn2 : ∀ i', i' < i + 1 → ¬ no < (en (l.getD i' 0)).no := fun i' h => by
          rcases Nat.lt_succ_iff_lt_or_eq.1 h with h | rfl
          · exact HNOT.out i' h
          · rw [HJ.out, HEJ.out]; exact hlt2
        have HN2 := Lib.hid hn2
        clear hlt2 hn2
        go_wp2_with (go_at_call 79; refine HV.out.mono ?_; rintro r w1 ⟨rfl, hb1⟩)
        go_roundw
        case rel => exact ⟨i + 1, by omega, by go_num, fun i' h => Int.not_lt.2 (HN2.out i' h), hb.trans (hb1.mono hwr)⟩
        case measure => simp [intOf]; omega
    · obtain rfl : i = l.length := by omega
      have hbf : b = false := by
        cases hbb : b with
        | false => rfl
        | true =>
          obtain ⟨i, h1, h2⟩ := HLO.out.1 (HB.out.1 hbb)
          exact absurd h2 (HNOT.out i h1)
      subst hbf
      go_wp2
      go_ret
      exact ⟨_, rfl, by simp, hb⟩
theorem containsLen_any {w : World} {A1 : Option Addr} {q c1 Bd : Nat} {l : List Nat} {en : Nat → XE} {a : Nat → Option Addr} {cc : Nat → Nat} {no : Int} (her : ERow Bd w A1 l.length c1 (l.map fun j => (en j, a j, cc j))) (hl : l.length ≤ 32) (hq : q < w.heap.size) (h2 : w.cell? ⟨q, 2, none⟩ = some (.int .i64 no)) (b : Bool) (hb : b = true ↔ moreX no (fun j => (en j).no) l) :
    Calls Tryd.prog 78 #[.slice A1 l.length c1, .func (.func 79) #[] #[.pointer (some ⟨q, 0, none⟩)]] w fun r w' => r = .returned (.bool b) ∧ Below w.heap.size w w' := by
  have HI := Lib.hid (indexLen_any her hl hq h2 b hb)
  clear her h2 hb
  go_enter Tryd.func78, Tryd.ntmps78
  go_wp2_with (go_at_call 102; refine HI.out.mono ?_; rintro r w1 ⟨i, rfl, hi, hb1⟩)
  go_ret
  subst hi
  exact ⟨rfl, hb1⟩
end Go.Proofs.YtmgcaiilocifbaaDoor
