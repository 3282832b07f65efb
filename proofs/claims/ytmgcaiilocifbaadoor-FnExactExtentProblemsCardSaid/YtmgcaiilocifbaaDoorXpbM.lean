/-
  Disks of extents: the problems of an entry's length: the program's side.
-/
import Derived.Test.YtmgcaiilocifbaaDoorXpbN
import Derived.Deep.DeepCutAuto
namespace Go.Proofs.YtmgcaiilocifbaaDoor
open Go Go.ChangeShapes Go.WideShapes Go.ChangeAt Go.RowKit lib
set_option linter.unusedVariables false
set_option linter.unusedSimpArgs false
set_option maxRecDepth 100000
set_option maxHeartbeats 4000000 in
theorem implBadLen_any {w : World} {p g n z E t N c : Nat} {u : Nat → UInt8} {e : XE} {A A1 : Option Addr} {ca c1 Bd : Nat} {l : List Nat} {en : Nat → XE} {a : Nat → Option Addr} {cc : Nat → Nat} (h : XW w p g n z E t N c u) (hbl : e.bl.length ≤ 4) (her : ERow Bd w A1 l.length c1 (l.map fun j => (en j, a j, cc j))) (hl : l.length ≤ 32)
    (b : Bool) (hb : b = true ↔ badLenX e.bl.length e.no e.tl z (moreX e.no (fun j => (en j).no) l)) :
    Calls Tryd.prog 45 #[.pointer (some ⟨p, 0, none⟩), e.val A ca, .slice A1 l.length c1] w fun r w' => r = .returned (.bool b) ∧ Below w.heap.size w w' := by
  obtain ⟨st, nm, no, tl, bl⟩ := e
  unfold XE.val
  simp only at hbl hb ⊢
  generalize bl.length = m at *
  have hr := Rw.new w 56 #[.int .i64 st, .string nm, .int .i64 no, .int .i64 tl, .slice A m ca]
  have hal := (Below.refl w.heap.size w).alloc (Nat.le_refl _) (.cells #[.int .i64 st, .string nm, .int .i64 no, .int .i64 tl, .slice A m ca] 56)
  have hs0 : (w.alloc (.cells #[.int .i64 st, .string nm, .int .i64 no, .int .i64 tl, .slice A m ca] 56)).heap.size = w.heap.size + 1 := World.size_alloc _ _
  have y1 := (h.below hal).c1
  have HER := Lib.hid (her.below hal)
  have HAL := Lib.hid hal
  obtain ⟨mo, hmo⟩ : ∃ mo : Bool, mo = true ↔ moreX no (fun j => (en j).no) l := ⟨@decide _ (Classical.propDecidable _), @decide_eq_true_iff _ (Classical.propDecidable _)⟩
  have HCO := Lib.hid (fun (W : World) (hW : Below (w.heap.size + 1) (w.alloc (.cells #[.int .i64 st, .string nm, .int .i64 no, .int .i64 tl, .slice A m ca] 56)) W) => containsLen_any (HER.out.below (by rw [hs0]; exact hW)) hl (show w.heap.size < W.heap.size by have := hW.size; omega) ((hW.cell (p := ⟨w.heap.size, 2, none⟩) (by show w.heap.size < w.heap.size + 1; omega)).trans (hr.cell 2)) mo hmo)
  unfold badLenX at hb
  rw [← hmo] at hb
  have HB := Lib.hid hb
  clear h her hb hmo hal
  have q2 := hr.cell 2; have q3 := hr.cell 3; have q4 := hr.cell 4
  clear hr
  go_enter Tryd.func45, Tryd.ntmps45
  go_upto_region 1 with fail
  generalize w.alloc (.cells #[.int .i64 st, .string nm, .int .i64 no, .int .i64 tl, .slice A m ca] 56) = W0 at *
  have hdr : ∀ nq, Below (w.heap.size + 1) W0 (W0.drewN nq) := fun nq => (Below.refl _ _).drewN nq
  have HDR := Lib.hid hdr
  have HS0 := Lib.hid hs0
  clear hdr hs0
  by_cases hm : m = 0
  · subst hm
    by_cases h1 : no = 0
    · subst h1
      by_cases h2 : tl = 0
      · subst h2
        have hbb : b = mo := by rw [Bool.eq_iff_iff, HB.out]; simp
        subst hbb
        go_wp2_with fail
        go_quiet ((fail))
        go_wp2_with (go_at_call 78; refine (HCO.out _ (HDR.out _)).mono ?_; rintro r w1 ⟨rfl, hb1⟩)
        go_ret
        exact ⟨rfl, (HAL.out.drewN _).trans (hb1.mono (by have := HAL.out.size; exact this))⟩
      · have hbb : b = true := by rw [HB.out]; simp [h2]
        have e1 : (tl == 0) = false := by simp [h2]
        have e1' : (tl = 0) = False := by simp [h2]
        subst hbb
        clear h2
        go_wp2_with fail
        go_ret
        exact ⟨rfl, HAL.out⟩
    · have hbb : b = true := by rw [HB.out]; simp [h1]
      have e1 : (no == 0) = false := by simp [h1]
      have e1' : (no = 0) = False := by simp [h1]
      subst hbb
      clear h1
      go_wp2_with fail
      go_ret
      exact ⟨rfl, HAL.out⟩
  · have m1 : ((m : Int) == 0) = false := by simp; omega
    have m1' : ((m : Int) = 0) = False := by simp; omega
    have m2 : decide ((0 : Int) < (m : Int)) = true := by simp; omega
    have m3 : (0 : Int) < (m : Int) := by omega
    by_cases h2 : tl = 0
    · subst h2
      have hbb : b = true := by rw [HB.out]; simp; omega
      subst hbb
      go_wp2_with fail
      go_ret
      exact ⟨rfl, HAL.out⟩
    · have e1 : (tl == 0) = false := by simp [h2]
      have e1' : (tl = 0) = False := by simp [h2]
      by_cases hm4 : m = 4
      · subst hm4
        by_cases h3 : tl = (z : Int)
        · have e2 : (tl == (z : Int)) = true := by simp [h3]
          have e2' : (tl = (z : Int)) = True := by simp [h3]
          have hbb : b = false := by
            cases hbb : b with
            | false => rfl
            | true => have := HB.out.1 hbb; simp [h2, h3] at this; omega
          subst hbb
          clear h3 h2
          go_wp2_with fail
          go_quiet ((fail))
          go_wp2_with fail
          go_ret
          exact ⟨rfl, HAL.out.drewN _⟩
        · have e2 : (tl == (z : Int)) = false := by simp [h3]
          have e2' : (tl = (z : Int)) = False := by simp [h3]
          have hbb : b = mo := by rw [Bool.eq_iff_iff, HB.out]; simp [h2, h3]
          subst hbb
          clear h3 h2
          go_wp2_with fail
          go_quiet ((fail))
          go_wp2_with (go_at_call 78; refine (HCO.out _ (HDR.out _)).mono ?_; rintro r w1 ⟨rfl, hb1⟩)
          go_ret
          exact ⟨rfl, (HAL.out.drewN _).trans (hb1.mono (by have := HAL.out.size; exact this))⟩
      · have e2 : ((m : Int) == 4) = false := by simp; omega
        have e2' : ((m : Int) = 4) = False := by simp; omega
        have hbb : b = mo := by rw [Bool.eq_iff_iff, HB.out]; simp [h2, hm, hm4]
        subst hbb
        clear h2 hm4
        go_wp2_with fail
        go_quiet ((fail))
        go_wp2_with (go_at_call 78; refine (HCO.out _ (HDR.out _)).mono ?_; rintro r w1 ⟨rfl, hb1⟩)
        go_ret
        exact ⟨rfl, (HAL.out.drewN _).trans (hb1.mono (by have := HAL.out.size; exact this))⟩
end Go.Proofs.YtmgcaiilocifbaaDoor
