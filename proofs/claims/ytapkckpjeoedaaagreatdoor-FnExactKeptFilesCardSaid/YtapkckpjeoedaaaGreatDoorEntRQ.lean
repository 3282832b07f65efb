/-
  Disks of chains: which entries are valid: the reference's side, which only draws.
-/
import Derived.Test.YtapkckpjeoedaaaGreatDoorEntA
namespace Go.Proofs.YtapkckpjeoedaaaGreatDoor
open Go Go.ChangeShapes Go.WideShapes Go.ChangeAt Go.RowKit lib
set_option linter.unusedVariables false
set_option maxRecDepth 100000
theorem specValidQ_none (q : Nat) (nm : ByteArray) (f l : Int) (w : World) (hr : Rw w q 82 #[.string nm, .int .i64 f, .int .i64 l, .bool false, .bool false]) :
    Calls Tryz.prog 103 #[.pointer (some ⟨q, 0, none⟩)] w fun e w' => e = .returned (.bool (entryEqB nm f l false false)) ∧ ∃ m, w' = w.drewN m := by
  have c0 := hr.cell 0
  have c1 := hr.cell 1
  have c2 := hr.cell 2
  have c3 := hr.cell 3
  have c4 := hr.cell 4
  go_enter Tryz.func103, Tryz.ntmps103
  go_wp2
  go_ret
  exact ⟨rfl, 0, rfl⟩
theorem specValidQ_both (q : Nat) (nm : ByteArray) (f l : Int) (w : World) (hr : Rw w q 82 #[.string nm, .int .i64 f, .int .i64 l, .bool true, .bool true]) :
    Calls Tryz.prog 103 #[.pointer (some ⟨q, 0, none⟩)] w fun e w' => e = .returned (.bool false) ∧ ∃ m, w' = w.drewN m := by
  have c0 := hr.cell 0
  have c1 := hr.cell 1
  have c2 := hr.cell 2
  have c3 := hr.cell 3
  have c4 := hr.cell 4
  go_enter Tryz.func103, Tryz.ntmps103
  go_wp2
  go_quiet (fail)
  go_wp2
  go_ret
  exact ⟨rfl, _, rfl⟩
set_option maxHeartbeats 4000000 in
theorem specValidQ_one (q : Nat) (nm : ByteArray) (f l : Int) (us : Bool) (hnm : nm.size ≤ 9223372036854775807) (b1 b2 b3 : Bool) (h1 : b1 = true ↔ NameS nm) (h2 : (decide ((0 : Int) ≤ f) && decide (f ≤ 255)) = b2) (h3 : (decide ((0 : Int) ≤ l) && decide (l ≤ 512)) = b3) (w : World)
    (hr : Rw w q 82 #[.string nm, .int .i64 f, .int .i64 l, .bool us, .bool (!us)]) :
    Calls Tryz.prog 103 #[.pointer (some ⟨q, 0, none⟩)] w fun e w' => e = .returned (.bool (b1 && b2 && b3)) ∧ ∃ m, w' = w.drewN m := by
  have c0 := hr.cell 0
  have c1 := hr.cell 1
  have c2 := hr.cell 2
  have c3 := hr.cell 3
  have c4 := hr.cell 4
  have H1 := Lib.hid (fun w : World => specIsName_sym nm hnm b1 h1 w)
  clear h1 hr
  cases us <;> cases b1 <;> cases b2
  all_goals
    go_enter Tryz.func103, Tryz.ntmps103
    go_wp2
    go_quiet (first
      | (go_at_call 129; refine Calls.quiet_of_same (H1.out _))
      | (go_at_call 84; refine Calls.quiet_of_same (l00In_sym _ _ _ _)))
    go_wp2
    go_ret
    first
    | exact ⟨rfl, _, rfl⟩
    | exact ⟨congrArg (fun b => Ending.returned (Value.bool b)) h3, _, rfl⟩
theorem specValidQ_any (q : Nat) (nm : ByteArray) (f l : Int) (us de : Bool) (hnm : nm.size ≤ 9223372036854775807) (b : Bool) (hb : b = true ↔ validE nm f l us de) (w : World)
    (hr : Rw w q 82 #[.string nm, .int .i64 f, .int .i64 l, .bool us, .bool de]) :
    Calls Tryz.prog 103 #[.pointer (some ⟨q, 0, none⟩)] w fun e w' => e = .returned (.bool b) ∧ ∃ m, w' = w.drewN m := by
  open Classical in
  by_cases hud : us = de
  · subst hud
    cases us with
    | false =>
      have : b = entryEqB nm f l false false := by
        rw [Bool.eq_iff_iff, hb]
        unfold validE zeroE entryEqB
        simp
      rw [this]
      exact (specValidQ_none q nm f l w hr)
    | true =>
      have : b = false := by
        cases hbb : b with
        | false => rfl
        | true => exact absurd (hb.1 hbb) (by unfold validE zeroE; simp)
      rw [this]
      exact specValidQ_both q nm f l w hr
  · obtain rfl : de = !us := by cases us <;> cases de <;> simp_all
    have : b = (decide (NameS nm) && (decide ((0 : Int) ≤ f) && decide (f ≤ 255)) && (decide ((0 : Int) ≤ l) && decide (l ≤ 512))) := by
      rw [Bool.eq_iff_iff, hb]
      unfold validE zeroE
      cases us <;> simp [and_assoc]
    rw [this]
    exact specValidQ_one q nm f l us hnm _ _ _ (by simp) rfl rfl w hr
end Go.Proofs.YtapkckpjeoedaaaGreatDoor
