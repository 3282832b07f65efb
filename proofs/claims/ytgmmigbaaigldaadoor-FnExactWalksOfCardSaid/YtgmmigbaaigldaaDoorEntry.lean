/-
  Disks of chains: entries of the directory: which are valid.
-/
import Derived.Test.YtgmmigbaaigldaaDoorName
import Derived.Test.YtgmmigbaaigldaaDoorChainTop
namespace Go.Proofs.YtgmmigbaaigldaaDoor
open Go Go.ChangeShapes Go.WideShapes Go.ChangeAt Go.RowKit lib
set_option linter.unusedVariables false
set_option maxRecDepth 100000
/-- an entry -/
def entV (nm : ByteArray) (f l : Int) (us de : Bool) : Value := .agg #[.string nm, .int .i64 f, .int .i64 l, .bool us, .bool de]
def zeroE (nm : ByteArray) (f l : Int) (us de : Bool) : Prop := nm = ⟨#[]⟩ ∧ f = 0 ∧ l = 0 ∧ us = false ∧ de = false
def entryEqB (nm : ByteArray) (f l : Int) (us de : Bool) : Bool := decide (nm = ⟨#[]⟩ ∧ f = 0 ∧ l = 0 ∧ us = false ∧ de = false)
/-- a valid entry -/
def validE (nm : ByteArray) (f l : Int) (us de : Bool) : Prop := zeroE nm f l us de ∨ (us ≠ de ∧ NameS nm ∧ (0 ≤ f ∧ f ≤ 255) ∧ (0 ≤ l ∧ l ≤ 512))
@[go_sem] theorem eqGuardEnt : Tryd.prog.eqGuardType Tryd.prog.depth 77 = false := by kernel_rfl
@[go_sem high] theorem eqEntT (nm : ByteArray) (f l : Int) (us de : Bool) (w : World) : (Op.equalIn 10000 77 (.agg #[.string nm, .int .i64 f, .int .i64 l, .bool us, .bool de]) (.agg #[.string ⟨#[]⟩, .int .i64 0, .int .i64 0, .bool false, .bool false])).run Tryd.prog w = .ok (entryEqB nm f l us de) w := by
  have u3 := Tryd.underlying9
  have a3 := Tryd.isAgg9
  have z3 := Tryd.sizeOf9
  have u4 := Tryd.underlying2
  have a4 := Tryd.isAgg2
  have z4 := Tryd.sizeOf2
  have u5 := Tryd.underlying4
  have a5 := Tryd.isAgg4
  have z5 := Tryd.sizeOf4
  have hS : Tryd.prog.underlying 77 = some (.struct (Tryd.prog.fieldsOf 77)) := by kernel_rfl
  have hp : Tryd.prog.stoodInHeld 77 = false := by kernel_rfl
  rw [show (10000 : Nat) = 9999 + 1 from rfl, run_equalIn_agg w 9999 77 _ _ hS hp]
  simp only [Program.fieldsOf, Tryd.underlying77]
  go_simp
  unfold entryEqB
  have ht : (nm.toList = []) = (nm = ⟨#[]⟩) := by
    rw [← toList_iff nm ⟨#[]⟩, show (⟨#[]⟩ : ByteArray).toList = [] by rw [ByteArray.toList_eq]]
  simp only [ht]
  by_cases h1 : nm = ⟨#[]⟩ <;> by_cases h2 : f = 0 <;> by_cases h3 : l = 0 <;> cases us <;> cases de <;> simp [h1, h2, h3]
set_option maxHeartbeats 1000000 in
theorem implValid_any (nm : ByteArray) (f l : Int) (us de : Bool) (hnm : nm.size ≤ 9223372036854775807) (b : Bool) (hb : b = true ↔ validE nm f l us de) (w : World) :
    Calls Tryd.prog 99 #[entV nm f l us de] w fun e w' => e = .returned (.bool b) ∧ Below w.heap.size w w' := by
  unfold entV
  have hbx := (Below.refl w.heap.size w).alloc (Nat.le_refl _) (.cells #[.string nm, .int .i64 f, .int .i64 l, .bool us, .bool de] 77)
  by_cases hz : zeroE nm f l us de
  · have hf : entryEqB nm f l us de = true := by unfold entryEqB; simpa [zeroE] using hz
    obtain rfl : b = true := hb.2 (.inl hz)
    clear hb hz
    go_enter Tryd.func99, Tryd.ntmps99
    go_wp2
    go_ret
    exact ⟨rfl, hbx⟩
  · have hf : entryEqB nm f l us de = false := by unfold entryEqB; simpa [zeroE] using hz
    have hb' : b = true ↔ (us ≠ de ∧ NameS nm ∧ (0 ≤ f ∧ f ≤ 255) ∧ (0 ≤ l ∧ l ≤ 512)) := by rw [hb]; unfold validE; simp [hz]
    clear hb hz
    have HN := Lib.hid (fun (b1 : Bool) (h1 : b1 = true ↔ NameS nm) (w : World) => implIsName_any nm hnm b1 h1 w)
    by_cases hud : us = de
    · obtain rfl : b = false := by
        cases hbb : b with
        | false => rfl
        | true => exact absurd hud (hb'.1 hbb).1
      subst hud
      clear hb'
      cases us
      all_goals
        go_enter Tryd.func99, Tryd.ntmps99
        go_wp2
        go_ret
        exact ⟨rfl, hbx⟩
    · have hud2 : (us != de) = true := by simpa using hud
      by_cases hN : NameS nm
      · have HN1 := Lib.hid (HN.out true (by simpa using hN))
        by_cases hF : 0 ≤ f ∧ f ≤ 255
        · have hF1 : (decide ((0 : Int) ≤ f) && decide (f ≤ 255)) = true := by simp; omega
          have hL1 : b = (decide ((0 : Int) ≤ l) && decide (l ≤ 512)) := by
            rw [Bool.eq_iff_iff, hb']
            simp [hud, hN, hF]
          subst hL1
          clear hb' hN hF
          go_enter Tryd.func99, Tryd.ntmps99
          go_wp2_with (first
            | (go_at_call 54; refine (HN1.out _).mono ?_; rintro e w' ⟨rfl, rfl⟩)
            | (go_at_call 115; refine (isByte_any _ _).mono ?_; rw [hF1]; rintro e w' ⟨rfl, rfl⟩)
            | (go_at_call 36; refine (within_any _ _ _ _).mono ?_; rintro e w' ⟨rfl, rfl⟩))
          go_ret
          exact ⟨congrArg (fun b => Ending.returned (Value.bool b)) (show ((!us == de) && (decide ((0 : Int) ≤ l) && decide (l ≤ 512))) = (decide ((0 : Int) ≤ l) && decide (l ≤ 512)) by simp [hud]), hbx⟩
        · have hF1 : (decide ((0 : Int) ≤ f) && decide (f ≤ 255)) = false := by
            rw [Bool.eq_false_iff]
            intro h
            simp at h
            omega
          obtain rfl : b = false := by
            cases hbb : b with
            | false => rfl
            | true => exact absurd (hb'.1 hbb).2.2.1 hF
          clear hb' hN hF
          go_enter Tryd.func99, Tryd.ntmps99
          go_wp2_with (first
            | (go_at_call 54; refine (HN1.out _).mono ?_; rintro e w' ⟨rfl, rfl⟩)
            | (go_at_call 115; refine (isByte_any _ _).mono ?_; rw [hF1]; rintro e w' ⟨rfl, rfl⟩))
          go_ret
          exact ⟨rfl, hbx⟩
      · have HN1 := Lib.hid (HN.out false (by simpa using hN))
        obtain rfl : b = false := by
          cases hbb : b with
          | false => rfl
          | true => exact absurd (hb'.1 hbb).2.1 hN
        clear hb' hN
        go_enter Tryd.func99, Tryd.ntmps99
        go_wp2_with (go_at_call 54; refine (HN1.out _).mono ?_; rintro e w' ⟨rfl, rfl⟩)
        go_ret
        exact ⟨rfl, hbx⟩
theorem specValid_none (q : Nat) (nm : ByteArray) (f l : Int) (w : World) (hr : Rw w q 77 #[.string nm, .int .i64 f, .int .i64 l, .bool false, .bool false]) :
    Calls Tryd.prog 72 #[.pointer (some ⟨q, 0, none⟩)] w fun e w' => e = .returned (.bool (entryEqB nm f l false false)) ∧ w = w' := by
  have c0 := hr.cell 0
  have c1 := hr.cell 1
  have c2 := hr.cell 2
  have c3 := hr.cell 3
  have c4 := hr.cell 4
  go_enter Tryd.func72, Tryd.ntmps72
  go_wp2
  go_ret
  exact ⟨rfl, rfl⟩
theorem specValid_both (q : Nat) (nm : ByteArray) (f l : Int) (w : World) (hr : Rw w q 77 #[.string nm, .int .i64 f, .int .i64 l, .bool true, .bool true]) :
    Calls Tryd.prog 72 #[.pointer (some ⟨q, 0, none⟩)] w fun e w' => e = .returned (.bool false) ∧ Below w.heap.size w w' := by
  have c0 := hr.cell 0
  have c1 := hr.cell 1
  have c2 := hr.cell 2
  have c3 := hr.cell 3
  have c4 := hr.cell 4
  go_enter Tryd.func72, Tryd.ntmps72
  go_wp2
  go_quiet (fail)
  go_wp2
  go_ret
  exact ⟨rfl, (Below.refl _ _).drewN _⟩
theorem l00In_sym (a b c : Int) (w : World) : Calls Tryd.prog 32 #[.int .i64 a, .int .i64 b, .int .i64 c] w fun e w' => e = .returned (.bool (decide (b ≤ a) && decide (a ≤ c))) ∧ w' = w :=
  (l00In_any a b c w).mono fun e w' h => ⟨h.1, h.2.symm⟩
theorem specIsName_sym (s : ByteArray) (hs : s.size ≤ 9223372036854775807) (b : Bool) (hb : b = true ↔ NameS s) (w : World) : Calls Tryd.prog 52 #[.string s] w fun e w' => e = .returned (.bool b) ∧ w' = w :=
  (specIsName_any s hs b hb w).mono fun e w' h => ⟨h.1, h.2.symm⟩
set_option maxHeartbeats 4000000 in
theorem specValid_one (q : Nat) (nm : ByteArray) (f l : Int) (us : Bool) (hnm : nm.size ≤ 9223372036854775807) (b1 b2 b3 : Bool) (h1 : b1 = true ↔ NameS nm) (h2 : (decide ((0 : Int) ≤ f) && decide (f ≤ 255)) = b2) (h3 : (decide ((0 : Int) ≤ l) && decide (l ≤ 512)) = b3) (w : World)
    (hr : Rw w q 77 #[.string nm, .int .i64 f, .int .i64 l, .bool us, .bool (!us)]) :
    Calls Tryd.prog 72 #[.pointer (some ⟨q, 0, none⟩)] w fun e w' => e = .returned (.bool (b1 && b2 && b3)) ∧ Below w.heap.size w w' := by
  have c0 := hr.cell 0
  have c1 := hr.cell 1
  have c2 := hr.cell 2
  have c3 := hr.cell 3
  have c4 := hr.cell 4
  have H1 := Lib.hid (fun w : World => specIsName_sym nm hnm b1 h1 w)
  clear h1 hr
  cases us <;> cases b1 <;> cases b2
  all_goals
    go_enter Tryd.func72, Tryd.ntmps72
    go_wp2
    go_quiet (first
      | (go_at_call 52; refine Calls.quiet_of_same (H1.out _))
      | (go_at_call 32; refine Calls.quiet_of_same (l00In_sym _ _ _ _)))
    go_wp2
    go_ret
    first
    | exact ⟨rfl, (Below.refl _ _).drewN _⟩
    | exact ⟨congrArg (fun b => Ending.returned (Value.bool b)) h3, (Below.refl _ _).drewN _⟩
theorem specValid_any (q : Nat) (nm : ByteArray) (f l : Int) (us de : Bool) (hnm : nm.size ≤ 9223372036854775807) (b : Bool) (hb : b = true ↔ validE nm f l us de) (w : World)
    (hr : Rw w q 77 #[.string nm, .int .i64 f, .int .i64 l, .bool us, .bool de]) :
    Calls Tryd.prog 72 #[.pointer (some ⟨q, 0, none⟩)] w fun e w' => e = .returned (.bool b) ∧ Below w.heap.size w w' := by
  open Classical in
  by_cases hud : us = de
  · subst hud
    cases us with
    | false =>
      have : b = entryEqB nm f l false false := by
        rw [Bool.eq_iff_iff, hb]
        unfold validE zeroE entryEqB
        simp
      rw [this]
      exact (specValid_none q nm f l w hr).mono fun e w' ⟨h1, h2⟩ => ⟨h1, h2 ▸ Below.refl _ _⟩
    | true =>
      have : b = false := by
        cases hbb : b with
        | false => rfl
        | true => exact absurd (hb.1 hbb) (by unfold validE zeroE; simp)
      rw [this]
      exact specValid_both q nm f l w hr
  · obtain rfl : de = !us := by cases us <;> cases de <;> simp_all
    have : b = (decide (NameS nm) && (decide ((0 : Int) ≤ f) && decide (f ≤ 255)) && (decide ((0 : Int) ≤ l) && decide (l ≤ 512))) := by
      rw [Bool.eq_iff_iff, hb]
      unfold validE zeroE
      cases us <;> simp [and_assoc]
    rw [this]
    exact specValid_one q nm f l us hnm _ _ _ (by simp) rfl rfl w hr
end Go.Proofs.YtgmmigbaaigldaaDoor
