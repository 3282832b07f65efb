/-
  Disks of chains: a spare name: SpareName, both sides.
-/
import Derived.Test.YtgmmigbaaigldaaDoorSpareTop
import Derived.Test.YtgmmigbaaigldaaDoorChainTop
namespace Go.Proofs.YtgmmigbaaigldaaDoor
open Go Go.ChangeShapes Go.WideShapes Go.ChangeAt Go.RowKit lib
set_option linter.unusedVariables false
set_option maxRecDepth 100000
open Classical in
/-- the code of SpareName -/
noncomputable def spCode (n : Nat) (s : Nat → ByteArray) (pre : ByteArray) : Int := if opens n s then if NameS pre ∧ pre.size ≤ 6 then if spGo n (s 0).size (joinU (s 0).size s) (entsN n) pre 100 0 = none then 5 else 0 else 1 else openCode n s
open Classical in
/-- its text -/
noncomputable def spTxt (n : Nat) (s : Nat → ByteArray) (pre : ByteArray) : ByteArray := if opens n s then if NameS pre ∧ pre.size ≤ 6 then (spGo n (s 0).size (joinU (s 0).size s) (entsN n) pre 100 0).getD ⟨#[]⟩ else ⟨#[]⟩ else ⟨#[]⟩
set_option maxHeartbeats 1000000 in
theorem implSpareName {w : World} {n c : Nat} {A : Option Addr} {s : Nat → ByteArray} (nm : ByteArray) (hnm : nm.size ≤ 1048576) (hs : Sl w w.heap.size A n (fun i => .string (s i))) (hsz : ∀ i, i < n → (s i).size ≤ 9223372036854775807) (hn : n ≤ c) (hn2 : n ≤ 9223372036854775807) :
    Calls Tryd.prog 25 #[.slice A n c, .string nm] w fun r w' => r = .returned (.tuple #[.string (spTxt n s nm), .int .i64 (spCode n s nm)]) ∧ Below w.heap.size w w' := by
  have HO := Lib.hid (implOpen hs hsz hn hn2)
  by_cases ho : opens n s
  · obtain ⟨f1, f2, f3, f4, f5, f6⟩ := walk_fit ho.1
    have HL := Lib.hid ho
    by_cases hN : NameS nm
    · have HN := Lib.hid (fun w : World => implIsName_any nm (by omega) true (by simpa using hN) w)
      by_cases h6 : nm.size ≤ 6
      · have e2 : spCode n s nm = if spGo n (s 0).size (joinU (s 0).size s) (entsN n) nm 100 0 = none then 5 else 0 := by unfold spCode; rw [if_pos ho, if_pos ⟨hN, h6⟩]
        have e3 : spTxt n s nm = (spGo n (s 0).size (joinU (s 0).size s) (entsN n) nm 100 0).getD ⟨#[]⟩ := by unfold spTxt; rw [if_pos ho, if_pos ⟨hN, h6⟩]
        rw [e2, e3]
        have h6i : ¬ (nm.size : Int) > 6 := by omega
        obtain ⟨z, hz⟩ : ∃ z, (s 0).size = z := ⟨_, rfl⟩
        rw [hz] at f2 f3 f5 f6 ⊢
        have HZ := Lib.hid hz
        have F6 := Lib.hid f6
        obtain ⟨R, hR⟩ : ∃ R, spGo n z (joinU z s) (entsN n) nm 100 0 = R := ⟨_, rfl⟩
        have HR := Lib.hid hR
        rw [hR]
        clear ho hs hsz hz f6 e2 e3 hR hN
        cases R with
        | none =>
          go_enter Tryd.func25, Tryd.ntmps25
          go_wp2_with (first
            | (go_at_call 35; refine HO.out.mono ?_; rintro r w1 ⟨h1, _⟩; obtain ⟨p, rfl, ow⟩ := h1 HL.out; rw [HZ.out] at ow; obtain ⟨g, cc, hc, hcap, hb1, hp, hg⟩ := ow)
            | (go_at_call 54; refine (HN.out _).mono ?_; rintro e w' ⟨rfl, rfl⟩)
            | (go_at_call 55; refine (implSpare_any nm h6 hc f3 hcap f4 rfl F6.out).mono ?_; rw [HR.out]; rintro r w2 ⟨_, h3, hb2⟩; obtain rfl := h3 rfl))
          go_ret2
          exact ⟨rfl, hb1.trans (hb2.mono hb1.size)⟩
        | some x =>
          go_enter Tryd.func25, Tryd.ntmps25
          go_wp2_with (first
            | (go_at_call 35; refine HO.out.mono ?_; rintro r w1 ⟨h1, _⟩; obtain ⟨p, rfl, ow⟩ := h1 HL.out; rw [HZ.out] at ow; obtain ⟨g, cc, hc, hcap, hb1, hp, hg⟩ := ow)
            | (go_at_call 54; refine (HN.out _).mono ?_; rintro e w' ⟨rfl, rfl⟩)
            | (go_at_call 55; refine (implSpare_any nm h6 hc f3 hcap f4 rfl F6.out).mono ?_; rw [HR.out]; rintro r w2 ⟨h3, _, hb2⟩; obtain rfl := h3 x rfl))
          go_ret2
          exact ⟨rfl, hb1.trans (hb2.mono hb1.size)⟩
      · rw [show spCode n s nm = 1 by unfold spCode; rw [if_pos ho, if_neg (fun q => h6 q.2)], show spTxt n s nm = ⟨#[]⟩ by unfold spTxt; rw [if_pos ho, if_neg (fun q => h6 q.2)]]
        have h6i : (nm.size : Int) > 6 := by omega
        have HZ := Lib.hid (rfl : (s 0).size = (s 0).size)
        clear ho hs hsz hN f6
        go_enter Tryd.func25, Tryd.ntmps25
        go_wp2_with (first
          | (go_at_call 35; refine HO.out.mono ?_; rintro r w1 ⟨h1, _⟩; obtain ⟨p, rfl, ow⟩ := h1 HL.out; rw [HZ.out] at ow; obtain ⟨g, cc, hc, hcap, hb1, hp, hg⟩ := ow)
          | (go_at_call 54; refine (HN.out _).mono ?_; rintro e w' ⟨rfl, rfl⟩))
        go_ret2
        exact ⟨rfl, hb1⟩
    · rw [show spCode n s nm = 1 by unfold spCode; rw [if_pos ho, if_neg (fun q => hN q.1)], show spTxt n s nm = ⟨#[]⟩ by unfold spTxt; rw [if_pos ho, if_neg (fun q => hN q.1)]]
      have HN := Lib.hid (fun w : World => implIsName_any nm (by omega) false (by simpa using hN) w)
      have HZ := Lib.hid (rfl : (s 0).size = (s 0).size)
      clear ho hs hsz hN f6
      go_enter Tryd.func25, Tryd.ntmps25
      go_wp2_with (first
        | (go_at_call 35; refine HO.out.mono ?_; rintro r w1 ⟨h1, _⟩; obtain ⟨p, rfl, ow⟩ := h1 HL.out; rw [HZ.out] at ow; obtain ⟨g, cc, hc, hcap, hb1, hp, hg⟩ := ow)
        | (go_at_call 54; refine (HN.out _).mono ?_; rintro e w' ⟨rfl, rfl⟩))
      go_ret2
      exact ⟨rfl, hb1⟩
  · have hne := openCode_ne n s
    have HL := Lib.hid ho
    rw [show spCode n s nm = openCode n s by unfold spCode; rw [if_neg ho], show spTxt n s nm = ⟨#[]⟩ by unfold spTxt; rw [if_neg ho]]
    obtain ⟨code, hcode⟩ : ∃ code, openCode n s = code := ⟨_, rfl⟩
    rw [hcode] at hne ⊢
    have HCD := Lib.hid hcode
    clear ho hs hsz hcode
    rcases hne with rfl | rfl
    all_goals
      go_enter Tryd.func25, Tryd.ntmps25
      go_wp2_with (go_at_call 35; refine HO.out.mono ?_; rintro r w1 ⟨_, h1⟩; have h2 := h1 HL.out; rw [HCD.out] at h2; obtain ⟨rfl, hb1⟩ := h2)
      go_ret2
      exact ⟨rfl, hb1⟩
set_option maxHeartbeats 1000000 in
theorem specSpareName {w : World} {n c : Nat} {A : Option Addr} {s : Nat → ByteArray} (nm : ByteArray) (hnm : nm.size ≤ 1048576) (hs : Sl w w.heap.size A n (fun i => .string (s i))) (hsz : ∀ i, i < n → (s i).size ≤ 9223372036854775807) (hn : n ≤ c) (hn2 : n ≤ 9223372036854775807) :
    Calls Tryd.prog 24 #[.slice A n c, .string nm] w fun r w' => r = .returned (.tuple #[.string (spTxt n s nm), .int .i64 (spCode n s nm)]) ∧ Below w.heap.size w w' := by
  have HO := Lib.hid (specOpen hs hsz hn hn2)
  by_cases ho : opens n s
  · obtain ⟨f1, f2, f3, f4, f5, f6⟩ := walk_fit ho.1
    have HL := Lib.hid ho
    by_cases hN : NameS nm
    · have HN := Lib.hid (fun w : World => specIsName_any nm (by omega) true (by simpa using hN) w)
      by_cases h6 : nm.size ≤ 6
      · have e2 : spCode n s nm = if spGo n (s 0).size (joinU (s 0).size s) (entsN n) nm 100 0 = none then 5 else 0 := by unfold spCode; rw [if_pos ho, if_pos ⟨hN, h6⟩]
        have e3 : spTxt n s nm = (spGo n (s 0).size (joinU (s 0).size s) (entsN n) nm 100 0).getD ⟨#[]⟩ := by unfold spTxt; rw [if_pos ho, if_pos ⟨hN, h6⟩]
        rw [e2, e3]
        have h6i : ¬ (nm.size : Int) > 6 := by omega
        obtain ⟨z, hz⟩ : ∃ z, (s 0).size = z := ⟨_, rfl⟩
        rw [hz] at f2 f3 f5 f6 ⊢
        have HZ := Lib.hid hz
        have F6 := Lib.hid f6
        obtain ⟨R, hR⟩ : ∃ R, spGo n z (joinU z s) (entsN n) nm 100 0 = R := ⟨_, rfl⟩
        have HR := Lib.hid hR
        rw [hR]
        clear ho hs hsz hz f6 e2 e3 hR hN
        cases R with
        | none =>
          go_enter Tryd.func24, Tryd.ntmps24
          go_wp2_with (first
            | (go_at_call 31; refine HO.out.mono ?_; rintro r w1 ⟨h1, _⟩; obtain ⟨p, rfl, ow⟩ := h1 HL.out; rw [HZ.out] at ow; obtain ⟨g, cc, hc, hcap, hb1, hp, hg⟩ := ow)
            | (go_at_call 52; refine (HN.out _).mono ?_; rintro e w' ⟨rfl, rfl⟩)
            | (go_at_call 53; refine (specSpare_any nm h6 hc f3 hcap f4 rfl F6.out).mono ?_; rw [HR.out]; rintro r w2 ⟨_, h3, hb2⟩; obtain rfl := h3 rfl))
          go_ret2
          exact ⟨rfl, hb1.trans (hb2.mono hb1.size)⟩
        | some x =>
          go_enter Tryd.func24, Tryd.ntmps24
          go_wp2_with (first
            | (go_at_call 31; refine HO.out.mono ?_; rintro r w1 ⟨h1, _⟩; obtain ⟨p, rfl, ow⟩ := h1 HL.out; rw [HZ.out] at ow; obtain ⟨g, cc, hc, hcap, hb1, hp, hg⟩ := ow)
            | (go_at_call 52; refine (HN.out _).mono ?_; rintro e w' ⟨rfl, rfl⟩)
            | (go_at_call 53; refine (specSpare_any nm h6 hc f3 hcap f4 rfl F6.out).mono ?_; rw [HR.out]; rintro r w2 ⟨h3, _, hb2⟩; obtain rfl := h3 x rfl))
          go_ret2
          exact ⟨rfl, hb1.trans (hb2.mono hb1.size)⟩
      · rw [show spCode n s nm = 1 by unfold spCode; rw [if_pos ho, if_neg (fun q => h6 q.2)], show spTxt n s nm = ⟨#[]⟩ by unfold spTxt; rw [if_pos ho, if_neg (fun q => h6 q.2)]]
        have h6i : (nm.size : Int) > 6 := by omega
        have HZ := Lib.hid (rfl : (s 0).size = (s 0).size)
        clear ho hs hsz hN f6
        go_enter Tryd.func24, Tryd.ntmps24
        go_wp2_with (first
          | (go_at_call 31; refine HO.out.mono ?_; rintro r w1 ⟨h1, _⟩; obtain ⟨p, rfl, ow⟩ := h1 HL.out; rw [HZ.out] at ow; obtain ⟨g, cc, hc, hcap, hb1, hp, hg⟩ := ow)
          | (go_at_call 52; refine (HN.out _).mono ?_; rintro e w' ⟨rfl, rfl⟩))
        go_ret2
        exact ⟨rfl, hb1⟩
    · rw [show spCode n s nm = 1 by unfold spCode; rw [if_pos ho, if_neg (fun q => hN q.1)], show spTxt n s nm = ⟨#[]⟩ by unfold spTxt; rw [if_pos ho, if_neg (fun q => hN q.1)]]
      have HN := Lib.hid (fun w : World => specIsName_any nm (by omega) false (by simpa using hN) w)
      have HZ := Lib.hid (rfl : (s 0).size = (s 0).size)
      clear ho hs hsz hN f6
      go_enter Tryd.func24, Tryd.ntmps24
      go_wp2_with (first
        | (go_at_call 31; refine HO.out.mono ?_; rintro r w1 ⟨h1, _⟩; obtain ⟨p, rfl, ow⟩ := h1 HL.out; rw [HZ.out] at ow; obtain ⟨g, cc, hc, hcap, hb1, hp, hg⟩ := ow)
        | (go_at_call 52; refine (HN.out _).mono ?_; rintro e w' ⟨rfl, rfl⟩))
      go_ret2
      exact ⟨rfl, hb1⟩
  · have hne := openCode_ne n s
    have HL := Lib.hid ho
    rw [show spCode n s nm = openCode n s by unfold spCode; rw [if_neg ho], show spTxt n s nm = ⟨#[]⟩ by unfold spTxt; rw [if_neg ho]]
    obtain ⟨code, hcode⟩ : ∃ code, openCode n s = code := ⟨_, rfl⟩
    rw [hcode] at hne ⊢
    have HCD := Lib.hid hcode
    clear ho hs hsz hcode
    rcases hne with rfl | rfl
    all_goals
      go_enter Tryd.func24, Tryd.ntmps24
      go_wp2_with (go_at_call 31; refine HO.out.mono ?_; rintro r w1 ⟨_, h1⟩; have h2 := h1 HL.out; rw [HCD.out] at h2; obtain ⟨rfl, hb1⟩ := h2)
      go_ret2
      exact ⟨rfl, hb1⟩
end Go.Proofs.YtgmmigbaaigldaaDoor
