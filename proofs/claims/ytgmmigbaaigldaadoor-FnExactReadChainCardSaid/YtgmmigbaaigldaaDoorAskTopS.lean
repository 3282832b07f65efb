/-
  Disks of chains: a disk is opened with the entry of a name: the reference's side.
-/
import Derived.Test.YtgmmigbaaigldaaDoorAskTop
namespace Go.Proofs.YtgmmigbaaigldaaDoor
open Go Go.ChangeShapes Go.WideShapes Go.ChangeAt Go.RowKit lib
set_option linter.unusedVariables false
set_option maxRecDepth 100000
theorem specAsk_shut {w : World} {n c : Nat} {A : Option Addr} {s : Nat → ByteArray} (nm : ByteArray) (hnm : nm.size ≤ 9223372036854775807) (hs : Sl w w.heap.size A n (fun i => .string (s i))) (hsz : ∀ i, i < n → (s i).size ≤ 9223372036854775807) (hn : n ≤ c) (hn2 : n ≤ 9223372036854775807) (ho : ¬ opens n s) :
    Calls Tryd.prog 44 #[.slice A n c, .string nm] w fun r w' => ∃ P, r = .returned (.tuple #[.pointer P, .int .i64 0, .int .i64 (openCode n s)]) ∧ Below w.heap.size w w' := by
  have HO := Lib.hid (specOpen hs hsz hn hn2)
  have HL := Lib.hid ho
  have hne := openCode_ne n s
  obtain ⟨code, hcode⟩ : ∃ code, openCode n s = code := ⟨_, rfl⟩
  rw [hcode] at hne ⊢
  have HCD := Lib.hid hcode
  clear ho hs hsz hcode
  rcases hne with rfl | rfl
  all_goals
    go_enter Tryd.func44, Tryd.ntmps44
    go_wp2_with (go_at_call 31; refine HO.out.mono ?_; rintro r w1 ⟨_, h1⟩; have h2 := h1 HL.out; rw [HCD.out] at h2; obtain ⟨rfl, hb1⟩ := h2)
    first
    | exact bodyPost_ret (v := .tuple #[.pointer none, .int .i64 0, .int .i64 1]) (by simp [results, Tryd.results44, go_sem]) rfl ⟨none, rfl, hb1⟩
    | exact bodyPost_ret (v := .tuple #[.pointer none, .int .i64 0, .int .i64 7]) (by simp [results, Tryd.results44, go_sem]) rfl ⟨none, rfl, hb1⟩
theorem specAsk_name {w : World} {n c : Nat} {A : Option Addr} {s : Nat → ByteArray} (nm : ByteArray) (hnm : nm.size ≤ 9223372036854775807) (hs : Sl w w.heap.size A n (fun i => .string (s i))) (hsz : ∀ i, i < n → (s i).size ≤ 9223372036854775807) (hn : n ≤ c) (hn2 : n ≤ 9223372036854775807) (ho : opens n s) (hN : ¬ NameS nm) :
    Calls Tryd.prog 44 #[.slice A n c, .string nm] w fun r w' => ∃ P, r = .returned (.tuple #[.pointer P, .int .i64 0, .int .i64 1]) ∧ Below w.heap.size w w' := by
  have HO := Lib.hid (specOpen hs hsz hn hn2)
  have HL := Lib.hid ho
  have HN := Lib.hid (fun w : World => specIsName_any nm hnm false (by simpa using hN) w)
  clear ho hs hsz hN
  go_enter Tryd.func44, Tryd.ntmps44
  go_wp2_with (first
    | (go_at_call 31; refine HO.out.mono ?_; rintro r w1 ⟨h1, _⟩; obtain ⟨p, rfl, ow⟩ := h1 HL.out; obtain ⟨g, cc, hc, hcap, hb1, hp, hg⟩ := ow)
    | (go_at_call 52; refine (HN.out _).mono ?_; rintro e w' ⟨rfl, rfl⟩))
  exact bodyPost_ret (v := .tuple #[.pointer none, .int .i64 0, .int .i64 1]) (by simp [results, Tryd.results44, go_sem]) rfl ⟨none, rfl, hb1⟩
theorem specAsk_find3 {w : World} {n c : Nat} {A : Option Addr} {s : Nat → ByteArray} (nm : ByteArray) (hnm : nm.size ≤ 9223372036854775807) (hs : Sl w w.heap.size A n (fun i => .string (s i))) (hsz : ∀ i, i < n → (s i).size ≤ 9223372036854775807) (hn : n ≤ c) (hn2 : n ≤ 9223372036854775807) (ho : opens n s) (hN : NameS nm) (hF : (fndOf n s nm).2 = 3) :
    Calls Tryd.prog 44 #[.slice A n c, .string nm] w fun r w' => ∃ P, r = .returned (.tuple #[.pointer P, .int .i64 0, .int .i64 3]) ∧ Below w.heap.size w w' := by
  have HO := Lib.hid (specOpen hs hsz hn hn2)
  have HL := Lib.hid ho
  have HN := Lib.hid (fun w : World => specIsName_any nm hnm true (by simpa using hN) w)
  obtain ⟨f1, f2, f3, f4, f5, f6⟩ := walk_fit ho.1
  unfold fndOf at hF
  try unfold fndOf
  have hFk := (findGo_ok (n := n) (z := (s 0).size) (U := joinU (s 0).size s) (nm := nm) (entsN n) 0)
  have HF := Lib.hid hF
  have F6 := Lib.hid f6
  have hk0 : ¬ (((findGo n (s 0).size (joinU (s 0).size s) nm (entsN n) 0).1 : Nat) : Int) < 0 := by omega
  clear ho hs hsz hN hF f6 hFk
  go_enter Tryd.func44, Tryd.ntmps44
  go_wp2_with (first
    | (go_at_call 31; refine HO.out.mono ?_; rintro r w1 ⟨h1, _⟩; obtain ⟨p, rfl, ow⟩ := h1 HL.out; obtain ⟨g, cc, hc, hcap, hb1, hp, hg⟩ := ow; have HX := Lib.hid (fun (X : World) (hX : Below w1.heap.size w1 X) => hc.below hX))
    | (go_at_call 52; refine (HN.out _).mono ?_; rintro e w' ⟨rfl, rfl⟩)
    | (go_at_call 71; refine (specFind_any nm hc f3 hcap f4 rfl F6.out).mono ?_; rintro e2 w2 ⟨h1', h2, h3, hb2⟩; obtain rfl := h2 HF.out))
  exact bodyPost_ret (v := .tuple #[.pointer (some ⟨p, 0, none⟩), .int .i64 0, .int .i64 3]) (by simp [results, Tryd.results44, go_sem]) rfl ⟨_, rfl, hb1.trans (hb2.mono hb1.size)⟩
theorem specAsk_find7 {w : World} {n c : Nat} {A : Option Addr} {s : Nat → ByteArray} (nm : ByteArray) (hnm : nm.size ≤ 9223372036854775807) (hs : Sl w w.heap.size A n (fun i => .string (s i))) (hsz : ∀ i, i < n → (s i).size ≤ 9223372036854775807) (hn : n ≤ c) (hn2 : n ≤ 9223372036854775807) (ho : opens n s) (hN : NameS nm) (hF : (fndOf n s nm).2 = 7) :
    Calls Tryd.prog 44 #[.slice A n c, .string nm] w fun r w' => ∃ P, r = .returned (.tuple #[.pointer P, .int .i64 0, .int .i64 7]) ∧ Below w.heap.size w w' := by
  have HO := Lib.hid (specOpen hs hsz hn hn2)
  have HL := Lib.hid ho
  have HN := Lib.hid (fun w : World => specIsName_any nm hnm true (by simpa using hN) w)
  obtain ⟨f1, f2, f3, f4, f5, f6⟩ := walk_fit ho.1
  unfold fndOf at hF
  try unfold fndOf
  have hFk := (findGo_ok (n := n) (z := (s 0).size) (U := joinU (s 0).size s) (nm := nm) (entsN n) 0)
  have HF := Lib.hid hF
  have F6 := Lib.hid f6
  have hk0 : ¬ (((findGo n (s 0).size (joinU (s 0).size s) nm (entsN n) 0).1 : Nat) : Int) < 0 := by omega
  clear ho hs hsz hN hF f6 hFk
  go_enter Tryd.func44, Tryd.ntmps44
  go_wp2_with (first
    | (go_at_call 31; refine HO.out.mono ?_; rintro r w1 ⟨h1, _⟩; obtain ⟨p, rfl, ow⟩ := h1 HL.out; obtain ⟨g, cc, hc, hcap, hb1, hp, hg⟩ := ow; have HX := Lib.hid (fun (X : World) (hX : Below w1.heap.size w1 X) => hc.below hX))
    | (go_at_call 52; refine (HN.out _).mono ?_; rintro e w' ⟨rfl, rfl⟩)
    | (go_at_call 71; refine (specFind_any nm hc f3 hcap f4 rfl F6.out).mono ?_; rintro e2 w2 ⟨h1', h2, h3, hb2⟩; obtain rfl := h3 HF.out))
  exact bodyPost_ret (v := .tuple #[.pointer none, .int .i64 0, .int .i64 7]) (by simp [results, Tryd.results44, go_sem]) rfl ⟨_, rfl, hb1.trans (hb2.mono hb1.size)⟩
theorem specAsk_ok {w : World} {n c : Nat} {A : Option Addr} {s : Nat → ByteArray} (nm : ByteArray) (hnm : nm.size ≤ 9223372036854775807) (hs : Sl w w.heap.size A n (fun i => .string (s i))) (hsz : ∀ i, i < n → (s i).size ≤ 9223372036854775807) (hn : n ≤ c) (hn2 : n ≤ 9223372036854775807) (ho : opens n s) (hN : NameS nm) (hF : (fndOf n s nm).2 = 0) :
    Calls Tryd.prog 44 #[.slice A n c, .string nm] w fun r w' => ∃ p, r = .returned (.tuple #[.pointer (some ⟨p, 0, none⟩), .int .i64 ((fndOf n s nm).1 : Int), .int .i64 0]) ∧ OpenW w w' p n (s 0).size s := by
  have HO := Lib.hid (specOpen hs hsz hn hn2)
  have HL := Lib.hid ho
  have HN := Lib.hid (fun w : World => specIsName_any nm hnm true (by simpa using hN) w)
  obtain ⟨f1, f2, f3, f4, f5, f6⟩ := walk_fit ho.1
  unfold fndOf at hF
  try unfold fndOf
  have hFk := (findGo_ok (n := n) (z := (s 0).size) (U := joinU (s 0).size s) (nm := nm) (entsN n) 0)
  have HF := Lib.hid hF
  have F6 := Lib.hid f6
  have hk0 : ¬ (((findGo n (s 0).size (joinU (s 0).size s) nm (entsN n) 0).1 : Nat) : Int) < 0 := by omega
  clear ho hs hsz hN hF f6 hFk
  go_enter Tryd.func44, Tryd.ntmps44
  go_wp2_with (first
    | (go_at_call 31; refine HO.out.mono ?_; rintro r w1 ⟨h1, _⟩; obtain ⟨p, rfl, ow⟩ := h1 HL.out; obtain ⟨g, cc, hc, hcap, hb1, hp, hg⟩ := ow; have HX := Lib.hid (fun (X : World) (hX : Below w1.heap.size w1 X) => hc.below hX))
    | (go_at_call 52; refine (HN.out _).mono ?_; rintro e w' ⟨rfl, rfl⟩)
    | (go_at_call 71; refine (specFind_any nm hc f3 hcap f4 rfl F6.out).mono ?_; rintro e2 w2 ⟨h1', h2, h3, hb2⟩; obtain rfl := h1' HF.out))
  exact bodyPost_ret (v := .tuple #[.pointer (some ⟨p, 0, none⟩), .int .i64 ((findGo n (s 0).size (joinU (s 0).size s) nm (entsN n) 0).1 : Int), .int .i64 0]) (by simp [results, Tryd.results44, go_sem]) rfl ⟨p, rfl, g, cc, HX.out w2 hb2, hcap, hb1.trans (hb2.mono hb1.size), hp, hg⟩
open Classical in
noncomputable def askCodeS (n : Nat) (s : Nat → ByteArray) (nm : ByteArray) : Int := if opens n s then if NameS nm then ((fndOf n s nm).2 : Int) else 1 else openCode n s
theorem specAsk_bad {w : World} {n c : Nat} {A : Option Addr} {s : Nat → ByteArray} (nm : ByteArray) (hnm : nm.size ≤ 9223372036854775807) (hs : Sl w w.heap.size A n (fun i => .string (s i))) (hsz : ∀ i, i < n → (s i).size ≤ 9223372036854775807) (hn : n ≤ c) (hn2 : n ≤ 9223372036854775807) (hc : askCodeS n s nm ≠ 0) : Calls Tryd.prog 44 #[.slice A n c, .string nm] w fun r w' => ∃ P, r = .returned (.tuple #[.pointer P, .int .i64 0, .int .i64 (askCodeS n s nm)]) ∧ Below w.heap.size w w' := by
  by_cases ho : opens n s
  · by_cases hN : NameS nm
    · have e : askCodeS n s nm = ((fndOf n s nm).2 : Int) := by unfold askCodeS; rw [if_pos ho, if_pos hN]
      rw [e] at hc ⊢
      rcases (findGo_ok (n := n) (z := (s 0).size) (U := joinU (s 0).size s) (nm := nm) (entsN n) 0).2.1 with h | h | h
      · exact absurd (show ((fndOf n s nm).2 : Int) = 0 by unfold fndOf; omega) hc
      · have h3 : (fndOf n s nm).2 = 3 := h
        rw [h3]
        exact specAsk_find3 nm hnm hs hsz hn hn2 ho hN h3
      · have h7 : (fndOf n s nm).2 = 7 := h
        rw [h7]
        exact specAsk_find7 nm hnm hs hsz hn hn2 ho hN h7
    · have e : askCodeS n s nm = 1 := by unfold askCodeS; rw [if_pos ho, if_neg hN]
      rw [e]
      exact specAsk_name nm hnm hs hsz hn hn2 ho hN
  · have e : askCodeS n s nm = openCode n s := by unfold askCodeS; rw [if_neg ho]
    rw [e]
    exact specAsk_shut nm hnm hs hsz hn hn2 ho
theorem askCode_S {n : Nat} {s : Nat → ByteArray} {nm : ByteArray} (h : askCode n s nm ≠ 0) : (askCodeS n s nm ≠ 0 ∧ askCodeS n s nm = askCode n s nm) ∨ (opens n s ∧ NameS nm ∧ (fndOf n s nm).2 = 0 ∧ (chOf n s nm).2 ≠ 0 ∧ askCode n s nm = ((chOf n s nm).2 : Int)) := by
  unfold askCode at h ⊢
  unfold askCodeS
  split at h
  · rename_i h1
    split at h
    · rename_i h2
      split at h
      · rename_i h3
        right
        rw [if_pos h1, if_pos h2, if_pos h3]
        exact ⟨h1, h2, h3, by omega, rfl⟩
      · rename_i h3
        left
        rw [if_pos h1, if_pos h2, if_pos h1, if_pos h2, if_neg h3]
        exact ⟨by omega, rfl⟩
    · rename_i h2
      left
      rw [if_pos h1, if_neg h2, if_pos h1, if_neg h2]
      exact ⟨by omega, rfl⟩
  · rename_i h1
    left
    rw [if_neg h1, if_neg h1]
    exact ⟨h, rfl⟩
end Go.Proofs.YtgmmigbaaigldaaDoor
