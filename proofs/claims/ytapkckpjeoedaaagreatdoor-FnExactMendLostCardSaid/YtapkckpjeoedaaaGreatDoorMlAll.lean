/-
  Disks of chains: MendLost, both sides.
-/
import Derived.Test.YtapkckpjeoedaaaGreatDoorMlTopM
import Derived.Test.YtapkckpjeoedaaaGreatDoorMlTopSM
import Derived.Test.YtapkckpjeoedaaaGreatDoorChainTop
namespace Go.Proofs.YtapkckpjeoedaaaGreatDoor
open Go Go.ChangeShapes Go.WideShapes Go.ChangeAt Go.RowKit lib
set_option linter.unusedVariables false
set_option maxRecDepth 100000
/-- the lost chains of a disk made files -/
noncomputable def mlS (n : Nat) (s : Nat → ByteArray) : (Nat → UInt8) × Nat × Nat × Bool := mlRun n (s 0).size (entsN n) (chainsC (lostOf n s) (lkN (s 0).size (joinU (s 0).size s))) (joinU (s 0).size s) 0 0
theorem implMendLost_ok {w : World} {n c : Nat} {A : Option Addr} {s : Nat → ByteArray} (hs : Sl w w.heap.size A n (fun i => .string (s i))) (hsz : ∀ i, i < n → (s i).size ≤ 9223372036854775807) (hn : n ≤ c) (hn2 : n ≤ 9223372036854775807) (ho : opens n s) (hf : (mlS n s).2.2.2 = true) :
    Calls Tryz.prog 10 #[.slice A n c] w fun r w' => ∃ A c, r = .returned (.tuple #[.slice A n c, .int .i64 ((mlS n s).2.1 : Int), .int .i64 ((mlS n s).2.2.1 : Int), .int .i64 0]) ∧ w'.ownsRow w.heap.size 9 1 (.slice A n c) n ((List.range n).map fun (i : Nat) => Value.string (blkOf (s 0).size (mlS n s).1 i)) ∧ Below w.heap.size w w' := by
  have HO := Lib.hid (implOpen hs hsz hn hn2)
  obtain ⟨f1, f2, f3, f4, f5, f6⟩ := walk_fit ho.1
  have hf8 := shape_facts ho.1
  obtain ⟨R, hR⟩ : ∃ R, mlS n s = R := ⟨_, rfl⟩
  rw [hR] at hf ⊢
  unfold mlS lostOf ownersOf at hR
  obtain ⟨z, hz⟩ : ∃ z, (s 0).size = z := ⟨_, rfl⟩
  rw [hz] at f2 f3 f5 f6 hf8 hR ⊢
  obtain ⟨U, hU⟩ : ∃ U, joinU z s = U := ⟨_, rfl⟩
  rw [hU] at hR
  have HZ := Lib.hid hz
  have HU := Lib.hid hU
  have HL := Lib.hid ho
  have F6 := Lib.hid f6
  have HR := Lib.hid hR
  have hz8 : 8 ≤ z := by omega
  obtain ⟨RU, Rf, Rr, Rb⟩ := R
  dsimp only at hf
  subst hf
  clear ho hs hsz hz hU hR f6
  go_enter Tryz.func10, Tryz.ntmps10
  go_wp2_with (first
    | (go_at_call 27; refine HO.out.mono ?_; rintro r w1 ⟨h1, _⟩; obtain ⟨p, rfl, ow⟩ := h1 HL.out; rw [HZ.out] at ow; unfold OpenW at ow; rw [HU.out] at ow; obtain ⟨g, cc, hc, hcap, hb1, hp, hg⟩ := ow)
    | (go_at_call 28; refine (implMendLost_any hc f1 (by omega) (by omega) f2 f3 hcap f4 rfl f5 F6.out).mono ?_; rw [HR.out]; rintro r w2 ⟨rfl, hc2, hg2⟩)
    | (go_at_call 29; refine (implDisk_any hc2 rfl hf8.2.1 hf8.2.2.2.2.2 (by omega) hcap).mono ?_; rintro r w3 ⟨A2, c2, rfl, ho2, hb3⟩))
  have hB := hb1.grown hg2 hb1.size (fun j hj => by injection hj; omega)
  refine bodyPost_ret (v := .tuple #[.slice A2 n c2, .int .i64 (Rf : Int), .int .i64 (Rr : Int), .int .i64 0]) (by simp [results, Tryz.results10, go_sem]) rfl ?_
  exact ⟨A2, c2, rfl, own_base ho2 hB.size, hB.trans (hb3.mono hB.size)⟩
theorem implMendLost_mal {w : World} {n c : Nat} {A : Option Addr} {s : Nat → ByteArray} (hs : Sl w w.heap.size A n (fun i => .string (s i))) (hsz : ∀ i, i < n → (s i).size ≤ 9223372036854775807) (hn : n ≤ c) (hn2 : n ≤ 9223372036854775807) (ho : opens n s) (hf : (mlS n s).2.2.2 = false) :
    Calls Tryz.prog 10 #[.slice A n c] w fun r w' => r = .returned (.tuple #[.slice none 0 0, .int .i64 0, .int .i64 0, .int .i64 7]) ∧ Below w.heap.size w w' := by
  have HO := Lib.hid (implOpen hs hsz hn hn2)
  obtain ⟨f1, f2, f3, f4, f5, f6⟩ := walk_fit ho.1
  have hf8 := shape_facts ho.1
  obtain ⟨R, hR⟩ : ∃ R, mlS n s = R := ⟨_, rfl⟩
  rw [hR] at hf
  unfold mlS lostOf ownersOf at hR
  obtain ⟨z, hz⟩ : ∃ z, (s 0).size = z := ⟨_, rfl⟩
  rw [hz] at f2 f3 f5 f6 hf8 hR
  obtain ⟨U, hU⟩ : ∃ U, joinU z s = U := ⟨_, rfl⟩
  rw [hU] at hR
  have HZ := Lib.hid hz
  have HU := Lib.hid hU
  have HL := Lib.hid ho
  have F6 := Lib.hid f6
  have HR := Lib.hid hR
  have hz8 : 8 ≤ z := by omega
  obtain ⟨RU, Rf, Rr, Rb⟩ := R
  dsimp only at hf
  subst hf
  clear ho hs hsz hz hU hR f6
  go_enter Tryz.func10, Tryz.ntmps10
  go_wp2_with (first
    | (go_at_call 27; refine HO.out.mono ?_; rintro r w1 ⟨h1, _⟩; obtain ⟨p, rfl, ow⟩ := h1 HL.out; rw [HZ.out] at ow; unfold OpenW at ow; rw [HU.out] at ow; obtain ⟨g, cc, hc, hcap, hb1, hp, hg⟩ := ow)
    | (go_at_call 28; refine (implMendLost_any hc f1 (by omega) (by omega) f2 f3 hcap f4 rfl f5 F6.out).mono ?_; rw [HR.out]; rintro r w2 ⟨rfl, hc2, hg2⟩))
  have hB := hb1.grown hg2 hb1.size (fun j hj => by injection hj; omega)
  exact bodyPost_ret (v := .tuple #[.slice none 0 0, .int .i64 0, .int .i64 0, .int .i64 7]) (by simp [results, Tryz.results10, go_sem]) rfl ⟨rfl, hB⟩
theorem implMendLost_bad {w : World} {n c : Nat} {A : Option Addr} {s : Nat → ByteArray} (hs : Sl w w.heap.size A n (fun i => .string (s i))) (hsz : ∀ i, i < n → (s i).size ≤ 9223372036854775807) (hn : n ≤ c) (hn2 : n ≤ 9223372036854775807) (ho : ¬ opens n s) :
    Calls Tryz.prog 10 #[.slice A n c] w fun r w' => r = .returned (.tuple #[.slice none 0 0, .int .i64 0, .int .i64 0, .int .i64 (openCode n s)]) ∧ Below w.heap.size w w' := by
  have HO := Lib.hid (implOpen hs hsz hn hn2)
  have hne := openCode_ne n s
  have HL := Lib.hid ho
  obtain ⟨code, hcode⟩ : ∃ code, openCode n s = code := ⟨_, rfl⟩
  rw [hcode] at hne ⊢
  have HCD := Lib.hid hcode
  clear ho hs hsz hcode
  rcases hne with rfl | rfl
  all_goals
    go_enter Tryz.func10, Tryz.ntmps10
    go_wp2_with (go_at_call 27; refine HO.out.mono ?_; rintro r w1 ⟨_, h1⟩; have h2 := h1 HL.out; rw [HCD.out] at h2; obtain ⟨rfl, hb1⟩ := h2)
    first
    | exact bodyPost_ret (v := .tuple #[.slice none 0 0, .int .i64 0, .int .i64 0, .int .i64 1]) (by simp [results, Tryz.results10, go_sem]) rfl ⟨rfl, hb1⟩
    | exact bodyPost_ret (v := .tuple #[.slice none 0 0, .int .i64 0, .int .i64 0, .int .i64 7]) (by simp [results, Tryz.results10, go_sem]) rfl ⟨rfl, hb1⟩
theorem specMendLost_ok {w : World} {n c : Nat} {A : Option Addr} {s : Nat → ByteArray} (hs : Sl w w.heap.size A n (fun i => .string (s i))) (hsz : ∀ i, i < n → (s i).size ≤ 9223372036854775807) (hn : n ≤ c) (hn2 : n ≤ 9223372036854775807) (ho : opens n s) (hf : (mlS n s).2.2.2 = true) :
    Calls Tryz.prog 8 #[.slice A n c] w fun r w' => ∃ A c, r = .returned (.tuple #[.slice A n c, .int .i64 ((mlS n s).2.1 : Int), .int .i64 ((mlS n s).2.2.1 : Int), .int .i64 0]) ∧ w'.ownsRow w.heap.size 9 1 (.slice A n c) n ((List.range n).map fun (i : Nat) => Value.string (blkOf (s 0).size (mlS n s).1 i)) ∧ Below w.heap.size w w' := by
  have HO := Lib.hid (specOpen hs hsz hn hn2)
  obtain ⟨f1, f2, f3, f4, f5, f6⟩ := walk_fit ho.1
  have hf8 := shape_facts ho.1
  obtain ⟨R, hR⟩ : ∃ R, mlS n s = R := ⟨_, rfl⟩
  rw [hR] at hf ⊢
  unfold mlS lostOf ownersOf at hR
  obtain ⟨z, hz⟩ : ∃ z, (s 0).size = z := ⟨_, rfl⟩
  rw [hz] at f2 f3 f5 f6 hf8 hR ⊢
  obtain ⟨U, hU⟩ : ∃ U, joinU z s = U := ⟨_, rfl⟩
  rw [hU] at hR
  have HZ := Lib.hid hz
  have HU := Lib.hid hU
  have HL := Lib.hid ho
  have F6 := Lib.hid f6
  have HR := Lib.hid hR
  have hz8 : 8 ≤ z := by omega
  obtain ⟨RU, Rf, Rr, Rb⟩ := R
  dsimp only at hf
  subst hf
  clear ho hs hsz hz hU hR f6
  go_enter Tryz.func8, Tryz.ntmps8
  go_wp2_with (first
    | (go_at_call 24; refine HO.out.mono ?_; rintro r w1 ⟨h1, _⟩; obtain ⟨p, rfl, ow⟩ := h1 HL.out; rw [HZ.out] at ow; unfold OpenW at ow; rw [HU.out] at ow; obtain ⟨g, cc, hc, hcap, hb1, hp, hg⟩ := ow)
    | (go_at_call 25; refine (specMendLost_any hc f1 (by omega) (by omega) f2 f3 hcap f4 rfl f5 F6.out).mono ?_; rw [HR.out]; rintro r w2 ⟨rfl, hc2, hg2⟩)
    | (go_at_call 26; refine (specDisk_any hc2 rfl hf8.2.1 hf8.2.2.2.2.2 (by omega) hcap).mono ?_; rintro r w3 ⟨A2, c2, rfl, ho2, hb3⟩))
  have hB := hb1.grown hg2 hb1.size (fun j hj => by injection hj; omega)
  refine bodyPost_ret (v := .tuple #[.slice A2 n c2, .int .i64 (Rf : Int), .int .i64 (Rr : Int), .int .i64 0]) (by simp [results, Tryz.results8, go_sem]) rfl ?_
  exact ⟨A2, c2, rfl, own_base ho2 hB.size, hB.trans (hb3.mono hB.size)⟩
theorem specMendLost_mal {w : World} {n c : Nat} {A : Option Addr} {s : Nat → ByteArray} (hs : Sl w w.heap.size A n (fun i => .string (s i))) (hsz : ∀ i, i < n → (s i).size ≤ 9223372036854775807) (hn : n ≤ c) (hn2 : n ≤ 9223372036854775807) (ho : opens n s) (hf : (mlS n s).2.2.2 = false) :
    Calls Tryz.prog 8 #[.slice A n c] w fun r w' => r = .returned (.tuple #[.slice none 0 0, .int .i64 0, .int .i64 0, .int .i64 7]) ∧ Below w.heap.size w w' := by
  have HO := Lib.hid (specOpen hs hsz hn hn2)
  obtain ⟨f1, f2, f3, f4, f5, f6⟩ := walk_fit ho.1
  have hf8 := shape_facts ho.1
  obtain ⟨R, hR⟩ : ∃ R, mlS n s = R := ⟨_, rfl⟩
  rw [hR] at hf
  unfold mlS lostOf ownersOf at hR
  obtain ⟨z, hz⟩ : ∃ z, (s 0).size = z := ⟨_, rfl⟩
  rw [hz] at f2 f3 f5 f6 hf8 hR
  obtain ⟨U, hU⟩ : ∃ U, joinU z s = U := ⟨_, rfl⟩
  rw [hU] at hR
  have HZ := Lib.hid hz
  have HU := Lib.hid hU
  have HL := Lib.hid ho
  have F6 := Lib.hid f6
  have HR := Lib.hid hR
  have hz8 : 8 ≤ z := by omega
  obtain ⟨RU, Rf, Rr, Rb⟩ := R
  dsimp only at hf
  subst hf
  clear ho hs hsz hz hU hR f6
  go_enter Tryz.func8, Tryz.ntmps8
  go_wp2_with (first
    | (go_at_call 24; refine HO.out.mono ?_; rintro r w1 ⟨h1, _⟩; obtain ⟨p, rfl, ow⟩ := h1 HL.out; rw [HZ.out] at ow; unfold OpenW at ow; rw [HU.out] at ow; obtain ⟨g, cc, hc, hcap, hb1, hp, hg⟩ := ow)
    | (go_at_call 25; refine (specMendLost_any hc f1 (by omega) (by omega) f2 f3 hcap f4 rfl f5 F6.out).mono ?_; rw [HR.out]; rintro r w2 ⟨rfl, hc2, hg2⟩))
  have hB := hb1.grown hg2 hb1.size (fun j hj => by injection hj; omega)
  exact bodyPost_ret (v := .tuple #[.slice none 0 0, .int .i64 0, .int .i64 0, .int .i64 7]) (by simp [results, Tryz.results8, go_sem]) rfl ⟨rfl, hB⟩
theorem specMendLost_bad {w : World} {n c : Nat} {A : Option Addr} {s : Nat → ByteArray} (hs : Sl w w.heap.size A n (fun i => .string (s i))) (hsz : ∀ i, i < n → (s i).size ≤ 9223372036854775807) (hn : n ≤ c) (hn2 : n ≤ 9223372036854775807) (ho : ¬ opens n s) :
    Calls Tryz.prog 8 #[.slice A n c] w fun r w' => r = .returned (.tuple #[.slice none 0 0, .int .i64 0, .int .i64 0, .int .i64 (openCode n s)]) ∧ Below w.heap.size w w' := by
  have HO := Lib.hid (specOpen hs hsz hn hn2)
  have hne := openCode_ne n s
  have HL := Lib.hid ho
  obtain ⟨code, hcode⟩ : ∃ code, openCode n s = code := ⟨_, rfl⟩
  rw [hcode] at hne ⊢
  have HCD := Lib.hid hcode
  clear ho hs hsz hcode
  rcases hne with rfl | rfl
  all_goals
    go_enter Tryz.func8, Tryz.ntmps8
    go_wp2_with (go_at_call 24; refine HO.out.mono ?_; rintro r w1 ⟨_, h1⟩; have h2 := h1 HL.out; rw [HCD.out] at h2; obtain ⟨rfl, hb1⟩ := h2)
    first
    | exact bodyPost_ret (v := .tuple #[.slice none 0 0, .int .i64 0, .int .i64 0, .int .i64 1]) (by simp [results, Tryz.results8, go_sem]) rfl ⟨rfl, hb1⟩
    | exact bodyPost_ret (v := .tuple #[.slice none 0 0, .int .i64 0, .int .i64 0, .int .i64 7]) (by simp [results, Tryz.results8, go_sem]) rfl ⟨rfl, hb1⟩
end Go.Proofs.YtapkckpjeoedaaaGreatDoor
