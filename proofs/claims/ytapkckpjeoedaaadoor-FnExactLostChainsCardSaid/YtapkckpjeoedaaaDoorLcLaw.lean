/-
  Disks of chains: LostChains, both sides.
-/
import Derived.Test.YtapkckpjeoedaaaDoorLcTopS
import Derived.Test.YtapkckpjeoedaaaDoorLcM
import Derived.Test.YtapkckpjeoedaaaDoorChainTop
namespace Go.Proofs.YtapkckpjeoedaaaDoor
open Go Go.ChangeShapes Go.WideShapes Go.ChangeAt Go.RowKit lib
set_option linter.unusedVariables false
set_option maxRecDepth 100000
/-- the lost blocks of a disk in chains -/
noncomputable def lostsL (n : Nat) (s : Nat → ByteArray) : List (List Nat) := chainsC (lostOf n s) (lkN (s 0).size (joinU (s 0).size s))
theorem lostN_lt {own : Nat → Int} {u : Nat → UInt8} {z t : Nat} : ∀ m x, x ∈ lostN own u z t m → x < t + m
  | 0, x, h => by simp [lostN] at h
  | m + 1, x, h => by
    rw [lostN, List.mem_append] at h
    rcases h with h | h
    · have := lostN_lt m x h
      omega
    · split at h
      · simp at h; omega
      · simp at h
theorem lostOf_lt {n x : Nat} {s : Nat → ByteArray} (ho : opens n s) (h : x ∈ lostOf n s) : x < n := by
  have h1 := lostN_lt _ _ h
  have h2 := (walk_fit ho.1).2.2.2.2.1
  omega
theorem lostOf_len {n : Nat} {s : Nat → ByteArray} (ho : opens n s) : (lostOf n s).length ≤ n := Nat.le_trans (lostN_le _ _ _ _ _) (by omega)
theorem chainsC_ok {n : Nat} {L : List Nat} {lk : Nat → Nat} (hL : ∀ x, x ∈ L → x < n) : (chainsC L lk).length ≤ n ∧ ∀ l, l ∈ chainsC L lk → l.length ≤ n := by
  have h := sB_ok (lk := lk) hL 2
  exact ⟨h.bound.2, h.each⟩
theorem implLostChains_ok {w : World} {n c : Nat} {A : Option Addr} {s : Nat → ByteArray} (hs : Sl w w.heap.size A n (fun i => .string (s i))) (hsz : ∀ i, i < n → (s i).size ≤ 9223372036854775807) (hn : n ≤ c) (hn2 : n ≤ 9223372036854775807) (ho : opens n s) :
    Calls Tryd.prog 7 #[.slice A n c] w fun r w' => ∃ A c, r = .returned (.tuple #[.slice A (lostsL n s).length c, .int .i64 0]) ∧ GL w.heap.size w' A (lostsL n s).length (fun i => (lostsL n s).getD i []) ∧ Below w.heap.size w w' := by
  have HO := Lib.hid (implOpen hs hsz hn hn2)
  obtain ⟨f1, f2, f3, f4, f5, f6⟩ := walk_fit ho.1
  have hlt : ∀ x, x ∈ lostOf n s → x < n := fun x hx => lostOf_lt ho hx
  have hll : (lostOf n s).length ≤ 128 := Nat.le_trans (lostOf_len ho) f1
  unfold lostsL
  first | unfold lostOf ownersOf at hlt hll ⊢ | unfold ownersOf at hlt hll ⊢
  obtain ⟨z, hz⟩ : ∃ z, (s 0).size = z := ⟨_, rfl⟩
  rw [hz] at f2 f3 f5 f6 hlt hll ⊢
  have HZ := Lib.hid hz
  have HL := Lib.hid ho
  have F6 := Lib.hid f6
  have HLT := Lib.hid hlt
  have HLL := Lib.hid hll
  clear ho hs hsz hz f6 hlt hll
  go_enter Tryd.func7, Tryd.ntmps7
  go_wp2_with (first
    | (go_at_call 15; refine HO.out.mono ?_; rintro r w1 ⟨h1, _⟩; obtain ⟨p, rfl, ow⟩ := h1 HL.out; rw [HZ.out] at ow; obtain ⟨g, cc, hc, hcap, hb1, hp, hg⟩ := ow)
    | (go_at_call 16; refine (implLostChains_any hc f1 f2 f3 hcap f4 rfl f5 F6.out HLT.out HLL.out).mono ?_; rintro r w2 ⟨A2, c2, rfl, ho2, hb2⟩))
  go_ret2
  exact ⟨A2, c2, rfl, ho2.gl.base hb1.size, hb1.trans (hb2.mono hb1.size)⟩
theorem implLostChains_bad {w : World} {n c : Nat} {A : Option Addr} {s : Nat → ByteArray} (hs : Sl w w.heap.size A n (fun i => .string (s i))) (hsz : ∀ i, i < n → (s i).size ≤ 9223372036854775807) (hn : n ≤ c) (hn2 : n ≤ 9223372036854775807) (ho : ¬ opens n s) :
    Calls Tryd.prog 7 #[.slice A n c] w fun r w' => r = .returned (.tuple #[.slice none 0 0, .int .i64 (openCode n s)]) ∧ Below w.heap.size w w' := by
  have HO := Lib.hid (implOpen hs hsz hn hn2)
  have hne := openCode_ne n s
  have HL := Lib.hid ho
  obtain ⟨code, hcode⟩ : ∃ code, openCode n s = code := ⟨_, rfl⟩
  rw [hcode] at hne ⊢
  have HCD := Lib.hid hcode
  clear ho hs hsz hcode
  rcases hne with rfl | rfl
  all_goals
    go_enter Tryd.func7, Tryd.ntmps7
    go_wp2_with (go_at_call 15; refine HO.out.mono ?_; rintro r w1 ⟨_, h1⟩; have h2 := h1 HL.out; rw [HCD.out] at h2; obtain ⟨rfl, hb1⟩ := h2)
    go_ret2
    exact ⟨rfl, hb1⟩
theorem specLostChains_ok {w : World} {n c : Nat} {A : Option Addr} {s : Nat → ByteArray} (hs : Sl w w.heap.size A n (fun i => .string (s i))) (hsz : ∀ i, i < n → (s i).size ≤ 9223372036854775807) (hn : n ≤ c) (hn2 : n ≤ 9223372036854775807) (ho : opens n s) :
    Calls Tryd.prog 5 #[.slice A n c] w fun r w' => ∃ A c, r = .returned (.tuple #[.slice A (lostsL n s).length c, .int .i64 0]) ∧ GL w.heap.size w' A (lostsL n s).length (fun i => (lostsL n s).getD i []) ∧ Below w.heap.size w w' := by
  have HO := Lib.hid (specOpen hs hsz hn hn2)
  obtain ⟨f1, f2, f3, f4, f5, f6⟩ := walk_fit ho.1
  have hlt : ∀ x, x ∈ lostOf n s → x < n := fun x hx => lostOf_lt ho hx
  have hll : (lostOf n s).length ≤ 128 := Nat.le_trans (lostOf_len ho) f1
  unfold lostsL
  first | unfold lostOf ownersOf at hlt hll ⊢ | unfold ownersOf at hlt hll ⊢
  obtain ⟨z, hz⟩ : ∃ z, (s 0).size = z := ⟨_, rfl⟩
  rw [hz] at f2 f3 f5 f6 hlt hll ⊢
  have HZ := Lib.hid hz
  have HL := Lib.hid ho
  have F6 := Lib.hid f6
  have HLT := Lib.hid hlt
  have HLL := Lib.hid hll
  clear ho hs hsz hz f6 hlt hll
  go_enter Tryd.func5, Tryd.ntmps5
  go_wp2_with (first
    | (go_at_call 13; refine HO.out.mono ?_; rintro r w1 ⟨h1, _⟩; obtain ⟨p, rfl, ow⟩ := h1 HL.out; rw [HZ.out] at ow; obtain ⟨g, cc, hc, hcap, hb1, hp, hg⟩ := ow)
    | (go_at_call 14; refine (specChains_any hc f1 f2 f3 hcap f4 rfl f5 F6.out HLT.out HLL.out).mono ?_; rintro r w2 ⟨A2, c2, rfl, ho2, hb2⟩))
  go_ret2
  exact ⟨A2, c2, rfl, ho2.gl.base hb1.size, hb1.trans (hb2.mono hb1.size)⟩
theorem specLostChains_bad {w : World} {n c : Nat} {A : Option Addr} {s : Nat → ByteArray} (hs : Sl w w.heap.size A n (fun i => .string (s i))) (hsz : ∀ i, i < n → (s i).size ≤ 9223372036854775807) (hn : n ≤ c) (hn2 : n ≤ 9223372036854775807) (ho : ¬ opens n s) :
    Calls Tryd.prog 5 #[.slice A n c] w fun r w' => r = .returned (.tuple #[.slice none 0 0, .int .i64 (openCode n s)]) ∧ Below w.heap.size w w' := by
  have HO := Lib.hid (specOpen hs hsz hn hn2)
  have hne := openCode_ne n s
  have HL := Lib.hid ho
  obtain ⟨code, hcode⟩ : ∃ code, openCode n s = code := ⟨_, rfl⟩
  rw [hcode] at hne ⊢
  have HCD := Lib.hid hcode
  clear ho hs hsz hcode
  rcases hne with rfl | rfl
  all_goals
    go_enter Tryd.func5, Tryd.ntmps5
    go_wp2_with (go_at_call 13; refine HO.out.mono ?_; rintro r w1 ⟨_, h1⟩; have h2 := h1 HL.out; rw [HCD.out] at h2; obtain ⟨rfl, hb1⟩ := h2)
    go_ret2
    exact ⟨rfl, hb1⟩
end Go.Proofs.YtapkckpjeoedaaaDoor
