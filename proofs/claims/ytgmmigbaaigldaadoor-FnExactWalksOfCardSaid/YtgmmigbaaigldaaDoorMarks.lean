/-
  The laws' own helpers on lists of texts: weighing, copying, comparing, marking.
-/
import Derived.Test.YtgmmigbaaigldaaDoorOwn
import Derived.Test.YtgmmigbaaigldaaDoorChecked
namespace Go.Proofs.YtgmmigbaaigldaaDoor
open Go Go.ChangeShapes Go.WideShapes Go.ChangeAt Go.RowKit lib
set_option linter.unusedVariables false
set_option maxRecDepth 100000
/-- the text of a mark: its digits -/
def mtF : Nat → Nat → List UInt8 → List UInt8
  | 0, _, out => out
  | f + 1, k, out => if k = 0 then out else mtF f (k / 10) ((48 + UInt8.ofNat (k % 10)) :: out)
def mt (k : Nat) : ByteArray := ⟨(109 :: mtF 20 k []).toArray⟩
theorem mtF_next {f k : Nat} {out : List UInt8} (h0 : 0 < k) (h : k < 10 ^ f) : ∃ g, f = g + 1 ∧ mtF f k out = mtF g (k / 10) ((48 + UInt8.ofNat (k % 10)) :: out) ∧ k / 10 < 10 ^ g := by
  cases f with
  | zero => simp at h; omega
  | succ g => exact ⟨g, rfl, by simp only [mtF]; rw [if_neg (by omega)], by rw [Nat.pow_succ] at h; omega⟩
theorem mtF_zero (f : Nat) (out : List UInt8) : mtF f 0 out = out := by cases f <;> simp [mtF]
theorem markText_any (k : Int) (w : World) (h0 : 1 ≤ k) (h1 : k ≤ 4611686018427387904) :
    Calls Tryd.prog 40 #[.int .i64 k] w fun e w' => e = .returned (.string (mt k.toNat)) ∧ Below w.heap.size w w' := by
  obtain ⟨n, rfl⟩ := Int.eq_ofNat_of_zero_le (show 0 ≤ k by omega)
  rw [Int.toNat_natCast]
  have hcv := fun (W : World) (x : Int) => run_bstr1 (P := Tryd.prog) 52 9 5 Tryd.underlying52 Tryd.underlying5 Tryd.underlying9 W x
  go_enter Tryd.func40, Tryd.ntmps40
  go_wp2
  go_loopw [0, 3] (fun s0 s3 wr => ∃ (f m : Nat) (out : List UInt8), mtF f m out = mtF 20 n [] ∧ m < 10 ^ f ∧ m ≤ n ∧ out.length + f = 20 ∧ s0 = .int .i64 m ∧ s3 = .string ⟨out.toArray⟩ ∧ Below w.heap.size w wr) (fun i _ _ => (intOf i).toNat)
  case atStart => exact ⟨20, n, [], rfl, by omega, Nat.le_refl _, rfl, rfl, rfl, Below.refl _ _⟩
  case round =>
    obtain ⟨f, m, out, hm, hlt, hle, hlen, rfl, rfl, hb⟩ := hrel
    have hz := hb.size
    have hl20 : out.length ≤ 20 := by omega
    have HL := Lib.hid hlen
    clear hlen
    by_cases h0 : 0 < m
    · obtain ⟨g, rfl, hnext, hlt'⟩ := mtF_next (out := out) h0 hlt
      have HN := Lib.hid (hnext.symm.trans hm)
      clear hm hnext hlt
      go_wp2
      go_roundw
      case rel =>
        refine ⟨g, m / 10, (48 + UInt8.ofNat (m % 10)) :: out, HN.out, hlt', by omega, by have := HL.out; simp; omega, by go_num, ?_, hb.alloc hz _⟩
        exact congrArg Value.string (ByteArray.mk_append_mk [_] out)
      case measure => simp [intOf]; omega
    · go_wp2
      go_ret
      obtain rfl : m = 0 := by omega
      rw [mtF_zero] at hm
      refine ⟨?_, hb⟩
      exact congrArg (fun s => Ending.returned (.string s)) (by unfold mt; rw [← hm]; exact ByteArray.mk_append_mk [109] out)
theorem szStringS_ok (A : Option Addr) (n c : Nat) (l : Int) (s : Nat → ByteArray) (w : World) (hl : l ≤ 1048576) (hs : Sl w w.heap.size A n (fun i => .string (s i))) (h : (n : Int) + (tot s n : Nat) ≤ l) :
    Calls Tryd.prog 8 #[.slice A n c, .int .i64 l] w fun e w' => e = .returned (.int .i64 (l - (n : Int) - (tot s n : Nat))) ∧ w = w' := by
  go_enter Tryd.func8, Tryd.ntmps8
  go_wp2
  go_loop [1, 5] (fun s1 s5 => ∃ k : Nat, k ≤ n ∧ s5 = .int .i64 k ∧ s1 = .int .i64 (l - (n : Int) - (tot s k : Nat))) (fun _ i => n - (intOf i).toNat)
  case atStart => exact ⟨0, by omega, rfl, by simp [tot]⟩
  case round =>
    obtain ⟨k, hk, rfl, rfl⟩ := hrel
    by_cases hlt : k < n
    · obtain ⟨b, o, rfl, hbb, h0⟩ := hs k hlt
      have hm := tot_mono s (show k + 1 ≤ n by omega)
      have ht : tot s (k + 1) = tot s k + (s k).size := rfl
      obtain ⟨x, hx⟩ : ∃ x, x = s k := ⟨_, rfl⟩
      obtain ⟨t, htt⟩ : ∃ t, t = tot s k := ⟨_, rfl⟩
      obtain ⟨t2, ht2⟩ : ∃ t, t = tot s (k + 1) := ⟨_, rfl⟩
      simp only [← hx, ← htt, ← ht2] at h0 ht hm ⊢
      have HT := Lib.hid ht2
      have ht' : t + x.size ≤ t2 := by omega
      have ht'' : t2 ≤ t + x.size := by omega
      clear ht2 hx htt ht hs
      go_wp2
      go_round
      case rel => exact ⟨k + 1, by omega, by go_num, by rw [← HT.out]; go_num⟩
      case measure => simp [intOf]; omega
    · obtain rfl : k = n := by omega
      go_wp2
      go_ret
      exact ⟨rfl, rfl⟩
theorem szStringS_over (A : Option Addr) (n c : Nat) (l : Int) (s : Nat → ByteArray) (w : World) (hl : l ≤ 1048576) (hn : n ≤ 9223372036854775807) (hs : Sl w w.heap.size A n (fun i => .string (s i)))
    (hm : ∀ i, i < n → (s i).size ≤ 9223372036854775807) (h0l : 0 ≤ l) (h : l < (n : Int) + (tot s n : Nat)) :
    Calls Tryd.prog 8 #[.slice A n c, .int .i64 l] w fun e w' => e = .returned (.int .i64 (-1)) ∧ w = w' := by
  by_cases h0 : l < n
  · go_enter Tryd.func8, Tryd.ntmps8
    go_wp2
    go_ret
    exact ⟨rfl, rfl⟩
  · go_enter Tryd.func8, Tryd.ntmps8
    go_wp2
    go_loop [1, 5] (fun s1 s5 => ∃ k : Nat, k ≤ n ∧ (n : Int) + (tot s k : Nat) ≤ l ∧ s5 = .int .i64 k ∧ s1 = .int .i64 (l - (n : Int) - (tot s k : Nat))) (fun _ i => n - (intOf i).toNat)
    case atStart => exact ⟨0, by omega, by simp [tot]; omega, rfl, by simp [tot]⟩
    case round =>
      obtain ⟨k, hk, hkl, rfl, rfl⟩ := hrel
      by_cases hlt : k < n
      · obtain ⟨b, o, rfl, hbb, h0⟩ := hs k hlt
        have ht : tot s (k + 1) = tot s k + (s k).size := rfl
        have hx0 := hm k (by omega)
        obtain ⟨x, hx⟩ : ∃ x, x = s k := ⟨_, rfl⟩
        obtain ⟨t, htt⟩ : ∃ t, t = tot s k := ⟨_, rfl⟩
        obtain ⟨t2, ht2⟩ : ∃ t, t = tot s (k + 1) := ⟨_, rfl⟩
        simp only [← hx, ← htt, ← ht2] at h0 ht hkl hx0 ⊢
        have HT := Lib.hid ht2
        have ht' : t + x.size ≤ t2 := by omega
        have ht'' : t2 ≤ t + x.size := by omega
        clear ht2 hx htt ht hs hm h
        by_cases hov : (n : Int) + t2 ≤ l
        · go_wp2
          go_round
          case rel => exact ⟨k + 1, by omega, by rw [← HT.out]; exact hov, by go_num, by rw [← HT.out]; go_num⟩
          case measure => simp [intOf]; omega
        · go_wp2
          go_ret
          exact ⟨rfl, rfl⟩
      · obtain rfl : k = n := by omega
        omega
theorem eqStringS_same (A B : Option Addr) (n c d : Nat) (s t : Nat → ByteArray) (w : World) (hn : n ≤ 1048576) (hs : Sl w w.heap.size A n (fun i => .string (s i))) (ht : Sl w w.heap.size B n (fun i => .string (t i)))
    (h : ∀ i, i < n → s i = t i) :
    Calls Tryd.prog 13 #[.slice A n c, .slice B n d] w fun e w' => e = .returned (.bool true) ∧ Below w.heap.size w w' := by
  go_enter Tryd.func13, Tryd.ntmps13
  go_wp2
  go_loopw [5] (fun s5 wr => ∃ k : Nat, k ≤ n ∧ s5 = .int .i64 k ∧ Below w.heap.size w wr) (fun i _ => n - (intOf i).toNat)
  case atStart => exact ⟨0, by omega, rfl, Below.refl _ _⟩
  case round =>
    obtain ⟨k, hk, rfl, hb⟩ := hrel
    by_cases hlt : k < n
    · obtain ⟨b, o, rfl, hbb, h0⟩ := (hs.below hb) k hlt
      obtain ⟨b', o', rfl, hbb', h0'⟩ := (ht.below hb) k hlt
      simp only [← h k hlt] at h0'
      obtain ⟨x, hx⟩ : ∃ x, x = s k := ⟨_, rfl⟩
      simp only [← hx] at h0 h0'
      clear hx hs ht h
      go_wp2_with fail
      go_quiet (fail)
      go_wp2
      go_roundw
      case rel => exact ⟨k + 1, by omega, by go_num, hb.drewN _⟩
      case measure => simp [intOf]; omega
    · go_wp2
      go_ret
      exact ⟨rfl, hb⟩
theorem markStringS_any (A : Option Addr) (n c B : Nat) (k0 : Int) (xs : List Value) (w : World) (hn : n ≤ 1048576) (h0 : 1 ≤ k0) (h1 : k0 ≤ 1048577) (hown : w.ownsRow B 9 1 (.slice A n c) n xs) :
    Calls Tryd.prog 14 #[.slice A n c, .int .i64 k0] w fun e w' => e = .returned (.int .i64 (k0 + n)) ∧ w'.ownsRow B 9 1 (.slice A n c) n ((List.range n).map fun (i : Nat) => Value.string (mt (k0 + i).toNat)) ∧ w.grownBy w' (Value.slice A n c).ownBlock := by
  go_enter Tryd.func14, Tryd.ntmps14
  go_wp2
  go_loopw [1, 5] (fun s1 s5 wr => ∃ k : Nat, k ≤ n ∧ s5 = .int .i64 k ∧ s1 = .int .i64 (k0 + k) ∧ wr.ownsRow B 9 1 (.slice A n c) n (((List.range k).map fun (i : Nat) => Value.string (mt (k0 + i).toNat)) ++ xs.drop k) ∧ w.grownBy wr (Value.slice A n c).ownBlock) (fun _ i _ => n - (intOf i).toNat)
  case atStart => exact ⟨0, by omega, rfl, by simp, by simpa using hown, only_refl _ _⟩
  case round =>
    obtain ⟨k, hk, rfl, rfl, ho, hg⟩ := hrel
    have hz := hg.size
    by_cases hlt : k < n
    · obtain ⟨g, cap, hv, hbg, hgl⟩ := ho.form (by omega)
      injection hv with hA _ hC
      subst hA hC
      obtain ⟨x, hx⟩ : ∃ x, x = mt (k0 + k).toNat := ⟨_, rfl⟩
      have hnext := set_next ((List.range k).map fun (i : Nat) => Value.string (mt (k0 + i).toNat)) xs (.string x) k (by simp) (by have := hown.1; omega)
      have HN := Lib.hid hnext
      clear hnext
      have HO := Lib.hid ho
      clear ho hown
      have HX := Lib.hid hx
      clear hx
      go_wp2_with (go_at_call 40; refine (markText_any _ _ (by omega) (by omega)).mono ?_; rw [← HX.out]; rintro e w1 ⟨rfl, hb1⟩; obtain ⟨⟨u, hu⟩, hf⟩ := own_cell (i := k) (own_below HO.out hb1) (by omega))
      go_roundw
      case rel =>
        refine ⟨k + 1, by omega, by go_num, by go_num, ?_, only_setCell (p := ⟨g, k, none⟩) (only_trans hg (only_below hb1 (Nat.le_refl _) _)) (.inl rfl) _⟩
        have h := own_set (i := k) (own_below HO.out hb1) (by omega) (.string x)
        rw [HN.out] at h
        rw [List.range_succ, List.map_append]
        simp only [List.map_cons, List.map_nil, ← HX.out]
        exact h
      case measure => simp [intOf]; omega
    · go_wp2
      go_ret
      obtain rfl : k = n := by omega
      rw [List.drop_of_length_le (by have := hown.1; omega), List.append_nil] at ho
      exact ⟨rfl, ho, hg⟩
end Go.Proofs.YtgmmigbaaigldaaDoor
