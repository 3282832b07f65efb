/-
  Slices of files (a name, a text): how the laws weigh, copy and compare them.
-/
import Derived.Test.YtcbebhigbafigaaLib
import Derived.Test.YtcbebhigbafigaaChecked
namespace Go.Proofs.Ytcbebhigbafigaa
open Go Go.ChangeShapes Go.WideShapes Go.ChangeAt Go.RowKit lib
set_option linter.unusedVariables false
set_option maxRecDepth 100000
theorem szFile_ok (a b : ByteArray) (l : Int) (w : World) (hl : l ≤ 1048576) (h : (a.size : Int) + b.size ≤ l) :
    Calls Try.prog 9 #[.agg #[.string a, .string b], .int .i64 l] w fun e w' => e = .returned (.int .i64 (l - a.size - b.size)) ∧ Below w.heap.size w w' := by
  go_enter Try.func9, Try.ntmps9
  go_wp2
  go_ret
  exact ⟨rfl, (Below.refl _ _).alloc (Nat.le_refl _) _⟩
theorem szFile_over (a b : ByteArray) (l : Int) (w : World) (h0 : 0 ≤ l) (hl : l ≤ 1048576) (h : l < (a.size : Int) + b.size) (ha : a.size ≤ 9223372036854775807) (hb : b.size ≤ 9223372036854775807) :
    Calls Try.prog 9 #[.agg #[.string a, .string b], .int .i64 l] w fun e w' => e = .returned (.int .i64 (-1)) ∧ Below w.heap.size w w' := by
  by_cases h1 : l < a.size
  · have h1' : l - (a.size : Int) < 0 := by omega
    go_enter Try.func9, Try.ntmps9
    go_wp2
    go_ret
    exact ⟨rfl, (Below.refl _ _).alloc (Nat.le_refl _) _⟩
  · go_enter Try.func9, Try.ntmps9
    go_wp2
    go_ret
    exact ⟨rfl, (Below.refl _ _).alloc (Nat.le_refl _) _⟩
theorem szFileS_ok (A : Option Addr) (n c : Nat) (l : Int) (s : Nat → ByteArray) (w : World) (hl : l ≤ 1048576) (hs : Sl w w.heap.size A (n * 2) (fun i => .string (s i))) (h : (n : Int) + (tot s (n * 2) : Nat) ≤ l) :
    Calls Try.prog 4 #[.slice A n c, .int .i64 l] w fun e w' => e = .returned (.int .i64 (l - (n : Int) - (tot s (n * 2) : Nat))) ∧ Below w.heap.size w w' := by
  go_enter Try.func4, Try.ntmps4
  go_wp2
  go_loopw [1, 5] (fun s1 s5 wr => ∃ k : Nat, k ≤ n ∧ s5 = .int .i64 k ∧ s1 = .int .i64 (l - (n : Int) - (tot s (k * 2) : Nat)) ∧ Below w.heap.size w wr) (fun _ i _ => n - (intOf i).toNat)
  case atStart => exact ⟨0, by omega, rfl, by simp [tot], Below.refl _ _⟩
  case round =>
    obtain ⟨k, hk, rfl, rfl, hb⟩ := hrel
    have hz := hb.size
    by_cases hlt : k < n
    · obtain ⟨b, o, rfl, hbb, h0, h1⟩ := (hs.below hb).two hlt
      have hm := tot_mono s (show k * 2 + 2 ≤ n * 2 by omega)
      have ht : tot s (k * 2 + 2) = tot s (k * 2) + (s (k * 2)).size + (s (k * 2 + 1)).size := rfl
      obtain ⟨x, hx⟩ : ∃ x, x = s (k * 2) := ⟨_, rfl⟩
      obtain ⟨y, hy⟩ : ∃ y, y = s (k * 2 + 1) := ⟨_, rfl⟩
      obtain ⟨t, htt⟩ : ∃ t, t = tot s (k * 2) := ⟨_, rfl⟩
      obtain ⟨t2, ht2⟩ : ∃ t, t = tot s (k * 2 + 2) := ⟨_, rfl⟩
      simp only [← hx, ← hy, ← htt, ← ht2] at h0 h1 ht hm ⊢
      have HT := Lib.hid ht2
      have ht' : t + x.size + y.size ≤ t2 := by omega
      have ht'' : t2 ≤ t + x.size + y.size := by omega
      clear ht2 hx hy htt ht hs
      go_wp2_with (go_at_call 9; refine (szFile_ok x y _ _ (by omega) (by omega)).mono ?_; rintro e w1 ⟨rfl, hb1⟩)
      go_roundw
      case rel => exact ⟨k + 1, by omega, by go_num, by rw [show (k + 1) * 2 = k * 2 + 2 by omega, ← HT.out]; go_num, hb.trans (hb1.mono hz)⟩
      case measure => simp [intOf]; omega
    · obtain rfl : k = n := by omega
      go_wp2
      go_ret
      exact ⟨rfl, hb⟩
theorem szFileS_over (A : Option Addr) (n c : Nat) (l : Int) (s : Nat → ByteArray) (w : World) (hl : l ≤ 1048576) (hn : n ≤ 9223372036854775807) (hs : Sl w w.heap.size A (n * 2) (fun i => .string (s i)))
    (hm : ∀ i, i < n * 2 → (s i).size ≤ 9223372036854775807) (h0l : 0 ≤ l) (h : l < (n : Int) + (tot s (n * 2) : Nat)) :
    Calls Try.prog 4 #[.slice A n c, .int .i64 l] w fun e w' => e = .returned (.int .i64 (-1)) ∧ Below w.heap.size w w' := by
  by_cases h0 : l < n
  · go_enter Try.func4, Try.ntmps4
    go_wp2
    go_ret
    exact ⟨rfl, Below.refl _ _⟩
  · go_enter Try.func4, Try.ntmps4
    go_wp2
    go_loopw [1, 5] (fun s1 s5 wr => ∃ k : Nat, k ≤ n ∧ (n : Int) + (tot s (k * 2) : Nat) ≤ l ∧ s5 = .int .i64 k ∧ s1 = .int .i64 (l - (n : Int) - (tot s (k * 2) : Nat)) ∧ Below w.heap.size w wr) (fun _ i _ => n - (intOf i).toNat)
    case atStart => exact ⟨0, by omega, by simp [tot]; omega, rfl, by simp [tot], Below.refl _ _⟩
    case round =>
      obtain ⟨k, hk, hkl, rfl, rfl, hb⟩ := hrel
      have hz := hb.size
      by_cases hlt : k < n
      · obtain ⟨b, o, rfl, hbb, h0, h1⟩ := (hs.below hb).two hlt
        have ht : tot s (k * 2 + 2) = tot s (k * 2) + (s (k * 2)).size + (s (k * 2 + 1)).size := rfl
        have hx0 := hm (k * 2) (by omega)
        have hy0 := hm (k * 2 + 1) (by omega)
        obtain ⟨x, hx⟩ : ∃ x, x = s (k * 2) := ⟨_, rfl⟩
        obtain ⟨y, hy⟩ : ∃ y, y = s (k * 2 + 1) := ⟨_, rfl⟩
        obtain ⟨t, htt⟩ : ∃ t, t = tot s (k * 2) := ⟨_, rfl⟩
        obtain ⟨t2, ht2⟩ : ∃ t, t = tot s (k * 2 + 2) := ⟨_, rfl⟩
        simp only [← hx, ← hy, ← htt, ← ht2] at h0 h1 ht hkl hx0 hy0 ⊢
        have HT := Lib.hid ht2
        have ht' : t + x.size + y.size ≤ t2 := by omega
        have ht'' : t2 ≤ t + x.size + y.size := by omega
        clear ht2 hx hy htt ht hs hm
        by_cases hov : (n : Int) + t2 ≤ l
        · clear h
          go_wp2_with (go_at_call 9; refine (szFile_ok x y _ _ (by omega) (by omega)).mono ?_; rintro e w1 ⟨rfl, hb1⟩)
          go_roundw
          case rel => exact ⟨k + 1, by omega, by rw [show (k + 1) * 2 = k * 2 + 2 by omega, ← HT.out]; exact hov, by go_num, by rw [show (k + 1) * 2 = k * 2 + 2 by omega, ← HT.out]; go_num, hb.trans (hb1.mono hz)⟩
          case measure => simp [intOf]; omega
        · clear h
          go_wp2_with (go_at_call 9; refine (szFile_over x y _ _ (by omega) (by omega) (by omega) hx0 hy0).mono ?_; rintro e w1 ⟨rfl, hb1⟩)
          go_ret
          exact ⟨rfl, hb.trans (hb1.mono hz)⟩
      · obtain rfl : k = n := by omega
        omega
theorem toFile_any (a b : ByteArray) (w : World) :
    Calls Try.prog 12 #[.agg #[.string a, .string b]] w fun e w' => e = .returned (.agg #[.string a, .string b]) ∧ Below w.heap.size w w' := by
  go_enter Try.func12, Try.ntmps12
  go_wp2
  exact bodyPost_ret (v := .agg #[.string a, .string b]) (by simp [results, Try.results12, go_sem]) rfl ⟨rfl, by
    repeat (first | exact Below.refl _ _ | refine Below.setCell ?_ (by simp) _ | refine Below.alloc ?_ (by simp <;> omega) _)⟩
theorem eqFile_same (a b a' b' : ByteArray) (w : World) (ha : a = a') (hb : b = b') :
    Calls Try.prog 17 #[.agg #[.string a, .string b], .agg #[.string a', .string b']] w fun e w' => e = .returned (.bool true) ∧ Below w.heap.size w w' := by
  subst ha hb
  go_enter Try.func17, Try.ntmps17
  go_wp2
  go_ret
  exact ⟨rfl, ((Below.refl _ _).alloc (Nat.le_refl _) _).alloc (by simp) _⟩
theorem info45 : (Try.prog.info? 33).map (fun i => (i.zero, i.size, i.bytes)) = some (some (.agg #[.string .empty, .string .empty]), 2, 32) := by kernel_rfl
theorem toFileS_any (A : Option Addr) (n c : Nat) (s : Nat → ByteArray) (w : World) (hn : n ≤ 1048576) (hs : Sl w w.heap.size A (n * 2) (fun i => .string (s i))) :
    Calls Try.prog 6 #[.slice A n c] w fun e w' => ∃ g cs, e = .returned (.slice (some ⟨g, 0, none⟩) n n) ∧ w.heap.size ≤ g ∧ Rw w' g 33 cs ∧ (∀ i, i < n * 2 → cs[i]? = some (.string (s i))) ∧ Below w.heap.size w w' := by
  obtain ⟨i0, hi, hz0, hz1, hz2⟩ := info_parts info45
  have hmk : ∀ u : World, (Instr.makeSlice 25 (.int .i64 (n : Int)) (.int .i64 (n : Int))).run Try.prog u =
      .ok (.slice (some ⟨u.heap.size, 0, none⟩) n n) (u.alloc (.cells (madeCells #[.string .empty, .string .empty] (n * 2)) 33)) := fun u => by
    have h := run_make (P := Try.prog) u 25 33 i0 (.agg #[.string .empty, .string .empty]) Try.underlying25 hi hz0 .i64 .i64 (n : Int) (n : Int) (by omega) (Int.le_refl _) (by rw [hz2]; omega) (by omega)
    simpa [hz1, Value.cells] using h
  go_enter Try.func6, Try.ntmps6
  go_wp2
  go_loopw [4] (fun s4 wr => ∃ (k : Nat) (cur : Array Value), k ≤ n ∧ s4 = .int .i64 k ∧ Rw wr w.heap.size 33 cur ∧ cur.size = n * 2 ∧ (∀ i, i < k * 2 → cur[i]? = some (.string (s i))) ∧ Below w.heap.size w wr) (fun i _ => n - (intOf i).toNat)
  case atStart => exact ⟨0, _, by omega, rfl, Rw.new _ _ _, size_madeCells _ _, fun i hi => by omega, (Below.refl _ _).alloc (Nat.le_refl _) _⟩
  case round =>
    obtain ⟨k, cur, hk, rfl, hrw, hsz, hcur, hb⟩ := hrel
    have hz := hb.size
    have hlt0 := hrw.lt
    by_cases hlt : k < n
    · obtain ⟨b, o, rfl, hbb, h0, h1⟩ := (hs.below hb).two hlt
      have hnext := two_more (x := .string (s (k * 2))) (y := .string (s (k * 2 + 1))) (f := fun i => .string (s i)) hcur (by omega) rfl rfl
      have HN := Lib.hid hnext
      obtain ⟨x, hx⟩ : ∃ x, x = s (k * 2) := ⟨_, rfl⟩
      obtain ⟨y, hy⟩ : ∃ y, y = s (k * 2 + 1) := ⟨_, rfl⟩
      have HX := Lib.hid hx
      have HY := Lib.hid hy
      simp only [← hx, ← hy] at h0 h1
      clear hx hy hs hmk hi hz0 hz1 hz2 hcur hnext
      have hc0 : ∃ u, wr.cell? ⟨w.heap.size, k * 2, none⟩ = some u := ⟨_, (hrw.cell _).trans (Array.getElem?_eq_getElem (by omega))⟩
      have hc1 : ∃ u, wr.cell? ⟨w.heap.size, k * 2 + 1, none⟩ = some u := ⟨_, (hrw.cell _).trans (Array.getElem?_eq_getElem (by omega))⟩
      obtain ⟨u0, hc0⟩ := hc0
      obtain ⟨u1, hc1⟩ := hc1
      have hf0 := hrw.frozen (k * 2)
      have hf1 := hrw.frozen (k * 2 + 1)
      go_wp2_with (go_at_call 12; refine (toFile_any x y _).mono ?_; rintro e w1 ⟨rfl, hb1⟩; obtain ⟨hcc, hff⟩ := bcell hb1)
      go_roundw
      case rel =>
        refine ⟨k + 1, _, by omega, by go_num, ((hrw.below hb1 hlt0).set _ _).set _ _, by simpa using hsz, ?_, ((hb.trans (hb1.mono hz)).setCell (Nat.le_refl _) _).setCell (Nat.le_refl _) _⟩
        have h := HN.out
        rw [← HX.out, ← HY.out] at h
        exact h
      case measure => simp [intOf]; omega
    · obtain rfl : k = n := by omega
      go_wp2
      go_ret
      exact ⟨_, cur, rfl, Nat.le_refl _, hrw, hcur, hb⟩
theorem eqFileS_same (A B : Option Addr) (n c d : Nat) (s t : Nat → ByteArray) (w : World) (hn : n ≤ 1048576) (hs : Sl w w.heap.size A (n * 2) (fun i => .string (s i))) (ht : Sl w w.heap.size B (n * 2) (fun i => .string (t i)))
    (h : ∀ i, i < n * 2 → s i = t i) :
    Calls Try.prog 8 #[.slice A n c, .slice B n d] w fun e w' => e = .returned (.bool true) ∧ Below w.heap.size w w' := by
  go_enter Try.func8, Try.ntmps8
  go_wp2
  go_loopw [5] (fun s5 wr => ∃ k : Nat, k ≤ n ∧ s5 = .int .i64 k ∧ Below w.heap.size w wr) (fun i _ => n - (intOf i).toNat)
  case atStart => exact ⟨0, by omega, rfl, Below.refl _ _⟩
  case round =>
    obtain ⟨k, hk, rfl, hb⟩ := hrel
    have hz := hb.size
    by_cases hlt : k < n
    · obtain ⟨b, o, rfl, hbb, h0, h1⟩ := (hs.below hb).two hlt
      obtain ⟨b', o', rfl, hbb', h0', h1'⟩ := (ht.below hb).two hlt
      simp only [← h (k * 2) (by omega), ← h (k * 2 + 1) (by omega)] at h0' h1'
      obtain ⟨x, hx⟩ : ∃ x, x = s (k * 2) := ⟨_, rfl⟩
      obtain ⟨y, hy⟩ : ∃ y, y = s (k * 2 + 1) := ⟨_, rfl⟩
      simp only [← hx, ← hy] at h0 h1 h0' h1'
      clear hx hy hs ht h
      go_wp2_with fail
      go_still_tail 8, (by kernel_rfl)
      go_wp2_with (go_at_call 17; refine (eqFile_same x y x y _ rfl rfl).mono ?_; rintro e w1 ⟨rfl, hb1⟩)
      go_roundw
      case rel => exact ⟨k + 1, by omega, by go_num, hb.drew.trans (hb1.mono hz)⟩
      case measure => simp [intOf]; omega
    · go_wp2
      go_ret
      exact ⟨rfl, hb⟩
def fileEqB (a b c d : ByteArray) : Bool := decide (a = c ∧ b = d)
@[go_sem] theorem eqGuardFile : Try.prog.eqGuardType Try.prog.depth 33 = false := by kernel_rfl
@[go_sem high] theorem eqFileT (a b c d : ByteArray) (w : World) : (Op.equalIn 10000 33 (.agg #[.string a, .string b]) (.agg #[.string c, .string d])).run Try.prog w = .ok (fileEqB a b c d) w := by
  have u3 := Try.underlying9
  have a3 := Try.isAgg9
  have z3 := Try.sizeOf9
  have hS : Try.prog.underlying 33 = some (.struct (Try.prog.fieldsOf 33)) := by kernel_rfl
  have hp : Try.prog.stoodInHeld 33 = false := by kernel_rfl
  rw [show (10000 : Nat) = 9999 + 1 from rfl, run_equalIn_agg w 9999 33 _ _ hS hp]
  simp only [Program.fieldsOf, Try.underlying33]
  go_simp
  unfold fileEqB
  simp only [toList_iff]
  by_cases h1 : a = c <;> by_cases h2 : b = d <;> simp [h1, h2]
/-- the first k files of two lists are the same -/
def sameTo (s t : Nat → ByteArray) (k : Nat) : Prop := ∀ i, i < k * 2 → s i = t i
theorem sameTo_next {s t : Nat → ByteArray} {k : Nat} (h : sameTo s t k) (h1 : s (k * 2) = t (k * 2)) (h2 : s (k * 2 + 1) = t (k * 2 + 1)) : sameTo s t (k + 1) := fun i hi => by
  by_cases e1 : i = k * 2
  · rw [e1, h1]
  · by_cases e2 : i = k * 2 + 1
    · rw [e2, h2]
    · exact h i (by omega)
def sameB (n m : Nat) (s t : Nat → ByteArray) : Bool := decide (n = m) && (List.range (n * 2)).all fun i => decide (s i = t i)
theorem sameB_true {n : Nat} {s t : Nat → ByteArray} (h : sameTo s t n) : sameB n n s t = true := by
  simp [sameB]; intro i hi; exact h i (by omega)
theorem sameB_len {n m : Nat} {s t : Nat → ByteArray} (h : n ≠ m) : sameB n m s t = false := by simp [sameB, h]
theorem sameB_off {n m k : Nat} {s t : Nat → ByteArray} (hk : k < n * 2) (h : s k ≠ t k) : sameB n m s t = false := by
  simp only [sameB, Bool.and_eq_false_iff]; right
  rw [List.all_eq_false]
  exact ⟨k, List.mem_range.2 hk, by simpa using h⟩
end Go.Proofs.Ytcbebhigbafigaa
