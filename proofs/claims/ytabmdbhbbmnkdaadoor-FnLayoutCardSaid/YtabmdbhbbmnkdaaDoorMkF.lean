/-
  Marks: FindMarks of the reference.
-/
import Derived.Test.YtabmdbhbbmnkdaaDoorMkE
namespace Go.Proofs.YtabmdbhbbmnkdaaDoor
open Go Go.ChangeShapes Go.WideShapes Go.ChangeAt Go.RowKit Go.Joins lib
set_option linter.unusedVariables false
set_option linter.unusedSimpArgs false
set_option maxRecDepth 100000
theorem l02Cells_true (l : List UInt8) (hc : CellL l) (h1 : 1 ≤ l.length) (hl : l.length ≤ 8000) (w : World) : Calls Tryd.prog 32 #[.string (strL l)] w fun e w' => e = .returned (.bool true) ∧ w' = w := by
  have HY := Lib.hid (fun (i : Nat) (hi : i < l.length) => cell_of hc hi)
  have HB := Lib.hid (byteAt_strL l)
  have hsz : (strL l).size = l.length := strL_size l
  obtain ⟨S, hS⟩ : ∃ S, strL l = S := ⟨_, rfl⟩
  obtain ⟨n, hn⟩ : ∃ n, l.length = n := ⟨_, rfl⟩
  rw [hS] at HB hsz
  rw [hn] at HY hsz h1 hl
  rw [hS]
  clear hS hn hc
  go_enter Tryd.func32, Tryd.ntmps32
  go_wp2_with fail
  go_loopw [3] (fun s3 wr => ∃ i : Nat, i ≤ n ∧ s3 = .int .i64 i ∧ wr = w) (fun s3 _ => n - (intOf s3).toNat)
  case atStart => exact ⟨0, by omega, rfl, rfl⟩
  case round =>
    obtain ⟨i, hi, rfl, rfl⟩ := hrel
    by_cases hlt : i < n
    · have hii : (i : Int) < (n : Int) := by omega
      have hgt := byteAt_get S i (by omega)
      rw [HB.out i] at hgt
      have hy := HY.out i hlt
      obtain ⟨y, hyy⟩ : ∃ y, l.getD i 0 = y := ⟨_, rfl⟩
      rw [hyy] at hgt hy
      clear hyy
      rcases hy with rfl | rfl
      · go_wp2_with fail
        exact ⟨⟨i + 1, by omega, by go_num, trivial⟩, by simp [intOf] <;> omega⟩
      · go_wp2_with fail
        exact ⟨⟨i + 1, by omega, by go_num, trivial⟩, by simp [intOf] <;> omega⟩
    · obtain rfl : i = n := by omega
      go_wp2_with fail
      go_ret
      exact ⟨rfl, rfl⟩
theorem specValid_true (l : List UInt8) (hc : CellL l) (h1 : 1 ≤ l.length) (hl : l.length ≤ 8000) (w : World) : Calls Tryd.prog 15 #[.string (strL l)] w fun e w' => e = .returned (.bool true) ∧ w' = w := by
  have H := Lib.hid (l02Cells_true l hc h1 hl w)
  go_enter Tryd.func15, Tryd.ntmps15
  go_wp2_with (go_at_call 32; refine H.out.mono ?_; rintro e w' ⟨rfl, hw'⟩; rw [hw']; clear hw' w')
  go_ret
  exact ⟨rfl, rfl⟩
theorem l07Format_true (f : Nat) (hf : f123 f) (x : Int) (hx : x = f) (w : World) : Calls Tryd.prog 33 #[.int .i64 x] w fun e w' => e = .returned (.bool true) ∧ w' = w := by
  have g1 : inB 1 3 x = true := by unfold inB; rcases hf with rfl | rfl | rfl <;> subst hx <;> rfl
  have h : ∀ W : World, Calls Tryd.prog 45 #[.int .i64 x, .int .i64 1, .int .i64 3] W fun e w' => e = .returned (.bool true) ∧ w' = W := fun W => by
    have := l00InB_any x 1 3 W
    rwa [g1] at this
  have H := Lib.hid h
  clear h hx
  clear g1
  go_enter Tryd.func33, Tryd.ntmps33
  go_wp2_with (go_at_call 45; refine (H.out _).mono ?_; rintro e w' ⟨rfl, hw'⟩; rw [hw']; clear hw' w')
  go_ret
  exact ⟨rfl, rfl⟩
theorem marks_any (f : Nat) (hf : f123 f) (c : List UInt8) (hn : 1 ≤ c.length) (hm : c.length ≤ 8000) (x : Int) (hx : x = f) (w : World) : Calls Tryd.prog 34 #[.string (strL c), .int .i64 x] w fun e w' => MarksOut f c w w' e := by
  rcases hf with rfl | rfl | rfl
  · exact marks12_any 1 (.inl rfl) c hn hm x hx w
  · exact marks12_any 2 (.inr rfl) c hn hm x hx w
  · exact marks3_any c hn hm x hx w
def FindMOut (f : Nat) (c : List UInt8) (w w' : World) (e : Ending) : Prop := ∃ g2 c2, e = .returned (.tuple #[.slice (some ⟨g2, 0, none⟩) (marksK f c 3).length c2, .int .i64 0]) ∧ MkR w.heap.size w' (some ⟨g2, 0, none⟩) c2 (marksK f c 3) ∧ Below w.heap.size w w'
theorem findMarks_any (f : Nat) (hf : f123 f) (c : List UInt8) (hc : CellL c) (hn : 1 ≤ c.length) (hm : c.length ≤ 8000) (hk : (marksK f c 3).length ≤ 64) (x : Int) (hx : x = f) (w : World) : Calls Tryd.prog 16 #[.string (strL c), .int .i64 x] w fun e w' => FindMOut f c w w' e := by
  have H1 := Lib.hid (specValid_true c hc hn hm w)
  have H2 := Lib.hid (l07Format_true f hf x hx w)
  have H3 := Lib.hid (marks_any f hf c hn hm x hx w)
  unfold FindMOut
  obtain ⟨K, hK⟩ : ∃ K, (marksK f c 3).length = K := ⟨_, rfl⟩
  unfold MarksOut at H3
  rw [hK] at H3 hk ⊢
  have hki : ¬ (K : Int) > 64 := by omega
  obtain ⟨S, hS⟩ : ∃ S, strL c = S := ⟨_, rfl⟩
  rw [hS] at H1 H3 ⊢
  clear hK hS hx
  go_enter Tryd.func16, Tryd.ntmps16
  go_wp2_with (first
    | (go_at_call 15; refine H1.out.mono ?_; rintro e w' ⟨rfl, hw'⟩; rw [hw']; clear hw' w')
    | (go_at_call 33; refine H2.out.mono ?_; rintro e w' ⟨rfl, hw'⟩; rw [hw']; clear hw' w')
    | (go_at_call 34; refine H3.out.mono ?_; rintro e w1 ⟨g2, c2, rfl, ho, hb⟩))
  go_ret2
  exact ⟨g2, c2, rfl, ho, hb⟩
end Go.Proofs.YtabmdbhbbmnkdaaDoor
