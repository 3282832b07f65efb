/-
  Cells are valid: the program's tests.
-/
import Derived.Test.YtabmdbhbbmnkdaaDoorShelfB
import Derived.Deep.WholeRow
import Derived.Test.YtabmdbhbbmnkdaaDoorBtU
namespace Go.Proofs.YtabmdbhbbmnkdaaDoor
open Go Go.ChangeShapes Go.WideShapes Go.ChangeAt Go.RowKit Go.Joins lib
set_option linter.unusedVariables false
set_option linter.unusedSimpArgs false
set_option maxRecDepth 100000
def strLen : Value → Nat
  | .string s => s.size
  | _ => 0
def CellL (l : List UInt8) : Prop := ∀ y ∈ l, y = 48 ∨ y = 49
theorem byteAt_strL (l : List UInt8) (i : Nat) : byteAt (strL l) i = l.getD i 0 := by
  unfold byteAt
  rw [strL_list]
theorem strL_cut (l : List UInt8) (m : Nat) (hm : m < l.length) : (strL (l.take (m + 1))).extract 0 m = strL (l.take m) := by
  apply ByteArray.ext
  rw [ByteArray.data_extract]
  apply Array.ext'
  simp [strL, List.take_take]
theorem trimR_bits (l : List UInt8) (hc : CellL l) (hl : l.length ≤ 9000) (b : Nat) (w : World) (h48 : w.cell? ⟨b, 48, none⟩ = some (.bool true)) (h49 : w.cell? ⟨b, 49, none⟩ = some (.bool true)) :
    Calls Tryd.prog 129 #[.string (strL l), .pointer (some ⟨b, 0, none⟩)] w fun e w' => e = .returned (.string ⟨#[]⟩) ∧ w' = w := by
  have HC := Lib.hid hc
  have hrel0 : strL l = strL (l.take l.length) := by rw [List.take_length]
  obtain ⟨n, hn⟩ : ∃ n, l.length = n := ⟨_, rfl⟩
  have HN := Lib.hid hn
  rw [hn] at hl hrel0
  rw [hrel0]
  have H48 := Lib.hid h48
  have H49 := Lib.hid h49
  clear hc hn hrel0 h48 h49
  go_enter Tryd.func129, Tryd.ntmps129
  go_wp2_with fail
  go_loopw [0] (fun s0 wr => ∃ k : Nat, k ≤ n ∧ s0 = Value.string (strL (l.take k)) ∧ wr = w) (fun s0 _ => strLen s0)
  case atStart => exact ⟨n, Nat.le_refl _, rfl, rfl⟩
  case round =>
    obtain ⟨k, hk, rfl, rfl⟩ := hrel
    have hsz : (strL (l.take k)).size = k := by rw [strL_size, List.length_take, HN.out]; omega
    by_cases h0 : k = 0
    · subst h0
      have hX : strL (l.take 0) = ⟨#[]⟩ := rfl
      rw [hX]
      clear hX hsz
      go_wp2_with fail
      go_ret
      exact ⟨rfl, rfl⟩
    · obtain ⟨m, rfl⟩ : ∃ m, k = m + 1 := ⟨k - 1, by omega⟩
      have hml : m < l.length := by rw [HN.out]; omega
      have hcut := strL_cut l m hml
      have hy : byteAt (strL (l.take (m + 1))) m = l.getD m 0 := by
        rw [byteAt_strL, List.getD_eq_getElem?_getD, List.getD_eq_getElem?_getD, List.getElem?_take, if_pos (by omega)]
      have hyc := HC.out (l.getD m 0) (by rw [List.getD_eq_getElem?_getD, List.getElem?_eq_getElem hml]; exact List.getElem_mem hml)
      obtain ⟨y, hyy⟩ : ∃ y, l.getD m 0 = y := ⟨_, rfl⟩
      rw [hyy] at hy hyc
      have hsl : ∀ W : World, (Instr.slice 9 (.string (strL (l.take (m + 1)))) none (some (.int .i64 (m : Int))) none).run Tryd.prog W = .ok (.string (strL (l.take m))) W := fun W => by
        rw [run_slice_string_h (P := Tryd.prog) W 9 _ Tryd.underlying9 .i64 (m : Int) (by omega) (by rw [hsz]; omega)]
        show Result.ok (Value.string ((strL (l.take (m + 1))).extract 0 m)) W = _
        rw [hcut]
      have hsz2 : (strL (l.take m)).size = m := by rw [strL_size, List.length_take]; omega
      obtain ⟨X, hX⟩ : ∃ X, strL (l.take (m + 1)) = X := ⟨_, rfl⟩
      rw [hX] at hsz hy hsl ⊢
      have hg := byteAt_get X m (by rw [hsz]; omega)
      rw [hy] at hg
      have hcy : wr.cell? ⟨b, y.toNat, none⟩ = some (.bool true) := by
        rcases hyc with rfl | rfl
        · exact H48.out
        · exact H49.out
      have HCT := Lib.hid (Tryd.asciiSet_contains b y true wr hcy)
      obtain ⟨Z, hZ⟩ : ∃ Z, strL (l.take m) = Z := ⟨_, rfl⟩
      rw [hZ] at hsl hsz2
      have HZ := Lib.hid hZ
      have HSZ2 := Lib.hid hsz2
      have hki : ((m + 1 : Nat) : Int) - 1 = (m : Int) := by omega
      have hki2 : (m : Int) + 1 - 1 = (m : Int) := by omega
      clear hyy hcut hX hy hcy hZ hsz2 hyc
      go_wp2_with (go_at_call 132; refine HCT.out.mono ?_; rintro e w' ⟨rfl, hw'⟩; rw [hw']; clear hw' w')
      refine ⟨⟨m, by omega, by rw [HZ.out], by first | trivial | rfl⟩, ?_⟩
      show Z.size < X.size
      rw [HSZ2.out, hsz]
      omega
theorem trimL_bits (b : Nat) (w : World) : Calls Tryd.prog 128 #[.string ⟨#[]⟩, .pointer (some ⟨b, 0, none⟩)] w fun e w' => e = .returned (.string ⟨#[]⟩) ∧ w' = w := by
  go_enter Tryd.func128, Tryd.ntmps128
  go_wp2_with fail
  go_loopw [0] (fun s0 wr => s0 = Value.string ⟨#[]⟩ ∧ wr = w) (fun s0 _ => 0)
  case atStart => exact ⟨rfl, rfl⟩
  case round =>
    obtain ⟨rfl, rfl⟩ := hrel
    go_wp2_with fail
    go_ret
    exact ⟨rfl, rfl⟩
def cutS : ByteArray := ⟨#[48, 49]⟩
set_option maxHeartbeats 4000000 in
theorem trim_bits (l : List UInt8) (hc : CellL l) (hl : l.length ≤ 9000) (h0 : l ≠ []) (w : World) : Calls Tryd.prog 119 #[.string (strL l), .string ⟨#[48, 49]⟩] w fun e w' => e = .returned (.string ⟨#[]⟩) ∧ Below w.heap.size w w' := by
  have hz := zero_of_info (P := Tryd.prog) (t := 150) (v := .agg (Array.replicate 256 (.bool false))) (n := 256) (by kernel_rfl)
  have HMK := Lib.hid (Tryd.strings_makeASCIISet hz.1 ⟨#[48, 49]⟩ w (by decide) (by
    intro j b hj
    have : j = 0 ∨ j = 1 ∨ 2 ≤ j := by omega
    rcases this with rfl | rfl | h
    · simp at hj; subst hj; decide
    · simp at hj; subst hj; decide
    · rw [List.getElem?_eq_none (by show 2 ≤ j; exact h)] at hj; cases hj))
  obtain ⟨SC, hSC⟩ : ∃ SC, Lib.setCells (⟨#[48, 49]⟩ : ByteArray).data.toList = SC := ⟨_, rfl⟩
  have hscz : SC.size = 256 := by rw [← hSC]; exact Lib.setCells_size _
  have hsc1 : SC.all (·.oneCell') = true := by rw [← hSC]; exact Lib.setCells_one _
  have h48 : SC[48]? = some (.bool true) := by rw [← hSC]; exact Lib.setCells_at _ 48
  have h49 : SC[49]? = some (.bool true) := by rw [← hSC]; exact Lib.setCells_at _ 49
  rw [hSC] at HMK
  have hal : Below w.heap.size w ((w.alloc (.cells SC 150)).alloc (.cells SC 150)) := ((Below.refl _ _).alloc (Nat.le_refl _) _).alloc (by simp) _
  have hst := run_storeCells_new (P := Tryd.prog) (w.alloc (.cells SC 150)) 150 (Array.replicate 256 (.bool false)) SC (by rw [hscz]; exact hz.2) (by rw [hscz, Array.size_replicate]) hsc1
  rw [World.size_alloc] at hst
  have hrw : Rw ((w.alloc (.cells SC 150)).alloc (.cells SC 150)) (w.heap.size + 1) 150 SC := by
    have := Rw.new (w.alloc (.cells SC 150)) 150 SC
    rw [World.size_alloc] at this
    exact this
  have HTR := Lib.hid (trimR_bits l hc hl (w.heap.size + 1) _ (by rw [hrw.cell]; exact h48) (by rw [hrw.cell]; exact h49))
  have HTL := Lib.hid (trimL_bits (w.heap.size + 1) ((w.alloc (.cells SC 150)).alloc (.cells SC 150)))
  have HAL := Lib.hid hal
  have HZZ := Lib.hid hz.1
  have hne : (strL l).toList.isEmpty = false := by
    rw [Lib.toList_data, strL_list]
    simpa using h0
  have hne2 : (strL l).toList ≠ [] := by
    rw [Lib.toList_data, strL_list]
    exact h0
  have hzv := hz.1
  obtain ⟨S, hS⟩ : ∃ S, strL l = S := ⟨_, rfl⟩
  rw [hS] at HTR hne hne2 ⊢
  clear hz hSC hsc1 h48 h49 hal hrw hS hc hl h0
  go_enter Tryd.func119, Tryd.ntmps119
  go_wp2_with (go_at_call 127; refine HMK.out.mono ?_; rintro e w' ⟨rfl, hw'⟩; rw [hw']; clear hw' w')
  clear hst hzv
  go_wp2_with (first
    | (go_at_call 129; refine HTR.out.mono ?_; rintro e w' ⟨rfl, hw'⟩; rw [hw']; clear hw' w')
    | (go_at_call 128; refine HTL.out.mono ?_; rintro e w' ⟨rfl, hw'⟩; rw [hw']; clear hw' w'))
  go_ret
  exact ⟨rfl, HAL.out⟩
theorem isBits_true (l : List UInt8) (hc : CellL l) (hl : l.length ≤ 9000) (h0 : l ≠ []) (w : World) : Calls Tryd.prog 106 #[.string (strL l)] w fun e w' => e = .returned (.bool true) ∧ Below w.heap.size w w' := by
  have HT := Lib.hid (trim_bits l hc hl h0 w)
  obtain ⟨S, hS⟩ : ∃ S, strL l = S := ⟨_, rfl⟩
  rw [hS] at HT ⊢
  clear hS hc hl h0
  go_enter Tryd.func106, Tryd.ntmps106
  go_wp2_with (go_at_call 119; refine HT.out.mono ?_; rintro e w' ⟨rfl, hb⟩)
  go_ret
  exact ⟨rfl, hb⟩
theorem isCellString_true (l : List UInt8) (hc : CellL l) (hl : l.length ≤ 8000) (h0 : l ≠ []) (w : World) : Calls Tryd.prog 87 #[.string (strL l)] w fun e w' => e = .returned (.bool true) ∧ Below w.heap.size w w' := by
  have HT := Lib.hid (isBits_true l hc (by omega) h0 w)
  have hsz : (strL l).size = l.length := strL_size l
  obtain ⟨S, hS⟩ : ∃ S, strL l = S := ⟨_, rfl⟩
  obtain ⟨n, hn⟩ : ∃ n, l.length = n := ⟨_, rfl⟩
  rw [hn] at hsz hl
  rw [hS] at HT hsz ⊢
  have hle : (n : Int) ≤ 8000 := by omega
  clear hS hc h0 hn
  go_enter Tryd.func87, Tryd.ntmps87
  go_wp2_with (go_at_call 106; refine HT.out.mono ?_; rintro e w' ⟨rfl, hb⟩)
  go_ret
  exact ⟨rfl, hb⟩
theorem validCells_true (l : List UInt8) (hc : CellL l) (hl : l.length ≤ 8000) (h0 : l ≠ []) (w : World) : Calls Tryd.prog 57 #[.string (strL l)] w fun e w' => e = .returned (.bool true) ∧ Below w.heap.size w w' := by
  have HT := Lib.hid (isCellString_true l hc hl h0 w)
  have hne : (strL l).toList.isEmpty = false := by
    rw [Lib.toList_data, strL_list]
    simpa using h0
  have hne2 : (strL l).toList ≠ [] := by
    rw [Lib.toList_data, strL_list]
    exact h0
  obtain ⟨S, hS⟩ : ∃ S, strL l = S := ⟨_, rfl⟩
  rw [hS] at HT hne hne2 ⊢
  clear hS hc h0
  go_enter Tryd.func57, Tryd.ntmps57
  go_wp2_with (go_at_call 87; refine HT.out.mono ?_; rintro e w' ⟨rfl, hb⟩)
  go_ret
  exact ⟨rfl, hb⟩
end Go.Proofs.YtabmdbhbbmnkdaaDoor
