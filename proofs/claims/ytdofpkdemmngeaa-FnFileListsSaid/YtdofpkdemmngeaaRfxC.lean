/-
  strings.Cut at one byte.
-/
import Derived.Test.YtdofpkdemmngeaaRfxP
import Derived.Test.YtdofpkdemmngeaaShelf
import Derived.Test.YtdofpkdemmngeaaName
namespace Go.Proofs.Ytdofpkdemmngeaa
open Go Go.ChangeShapes Go.WideShapes Go.ChangeAt Go.RowKit lib
set_option linter.unusedVariables false
set_option maxRecDepth 100000
def cutAS (c : UInt8) (s : ByteArray) : ByteArray := ⟨(cutA c s.data.toList).toArray⟩
def cutZS (c : UInt8) (s : ByteArray) : ByteArray := ⟨(cutZ c s.data.toList).toArray⟩
theorem cutAS_size (c : UInt8) (s : ByteArray) : (cutAS c s).size ≤ s.size := by
  rw [Lib.size_eq, Lib.size_eq]; exact cutA_len _ _
theorem cutZS_size (c : UInt8) (s : ByteArray) : (cutZS c s).size ≤ s.size := by
  rw [Lib.size_eq, Lib.size_eq]; exact cutZ_len _ _
theorem bytes_eq {x : ByteArray} {l : List UInt8} (h : x.data.toList = l) : x = ⟨l.toArray⟩ := by subst h; rfl
def CutOut (c : UInt8) (s : ByteArray) (r : Ending) (w w' : World) : Prop := (∃ b : Bool, r = .returned (.tuple #[.string (cutAS c s), .string (cutZS c s), .bool b])) ∧ (w' = w ∨ w' = w.drew)
theorem slCut_one (s : ByteArray) (c : UInt8) (hs : s.size ≤ 1048576) (w : World) : Calls Try.prog 48 #[.string s, .string ⟨#[c]⟩] w fun r w' => CutOut c s r w w' := by
  have hx1 := Lib.indexByte_ge s.data.toList c
  have hix := Try.stringslite_Index_one s c
  by_cases hx : Lib.indexByte s.data.toList c = -1
  · rw [hx] at hix
    have h1 : cutAS c s = s := by unfold cutAS cutA; rw [hx, if_neg (by omega)]
    have h2 : cutZS c s = ⟨#[]⟩ := by unfold cutZS cutZ; rw [hx, if_neg (by omega)]
    have HIX := Lib.hid hix
    clear hx hx1 hix
    go_enter Try.func48, Try.ntmps48
    go_wp2_with (go_at_call 69; refine (HIX.out _).mono ?_; rintro e w' ⟨rfl, rfl⟩)
    exact bodyPost_ret (v := .tuple #[.string s, .string ⟨#[]⟩, .bool false]) (by simp [results, Try.results48, go_sem]) rfl ⟨⟨false, by rw [h1, h2]⟩, .inl rfl⟩
  · obtain ⟨i, hi⟩ : ∃ i : Nat, Lib.indexByte s.data.toList c = i := ⟨(Lib.indexByte s.data.toList c).toNat, by omega⟩
    rw [hi] at hix
    obtain ⟨hl1, hl2⟩ := Lib.indexByte_some hi
    have hiz : i + 1 ≤ s.size := by
      rw [Lib.size_eq]
      have := (List.getElem?_eq_some_iff.1 hl1).1
      omega
    have h1 : s.extract 0 i = cutAS c s := by unfold cutAS cutA; rw [hi, if_pos (by omega)]; exact bytes_eq (by rw [Lib.extract_from_zero]; simp)
    have h2 : s.extract (i + 1) s.size = cutZS c s := by unfold cutZS cutZ; rw [hi, if_pos (by omega)]; exact bytes_eq (by rw [Lib.extract_to_end]; simp)
    have e1 : IntKind.i64.wrap ((i : Int) + 1) = (i : Int) + 1 := by rw [IntKind.wrap_i64]; omega
    have e2 : (0 : Int) ≤ (i : Int) + 1 := by omega
    have e3 : (i : Int) + 1 ≤ (s.size : Int) := by omega
    have e4 : ((i : Int) + 1).toNat = i + 1 := by omega
    have e5 : (i : Int) ≤ (s.size : Int) := by omega
    have HIX := Lib.hid hix
    have H1 := Lib.hid h1
    have H2 := Lib.hid h2
    clear hx hx1 hix hl1 hl2 h1 h2 hi
    go_enter Try.func48, Try.ntmps48
    go_wp2_with (go_at_call 69; refine (HIX.out _).mono ?_; rintro e w' ⟨rfl, rfl⟩)
    go_region
    go_wp2_with fail
    exact bodyPost_ret (v := .tuple #[.string (s.extract 0 i), .string (s.extract (i + 1) s.size), .bool true]) (by simp [results, Try.results48, go_sem]) rfl ⟨⟨true, by rw [H1.out, H2.out]⟩, .inr rfl⟩
theorem cut_one (s : ByteArray) (c : UInt8) (hs : s.size ≤ 1048576) (w : World) : Calls Try.prog 30 #[.string s, .string ⟨#[c]⟩] w fun r w' => CutOut c s r w w' := by
  have HIX := Lib.hid (slCut_one s c hs)
  go_enter Try.func30, Try.ntmps30
  go_wp2_with (go_at_call 48; refine (HIX.out _).mono ?_; rintro e w' ⟨⟨b, rfl⟩, hw⟩)
  exact bodyPost_ret (v := .tuple #[.string (cutAS c s), .string (cutZS c s), .bool b]) (by simp [results, Try.results30, go_sem]) rfl ⟨⟨b, rfl⟩, hw⟩
/-- a line without its newline -/
def trimS (s : ByteArray) : ByteArray := ⟨(Lib.trimSuffix s.data.toList [10]).toArray⟩
theorem trimS_size (s : ByteArray) : (trimS s).size ≤ s.size := by
  rw [Lib.size_eq, Lib.size_eq]
  show (Lib.trimSuffix s.data.toList [10]).length ≤ _
  unfold Lib.trimSuffix
  split
  · simp
  · exact Nat.le_refl _
theorem trim_nl (s : ByteArray) (hs : s.size ≤ 1048576) (w : World) : Calls Try.prog 31 #[.string s, .string ⟨#[10]⟩] w fun r w' => r = .returned (.string (trimS s)) ∧ w' = w := Try.strings_TrimSuffix s ⟨#[10]⟩ w (by omega)
end Go.Proofs.Ytdofpkdemmngeaa
