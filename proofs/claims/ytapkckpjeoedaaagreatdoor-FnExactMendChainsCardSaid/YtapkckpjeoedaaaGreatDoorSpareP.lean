/-
  Disks of chains: a spare name: plain; decimals; names asked for.
-/
import Derived.Test.YtapkckpjeoedaaaGreatDoorGoneP
import Derived.Test.YtapkckpjeoedaaaGreatDoorMapP
import Derived.Test.YtapkckpjeoedaaaGreatDoorName
import Derived.Test.YtapkckpjeoedaaaGreatDoorShelf
import Derived.Lib.ItoaNum
namespace Go.Proofs.YtapkckpjeoedaaaGreatDoor
open Go Go.ChangeShapes Go.WideShapes Go.ChangeAt Go.RowKit lib
set_option linter.unusedVariables false
set_option maxRecDepth 100000
/-- a prefix with two digits -/
def spName (pre : ByteArray) (k : Nat) : ByteArray := pre ++ ⟨#[UInt8.ofNat (48 + k / 10), UInt8.ofNat (48 + k % 10)]⟩
def dig1 (i : Nat) : ByteArray := ⟨#[UInt8.ofNat (48 + i)]⟩
theorem spName_dig (pre : ByteArray) (k : Nat) : pre ++ dig1 (k / 10) ++ dig1 (k % 10) = spName pre k := by
  unfold spName dig1
  rw [ByteArray.append_assoc]
  rfl
open Classical in
/-- the first spare name from k on -/
noncomputable def spGo (n z : Nat) (U : Nat → UInt8) (E : Nat) (pre : ByteArray) : Nat → Nat → Option ByteArray
  | 0, _ => none
  | f + 1, k => if namedTo n z U (spName pre k) E then spGo n z U E pre f (k + 1) else some (spName pre k)
theorem spGo_hit {n z : Nat} {U : Nat → UInt8} {E : Nat} {pre : ByteArray} {f k : Nat} (h : ¬ namedTo n z U (spName pre k) E) : spGo n z U E pre (f + 1) k = some (spName pre k) := by rw [spGo, if_neg h]
theorem spGo_next {n z : Nat} {U : Nat → UInt8} {E : Nat} {pre : ByteArray} {f k : Nat} (h : namedTo n z U (spName pre k) E) : spGo n z U E pre (f + 1) k = spGo n z U E pre f (k + 1) := by rw [spGo, if_pos h]
theorem spName_size (pre : ByteArray) (k : Nat) : (spName pre k).size = pre.size + 2 := by unfold spName; rw [ByteArray.size_append]; rfl
def SpOut (R : Option ByteArray) (r : Ending) (w w' : World) : Prop := (∀ s, R = some s → r = .returned (.tuple #[.string s, .bool true])) ∧ (R = none → r = .returned (.tuple #[.string ⟨#[]⟩, .bool false])) ∧ Below w.heap.size w w'
theorem decimal_any (i : Nat) (hi : i < 10) (w : World) : Calls Tryz.prog 100 #[.int .i64 i] w fun e w' => e = .returned (.string (dig1 i)) ∧ w' = w := by
  have hd : Lib.decDigits i = [UInt8.ofNat (48 + i)] := by rw [Lib.decDigits, dif_pos hi]
  have HF : Hid (Calls Tryz.prog 126 #[.int .i64 i, .int .i64 10] w fun e w' => e = .returned (.string (dig1 i)) ∧ w' = w) := Lib.hid (by have h := Tryz.strconv_FormatInt_10_small i (by omega) w; rw [hd] at h; exact h)
  clear hd
  go_enter Tryz.func100, Tryz.ntmps100
  go_wp2_with (go_at_call 126; refine HF.out.mono ?_; rintro e w1 ⟨rfl, rfl⟩)
  go_ret
  exact ⟨rfl, rfl⟩
theorem specNamed2_any {w : World} {p g n z E d t N c : Nat} {u : Nat → UInt8} (nm : ByteArray) (h : ChW w p g n z E d t N c u) (hN : N ≤ 4096) (hcN : N ≤ c) (hE : E ≤ 16) (hd : d = dirN n z) (hfit : ∀ k, k < E → d * z + k * 12 + 12 ≤ N) :
    Calls Tryz.prog 90 #[.pointer (some ⟨p, 0, none⟩), .string nm] w fun r w' => ∃ b, (b = true ↔ namedTo n z u nm E) ∧ r = .returned (.bool b) ∧ Below w.heap.size w w' := by
  have HH := Lib.hid h
  have HFIT := Lib.hid hfit
  have HD := Lib.hid hd
  clear h hfit hd
  go_enter Tryz.func90, Tryz.ntmps90
  go_wp2_with fail
  go_loopw [5] (fun s5 wr => ∃ k : Nat, k ≤ E ∧ s5 = .int .i64 k ∧ ¬ namedTo n z u nm k ∧ Below w.heap.size w wr) (fun s _ => E - (intOf s).toNat)
  case atStart => exact ⟨0, by omega, rfl, fun ⟨i, hi, _⟩ => absurd hi (by omega), Below.refl _ _⟩
  case round =>
    obtain ⟨m, hm, rfl, hnot, hb⟩ := hrel
    have HNOT := Lib.hid hnot
    have HB := Lib.hid hb
    have HC := Lib.hid (HH.out.below hb)
    have c2 := HC.out.c2
    have hbz := hb.size
    clear hnot hb
    by_cases hlt : m < E
    · have t1 := HFIT.out m hlt
      go_upto_region 5 with (first
        | (go_at_call 68; refine (specEntry_any m _ HC.out rfl t1 (by omega) hcN (by omega)).mono ?_; intro e2 w2 h2; obtain ⟨b, nm', f', l', us', de', hb0, he0, rfl, hb2, n8, f8, l8, hbf⟩ := entOut_parts h2))
      have HEK := Lib.hid (show entK n z u m = ⟨nm', f', l', us', de'⟩ by unfold entK; rw [← HD.out, he0])
      have hal := hb2.alloc hb2.size (.cells #[.string nm', .int .i64 f', .int .i64 l', .bool us', .bool de'] 82)
      have hrr := Rw.new w2 82 #[.string nm', .int .i64 f', .int .i64 l', .bool us', .bool de']
      have q0 := hrr.cell 0; have q3 := hrr.cell 3
      have HBA := Lib.hid (HB.out.trans (hal.mono hbz))
      clear hrr hal he0 hb0 h2 c2
      generalize hWW : w2.alloc (.cells #[.string nm', .int .i64 f', .int .i64 l', .bool us', .bool de'] 82) = W3 at *
      clear hWW
      have hcase : b = false ∨ (b = true ∧ us' = false) ∨ (b = true ∧ us' = true ∧ nm' ≠ nm) ∨ (b = true ∧ us' = true ∧ nm' = nm) := by
        cases b
        · exact .inl rfl
        · cases us'
          · exact .inr (.inl ⟨rfl, rfl⟩)
          · by_cases h : nm' = nm
            · exact .inr (.inr (.inr ⟨rfl, rfl, h⟩))
            · exact .inr (.inr (.inl ⟨rfl, rfl, h⟩))
      rcases hcase with rfl | ⟨rfl, rfl⟩ | ⟨rfl, rfl, hne⟩ | ⟨rfl, rfl, hnm⟩
      · have hus := (hbf rfl).1
        have HN2 := Lib.hid (namedTo_succ HNOT.out (by rw [HEK.out]; simp only; rw [hus]; exact fun q => by cases q.1))
        clear hbf hus
        go_wp2_with fail
        go_roundw
        case rel => exact ⟨m + 1, by omega, by go_num, HN2.out, HBA.out⟩
        case measure => simp [intOf]; omega
      · have HN2 := Lib.hid (namedTo_succ HNOT.out (by rw [HEK.out]; exact fun q => by cases q.1))
        clear hbf
        go_wp2_with fail
        go_roundw
        case rel => exact ⟨m + 1, by omega, by go_num, HN2.out, HBA.out⟩
        case measure => simp [intOf]; omega
      · have e1 := str_eq_false hne
        have HN2 := Lib.hid (namedTo_succ HNOT.out (by rw [HEK.out]; exact fun q => hne q.2))
        clear hbf hne
        go_wp2_with fail
        go_roundw
        case rel => exact ⟨m + 1, by omega, by go_num, HN2.out, HBA.out⟩
        case measure => simp [intOf]; omega
      · have e1 := str_eq_true hnm
        have HYES := Lib.hid (show namedTo n z u nm E from ⟨m, hlt, by rw [HEK.out], by rw [HEK.out]; exact hnm⟩)
        clear hbf hnm
        go_wp2_with fail
        go_ret
        exact ⟨true, ⟨fun _ => HYES.out, fun _ => rfl⟩, rfl, HBA.out⟩
    · obtain rfl : m = E := by omega
      go_wp2_with fail
      go_ret
      exact ⟨false, ⟨fun q => (by cases q), fun q => absurd q HNOT.out⟩, rfl, HB.out⟩
end Go.Proofs.YtapkckpjeoedaaaGreatDoor
