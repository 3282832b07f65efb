/-
  A problem's text read back: plain.
-/
import Derived.Test.YtcbiaeniagacfaaDoorPbP
import Derived.Test.YtcbiaeniagacfaaDoorSplP
import Derived.Test.YtcbiaeniagacfaaDoorRfxP
import Derived.Lib.ParseIntB
namespace Go.Proofs.YtcbiaeniagacfaaDoor
open Go Go.ChangeShapes Go.WideShapes Go.ChangeAt Go.RowKit lib
set_option linter.unusedVariables false
set_option maxRecDepth 100000
def dec3 (n : Nat) : List UInt8 := if n < 10 then [UInt8.ofNat (48 + n)] else if n < 100 then [UInt8.ofNat (48 + n / 10), UInt8.ofNat (48 + n % 10)] else [UInt8.ofNat (48 + n / 100), UInt8.ofNat (48 + n / 10 % 10), UInt8.ofNat (48 + n % 10)]
theorem dec_three {n : Nat} (h : n < 1000) : Lib.decDigits n = dec3 n := by
  unfold dec3
  rw [Lib.decDigits]
  by_cases h1 : n < 10
  · rw [dif_pos h1, if_pos h1]
  · rw [dif_neg h1, if_neg h1, Lib.decDigits]
    by_cases h2 : n < 100
    · rw [dif_pos (by omega), if_pos h2]; rfl
    · rw [dif_neg (by omega), if_neg h2, Lib.decDigits, dif_pos (by omega), show n / 10 / 10 = n / 100 by omega]
      rfl
theorem decT_list {n : Nat} (h : n < 1000) : (decT n).data.toList = dec3 n := by rw [← dec_three h]; rfl
theorem dec3_no : ∀ n, n < 128 → (32 : UInt8) ∉ dec3 n := by decide +kernel
theorem dec3_len : ∀ n, n < 128 → (dec3 n).length ≤ 3 ∧ 1 ≤ (dec3 n).length := by decide +kernel
/-- what the program reads of a word -/
def rdI (l : List UInt8) : Option Int := match Lib.parseIntB 64 l with
  | .ok v => if Lib.itoa v = l then some v else none
  | _ => none
def isOk (x : Lib.NumEnd Int) (n : Int) : Bool := match x with
  | .ok v => v == n
  | _ => false
theorem isOk_eq {x : Lib.NumEnd Int} {n : Int} (h : isOk x n = true) : x = .ok n := by
  cases x with
  | ok v => simp only [isOk, beq_iff_eq] at h; rw [h]
  | «syntax» => simp [isOk] at h
  | range => simp [isOk] at h
theorem parse_dec3 : ∀ n, n < 128 → isOk (Lib.parseIntB 64 (dec3 n)) n = true := by decide +kernel
theorem rdI_dec {n : Nat} (h : n < 128) : rdI (dec3 n) = some (n : Int) := by
  unfold rdI
  rw [isOk_eq (parse_dec3 n h)]
  show (if Lib.itoa (n : Int) = dec3 n then some (n : Int) else none) = _
  have : Lib.itoa (n : Int) = dec3 n := by unfold Lib.itoa; rw [if_neg (by omega), Int.toNat_natCast, dec_three (by omega)]
  rw [if_pos this]
/-- what the reference reads of a word -/
def num3Go : List UInt8 → Nat → Option Nat
  | [], n => some n
  | x :: r, n => if x.toNat < 48 ∨ 57 < x.toNat then none else num3Go r (10 * n + (x.toNat - 48))
def num3 (l : List UInt8) : Int := if l.length < 1 ∨ 3 < l.length then -1 else match num3Go l 0 with
  | some n => n
  | none => -1
theorem num3_dec : ∀ n, n < 128 → num3 (dec3 n) = n := by decide +kernel
/-! words -/
def wordL (k : Nat) : List UInt8 := (wordAt k).data.toList
theorem wordL_no : ∀ k, k < 11 → (32 : UInt8) ∉ wordL k := by decide +kernel
theorem wordL_inj : ∀ k, k < 11 → ∀ j, j < 11 → wordL k = wordL j → k = j := by decide +kernel
theorem pbT_list {k e b : Nat} (he : e < 1000) (hb : b < 1000) : (pbT k e b).data.toList = wordL k ++ 32 :: (dec3 e ++ 32 :: dec3 b) := by
  unfold pbT
  rw [ByteArray.data_append, ByteArray.data_append, ByteArray.data_append, ByteArray.data_append, Array.toList_append, Array.toList_append, Array.toList_append, Array.toList_append, decT_list he, decT_list hb]
  simp [wordL]
/-- s is the text of a problem -/
def IsPb (s : ByteArray) (k e b : Nat) : Prop := (1 ≤ k ∧ k ≤ 10) ∧ e ≤ 15 ∧ b ≤ 127 ∧ pbT k e b = s
theorem IsPb.split {s : ByteArray} {k e b : Nat} (h : IsPb s k e b) : splitB 32 s.data.toList = [wordL k, dec3 e, dec3 b] := by
  obtain ⟨h1, h2, h3, rfl⟩ := h
  rw [pbT_list (by omega) (by omega), splitB_piece _ (wordL_no k (by omega)), splitB_piece _ (dec3_no e (by omega)), splitB_none _ (dec3_no b (by omega))]
theorem IsPb.one {s : ByteArray} {k e b k' e' b' : Nat} (h : IsPb s k e b) (h' : IsPb s k' e' b') : k = k' ∧ e = e' ∧ b = b' := by
  have h1 := h.split.symm.trans h'.split
  obtain ⟨p1, p2, p3, _⟩ := h
  obtain ⟨q1, q2, q3, _⟩ := h'
  simp only [List.cons.injEq, and_true] at h1
  have e1 := num3_dec e (by omega)
  have e2 := num3_dec b (by omega)
  rw [h1.2.1, num3_dec e' (by omega)] at e1
  rw [h1.2.2, num3_dec b' (by omega)] at e2
  exact ⟨wordL_inj k (by omega) k' (by omega) h1.1, by omega, by omega⟩
theorem IsPb.cut {s : ByteArray} {k e b : Nat} (h : IsPb s k e b) : cutA 32 s.data.toList = wordL k ∧ splitB 32 (cutZ 32 s.data.toList) = [dec3 e, dec3 b] := by
  obtain ⟨h1, h2, h3, rfl⟩ := h
  rw [pbT_list (by omega) (by omega), cutA_first (wordL_no k (by omega)), cutZ_first (wordL_no k (by omega)), splitB_piece _ (dec3_no e (by omega)), splitB_none _ (dec3_no b (by omega))]
  exact ⟨rfl, rfl⟩
open Classical in
/-- the text of any three numbers -/
noncomputable def pbOf (a b c : Int) : ByteArray := if pbOk a b c then pbT a.toNat b.toNat c.toNat else ⟨#[]⟩
theorem pbOf_nat {k e b : Nat} (h : (1 ≤ k ∧ k ≤ 10) ∧ e ≤ 15 ∧ b ≤ 127) : pbOf k e b = pbT k e b := by
  unfold pbOf
  rw [if_pos ⟨⟨by omega, by omega⟩, ⟨by omega, by omega⟩, by omega, by omega⟩]
  rfl
theorem pbOf_is {a b c : Int} {s : ByteArray} (h : pbOf a b c = s) (hne : s ≠ ⟨#[]⟩) : ∃ k e f : Nat, a = k ∧ b = e ∧ c = f ∧ IsPb s k e f := by
  unfold pbOf at h
  by_cases hok : pbOk a b c
  · rw [if_pos hok] at h
    obtain ⟨⟨x1, x2⟩, ⟨x3, x4⟩, ⟨x5, x6⟩⟩ := hok
    exact ⟨a.toNat, b.toNat, c.toNat, by omega, by omega, by omega, ⟨by omega, by omega⟩, by omega, by omega, h⟩
  · rw [if_neg hok] at h
    exact absurd h.symm hne
theorem rows3 {w : World} {g e : Nat} {a b c : Value} (h : Rw w g e #[a, b, c]) (x y z : Value) :
    (((w.setCell ⟨g, 0, none⟩ x).setCell ⟨g, 1, none⟩ y).setCell ⟨g, 2, none⟩ z).cell? ⟨g, 0, none⟩ = some x ∧ (((w.setCell ⟨g, 0, none⟩ x).setCell ⟨g, 1, none⟩ y).setCell ⟨g, 2, none⟩ z).cell? ⟨g, 1, none⟩ = some y ∧ (((w.setCell ⟨g, 0, none⟩ x).setCell ⟨g, 1, none⟩ y).setCell ⟨g, 2, none⟩ z).cell? ⟨g, 2, none⟩ = some z :=
  ⟨(((h.set 0 x).set 1 y).set 2 z).cell 0, (((h.set 0 x).set 1 y).set 2 z).cell 1, (((h.set 0 x).set 1 y).set 2 z).cell 2⟩
/-- reading a problem ended so -/
def RpOut (s : ByteArray) (r : Ending) (w w' : World) : Prop :=
  ((∃ k e b, IsPb s k e b ∧ r = .returned (.tuple #[cpV k e b, .bool true])) ∨ ((∀ k e b, ¬ IsPb s k e b) ∧ r = .returned (.tuple #[cpV 0 0 0, .bool false]))) ∧ Below w.heap.size w w'
theorem RpOut.good {s : ByteArray} {k e b : Nat} {w w' : World} (h : IsPb s k e b) (hb : Below w.heap.size w w') : RpOut s (.returned (.tuple #[cpV k e b, .bool true])) w w' := ⟨.inl ⟨k, e, b, h, rfl⟩, hb⟩
theorem RpOut.bad {s : ByteArray} {w w' : World} (h : ∀ k e b, ¬ IsPb s k e b) (hb : Below w.heap.size w w') : RpOut s (.returned (.tuple #[cpV 0 0 0, .bool false])) w w' := ⟨.inr ⟨h, rfl⟩, hb⟩
theorem RpOut.is {s : ByteArray} {r : Ending} {w w' : World} {k e b : Nat} (hp : IsPb s k e b) (h : RpOut s r w w') : r = .returned (.tuple #[cpV k e b, .bool true]) ∧ Below w.heap.size w w' := by
  obtain ⟨⟨k', e', b', h1, h2⟩ | ⟨h1, _⟩, hb⟩ := h
  · obtain ⟨rfl, rfl, rfl⟩ := hp.one h1
    exact ⟨h2, hb⟩
  · exact absurd hp (h1 k e b)
theorem RpOut.no {s : ByteArray} {r : Ending} {w w' : World} (hp : ∀ k e b, ¬ IsPb s k e b) (h : RpOut s r w w') : r = .returned (.tuple #[cpV 0 0 0, .bool false]) ∧ Below w.heap.size w w' := by
  obtain ⟨⟨k', e', b', h1, h2⟩ | ⟨_, h1⟩, hb⟩ := h
  · exact absurd h1 (hp k' e' b')
  · exact ⟨h1, hb⟩
end Go.Proofs.YtcbiaeniagacfaaDoor
