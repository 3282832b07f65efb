/-
  A list of files sorted by names: slices.SortFunc with compareNames.
-/
import Derived.Test.YtdofpkdemmngeaaLtP
import Derived.Shelf.SlSortCmp.KitK
import Derived.Sort.WalkB2
import Derived.Sort.OwnSorted
import Derived.Lib.OwnBridge
import Derived.WalkLawsBesides
namespace Go.Proofs.Ytdofpkdemmngeaa
open Go Go.ChangeShapes Go.WideShapes Go.ChangeAt Go.RowKit Go.Sort Go.Lib lib
set_option linter.unusedVariables false
set_option maxRecDepth 100000
/-- how two texts compare -/
def cmpS (a b : ByteArray) : Int := if ltB a b = true then -1 else if ltB b a = true then 1 else 0
theorem cmpS_lt {a b : ByteArray} : cmpS a b < 0 ↔ ltB a b = true := by
  unfold cmpS
  split
  · rename_i h; simp [h]
  · rename_i h
    split
    · simp [h]
    · simp [h]
/-- a file's cells -/
def encF (f : ByteArray × ByteArray) : List Value := [.string f.1, .string f.2]
/-- a list of files of the call's own -/
def FileR (B : Nat) (w : World) (A : Option Addr) (c : Nat) (L : List (ByteArray × ByteArray)) : Prop := w.ownsRow B 43 2 (.slice A L.length c) L.length (L.flatMap encF)
theorem fileR_nil (B : Nat) (w : World) : FileR B w none 0 [] := World.ownsRow_nil _ _ _ _
theorem FileR.below {B c : Nat} {w w' : World} {A : Option Addr} {L : List (ByteArray × ByteArray)} (h : FileR B w A c L) (hb : Go.RowKit.Below w.heap.size w w') : FileR B w' A c L := own_below h hb
theorem FileR.base {B B' c : Nat} {w : World} {A : Option Addr} {L : List (ByteArray × ByteArray)} (h : FileR B w A c L) (hB : B' ≤ B) : FileR B' w A c L := own_base h hB
theorem encF_len (L : List (ByteArray × ByteArray)) : (L.flatMap encF).length = L.length * 2 := by
  induction L with
  | nil => rfl
  | cons f r ih => rw [List.flatMap_cons, List.length_append, ih, List.length_cons]; simp [encF]; omega
def fAt (L : List (ByteArray × ByteArray)) (i : Nat) : ByteArray := if i % 2 = 0 then (L.getD (i / 2) (⟨#[]⟩, ⟨#[]⟩)).1 else (L.getD (i / 2) (⟨#[]⟩, ⟨#[]⟩)).2
theorem encF_get : ∀ (L : List (ByteArray × ByteArray)) (i : Nat), i < L.length * 2 → (L.flatMap encF)[i]? = some (.string (fAt L i))
  | [], i, h => absurd h (by simp)
  | f :: r, 0, h => by simp [encF, fAt]
  | f :: r, 1, h => by simp [encF, fAt]
  | f :: r, i + 2, h => by
    have ih := encF_get r i (by simp at h; omega)
    have e : fAt (f :: r) (i + 2) = fAt r i := by
      unfold fAt
      rw [show (i + 2) % 2 = i % 2 by omega, show (i + 2) / 2 = i / 2 + 1 by omega, List.getD_cons_succ]
    rw [e, ← ih, List.flatMap_cons]
    simp [encF]
theorem encF_range (L : List (ByteArray × ByteArray)) : L.flatMap encF = (List.range (L.length * 2)).map fun (i : Nat) => Value.string (fAt L i) := by
  apply List.ext_getElem?
  intro i
  by_cases hi : i < L.length * 2
  · rw [encF_get L i hi]; simp [hi]
  · rw [List.getElem?_eq_none (by rw [encF_len]; omega), List.getElem?_eq_none (by simp; omega)]
theorem FileR.own {B c : Nat} {w : World} {A : Option Addr} {L : List (ByteArray × ByteArray)} (h : FileR B w A c L) : w.ownsRow B 43 2 (.slice A L.length c) L.length ((List.range (L.length * 2)).map fun (i : Nat) => Value.string (fAt L i)) := by
  rw [← encF_range]; exact h
theorem FileR.sl {B c : Nat} {w : World} {A : Option Addr} {L : List (ByteArray × ByteArray)} (h : FileR B w A c L) : Sl w w.heap.size A (L.length * 2) (fun i => .string (fAt L i)) := by
  have h1 := own_sl h
  refine h1.congr fun i hi => ?_
  rw [List.getD_eq_getElem?_getD, encF_get L i hi]
  rfl
theorem fAt_name (L : List (ByteArray × ByteArray)) (i : Nat) : fAt L (i * 2) = (L.getD i (⟨#[]⟩, ⟨#[]⟩)).1 := by
  unfold fAt; rw [if_pos (by omega), show i * 2 / 2 = i by omega]
theorem fAt_data (L : List (ByteArray × ByteArray)) (i : Nat) : fAt L (i * 2 + 1) = (L.getD i (⟨#[]⟩, ⟨#[]⟩)).2 := by
  unfold fAt; rw [if_neg (by omega), show (i * 2 + 1) / 2 = i by omega]
theorem flat_get {L : List (ByteArray × ByteArray)} {j : Nat} (hj : j < L.length * 2) : (flatK encF 2 L.toArray)[j]! = .string (fAt L j) := by
  rw [get_flatK _ _ _ _ (by simpa using hj)]
  have h2 : j / 2 < L.length := by omega
  rw [getElem!_pos L.toArray (j / 2) (by simpa using h2)]
  unfold fAt
  have hg : L.getD (j / 2) (⟨#[]⟩, ⟨#[]⟩) = L[j / 2] := by simp [List.getD_eq_getElem?_getD, h2]
  rw [hg]
  have h01 : j % 2 = 0 ∨ j % 2 = 1 := by omega
  rcases h01 with h | h
  · rw [h]; simp [encF]
  · rw [h]; simp [encF]
theorem putCells_take {cur : Array Value} {D : List (ByteArray × ByteArray)} (h : D.length * 2 ≤ cur.size) : (putCells id 0 (flatK encF 2 D.toArray) cur).toList.take (D.length * 2) = D.flatMap encF := by
  apply List.ext_getElem?
  intro j
  by_cases hj : j < D.length * 2
  · rw [List.getElem?_take_of_lt hj, Array.getElem?_toList, encF_get D j hj]
    have hjc : j < cur.size := by omega
    simp only [putCells, Array.getElem?_mapIdx, Array.getElem?_eq_getElem hjc, Option.map_some]
    rw [if_pos (by simp; omega), Nat.sub_zero, flat_get hj]
    rfl
  · rw [List.getElem?_eq_none (by simp; omega), List.getElem?_eq_none (by rw [encF_len]; omega)]
theorem swo_names : SWO (ltOf fun a b : ByteArray × ByteArray => cmpS a.1 b.1) := by
  have key : ∀ a b : ByteArray × ByteArray, ltOf (fun a b : ByteArray × ByteArray => cmpS a.1 b.1) a b = ltB a.1 b.1 := fun a b => by
    unfold ltOf
    rw [Bool.eq_iff_iff, decide_eq_true_eq, cmpS_lt]
  refine ⟨fun x => ?_, fun x y z => ?_, fun x y z => ?_⟩
  · rw [key, ltB_ff]; exact List.le_refl _
  · rw [key, key, key, ltB_iff, ltB_iff, ltB_iff]; exact List.lt_trans
  · rw [key, key, key, ltB_ff, ltB_ff, ltB_ff]; exact fun h1 h2 => List.le_trans h2 h1
theorem ltOf_names (a b : ByteArray × ByteArray) : ltOf (fun a b : ByteArray × ByteArray => cmpS a.1 b.1) a b = ltB a.1 b.1 := by
  unfold ltOf
  rw [Bool.eq_iff_iff, decide_eq_true_eq, cmpS_lt]
theorem isNaNStr_any (a : ByteArray) (w : World) : Calls Try.prog 53 #[.string a] w fun e w' => e = .returned (.bool false) ∧ w' = w := by
  go_enter Try.func53, Try.ntmps53
  go_wp2
  go_ret
  exact ⟨by simp, rfl⟩
theorem cmpStr_any (a b : ByteArray) (w : World) : Calls Try.prog 40 #[.string a, .string b] w fun e w' => e = .returned (.int .i64 (cmpS a b)) ∧ w' = w := by
  cases h1 : ltB a b
  · by_cases h2 : a = b
    · have HR := Lib.hid (show cmpS a b = 0 by unfold cmpS; rw [h1]; subst h2; rw [h1]; rfl)
      unfold ltB at h1
      have e3 := str_eq_true h2
      clear h2
      go_enter Try.func40, Try.ntmps40
      go_wp2_with (go_at_call 53; refine (isNaNStr_any _ _).mono ?_; rintro e w' ⟨rfl, rfl⟩)
      go_ret
      rw [HR.out]
      exact ⟨rfl, rfl⟩
    · have HR := Lib.hid (show cmpS a b = 1 by
        unfold cmpS
        rw [h1, if_neg (by decide), if_pos]
        rw [ltB_iff]
        exact Std.lt_of_le_of_ne ((ltB_ff _ _).1 h1) (fun e => h2 (kB_inj e).symm))
      unfold ltB at h1
      have e3 := str_eq_false h2
      clear h2
      go_enter Try.func40, Try.ntmps40
      go_wp2_with (go_at_call 53; refine (isNaNStr_any _ _).mono ?_; rintro e w' ⟨rfl, rfl⟩)
      go_ret
      rw [HR.out]
      exact ⟨rfl, rfl⟩
  · have HR := Lib.hid (show cmpS a b = -1 by unfold cmpS; rw [h1]; rfl)
    unfold ltB at h1
    go_enter Try.func40, Try.ntmps40
    go_wp2_with (go_at_call 53; refine (isNaNStr_any _ _).mono ?_; rintro e w' ⟨rfl, rfl⟩)
    go_ret
    rw [HR.out]
    exact ⟨rfl, rfl⟩
theorem compareNames_any (x y : ByteArray × ByteArray) (W : World) : Calls Try.prog 20 #[.agg #[.string x.1, .string x.2], .agg #[.string y.1, .string y.2]] W fun e w' => e = .returned (.int .i64 (cmpS x.1 y.1)) ∧ ∃ q os', w' = grow (W.drewN q) os' := by
  have HC := Lib.hid (fun W => cmpStr_any x.1 y.1 W)
  generalize cmpS x.1 y.1 = r at *
  go_enter Try.func20, Try.ntmps20
  go_wp2_with (go_at_call 40; refine (HC.out _).mono ?_; rintro e w' ⟨rfl, rfl⟩)
  go_ret
  exact ⟨rfl, 0, _, by rw [alloc_eq_grow, alloc_eq_grow, grow_grow]; rfl⟩
end Go.Proofs.Ytdofpkdemmngeaa
