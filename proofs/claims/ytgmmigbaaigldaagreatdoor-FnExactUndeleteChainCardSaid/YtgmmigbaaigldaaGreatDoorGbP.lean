/-
  Disks of chains: the blocks that a deleted file probably had: plain, and what is searched with.
-/
import Derived.Test.YtgmmigbaaigldaaGreatDoorIntsP
import Derived.Lib.SliceRun
namespace Go.Proofs.YtgmmigbaaigldaaGreatDoor
open Go Go.ChangeShapes Go.WideShapes Go.ChangeAt Go.RowKit lib
set_option linter.unusedVariables false
set_option maxRecDepth 100000
/-- the first N of the numbers of L that are f or more -/
def gbL (L : List Nat) (f N : Nat) : List Nat := (L.filter fun a => decide (f ≤ a)).take N
def gbOk (L : List Nat) (f N : Nat) : Prop := N = 0 ∨ ((gbL L f N).length = N ∧ (gbL L f N).getD 0 0 = f)
/-- a list that grows -/
def Up (L : List Nat) : Prop := ∀ i j, i < j → j < L.length → L.getD i 0 < L.getD j 0
theorem up_snoc {L : List Nat} {a : Nat} (h : Up L) (hL : ∀ x, x ∈ L → x < a) : Up (L ++ [a]) := by
  intro i j hij hj
  rw [List.length_append] at hj
  simp only [List.length_cons, List.length_nil] at hj
  have hi : i < L.length := by omega
  have e1 : (L ++ [a]).getD i 0 = L.getD i 0 := by simp [List.getD_eq_getElem?_getD, List.getElem?_append_left hi]
  rw [e1]
  rcases Nat.lt_or_ge j L.length with h1 | h1
  · have e2 : (L ++ [a]).getD j 0 = L.getD j 0 := by simp [List.getD_eq_getElem?_getD, List.getElem?_append_left h1]
    rw [e2]
    exact h i j hij h1
  · obtain rfl : j = L.length := by omega
    have e2 : (L ++ [a]).getD L.length 0 = a := by simp [List.getD_eq_getElem?_getD]
    rw [e2]
    refine hL _ ?_
    rw [List.getD_eq_getElem?_getD, List.getElem?_eq_getElem hi]
    exact List.getElem_mem hi
theorem freeN_lt (U : Nat → UInt8) (z t : Nat) : ∀ i x, x ∈ freeN U z t i → t ≤ x ∧ x < t + i
  | 0, x, h => by simp [freeN] at h
  | i + 1, x, h => by
    simp only [freeN, List.mem_append] at h
    rcases h with h | h
    · have := freeN_lt U z t i x h; omega
    · split at h
      · simp at h; omega
      · cases h
theorem freeN_up (U : Nat → UInt8) (z t : Nat) : ∀ i, Up (freeN U z t i)
  | 0 => fun i j _ hj => by simp [freeN] at hj
  | i + 1 => by
    by_cases h : U (z + (t + i)) = 0
    · rw [freeN_hit h]
      exact up_snoc (freeN_up U z t i) fun x hx => by have := freeN_lt U z t i x hx; omega
    · rw [freeN_miss h]
      exact freeN_up U z t i
/-- where the numbers that are f or more begin -/
theorem gb_drop {L : List Nat} {f at' : Nat} (h : at' ≤ L.length) (h1 : ∀ j, j < at' → L.getD j 0 < f) (h2 : ∀ j, at' ≤ j → j < L.length → f ≤ L.getD j 0) : (L.filter fun a => decide (f ≤ a)) = L.drop at' := by
  conv => lhs; rw [← List.take_append_drop at' L]
  rw [List.filter_append]
  have e1 : (L.take at').filter (fun a => decide (f ≤ a)) = [] := by
    rw [List.filter_eq_nil_iff]
    intro a ha
    obtain ⟨j, hj, rfl⟩ := List.getElem_of_mem ha
    rw [List.length_take] at hj
    have := h1 j (by omega)
    rw [List.getD_eq_getElem?_getD, List.getElem?_eq_getElem (by omega)] at this
    simp only [List.getElem_take, decide_eq_true_eq, Nat.not_le]
    exact this
  have e2 : (L.drop at').filter (fun a => decide (f ≤ a)) = L.drop at' := by
    rw [List.filter_eq_self]
    intro a ha
    obtain ⟨j, hj, rfl⟩ := List.getElem_of_mem ha
    rw [List.length_drop] at hj
    have := h2 (at' + j) (by omega) (by omega)
    rw [List.getD_eq_getElem?_getD, List.getElem?_eq_getElem (by omega)] at this
    simp only [List.getElem_drop, decide_eq_true_eq]
    exact this
  rw [e1, e2, List.nil_append]
theorem gb_is {L : List Nat} {f at' N : Nat} (h : at' ≤ L.length) (h1 : ∀ j, j < at' → L.getD j 0 < f) (h2 : ∀ j, at' ≤ j → j < L.length → f ≤ L.getD j 0) : gbL L f N = (L.drop at').take N := by
  unfold gbL
  rw [gb_drop h h1 h2]
/-- the program's way of saying that there are enough -/
theorem gb_ok {L : List Nat} {f at' N : Nat} (hN : 0 < N) (h : at' ≤ L.length) (h1 : ∀ j, j < at' → L.getD j 0 < f) (h2 : ∀ j, at' ≤ j → j < L.length → f ≤ L.getD j 0) :
    gbOk L f N ↔ (at' < L.length ∧ L.getD at' 0 = f ∧ N ≤ L.length - at') := by
  unfold gbOk
  rw [gb_is h h1 h2]
  simp only [List.length_take, List.length_drop]
  have e : N ≤ L.length - at' → ((L.drop at').take N).getD 0 0 = L.getD at' 0 := by
    intro hh
    simp [List.getD_eq_getElem?_getD, List.getElem?_take, hN, List.getElem?_drop]
  constructor
  · rintro (h | ⟨h3, h4⟩)
    · omega
    · have h5 : N ≤ L.length - at' := by omega
      rw [e h5] at h4
      exact ⟨by omega, h4, h5⟩
  · rintro ⟨h3, h4, h5⟩
    exact .inr ⟨by omega, by rw [e h5]; exact h4⟩
theorem gb_getD {L : List Nat} {f at' N i : Nat} (h : at' ≤ L.length) (h1 : ∀ j, j < at' → L.getD j 0 < f) (h2 : ∀ j, at' ≤ j → j < L.length → f ≤ L.getD j 0) (hi : i < N) : (gbL L f N).getD i 0 = L.getD (at' + i) 0 := by
  rw [gb_is h h1 h2]
  simp [List.getD_eq_getElem?_getD, List.getElem?_take, hi, List.getElem?_drop]
theorem gb_zero (L : List Nat) (f : Nat) : gbL L f 0 = [] := by simp [gbL]
/-- the reference's walk: what stands behind i steps -/
def gbGo (L : List Nat) (f i : Nat) : List Nat := (L.take i).filter fun a => decide (f ≤ a)
theorem gbGo_succ {L : List Nat} {f i : Nat} (h : i < L.length) : gbGo L f (i + 1) = gbGo L f i ++ (if f ≤ L.getD i 0 then [L.getD i 0] else []) := by
  unfold gbGo
  rw [List.take_add_one, List.getElem?_eq_getElem h, Option.toList_some, List.filter_append, List.getD_eq_getElem?_getD, List.getElem?_eq_getElem h]
  congr 1
  simp only [Option.getD_some]
  by_cases hh : f ≤ L[i]
  · simp [hh]
  · simp [hh]
theorem gbGo_full {L : List Nat} {f i N : Nat} (h : (gbGo L f i).length = N) : gbGo L f i = gbL L f N := by
  unfold gbL
  conv => rhs; rw [← List.take_append_drop i L]
  rw [List.filter_append]
  show gbGo L f i = (gbGo L f i ++ _).take N
  rw [List.take_append_of_le_length (by omega), List.take_of_length_le (by omega)]
theorem gbGo_end {L : List Nat} {f N : Nat} (h : (gbGo L f L.length).length ≤ N) : gbGo L f L.length = gbL L f N := by
  unfold gbL
  have e : gbGo L f L.length = L.filter fun a => decide (f ≤ a) := by unfold gbGo; rw [List.take_length]
  rw [← e, List.take_of_length_le h]
theorem gbGo_le (L : List Nat) (f i : Nat) : (gbGo L f i).length ≤ i := by
  unfold gbGo
  exact Nat.le_trans (List.length_filter_le _ _) (by simp; omega)
theorem isNaN_any (a : Int) (w : World) : Calls Tryz.prog 97 #[.int .i64 a] w fun e w' => e = .returned (.bool false) ∧ w = w' := by
  go_enter Tryz.func97, Tryz.ntmps97
  go_wp2
  go_ret
  simp
theorem slIsNaN_any (a : Int) (w : World) : Calls Tryz.prog 77 #[.int .i64 a] w fun e w' => e = .returned (.bool false) ∧ w = w' := by
  go_enter Tryz.func77, Tryz.ntmps77
  go_wp2
  go_ret
  simp
theorem less_any (a b : Int) (w : World) : Calls Tryz.prog 76 #[.int .i64 a, .int .i64 b] w fun e w' => e = .returned (.bool (decide (a < b))) ∧ w = w' := by
  go_enter Tryz.func76, Tryz.ntmps76
  go_wp2_with (go_at_call 97; refine (isNaN_any _ _).mono ?_; rintro e w' ⟨rfl, rfl⟩)
  go_ret
  simp
set_option maxHeartbeats 1000000 in
theorem search_any {w : World} {B c : Nat} {A : Option Addr} {L : List Nat} (x : Nat) (hs : Sl w B A L.length (fun i => .int .i64 ((L.getD i 0 : Nat) : Int))) (hup : Up L) (hn : L.length ≤ 4096) :
    Calls Tryz.prog 48 #[.slice A L.length c, .int .i64 x] w fun r w' => ∃ (at' : Nat) (b : Bool), (b = true ↔ at' < L.length ∧ L.getD at' 0 = x) ∧ at' ≤ L.length ∧ (∀ j, j < at' → L.getD j 0 < x) ∧ (∀ j, at' ≤ j → j < L.length → x ≤ L.getD j 0) ∧ r = .returned (.tuple #[.int .i64 at', .bool b]) ∧ w' = w := by
  have HS := Lib.hid hs
  have HU := Lib.hid hup
  obtain ⟨m, hm⟩ : ∃ m, L.length = m := ⟨_, rfl⟩
  have HM := Lib.hid hm
  rw [hm] at hs hn ⊢
  clear hs hup hm
  go_enter Tryz.func48, Tryz.ntmps48
  go_wp2_with fail
  go_loopw [7, 8] (fun s7 s8 wr => wr = w ∧ ∃ i j : Nat, i ≤ j ∧ j ≤ m ∧ s7 = .int .i64 i ∧ s8 = .int .i64 j ∧ (∀ y, y < i → L.getD y 0 < x) ∧ (∀ y, j ≤ y → y < m → x ≤ L.getD y 0)) (fun s t _ => (intOf t).toNat - (intOf s).toNat)
  case atStart => exact ⟨rfl, 0, m, by omega, by omega, rfl, rfl, fun y hy => by omega, fun y h1 h2 => by omega⟩
  case round =>
    obtain ⟨rfl, i, j, hij, hjm, rfl, rfl, h1, h2⟩ := hrel
    have H1 := Lib.hid h1
    have H2 := Lib.hid h2
    clear h1 h2
    by_cases hlt : i < j
    · obtain ⟨h, hh⟩ : ∃ h, (i + j) / 2 = h := ⟨_, rfl⟩
      have hh1 : i ≤ h ∧ h < j := by omega
      have HH := Lib.hid hh
      have e0 : ((i : Int) + j) / 2 = (h : Int) := by omega
      have hsl := HS.out h (by rw [HM.out]; omega)
      obtain ⟨bb, oo, hA, hbb, hcc⟩ := hsl
      subst hA
      dsimp only at hcc
      obtain ⟨y, hy⟩ : ∃ y, L.getD h 0 = y := ⟨_, rfl⟩
      rw [hy] at hcc
      have HY := Lib.hid hy
      have HUX := Lib.hid (fun a b hab (hb : b < m) => HU.out a b hab (by rw [HM.out]; exact hb))
      clear hy hh
      go_upto_region 5 with fail
      clear e0
      by_cases hyx : y < x
      · have d1 : decide ((y : Int) < x) = true := by simp; omega
        go_wp2_with (go_at_call 76; refine (less_any _ _ _).mono ?_; rw [d1]; rintro e w' ⟨rfl, rfl⟩)
        go_roundw
        case rel =>
          refine ⟨trivial, h + 1, j, by omega, hjm, by go_num, rfl, fun q hq => ?_, H2.out⟩
          rcases Nat.lt_or_ge q h with h3 | h3
          · have := HUX.out q h h3 (by omega); rw [HY.out] at this; omega
          · obtain rfl : q = h := by omega
            rw [HY.out]; exact hyx
        case measure => simp [intOf]; omega
      · have d1 : decide ((y : Int) < x) = false := by simp; omega
        go_wp2_with (go_at_call 76; refine (less_any _ _ _).mono ?_; rw [d1]; rintro e w' ⟨rfl, rfl⟩)
        go_roundw
        case rel =>
          refine ⟨trivial, i, h, by omega, by omega, by go_num, rfl, H1.out, fun q hq1 hq2 => ?_⟩
          rcases Nat.lt_or_ge h q with h3 | h3
          · have := HUX.out h q h3 (by omega); rw [HY.out] at this; omega
          · obtain rfl : q = h := by omega
            rw [HY.out]; omega
        case measure => simp [intOf]; omega
    · obtain rfl : i = j := by omega
      by_cases hlm : i < m
      · have hsl := HS.out i (by rw [HM.out]; omega)
        obtain ⟨bb, oo, hA, hbb, hcc⟩ := hsl
        subst hA
        dsimp only at hcc
        obtain ⟨y, hy⟩ : ∃ y, L.getD i 0 = y := ⟨_, rfl⟩
        rw [hy] at hcc
        have HY := Lib.hid hy
        clear hy
        have e1 : ((y : Int) == (x : Int)) = decide (y = x) := by
          rw [Bool.eq_iff_iff]; simp only [beq_iff_eq, decide_eq_true_eq]; omega
        go_wp2_with (go_at_call 77; refine (slIsNaN_any _ _).mono ?_; rintro e w' ⟨rfl, rfl⟩)
        all_goals go_ret2
        all_goals exact ⟨i, _, by rw [HY.out]; simp_all, hjm, H1.out, H2.out, rfl, rfl⟩
      · obtain rfl : i = m := by omega
        go_wp2_with fail
        go_ret2
        exact ⟨i, _, by simp, hjm, H1.out, H2.out, rfl, rfl⟩
end Go.Proofs.YtgmmigbaaigldaaGreatDoor
