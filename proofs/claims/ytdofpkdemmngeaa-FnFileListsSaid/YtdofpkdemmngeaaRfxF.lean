/-
  The text of a list of files, line for line, read back: plain.
-/
import Derived.Test.YtdofpkdemmngeaaRfxR
import Derived.Test.YtdofpkdemmngeaaRfxC
import Derived.Test.YtdofpkdemmngeaaFtT
namespace Go.Proofs.Ytdofpkdemmngeaa
open Go Go.ChangeShapes Go.WideShapes Go.ChangeAt Go.RowKit lib
set_option linter.unusedVariables false
set_option maxRecDepth 100000
theorem ba_app (a b : ByteArray) : (a ++ b).data.toList = a.data.toList ++ b.data.toList := by rw [ByteArray.data_append, Array.toList_append]
theorem hexV_list : ∀ l : List UInt8, ((List.range (2 * l.length)).map fun j => if j % 2 = 0 then hexD ((l.getD (j / 2) 0).toNat / 16) else hexD ((l.getD (j / 2) 0).toNat % 16)) = hexL l
  | [] => rfl
  | x :: r => by
    have ih := hexV_list r
    rw [hexL, List.length_cons, show 2 * (r.length + 1) = 2 * r.length + 1 + 1 by omega, List.range_succ_eq_map, List.map_cons, List.range_succ_eq_map, List.map_cons, List.map_cons, List.map_map, List.map_map]
    refine congr (congrArg List.cons ?_) (congr (congrArg List.cons ?_) ?_)
    · rfl
    · rfl
    · rw [← ih]
      apply List.map_congr_left
      intro j _
      show (if (j + 1 + 1) % 2 = 0 then hexD (((x :: r).getD ((j + 1 + 1) / 2) 0).toNat / 16) else hexD (((x :: r).getD ((j + 1 + 1) / 2) 0).toNat % 16)) = _
      rw [show (j + 1 + 1) / 2 = j / 2 + 1 by omega, show (j + 1 + 1) % 2 = j % 2 by omega, List.getD_cons_succ]
theorem hexS_list (d : ByteArray) : (hexS d).data.toList = hexL d.data.toList := by
  rw [← hexV_list, ← Lib.size_eq]
  rfl
theorem hexD_range {v : Nat} (h : v < 16) : (hexD v).toNat ≠ 10 ∧ (hexD v).toNat ≠ 32 ∧ (hexD v).toNat ≠ 45 := by
  have : v = 0 ∨ v = 1 ∨ v = 2 ∨ v = 3 ∨ v = 4 ∨ v = 5 ∨ v = 6 ∨ v = 7 ∨ v = 8 ∨ v = 9 ∨ v = 10 ∨ v = 11 ∨ v = 12 ∨ v = 13 ∨ v = 14 ∨ v = 15 := by omega
  rcases this with rfl | rfl | rfl | rfl | rfl | rfl | rfl | rfl | rfl | rfl | rfl | rfl | rfl | rfl | rfl | rfl <;> decide
theorem hexL_no : ∀ (l : List UInt8) (x : UInt8), x ∈ hexL l → x.toNat ≠ 10 ∧ x.toNat ≠ 32 ∧ x.toNat ≠ 45
  | [], x, h => by simp [hexL] at h
  | y :: r, x, h => by
    have hy := y.toNat_lt
    rw [hexL] at h
    rcases List.mem_cons.1 h with rfl | h
    · exact hexD_range (by omega)
    rcases List.mem_cons.1 h with rfl | h
    · exact hexD_range (by omega)
    exact hexL_no r x h
theorem name_no {s : ByteArray} (h : NameS s) (x : UInt8) (hx : x ∈ s.data.toList) : x.toNat ≠ 10 ∧ x.toNat ≠ 32 := by
  obtain ⟨i, hi, rfl⟩ := List.mem_iff_getElem.1 hx
  have hi2 : i < s.size := by rw [Lib.size_eq]; exact hi
  have hc := h.all i hi2
  have e : byteAt s i = s.data.toList[i] := by unfold byteAt; rw [List.getD_eq_getElem?_getD, List.getElem?_eq_getElem hi]; rfl
  rw [e] at hc
  simp only [charN, letterN, digitN] at hc
  omega
/-- a file's data in a line -/
def datL (d : List UInt8) : List UInt8 := if d = [] then [45] else hexL d
theorem datS_list (d : ByteArray) : (datS d).data.toList = datL d.data.toList := by
  unfold datS datL
  have hz := Lib.size_eq d
  by_cases h : d.size = 0
  · have : d.data.toList = [] := List.eq_nil_of_length_eq_zero (by omega)
    rw [if_pos h, if_pos this]
  · have : d.data.toList ≠ [] := fun e => by rw [e] at hz; exact h hz
    rw [if_neg h, if_neg this, hexS_list]
theorem datL_no (d : List UInt8) (x : UInt8) (h : x ∈ datL d) : x.toNat ≠ 10 ∧ x.toNat ≠ 32 := by
  unfold datL at h
  split at h
  · rw [List.mem_singleton] at h; subst h; decide
  · exact ⟨(hexL_no d x h).1, (hexL_no d x h).2.1⟩
theorem lineS_list (s : Nat → ByteArray) (i : Nat) : (lineS s i).data.toList = ((s (i * 2)).data.toList ++ 32 :: datL (s (i * 2 + 1)).data.toList) ++ [10] := by
  unfold lineS
  rw [ba_app, ba_app, ba_app, datS_list]
  simp
/-- a line read: name and data -/
def parseL (l : List UInt8) : Option (List UInt8 × List UInt8) :=
  if cutZ 32 (Lib.trimSuffix l [10]) = [45] then some (cutA 32 (Lib.trimSuffix l [10]), []) else (unhex (cutZ 32 (Lib.trimSuffix l [10]))).map fun d => (cutA 32 (Lib.trimSuffix l [10]), d)
theorem trim_snoc (l : List UInt8) : Lib.trimSuffix (l ++ [10]) [10] = l := by
  have h : Lib.hasSuffix (l ++ [10]) [10] = true := by unfold Lib.hasSuffix; rw [List.isSuffixOf_iff_suffix]; exact ⟨l, rfl⟩
  unfold Lib.trimSuffix
  rw [if_pos h]
  simp
theorem datL_read (d : List UInt8) : (datL d = [45] ∧ d = []) ∨ (datL d ≠ [45] ∧ unhex (datL d) = some d) := by
  unfold datL
  by_cases h : d = []
  · rw [if_pos h]; exact .inl ⟨rfl, h⟩
  · rw [if_neg h]
    refine .inr ⟨fun e => ?_, unhex_hexL d⟩
    have := (hexL_no d 45 (by rw [e]; simp)).2.2
    exact this rfl
theorem parse_line {s : Nat → ByteArray} {i : Nat} (h : okF s i) : parseL (lineS s i).data.toList = some ((s (i * 2)).data.toList, (s (i * 2 + 1)).data.toList) := by
  have hn : (32 : UInt8) ∉ (s (i * 2)).data.toList := fun e => (name_no h.1 32 e).2 rfl
  unfold parseL
  rw [lineS_list, trim_snoc, cutA_first hn, cutZ_first hn]
  rcases datL_read (s (i * 2 + 1)).data.toList with ⟨h1, h2⟩ | ⟨h1, h2⟩
  · rw [if_pos h1, h2]
  · rw [if_neg h1, h2]; rfl
theorem ftx_lines {s : Nat → ByteArray} : ∀ (n : Nat) (r : List UInt8), (∀ i, i < n → okF s i) → linesL ((ftx s n).data.toList ++ r) = ((List.range n).map fun i => (lineS s i).data.toList) ++ linesL r
  | 0, r, _ => rfl
  | n + 1, r, h => by
    have hk := h n (by omega)
    have hno : (10 : UInt8) ∉ (s (n * 2)).data.toList ++ 32 :: datL (s (n * 2 + 1)).data.toList := by
      intro e
      rcases List.mem_append.1 e with e | e
      · exact (name_no hk.1 10 e).1 rfl
      rcases List.mem_cons.1 e with e | e
      · exact absurd e (by decide)
      · exact (datL_no _ 10 e).1 rfl
    rw [ftx, ba_app, List.append_assoc, ftx_lines n _ (fun i hi => h i (by omega)), lineS_list, List.append_assoc (_ ++ _) [10] r, List.singleton_append, linesL_line _ _ hno, List.range_succ, List.map_append, List.append_assoc]
    simp only [List.map_cons, List.map_nil, lineS_list, List.singleton_append, List.cons_append, List.nil_append, List.append_assoc]
end Go.Proofs.Ytdofpkdemmngeaa
