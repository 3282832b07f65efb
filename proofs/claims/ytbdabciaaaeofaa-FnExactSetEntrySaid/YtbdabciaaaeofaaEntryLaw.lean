/-
  The laws' helpers on an entry; an entry among the arguments.
-/
import Derived.Test.YtbdabciaaaeofaaEntryTop
import Derived.Test.YtbdabciaaaeofaaInts
namespace Go.Proofs.Ytbdabciaaaeofaa
open Go Go.ChangeShapes Go.WideShapes Go.ChangeAt Go.RowKit lib
set_option linter.unusedVariables false
set_option maxRecDepth 100000
theorem szEnt_any (nm : ByteArray) (f l : Int) (us de : Bool) (left : Int) (hnm : nm.size ≤ 9223372036854775807) (h0 : 0 ≤ left) (h1 : left ≤ 1048576) (w : World) :
    Calls Try.prog 21 #[entV nm f l us de, .int .i64 left] w fun e w' => e = .returned (.int .i64 (if (nm.size : Int) ≤ left then left - nm.size else -1)) ∧ Below w.heap.size w w' := by
  unfold entV
  by_cases h : (nm.size : Int) ≤ left
  · rw [if_pos h]
    go_enter Try.func21, Try.ntmps21
    go_wp2
    go_ret
    exact ⟨rfl, (Below.refl _ _).alloc (Nat.le_refl _) _⟩
  · rw [if_neg h]
    go_enter Try.func21, Try.ntmps21
    go_wp2
    go_ret
    exact ⟨rfl, (Below.refl _ _).alloc (Nat.le_refl _) _⟩
theorem toEnt_any (nm : ByteArray) (f l : Int) (us de : Bool) (w : World) :
    Calls Try.prog 23 #[entV nm f l us de] w fun e w' => e = .returned (entV nm f l us de) ∧ Below w.heap.size w w' := by
  unfold entV
  go_enter Try.func23, Try.ntmps23
  go_wp2
  exact bodyPost_ret (v := .agg #[.string nm, .int .i64 f, .int .i64 l, .bool us, .bool de]) (by simp [results, Try.results23, go_sem]) rfl ⟨rfl, by
    repeat (first | exact Below.refl _ _ | refine Below.setCell ?_ (by simp) _ | refine Below.alloc ?_ (by simp <;> omega) _)⟩
section
variable {H : Type} {enc : TypeId × Value → H} {P : Program} {w : World} {base : Nat}
theorem open_ent {t : Nat} {f0 f1 f2 f3 f4 : Field} {v : Value} {d : DataW H} {p : List MemPlace} (ht : P.underlying t = some (.struct #[f0, f1, f2, f3, f4])) (hone : Deep.oneCellFields P #[f0, f1, f2, f3, f4] = true) (hk : P.cellsOf t = 5)
    (h0 : P.underlying f0.type = some .string) (h1 : P.underlying f1.type = some (.int .i64)) (h2 : P.underlying f2.type = some (.int .i64)) (h3 : P.underlying f3.type = some .bool) (h4 : P.underlying f4.type = some .bool)
    (hv : Value.okWide P w .any base t v) (h : DataW.Trod enc P w 0 (fun _ => true) true t v d p) :
    ∃ (nm : ByteArray) (f l : Int) (us de : Bool), v = entV nm f l us de ∧ nm.size ≤ 9223372036854775807 := by
  obtain ⟨cs, rfl, hsz⟩ := okWide_struct ht hv
  obtain ⟨fuel, hf⟩ := h
  obtain ⟨xs, n', hfu, hd, hlen, hxl, hfd⟩ := DataW.trod_struct ht hf
  have key : ∀ (j : Nat) (fd : Field), (#[f0, f1, f2, f3, f4] : Array Field)[j]? = some fd → ∃ x, DataW.trod enc P w 0 (fun _ => true) true n' fd.type (((Value.agg cs).cells.toList.drop j).take 1) = some x := by
    intro j fd hj
    obtain ⟨ho, hc1⟩ := Deep.hone_of hone j fd hj
    have := hfd j fd hj
    rw [ho, hc1] at this
    have hjl : j < xs.length := by
      have := (Array.getElem?_eq_some_iff.1 hj).1
      simp at this hxl
      omega
    rw [List.getElem?_eq_getElem hjl] at this
    exact ⟨_, this⟩
  have hl : cs.toList.length = 5 := by rw [Array.length_toList, hsz, hk]
  obtain ⟨a, b, c, e, g, hcs⟩ : ∃ a b c e g, cs.toList = [a, b, c, e, g] := by
    match h : cs.toList, hl with
    | [a, b, c, e, g], _ => exact ⟨a, b, c, e, g, rfl⟩
  have hcc : (Value.agg cs).cells.toList = [a, b, c, e, g] := hcs
  rw [hcc] at key
  obtain ⟨x0, hx0⟩ := key 0 f0 rfl
  obtain ⟨x1, hx1⟩ := key 1 f1 rfl
  obtain ⟨x2, hx2⟩ := key 2 f2 rfl
  obtain ⟨x3, hx3⟩ := key 3 f3 rfl
  obtain ⟨x4, hx4⟩ := key 4 f4 rfl
  obtain ⟨nm, hm0, _, hw⟩ := DataW.trod_string h0 hx0
  obtain ⟨m1, hm1, _⟩ := DataW.trod_int h1 hx1
  obtain ⟨m2, hm2, _⟩ := DataW.trod_int h2 hx2
  obtain ⟨m3, hm3, _⟩ := DataW.trod_bool h3 hx3
  obtain ⟨m4, hm4, _⟩ := DataW.trod_bool h4 hx4
  simp at hm0 hm1 hm2 hm3 hm4
  subst hm0 hm1 hm2 hm3 hm4
  refine ⟨nm, m1, m2, m3, m4, ?_, by simpa [maxLen] using hw⟩
  unfold entV
  congr 1
  apply Array.ext'
  exact hcs
end
end Go.Proofs.Ytbdabciaaaeofaa
