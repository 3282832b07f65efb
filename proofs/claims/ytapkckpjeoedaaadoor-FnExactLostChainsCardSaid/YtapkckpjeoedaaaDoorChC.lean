/-
  Disks of chains: a chain is followed, both sides.
  Disks of chains: a chain is followed: the reference's side.
-/
import Derived.Test.YtapkckpjeoedaaaDoorEntP
import Derived.Test.YtapkckpjeoedaaaDoorSlInts
import Derived.Test.YtapkckpjeoedaaaDoorChainLinks
namespace Go.Proofs.YtapkckpjeoedaaaDoor
open Go Go.ChangeShapes Go.WideShapes Go.ChangeAt Go.RowKit lib
set_option linter.unusedVariables false
set_option maxRecDepth 100000
/-- a list of numbers of the call's own -/
def IntsR (B : Nat) (w' : World) (A : Option Addr) (c : Nat) (l : List Nat) : Prop := w'.ownsRow B 2 1 (.slice A l.length c) l.length (l.map fun (i : Nat) => Value.int .i64 (i : Int))
theorem IntsR.sl {B : Nat} {w' : World} {A : Option Addr} {c : Nat} {l : List Nat} (h : IntsR B w' A c l) : Sl w' w'.heap.size A l.length (fun i => .int .i64 ((l.getD i 0 : Nat) : Int)) := by
  have := own_sl h
  rw [Nat.mul_one] at this
  refine this.congr fun i hi => ?_
  simp [List.getD_eq_getElem?_getD, hi]
theorem hasZ_mem (l : List Nat) (a : Nat) : hasZ (fun i => ((l.getD i 0 : Nat) : Int)) l.length (a : Int) = decide (a ∈ l) := by
  by_cases h : a ∈ l
  · rw [decide_eq_true h]
    obtain ⟨i, hi, rfl⟩ := List.mem_iff_getElem.1 h
    exact hasZ_true hi (by simp [List.getD_eq_getElem?_getD, hi])
  · rw [decide_eq_false h]
    refine hasZ_false fun k hk he => h ?_
    simp [List.getD_eq_getElem?_getD, hk] at he
    have : l[k] = a := by omega
    rw [← this]
    exact List.getElem_mem hk
def lkN (z : Nat) (u : Nat → UInt8) (a : Nat) : Nat := (u (z + a)).toNat
theorem lkN_lt (z : Nat) (u : Nat → UInt8) (a : Nat) : lkN z u a < 256 := (u (z + a)).toNat_lt
theorem isOpenN_false {x : Nat} (h : isOpenN x = false) : x ≠ 0 ∧ x ≠ 253 ∧ x ≠ 254 := by
  unfold isOpenN at h
  simp at h
  omega
theorem isOpenN_true {x : Nat} (h : isOpenN x = true) : x = 0 ∨ x = 253 ∨ x = 254 := by
  unfold isOpenN at h
  simp at h
  omega
/-- an integer equation both ways -/
theorem eqB (x : Nat) (k : Int) (b : Bool) (h : ((x : Int) = k) ↔ b = true) : ((x : Int) == k) = b ∧ ((x : Int) != k) = !b := by
  have : ((x : Int) == k) = b := by rw [Bool.eq_iff_iff, beq_iff_eq]; exact h
  exact ⟨this, by simp [bne, this]⟩
/-- the next block of a chain -/
theorem chain_next {t n a : Nat} {L : Nat → Nat} {l : List Nat} {R : List Nat × Nat} (hl : ChL t n l) (hd : t ≤ a ∧ a < n) (hm : a ∉ l) (ho : isOpenN (L a) = false) (hg : chainGo t n L (n - l.length + 1) l a = R) :
    (((l ++ [a]).length = 0 ∨ L a ≠ 255) ∧ chainGo t n L (n + 1 - (l ++ [a]).length) (l ++ [a]) (L a) = R) ∨ ((l ++ [a]).length ≠ 0 ∧ L a = 255 ∧ R = (l ++ [a], 0)) := by
  by_cases hx : L a = 255
  · right
    refine ⟨by simp, hx, ?_⟩
    rw [← hg, chainGo_end hd hm hx]
  · left
    refine ⟨.inr hx, ?_⟩
    rw [← hg, chainGo_step hd hm ho hx, List.length_append, List.length_singleton, show n + 1 - (l.length + 1) = n - l.length by omega]
end Go.Proofs.YtapkckpjeoedaaaDoor
namespace Go.Proofs.YtapkckpjeoedaaaDoor
open Go Go.ChangeShapes Go.WideShapes Go.ChangeAt Go.RowKit lib
set_option linter.unusedVariables false
set_option maxRecDepth 100000
theorem own_nil0 (w : World) (e : Nat) : (w.alloc (.cells #[] e)).ownsRow w.heap.size e 1 (.slice (some ⟨w.heap.size, 0, none⟩) 0 0) 0 [] := ⟨rfl, .inr ⟨w.heap.size, 0, #[], rfl, Nat.le_refl _, heap_alloc_new w _, Nat.le_refl _, by simp [maxLen], rfl, rfl⟩⟩
end Go.Proofs.YtapkckpjeoedaaaDoor
