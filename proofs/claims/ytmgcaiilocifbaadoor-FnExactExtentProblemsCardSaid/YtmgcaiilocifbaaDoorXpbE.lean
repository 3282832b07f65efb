/-
  Disks of extents: all problems: plain.
-/
import Derived.Test.YtmgcaiilocifbaaDoorXpbM
namespace Go.Proofs.YtmgcaiilocifbaaDoor
open Go Go.ChangeShapes Go.WideShapes Go.ChangeAt Go.RowKit lib
set_option linter.unusedVariables false
set_option linter.unusedSimpArgs false
set_option maxRecDepth 100000
theorem hasZ_take (l : List Int) (i : Nat) (hi : i ≤ l.length) (v : Int) : hasZ (fun j => l.getD j 0) i v = true ↔ v ∈ l.take i := by
  have h := hasZ_mem (l.take i) v
  have hl : (l.take i).length = i := by rw [List.length_take]; omega
  rw [hl] at h
  rw [← h]
  unfold hasZ
  rw [List.any_eq_true, List.any_eq_true]
  have hg : ∀ j, j < i → (l.take i).getD j 0 = l.getD j 0 := fun j hj => by
    simp [List.getD_eq_getElem?_getD, List.getElem?_take, hj]
  constructor
  · rintro ⟨j, hj, he⟩
    exact ⟨j, hj, by dsimp only at he ⊢; rw [hg j (by simpa using hj)]; exact he⟩
  · rintro ⟨j, hj, he⟩
    exact ⟨j, hj, by dsimp only at he ⊢; rw [hg j (by simpa using hj)] at he; exact he⟩
open Classical in
/-- a problem without a block -/
noncomputable def nProb (Q : Prop) (x k : Int) : List P3 := if Q then [(x, k, 0)] else []
theorem nProb_yes {Q : Prop} {x k : Int} (h : Q) : nProb Q x k = [(x, k, 0)] := if_pos h
theorem nProb_no {Q : Prop} {x k : Int} (h : ¬ Q) : nProb Q x k = [] := if_neg h
theorem nProb_len {Q : Prop} {x k : Int} : (nProb Q x k).length ≤ 1 := by unfold nProb; split <;> simp
/-- the problems of a used entry -/
noncomputable def eProbs (n t z : Nat) (U : Nat → UInt8) (E : Nat) (T : List Int) (k : Nat) : List P3 :=
  (bProbs n t T (xen z U k).bl k ++ nProb (badNoX (xen z U k).no k (fun j => (xen z U j).no) (picks (usedBy z U (xen z U k).nm) E)) 4 k) ++ nProb (badLenX (xen z U k).bl.length (xen z U k).no (xen z U k).tl z (moreX (xen z U k).no (fun j => (xen z U j).no) (picks (usedBy z U (xen z U k).nm) E))) 5 k
theorem eProbs_len {n t z E k : Nat} {U : Nat → UInt8} {T : List Int} : (eProbs n t z U E T k).length ≤ 10 := by
  unfold eProbs
  rw [List.length_append, List.length_append]
  have h1 := bProbs_len (n := n) (t := t) (T := T) (l := (xen z U k).bl) (k := (k : Int))
  have h2 := XE.ok_len (xen_ok z U k)
  have h3 := nProb_len (Q := badNoX (xen z U k).no k (fun j => (xen z U j).no) (picks (usedBy z U (xen z U k).nm) E)) (x := 4) (k := (k : Int))
  have h4 := nProb_len (Q := badLenX (xen z U k).bl.length (xen z U k).no (xen z U k).tl z (moreX (xen z U k).no (fun j => (xen z U j).no) (picks (usedBy z U (xen z U k).nm) E))) (x := 5) (k := (k : Int))
  omega
theorem nz1 {m : Nat} (h : ¬ m = 0) : ((m : Int) == 0) = false := by simp; omega
theorem nz2 {m : Nat} (h : ¬ m = 0) : ((m : Int) = 0) = False := by simp; omega
theorem nz3 {m : Nat} (h : ¬ m = 0) : decide ((0 : Int) < (m : Int)) = true := by simp; omega
theorem nz4 {m : Nat} (h : ¬ m = 0) : (0 : Int) < (m : Int) := by omega
open Classical in
/-- the problems of an entry -/
noncomputable def entP (n t z : Nat) (U : Nat → UInt8) (E k : Nat) : List P3 := if xGood z (xby z U k) then (if isUsed z U k then eProbs n t z U E (blsX z U (picks (isUsed z U) k)) k else []) else [((1 : Int), (k : Int), (0 : Int))]
/-- the problems of the entries below k -/
noncomputable def allP (n t z : Nat) (U : Nat → UInt8) (E : Nat) : Nat → List P3
  | 0 => []
  | k + 1 => allP n t z U E k ++ entP n t z U E k
theorem entP_bad {n t z E k : Nat} {U : Nat → UInt8} (h : ¬ xGood z (xby z U k)) : entP n t z U E k = [((1 : Int), (k : Int), (0 : Int))] := if_neg h
theorem entP_used {n t z E k : Nat} {U : Nat → UInt8} (h : isUsed z U k) : entP n t z U E k = eProbs n t z U E (blsX z U (picks (isUsed z U) k)) k := by
  unfold entP
  rw [if_pos (xen_used (by unfold isUsed at h; rw [h]; decide)), if_pos h]
theorem entP_other {n t z E k : Nat} {U : Nat → UInt8} (h : xGood z (xby z U k)) (h2 : ¬ isUsed z U k) : entP n t z U E k = [] := by
  unfold entP
  rw [if_pos h, if_neg h2]
theorem entP_len {n t z E k : Nat} {U : Nat → UInt8} : (entP n t z U E k).length ≤ 10 := by
  unfold entP
  split
  · split
    · exact eProbs_len
    · simp
  · simp
theorem allP_len {n t z E : Nat} {U : Nat → UInt8} : ∀ k, (allP n t z U E k).length ≤ 10 * k
  | 0 => by simp [allP]
  | k + 1 => by
    have h1 := allP_len (n := n) (t := t) (z := z) (E := E) (U := U) k
    have h2 := entP_len (n := n) (t := t) (z := z) (E := E) (U := U) (k := k)
    rw [allP, List.length_append]
    omega
theorem bls_used {z k : Nat} {U : Nat → UInt8} (h : isUsed z U k) : blsX z U (picks (isUsed z U) (k + 1)) = blsX z U (picks (isUsed z U) k) ++ (xen z U k).bl := by
  rw [picks_hit h, blsX_snoc]
theorem bls_other {z k : Nat} {U : Nat → UInt8} (h : ¬ isUsed z U k) : blsX z U (picks (isUsed z U) (k + 1)) = blsX z U (picks (isUsed z U) k) := by
  rw [picks_miss h]
/-- the problems of a disk -/
noncomputable def probsX (n : Nat) (s : Nat → ByteArray) : List P3 := allP n (dataX n (s 0).size) (s 0).size (joinU (s 0).size s) (entsX n) (entsX n)
end Go.Proofs.YtmgcaiilocifbaaDoor
