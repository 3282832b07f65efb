/-
  Disks of chains: a deleted file restored: plain.
-/
import Derived.Test.YtgmmigbaaigldaaGreatDoorGbLaw
import Derived.Test.YtgmmigbaaigldaaGreatDoorNamedP
namespace Go.Proofs.YtgmmigbaaigldaaGreatDoor
open Go Go.ChangeShapes Go.WideShapes Go.ChangeAt Go.RowKit lib
set_option linter.unusedVariables false
set_option maxRecDepth 100000
/-- the link behind place j of a chain -/
def nxtB (G : List Nat) (j : Nat) : UInt8 := if j + 1 < G.length then UInt8.ofNat (G.getD (j + 1) 0) else 255
/-- the bytes of a disk when the first i blocks are linked: the reference's way -/
def lnkU (z : Nat) (u : Nat → UInt8) (G : List Nat) : Nat → Nat → UInt8
  | 0 => u
  | i + 1 => upd (lnkU z u G i) (z + G.getD i 0) (nxtB G i)
/-- the program's way -/
def lnkI (z : Nat) (u : Nat → UInt8) (G : List Nat) : Nat → Nat → UInt8
  | 0 => u
  | i + 1 => if i = 0 then upd (lnkI z u G i) (z + G.getD i 0) 255 else upd (upd (lnkI z u G i) (z + G.getD i 0) 255) (z + G.getD (i - 1) 0) (UInt8.ofNat (G.getD i 0))
theorem updc {u : Nat → UInt8} {i j : Nat} {x y : UInt8} (h : i ≠ j) : upd (upd u i x) j y = upd (upd u j y) i x := by
  funext q
  unfold upd
  by_cases h1 : q = j
  · by_cases h2 : q = i
    · omega
    · simp [h1, Ne.symm h]
  · simp [h1]
theorem upds {u : Nat → UInt8} {i : Nat} {x y : UInt8} : upd (upd u i x) i y = upd u i y := by
  funext q
  unfold upd
  by_cases h1 : q = i <;> simp [h1]
theorem lnkI_eq {z : Nat} {u : Nat → UInt8} {G : List Nat} (h : Up G) : ∀ i, i < G.length → lnkI z u G (i + 1) = upd (lnkU z u G i) (z + G.getD i 0) 255
  | 0, _ => by simp [lnkI, lnkU]
  | i + 1, hi => by
    have ih := lnkI_eq (z := z) (u := u) h i (by omega)
    have hlt := h i (i + 1) (by omega) hi
    rw [lnkI, if_neg (by omega), ih, Nat.add_sub_cancel]
    have hn : nxtB G i = UInt8.ofNat (G.getD (i + 1) 0) := by unfold nxtB; rw [if_pos hi]
    rw [lnkU, hn, updc (i := z + G.getD (i + 1) 0) (j := z + G.getD i 0) (by omega), upds]
theorem lnkI_end {z : Nat} {u : Nat → UInt8} {G : List Nat} (h : Up G) : lnkI z u G G.length = lnkU z u G G.length := by
  cases hG : G.length with
  | zero => rfl
  | succ i =>
    rw [lnkI_eq h i (by omega), lnkU]
    unfold nxtB
    rw [if_neg (by omega)]
theorem lnkU_far {z : Nat} {u : Nat → UInt8} {G : List Nat} {j : Nat} (h : ∀ a, a ∈ G → j ≠ z + a) : ∀ i, i ≤ G.length → lnkU z u G i j = u j
  | 0, _ => rfl
  | i + 1, hi => by
    have hm : G.getD i 0 ∈ G := by rw [List.getD_eq_getElem?_getD, List.getElem?_eq_getElem (by omega)]; exact List.getElem_mem _
    rw [lnkU, upd_other _ _ (h _ hm)]
    exact lnkU_far h i (by omega)
theorem up_pair {L : List Nat} : Up L ↔ L.Pairwise (· < ·) := by
  rw [List.pairwise_iff_getElem]
  constructor
  · intro h i j hi hj hij
    have := h i j hij hj
    rw [List.getD_eq_getElem?_getD, List.getD_eq_getElem?_getD, List.getElem?_eq_getElem hi, List.getElem?_eq_getElem hj] at this
    exact this
  · intro h i j hij hj
    rw [List.getD_eq_getElem?_getD, List.getD_eq_getElem?_getD, List.getElem?_eq_getElem (show i < L.length by omega), List.getElem?_eq_getElem hj]
    exact h i j (by omega) hj hij
theorem gb_up {L : List Nat} {f N : Nat} (h : Up L) : Up (gbL L f N) := by
  rw [up_pair] at h ⊢
  unfold gbL
  exact (h.filter _).sublist (List.take_sublist _ _)
theorem gb_mem {L : List Nat} {f N a : Nat} (h : a ∈ gbL L f N) : a ∈ L := by
  unfold gbL at h
  exact (List.mem_filter.1 (List.mem_of_mem_take h)).1
theorem fr_mem {U : Nat → UInt8} {z t n a : Nat} (ht : t ≤ n) (h : a ∈ freeN U z t (n - t)) : a < n := by
  have := freeN_lt U z t (n - t) a h
  omega
theorem gb_at {L : List Nat} {i : Nat} (h : i < L.length) : L.getD i 0 ∈ L := by
  rw [List.getD_eq_getElem?_getD, List.getElem?_eq_getElem h]; exact List.getElem_mem _
theorem ndir_ge {n z : Nat} (hz : 0 < z) : z + n ≤ dirN n z * z := by
  unfold dirN
  have := Nat.div_add_mod (n + z - 1) z
  have h2 := Nat.mod_lt (n + z - 1) hz
  rw [Nat.add_mul, Nat.mul_comm ((n + z - 1) / z) z]
  omega
theorem de_ok {v : Nat → UInt8} (h : (entryOf v).de = true) : okE v := by
  apply Classical.byContradiction
  intro hn
  rw [entryOf_not hn] at h
  cases h
/-- a restored entry's bytes -/
theorem und_same {n z k : Nat} {U V : Nat → UInt8} (hz : 0 < z) (hV : ∀ j, z + n ≤ j → V j = U j) (hde : (entK n z U k).de = true) :
    putE V (dirN n z * z + k * 12) (entK n z U k).nm (entK n z U k).f (entK n z U k).l true false = upd V (dirN n z * z + k * 12 + 11) 1 := by
  have hge := ndir_ge (n := n) hz
  have hok := de_ok (v := fun i => U (dirN n z * z + k * 12 + i)) hde
  have hb : ∀ i, i < 12 → (entK n z U k).byte i = U (dirN n z * z + k * 12 + i) := by
    intro i hi
    unfold entK
    rw [entryOf_ok hok]
    exact hok.2 i hi
  have hus : (entK n z U k).us = false := by
    have := (entryOf_facts (fun i => U (dirN n z * z + k * 12 + i))).2.2.2
    change ¬ ((entK n z U k).us = true ∧ (entK n z U k).de = true) at this
    cases h : (entK n z U k).us
    · rfl
    · exact absurd ⟨h, hde⟩ this
  funext j
  obtain ⟨e, he⟩ : ∃ e, entK n z U k = e := ⟨_, rfl⟩
  rw [he] at hb hus hde ⊢
  obtain ⟨nm, f, ln, us, de⟩ := e
  simp only at hus hde
  subst hus hde
  unfold putE putU
  split
  · rename_i h
    have hlen : ((List.range 12).map (entB nm f ln true false)).length = 12 := by simp
    rw [hlen] at h
    obtain ⟨i, hi, rfl⟩ : ∃ i, i < 12 ∧ j = dirN n z * z + k * 12 + i := ⟨j - (dirN n z * z + k * 12), by omega, by omega⟩
    have hg : ((List.range 12).map (entB nm f ln true false)).getD (dirN n z * z + k * 12 + i - (dirN n z * z + k * 12)) 0 = entB nm f ln true false i := by
      rw [show dirN n z * z + k * 12 + i - (dirN n z * z + k * 12) = i by omega]
      simp [hi]
    simp only at hg ⊢
    rw [hg, entB_t]
    unfold upd
    by_cases e : i = 11
    · subst e; simp
    · rw [if_neg e, if_neg (by omega), hV _ (by omega), ← hb i hi]
      show _ = entB nm f ln false true i
      rw [entB_ft, upd_other _ _ e]
  · rename_i h
    have hlen : ((List.range 12).map (entB nm f ln true false)).length = 12 := by simp
    rw [hlen] at h
    rw [upd_other _ _ (by omega)]
/-- the bytes of a disk when entry k is restored -/
noncomputable def undU (n : Nat) (s : Nat → ByteArray) (k : Nat) : Nat → UInt8 := upd (lnkU (s 0).size (joinU (s 0).size s) (gbOf n s k) (gbOf n s k).length) (dirN n (s 0).size * (s 0).size + k * 12 + 11) 1
end Go.Proofs.YtgmmigbaaigldaaGreatDoor
