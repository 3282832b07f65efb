/-
  Disks of extents: the entries of a disk: plain.
-/
import Derived.Test.YtmgcaiilocifbaaGreatDoorXlT
import Derived.Test.YtmgcaiilocifbaaGreatDoorCopy
import Derived.Test.YtmgcaiilocifbaaGreatDoorVMapP
namespace Go.Proofs.YtmgcaiilocifbaaGreatDoor
open Go Go.ChangeShapes Go.WideShapes Go.ChangeAt Go.RowKit lib
set_option linter.unusedVariables false
set_option linter.unusedSimpArgs false
set_option maxRecDepth 100000
/-- the bytes of entry k -/
def xby (z : Nat) (U : Nat → UInt8) (k : Nat) : Nat → UInt8 := fun i => U (z + k * 16 + i)
noncomputable def xen (z : Nat) (U : Nat → UInt8) (k : Nat) : XE := xent z (xby z U k)
theorem xen_ok (z : Nat) (U : Nat → UInt8) (k : Nat) : (xen z U k).ok z := xent_ok _ _
theorem xen_good {z : Nat} {U : Nat → UInt8} {k : Nat} (h : xGood z (xby z U k)) : xen z U k = xPar (xby z U k) := xent_good h
theorem xen_bad {z : Nat} {U : Nat → UInt8} {k : Nat} (h : ¬ xGood z (xby z U k)) : xen z U k = xe0 := xent_bad h
theorem xen_used {z : Nat} {U : Nat → UInt8} {k : Nat} (h : (xen z U k).st ≠ 0) : xGood z (xby z U k) := by
  apply Classical.byContradiction
  intro hg
  rw [xen_bad hg] at h
  exact h rfl
theorem xen_name {z : Nat} {U : Nat → UInt8} {k : Nat} (h : (xen z U k).st ≠ 0) : NameS (xen z U k).nm := by
  rcases xen_ok z U k with ⟨h1, _⟩ | ⟨_, h2, _⟩
  · exact absurd h1 h
  · exact h2
theorem names_ne {a : ByteArray} (h : NameS a) : a ≠ ⟨#[]⟩ := by
  rintro rfl
  have := h.lo
  simp [ByteArray.size] at this
open Classical in
/-- the numbers below E of a kind -/
noncomputable def picks (Q : Nat → Prop) (E : Nat) : List Nat := (List.range E).filter (fun k => decide (Q k))
theorem picks_zero (Q : Nat → Prop) : picks Q 0 = [] := rfl
open Classical in
theorem picks_hit {Q : Nat → Prop} {E : Nat} (h : Q E) : picks Q (E + 1) = picks Q E ++ [E] := by
  unfold picks
  rw [List.range_succ, List.filter_append]
  simp [h]
open Classical in
theorem picks_miss {Q : Nat → Prop} {E : Nat} (h : ¬ Q E) : picks Q (E + 1) = picks Q E := by
  unfold picks
  rw [List.range_succ, List.filter_append]
  simp [h]
open Classical in
theorem picks_len (Q : Nat → Prop) (E : Nat) : (picks Q E).length ≤ E := by
  unfold picks
  have := List.length_filter_le (fun k => decide (Q k)) (List.range E)
  simpa using this
open Classical in
theorem mem_picks {Q : Nat → Prop} {E k : Nat} : k ∈ picks Q E ↔ k < E ∧ Q k := by
  unfold picks
  simp
open Classical in
theorem picks_congr {Q R : Nat → Prop} {E : Nat} (h : ∀ k, k < E → (Q k ↔ R k)) : picks Q E = picks R E := by
  unfold picks
  apply List.filter_congr
  intro k hk
  simp only [List.mem_range] at hk
  simp [h k hk]
/-- the used entries of a file -/
def usedBy (z : Nat) (U : Nat → UInt8) (nm : ByteArray) (k : Nat) : Prop := (xen z U k).st = 1 ∧ (xen z U k).nm = nm
def isUsed (z : Nat) (U : Nat → UInt8) (k : Nat) : Prop := (xen z U k).st = 1
/-- the disk's bytes with entry k replaced -/
def putX (z : Nat) (U : Nat → UInt8) (k : Nat) (e : XE) : Nat → UInt8 := putU U (z + k * 16) ((List.range 16).map e.byte)
theorem putX_at (z : Nat) (U : Nat → UInt8) (k : Nat) (e : XE) (j : Nat) : putX z U k e j = if z + k * 16 ≤ j ∧ j < z + k * 16 + 16 then e.byte (j - (z + k * 16)) else U j := by
  unfold putX putU
  simp only [List.length_map, List.length_range]
  split
  · rename_i h
    rw [List.getD_eq_getElem?_getD]
    simp [show j - (z + k * 16) < 16 by omega]
  · rfl
/-- only the state is changed -/
theorem byte_state {z : Nat} {e : XE} {s : Int} (h : e.ok z) (he : e.st ≠ 0) (hs : s ≠ 0) (i : Nat) : ({ e with st := s } : XE).byte i = if i = 0 then UInt8.ofNat s.toNat else e.byte i := by
  unfold XE.byte
  simp only [he, hs, if_false]
  split <;> simp_all
theorem xen_byte {z : Nat} {U : Nat → UInt8} {k i : Nat} (h : xGood z (xby z U k)) (hi : i < 16) : (xen z U k).byte i = U (z + k * 16 + i) := by
  rw [xen_good h]
  exact h.2 i hi
/-- an entry's state is changed on the disk -/
theorem putX_state {z : Nat} {U V : Nat → UInt8} {k : Nat} {s : Int} (hk : (xen z U k).st ≠ 0) (hs : s ≠ 0) (hV : ∀ i, i < 16 → V (z + k * 16 + i) = U (z + k * 16 + i)) (j : Nat) : putX z V k { xen z U k with st := s } j = upd V (z + k * 16) (UInt8.ofNat s.toNat) j := by
  rw [putX_at]
  unfold upd
  split
  · rename_i h
    rw [byte_state (xen_ok z U k) hk hs]
    by_cases hj : j = z + k * 16
    · subst hj; simp
    · rw [if_neg (by omega), if_neg hj, xen_byte (xen_used hk) (by omega), ← hV _ (by omega)]
      congr 1
      omega
  · rename_i h
    rw [if_neg (by intro hj; apply h; omega)]
/-- the states of some entries changed -/
def marksX (z : Nat) (U : Nat → UInt8) (x : UInt8) : List Nat → Nat → UInt8
  | [] => U
  | k :: l => marksX z (upd U (z + k * 16) x) x l
theorem marksX_snoc (z : Nat) (x : UInt8) (k : Nat) : ∀ (l : List Nat) (U : Nat → UInt8), marksX z U x (l ++ [k]) = upd (marksX z U x l) (z + k * 16) x
  | [], U => rfl
  | a :: l, U => marksX_snoc z x k l _
theorem marksX_other (z : Nat) (x : UInt8) (j : Nat) : ∀ (l : List Nat) (U : Nat → UInt8), (∀ k, k ∈ l → j ≠ z + k * 16) → marksX z U x l j = U j
  | [], U, _ => rfl
  | a :: l, U, h => by
    rw [marksX, marksX_other z x j l _ (fun k hk => h k (List.mem_cons_of_mem _ hk)), upd_other _ _ (h a List.mem_cons_self)]
end Go.Proofs.YtmgcaiilocifbaaGreatDoor
