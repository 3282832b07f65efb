/-
  Trees: paths, entries that are looked up, files that are read: plain.
-/
import Derived.Test.YtiefcgmghkkbmaaGreatDoorTreQ
import Derived.Test.YtiefcgmghkkbmaaGreatDoorTreA
import Derived.Test.YtiefcgmghkkbmaaGreatDoorSplP
namespace Go.Proofs.YtiefcgmghkkbmaaGreatDoor
open Go lib
set_option linter.unusedVariables false
set_option maxRecDepth 100000
theorem Lnk.ne {nx : Nat → Nat} : ∀ {b : Nat} {l : List Nat}, Lnk nx b l → ∀ x ∈ l, x ≠ 0
  | _, _, .nil, x, hx => by cases hx
  | _, _, .cons h h1, x, hx => by
    rcases List.mem_cons.1 hx with rfl | hx
    · exact h
    · exact h1.ne x hx
theorem Lnk.zero {nx : Nat → Nat} {l : List Nat} (h : Lnk nx 0 l) : l = [] := h.unique .nil
theorem Lnk.step {nx : Nat → Nat} {b : Nat} {l : List Nat} (h : Lnk nx b l) (hb : b ≠ 0) : ∃ l', l = b :: l' ∧ Lnk nx (nx b) l' := by
  cases h with
  | nil => exact absurd rfl hb
  | cons _ h => exact ⟨_, rfl, h⟩
open Classical in
/-- the blocks of a chain -/
noncomputable def lkL (nx : Nat → Nat) (b : Nat) : List Nat := if h : ∃ l, Lnk nx b l then Classical.choose h else []
theorem lkL_eq {nx : Nat → Nat} {b : Nat} {l : List Nat} (h : Lnk nx b l) : lkL nx b = l := by
  have hx : ∃ l, Lnk nx b l := ⟨l, h⟩
  unfold lkL
  rw [dif_pos hx]
  exact (Classical.choose_spec hx).unique h
/-- where a directory's table begins -/
def tTab (d : Nat) : Nat := if d = 0 then 4 else 12
def nx2 (u : Nat → Nat → UInt8) (x : Nat) : Nat := (u x 2).toNat
def nx4 (u : Nat → Nat → UInt8) (x : Nat) : Nat := (u x 4).toNat
/-- a directory of a disk without problems -/
def DD (n : Nat) (u : Nat → Nat → UInt8) (d : Nat) : Prop := d < n ∧ (∃ g, DSnd n u g d (tTab d)) ∧ (d = 0 ∧ u d 0 = 1 ∨ d ≠ 0 ∧ u d 0 = 4)
/-- an entry of a directory -/
structure EE (n : Nat) (u : Nat → Nat → UInt8) (d x : Nat) : Prop where
  ne : x ≠ 0
  lt : x < n
  nd : x ≠ d
  bit : tBit (u 0) x = true
  ent : tEnt (u x) d
  dir : u x 0 = 4 → DD n u x
  fil : u x 0 ≠ 4 → u x 0 = 2 ∧ FSnd n u x
theorem DD.chain {n : Nat} {u : Nat → Nat → UInt8} {d : Nat} (h : DD n u d) {k : Nat} (hk : k < 8) : ∃ l, Lnk (nx2 u) (u d (tTab d + k)).toNat l ∧ l.length ≤ 256 ∧ ∀ x ∈ l, EE n u d x ∧ tHash (tnm (u x)) = k := by
  obtain ⟨h1, ⟨g, h2⟩, h3⟩ := h
  cases g with
  | zero => exact h2.elim
  | succ g =>
    obtain ⟨l, l1, l0, l2⟩ := h2 k hk
    refine ⟨l, l1, l0, fun x hx => ?_⟩
    obtain ⟨a1, a6, a7, a2, a3, a4, a5⟩ := l2 x hx
    have hx0 := l1.ne x hx
    refine ⟨⟨hx0, a1, a6, a7, a2, fun q => ⟨a1, ⟨g, ?_⟩, .inr ⟨hx0, q⟩⟩, fun q => ⟨?_, a5 q⟩⟩, a3⟩
    · unfold tTab
      rw [if_neg hx0]
      exact a4 q
    · rcases a2.2.2 with q2 | q2
      · exact q2.1
      · exact absurd q2.1 q
theorem dd_root {n : Nat} {u : Nat → Nat → UInt8} (h0 : 0 < n) (hn : n ≤ 128) (h : (tWalk n u).pr.length = 0) : DD n u 0 := by
  obtain ⟨h1, h2⟩ := dsnd_of hn (List.eq_nil_of_length_eq_zero h)
  refine ⟨h0, ⟨257, h2⟩, .inl ⟨rfl, ?_⟩⟩
  unfold tRootP at h1
  by_cases q1 : usum (u 0) 32 ≠ 0
  · rw [if_pos q1] at h1; cases h1
  · rw [if_neg q1] at h1
    by_cases q2 : tRoot (u 0) n
    · exact q2.1
    · rw [if_neg q2] at h1; cases h1
theorem tHash_lt (s : ByteArray) : tHash s < 8 := Nat.mod_lt _ (by omega)
/-- the block of an entry; 0 if there is none -/
noncomputable def lookU (u : Nat → Nat → UInt8) (d : Nat) (nm : ByteArray) : Nat := ((lkL (nx2 u) (u d (tTab d + tHash nm)).toNat).find? fun x => decide (tnm (u x) = nm)).getD 0
theorem lookU_ee {n : Nat} {u : Nat → Nat → UInt8} {d : Nat} (h : DD n u d) (nm : ByteArray) : lookU u d nm = 0 ∨ EE n u d (lookU u d nm) := by
  obtain ⟨l, l1, l0, l2⟩ := h.chain (tHash_lt nm)
  unfold lookU
  rw [lkL_eq l1]
  cases hf : l.find? fun x => decide (tnm (u x) = nm) with
  | none => exact .inl rfl
  | some x => exact .inr (l2 x (List.mem_of_find?_eq_some hf)).1
/-- the directory behind names, and a code -/
noncomputable def tFold (u : Nat → Nat → UInt8) : List ByteArray → Nat → Nat × Nat
  | [], d => (d, 0)
  | nm :: r, d => if lookU u d nm = 0 then (0, 3) else if u (lookU u d nm) 0 = 4 then tFold u r (lookU u d nm) else (0, 6)
theorem tFold_dd {n : Nat} {u : Nat → Nat → UInt8} : ∀ (N : List ByteArray) {d : Nat}, DD n u d → (tFold u N d).2 = 0 → DD n u (tFold u N d).1
  | [], d, h, _ => h
  | nm :: r, d, h, hc => by
    unfold tFold at hc ⊢
    by_cases h0 : lookU u d nm = 0
    · rw [if_pos h0] at hc; cases hc
    · rw [if_neg h0] at hc ⊢
      by_cases h4 : u (lookU u d nm) 0 = 4
      · rw [if_pos h4] at hc ⊢
        rcases lookU_ee h nm with q | q
        · exact absurd q h0
        · exact tFold_dd r (q.dir h4) hc
      · rw [if_neg h4] at hc; cases hc
theorem tFold_le {u : Nat → Nat → UInt8} : ∀ (N : List ByteArray) (d : Nat), (tFold u N d).2 ≤ 6
  | [], d => Nat.zero_le _
  | nm :: r, d => by
    unfold tFold
    split
    · show 3 ≤ 6; omega
    · split
      · exact tFold_le r _
      · exact Nat.le_refl _
/-- a file's bytes -/
noncomputable def tData (u : Nat → Nat → UInt8) (x : Nat) : ByteArray := catB ((lkL (nx4 u) (u x 14).toNat).map fun y => tDat (u y))
open Classical in
/-- the names of a path -/
noncomputable def pathT (p : ByteArray) : Option (List ByteArray) := if (piecesT 47 p).length ≤ 4 ∧ ∀ x ∈ piecesT 47 p, NameS x then some (piecesT 47 p) else none
theorem pathT_some {p : ByteArray} {N : List ByteArray} (h : pathT p = some N) : N = piecesT 47 p ∧ N.length ≤ 4 ∧ 0 < N.length ∧ ∀ x ∈ N, NameS x := by
  unfold pathT at h
  by_cases q : (piecesT 47 p).length ≤ 4 ∧ ∀ x ∈ piecesT 47 p, NameS x
  · rw [if_pos q] at h
    injection h with h
    subst h
    exact ⟨rfl, q.1, piecesT_pos _ _, q.2⟩
  · rw [if_neg q] at h; cases h
theorem pathT_yes {p : ByteArray} (h : (piecesT 47 p).length ≤ 4) (h2 : ∀ x ∈ piecesT 47 p, NameS x) : pathT p = some (piecesT 47 p) := by unfold pathT; rw [if_pos ⟨h, h2⟩]
theorem pathT_no {p : ByteArray} (h : ¬ ((piecesT 47 p).length ≤ 4 ∧ ∀ x ∈ piecesT 47 p, NameS x)) : pathT p = none := by unfold pathT; rw [if_neg h]
/-- a disk is opened for a path: a code, the directory and the last name -/
noncomputable def askT (n : Nat) (s : Nat → ByteArray) (p : ByteArray) : Nat × Nat × ByteArray :=
  match pathT p with
  | none => (1, 0, ⟨#[]⟩)
  | some N => if tCode n s = 0 then (if (tFold (fun i => byteAt (s i)) N.dropLast 0).2 = 0 then (0, (tFold (fun i => byteAt (s i)) N.dropLast 0).1, N.getLastD ⟨#[]⟩) else ((tFold (fun i => byteAt (s i)) N.dropLast 0).2, 0, ⟨#[]⟩)) else (tCode n s, 0, ⟨#[]⟩)
theorem askT_none {n : Nat} {s : Nat → ByteArray} {p : ByteArray} (h : pathT p = none) : askT n s p = (1, 0, ⟨#[]⟩) := by unfold askT; rw [h]
theorem askT_code {n : Nat} {s : Nat → ByteArray} {p : ByteArray} {N : List ByteArray} (h : pathT p = some N) (hc : tCode n s ≠ 0) : askT n s p = (tCode n s, 0, ⟨#[]⟩) := by unfold askT; rw [h]; dsimp only; rw [if_neg hc]
theorem askT_fold {n : Nat} {s : Nat → ByteArray} {p : ByteArray} {N : List ByteArray} (h : pathT p = some N) (hc : tCode n s = 0) (hf : (tFold (fun i => byteAt (s i)) N.dropLast 0).2 ≠ 0) : askT n s p = ((tFold (fun i => byteAt (s i)) N.dropLast 0).2, 0, ⟨#[]⟩) := by unfold askT; rw [h]; dsimp only; rw [if_pos hc, if_neg hf]
theorem askT_ok {n : Nat} {s : Nat → ByteArray} {p : ByteArray} {N : List ByteArray} (h : pathT p = some N) (hc : tCode n s = 0) (hf : (tFold (fun i => byteAt (s i)) N.dropLast 0).2 = 0) : askT n s p = (0, (tFold (fun i => byteAt (s i)) N.dropLast 0).1, N.getLastD ⟨#[]⟩) := by unfold askT; rw [h]; dsimp only; rw [if_pos hc, if_pos hf]
/-- what a good answer says -/
theorem askT_zero {n : Nat} {s : Nat → ByteArray} {p : ByteArray} (h : (askT n s p).1 = 0) : tCode n s = 0 ∧ DD n (fun i => byteAt (s i)) (askT n s p).2.1 ∧ NameS (askT n s p).2.2 := by
  cases hp : pathT p with
  | none => rw [askT_none hp] at h; cases h
  | some N =>
    by_cases hc : tCode n s = 0
    · by_cases hf : (tFold (fun i => byteAt (s i)) N.dropLast 0).2 = 0
      · rw [askT_ok hp hc hf]
        obtain ⟨⟨h4, hn, _⟩, h0⟩ := tCode_zero hc
        refine ⟨hc, tFold_dd _ (dd_root (by omega) hn h0) hf, ?_⟩
        obtain ⟨_, _, q, q2⟩ := pathT_some hp
        show NameS (N.getLastD ⟨#[]⟩)
        have hne : N ≠ [] := by rintro rfl; exact absurd q (Nat.lt_irrefl 0)
        rw [List.getLastD_eq_getLast?, List.getLast?_eq_some_getLast hne]
        exact q2 _ (List.getLast_mem hne)
      · rw [askT_fold hp hc hf] at h
        exact absurd h hf
    · rw [askT_code hp hc] at h
      exact absurd h hc
theorem askT_le (n : Nat) (s : Nat → ByteArray) (p : ByteArray) : (askT n s p).1 ≤ 10 := by
  have h1 := tCode_le n s
  unfold askT
  split
  · show 1 ≤ 10; omega
  · rename_i N _
    have h2 := tFold_le (u := fun i => byteAt (s i)) N.dropLast 0
    split
    · split
      · exact Nat.zero_le _
      · show (tFold (fun i => byteAt (s i)) N.dropLast 0).2 ≤ 10; omega
    · exact h1
/-- what reading a file answers -/
noncomputable def readU (u : Nat → Nat → UInt8) (d : Nat) (nm : ByteArray) : ByteArray × Nat :=
  if lookU u d nm = 0 then (⟨#[]⟩, 3) else if u (lookU u d nm) 0 = 2 then (tData u (lookU u d nm), 0) else (⟨#[]⟩, 6)
noncomputable def readT (n : Nat) (s : Nat → ByteArray) (p : ByteArray) : ByteArray × Nat :=
  if (askT n s p).1 = 0 then readU (fun i => byteAt (s i)) (askT n s p).2.1 (askT n s p).2.2 else (⟨#[]⟩, (askT n s p).1)
theorem readT_bad {n : Nat} {s : Nat → ByteArray} {p : ByteArray} (h : (askT n s p).1 ≠ 0) : readT n s p = (⟨#[]⟩, (askT n s p).1) := if_neg h
theorem readT_ok {n : Nat} {s : Nat → ByteArray} {p : ByteArray} (h : (askT n s p).1 = 0) : readT n s p = readU (fun i => byteAt (s i)) (askT n s p).2.1 (askT n s p).2.2 := if_pos h
theorem readU_none {u : Nat → Nat → UInt8} {d : Nat} {nm : ByteArray} (h : lookU u d nm = 0) : readU u d nm = (⟨#[]⟩, 3) := if_pos h
theorem readU_ok {u : Nat → Nat → UInt8} {d : Nat} {nm : ByteArray} (h : lookU u d nm ≠ 0) (h2 : u (lookU u d nm) 0 = 2) : readU u d nm = (tData u (lookU u d nm), 0) := by unfold readU; rw [if_neg h, if_pos h2]
theorem readU_bad {u : Nat → Nat → UInt8} {d : Nat} {nm : ByteArray} (h : lookU u d nm ≠ 0) (h2 : u (lookU u d nm) 0 ≠ 2) : readU u d nm = (⟨#[]⟩, 6) := by unfold readU; rw [if_neg h, if_neg h2]
theorem tData_size {n : Nat} {u : Nat → Nat → UInt8} {x : Nat} (h : FSnd n u x) : (tData u x).size = tW (u x) 12 := by
  obtain ⟨l, l1, _, _, l4⟩ := h
  unfold tData
  rw [lkL_eq (show Lnk (nx4 u) _ l from l1)]
  exact l4
end Go.Proofs.YtiefcgmghkkbmaaGreatDoor
