/-
  Trees: what a walk over a tree finds: plain.
-/
import Derived.Test.YtiefcgmghkkbmaaGreatDoorName
import Derived.Lib.TrimByte
import Derived.Lib.SlBy2
namespace Go.Proofs.YtiefcgmghkkbmaaGreatDoor
open Go Go.ChangeShapes Go.WideShapes Go.ChangeAt Go.RowKit lib
set_option linter.unusedVariables false
set_option linter.unusedSimpArgs false
set_option maxRecDepth 100000
theorem bsT_size (n : Nat) (v : Nat → UInt8) : (bstr n v).size = n := by
  show (bstr n v).data.size = n
  simp [bstr]
theorem bsT_at {n : Nat} {v : Nat → UInt8} {i : Nat} (h : i < n) : byteAt (bstr n v) i = v i := by
  simp [byteAt, bstr, h]
theorem bsT_congr {n : Nat} {u v : Nat → UInt8} (h : ∀ i, i < n → u i = v i) : bstr n u = bstr n v := by
  unfold bstr
  congr 2
  exact List.map_congr_left fun i hi => h i (List.mem_range.1 hi)
theorem bsT_ext {n : Nat} {u v : Nat → UInt8} (h : bstr n u = bstr n v) : ∀ i, i < n → u i = v i := fun i hi => by
  rw [← bsT_at (v := u) hi, h, bsT_at hi]
/-- how many of m bytes stand ahead of the noughts at the end -/
def tLen (v : Nat → UInt8) : Nat → Nat
  | 0 => 0
  | m + 1 => if v m = 0 then tLen v m else m + 1
theorem tLen_le (v : Nat → UInt8) : ∀ m, tLen v m ≤ m
  | 0 => Nat.le_refl _
  | m + 1 => by
    have := tLen_le v m
    unfold tLen
    split <;> omega
theorem tLen_nul (v : Nat → UInt8) : ∀ m i, tLen v m ≤ i → i < m → v i = 0
  | 0, i, _, h => by omega
  | m + 1, i, h1, h2 => by
    unfold tLen at h1
    split at h1
    · rename_i h0
      rcases Nat.lt_or_ge i m with h3 | h3
      · exact tLen_nul v m i h1 h3
      · obtain rfl : i = m := by omega
        exact h0
    · omega
theorem tLen_last (v : Nat → UInt8) : ∀ m, 0 < tLen v m → v (tLen v m - 1) ≠ 0
  | 0, h => by unfold tLen at h; omega
  | m + 1, h => by
    unfold tLen at h ⊢
    split
    · rename_i h0
      rw [if_pos h0] at h
      exact tLen_last v m h
    · rename_i h0
      simpa using h0
/-- a length that fits is the length -/
theorem tLen_is {v : Nat → UInt8} {m t : Nat} (h1 : t ≤ m) (h2 : ∀ i, t ≤ i → i < m → v i = 0) (h3 : ∀ i, i < t → v i ≠ 0) : tLen v m = t := by
  rcases Nat.lt_trichotomy (tLen v m) t with h | h | h
  · exact absurd (tLen_nul v m (t - 1) (by omega) (by omega)) (h3 _ (by omega))
  · exact h
  · exact absurd (h2 (tLen v m - 1) (by omega) (by have := tLen_le v m; omega)) (tLen_last v m (by omega))
/-- what TrimRight leaves of noughts -/
theorem tTrim {v : Nat → UInt8} {m : Nat} : (⟨(Go.Lib.trimRightB (bstr m v).data.toList 0).toArray⟩ : ByteArray) = bstr (tLen v m) v := by
  have ht := tLen_le v m
  have hg : ∀ j b, (bstr m v).data.toList[j]? = some b → j < m ∧ b = v j := by
    intro j b hb
    simp only [bstr, List.getElem?_map, Option.map_eq_some_iff] at hb
    obtain ⟨a, ha, rfl⟩ := hb
    rw [List.getElem?_eq_some_iff] at ha
    obtain ⟨h1, h2⟩ := ha
    simp at h1 h2
    subst h2
    exact ⟨h1, rfl⟩
  rw [Go.Lib.trimRightB_take _ 0 (tLen v m) (by simp [bstr]; omega) (fun j b hj hb => by
    obtain ⟨h1, rfl⟩ := hg j b hb
    exact tLen_nul v m j hj h1) (fun b h0 hb => by
    obtain ⟨h1, rfl⟩ := hg _ b hb
    exact tLen_last v m h0)]
  unfold bstr
  congr 2
  rw [← List.map_take, List.take_range, Nat.min_eq_left ht]
theorem tChar_ne {x : UInt8} (h : charN x.toNat) : x ≠ 0 := by
  rintro rfl
  unfold charN letterN digitN at h
  simp at h
theorem tName_some {v : Nat → UInt8} {t : Nat} (h : NameS (bstr t v)) : ∀ i, i < t → v i ≠ 0 := by
  intro i hi
  have := h.all i (by rw [bsT_size]; exact hi)
  rw [bsT_at hi] at this
  exact tChar_ne this
/-- the bytes of a block's name -/
def tV (x : Nat → UInt8) : Nat → UInt8 := fun i => x (4 + i)
def tN (x : Nat → UInt8) : Nat := tLen (tV x) 8
def tnm (x : Nat → UInt8) : ByteArray := bstr (tN x) (tV x)
theorem tN_le (x : Nat → UInt8) : tN x ≤ 8 := tLen_le _ _
theorem tnm_size (x : Nat → UInt8) : (tnm x).size = tN x := bsT_size _ _
open Classical in
/-- the name that the reference reads -/
noncomputable def tnmS (x : Nat → UInt8) : ByteArray := if NameS (tnm x) then tnm x else ⟨#[]⟩
theorem tnmS_ok {x : Nat → UInt8} (h : NameS (tnm x)) : tnmS x = tnm x := if_pos h
theorem tnmS_not {x : Nat → UInt8} (h : ¬ NameS (tnm x)) : tnmS x = ⟨#[]⟩ := if_neg h
/-- where the first nought stands -/
def TNul (v : Nat → UInt8) (t : Nat) : Prop := t ≤ 8 ∧ (∀ i, i < t → v i ≠ 0) ∧ (t < 8 → v t = 0)
theorem tnmS_nul {x : Nat → UInt8} {t : Nat} (h : TNul (tV x) t) (hn : NameS (bstr t (tV x))) (hz : ∀ i, t ≤ i → i < 8 → tV x i = 0) : tnmS x = bstr t (tV x) := by
  have e : tN x = t := tLen_is h.1 hz h.2.1
  have e2 : tnm x = bstr t (tV x) := by unfold tnm; rw [e]
  rw [← e2] at hn
  rw [tnmS_ok hn, e2]
theorem tnmS_bad {x : Nat → UInt8} {t : Nat} (h : TNul (tV x) t) (hn : ¬ (NameS (bstr t (tV x)) ∧ ∀ i, t ≤ i → i < 8 → tV x i = 0)) : tnmS x = ⟨#[]⟩ := by
  refine tnmS_not fun q => hn ?_
  have h1 : ∀ i, i < tN x → tV x i ≠ 0 := tName_some q
  have h2 : ∀ i, tN x ≤ i → i < 8 → tV x i = 0 := tLen_nul _ _
  have e : tN x = t := by
    rcases Nat.lt_trichotomy (tN x) t with h3 | h3 | h3
    · exact absurd (h2 _ (Nat.le_refl _) (by have := h.1; omega)) (h.2.1 _ h3)
    · exact h3
    · exact absurd (h.2.2 (by have := tN_le x; omega)) (h1 _ h3)
  unfold tnm at q
  rw [e] at q h2
  exact ⟨q, h2⟩
/-- zeros from a place on -/
def tZ (x : Nat → UInt8) (k : Nat) : Prop := ∀ i, k ≤ i → i < 32 → x i = 0
/-- a word of two bytes -/
def tW (x : Nat → UInt8) (k : Nat) : Nat := (x k).toNat * 256 + (x (k + 1)).toNat
/-- an entry of a directory -/
def tEnt (x : Nat → UInt8) (d : Nat) : Prop := (x 3).toNat = d ∧ NameS (tnm x) ∧ ((x 0 = 2 ∧ tW x 12 ≤ 512 ∧ tZ x 15) ∨ (x 0 = 4 ∧ tZ x 20))
/-- a data block of a file -/
def tPart (x : Nat → UInt8) (f k : Nat) : Prop := x 0 = 3 ∧ (x 2).toNat = f ∧ (x 3).toNat = k ∧ 1 ≤ (x 5).toNat ∧ (x 5).toNat ≤ 26 ∧ (x 4 = 0 ∨ (x 5).toNat = 26) ∧ tZ x (6 + (x 5).toNat)
/-- the sum of bytes -/
def sumN (u : Nat → UInt8) : Nat → Nat
  | 0 => 0
  | k + 1 => sumN u k + (u k).toNat
theorem sumN_le (u : Nat → UInt8) : ∀ k, sumN u k ≤ k * 255
  | 0 => Nat.le_refl _
  | k + 1 => by
    have := sumN_le u k
    have := (u k).toNat_lt
    unfold sumN
    omega
theorem sumN_usum (u : Nat → UInt8) : ∀ k, (usum u k).toNat = sumN u k % 256
  | 0 => rfl
  | k + 1 => by
    have := sumN_usum u k
    unfold usum sumN
    rw [UInt8.toNat_add]
    omega
theorem sumN_congr {u v : Nat → UInt8} : ∀ k, (∀ i, i < k → u i = v i) → sumN u k = sumN v k
  | 0, _ => rfl
  | k + 1, h => by
    unfold sumN
    rw [sumN_congr k (fun i hi => h i (by omega)), h k (by omega)]
theorem usum_zero {u : Nat → UInt8} {k : Nat} : usum u k = 0 ↔ sumN u k % 256 = 0 := by
  rw [← sumN_usum]
  constructor
  · intro h; rw [h]; rfl
  · intro h
    exact UInt8.toNat_inj.1 h
/-- the sum of a text's bytes -/
def sum16 (s : ByteArray) : Nat := sumN (byteAt s) s.size % 65536
def tHash (s : ByteArray) : Nat := sum16 s % 8
/-- a bit of the bitmap -/
def tBit (x : Nat → UInt8) (k : Nat) : Bool := decide ((x (12 + k / 8)).toNat / 2 ^ (k % 8) % 2 = 1)
/-- the root's own fields -/
def tRoot (x : Nat → UInt8) (n : Nat) : Prop := x 0 = 1 ∧ (x 2).toNat = n ∧ x 3 = 0 ∧ tZ x 28 ∧ ∀ k, n ≤ k → k < 128 → tBit x k = false
/-- an entry that a walk visits -/
structure TIt where
  dir : Nat
  blk : Nat
  nm : ByteArray
  path : ByteArray
  fol : Bool
  dbl : Bool
  dat : ByteArray
  whl : Bool
/-- what a walk has found -/
structure TS where
  sn : Nat → Bool
  pr : List (Nat × Nat)
  it : List TIt
def TS.prob (S : TS) (k b : Nat) : TS := { S with pr := S.pr ++ [(k, b)] }
def TS.see (S : TS) (b : Nat) : TS := { S with sn := fun i => if i = b then true else S.sn i }
section
variable (n : Nat) (u : Nat → Nat → UInt8)
open Classical in
/-- a block is examined, and visited if it has no problem -/
noncomputable def tEnter (S : TS) (b : Nat) (ok : Prop) : TS × Bool :=
  if n ≤ b ∨ S.sn b = true then (S.prob 3 b, false) else if usum (u b) 32 ≠ 0 then (S.prob 1 b, false) else if ok then (S.see b, true) else (S.prob 2 b, false)
/-- the data bytes of a data block -/
def tDat (x : Nat → UInt8) : ByteArray := bstr (x 5).toNat (fun i => x (6 + i))
/-- a file's data blocks are followed -/
noncomputable def tFile : Nat → TS → Nat → Nat → Nat → ByteArray → TS × Option ByteArray
  | 0, S, _, _, _, _ => (S, none)
  | g + 1, S, f, b, k, out =>
    if b = 0 then (if out.size = tW (u f) 12 then (S, some out) else (S.prob 5 f, none))
    else if (tEnter n u S b (tPart (u b) f k)).2 then tFile g (tEnter n u S b (tPart (u b) f k)).1 f (u b 4).toNat (k + 1) (out ++ tDat (u b))
    else ((tEnter n u S b (tPart (u b) f k)).1, none)
/-- an entry of this directory with this name was visited -/
def tTwice (L : List TIt) (d : Nat) (nm : ByteArray) : Prop := ∃ x, x ∈ L ∧ x.dir = d ∧ x.nm = nm
open Classical in
noncomputable def tDbl (S : TS) (d h b : Nat) : Bool := decide (tHash (tnm (u b)) ≠ h ∨ tTwice S.it d (tnm (u b)))
def slashB : ByteArray := ⟨#[47]⟩
/-- an entry is noted -/
noncomputable def tNote (S : TS) (d h b : Nat) (path : ByteArray) : TS :=
  { (if tDbl u S d h b then S.prob 4 b else S) with it := S.it ++ [⟨d, b, tnm (u b), path ++ tnm (u b), decide (u b 0 = 4), tDbl u S d h b, ⟨#[]⟩, false⟩] }
def datO (o : Option ByteArray) : ByteArray := o.getD ⟨#[]⟩
/-- the last item gets its data -/
def setLast (L : List TIt) (o : Option ByteArray) : List TIt := L.dropLast ++ (L.getLast?.map fun x => { x with dat := datO o, whl := o.isSome }).toList
/-- the entries of a chain; fuel g -/
noncomputable def tChn : Nat → ByteArray → Nat → Nat → Nat → TS → TS
  | 0, _, _, _, _, S => S
  | g + 1, path, d, h, b, S =>
    if b = 0 then S
    else if (tEnter n u S b (tEnt (u b) d)).2 then
      tChn g path d h (u b 2).toNat
        (if u b 0 = 4 then (List.range 8).foldl (fun T k => tChn g (path ++ tnm (u b) ++ slashB) b k (u b (12 + k)).toNat T) (tNote u (tEnter n u S b (tEnt (u b) d)).1 d h b path)
         else { (tFile n u 256 (tNote u (tEnter n u S b (tEnt (u b) d)).1 d h b path) b (u b 14).toNat 1 ⟨#[]⟩).1 with it := setLast (tNote u (tEnter n u S b (tEnt (u b) d)).1 d h b path).it (tFile n u 256 (tNote u (tEnter n u S b (tEnt (u b) d)).1 d h b path) b (u b 14).toNat 1 ⟨#[]⟩).2 })
    else (tEnter n u S b (tEnt (u b) d)).1
/-- a directory whose table begins at a place -/
noncomputable def tDir (g : Nat) (path : ByteArray) (d t : Nat) (S : TS) : TS := (List.range 8).foldl (fun T k => tChn n u g path d k (u d (t + k)).toNat T) S
/-- the blocks' marks are held against what was seen -/
noncomputable def tMarks (S : TS) : Nat → TS
  | 0 => S
  | k + 1 => if S.sn k = true ∧ tBit (u 0) k = false then (tMarks S k).prob 6 k else if S.sn k = false ∧ tBit (u 0) k = true then (tMarks S k).prob 7 k else tMarks S k
def TS0 : TS := ⟨fun _ => false, [], []⟩
open Classical in
/-- the kind of the root's problem -/
noncomputable def tRootP : Nat := if usum (u 0) 32 ≠ 0 then 1 else if tRoot (u 0) n then 0 else 2
/-- the whole walk -/
noncomputable def tWalk : TS := if tRootP n u = 0 then tMarks u (tDir n u 256 ⟨#[]⟩ 0 4 (TS0.see 0)) n else TS0.prob (tRootP n u) 0
end
end Go.Proofs.YtiefcgmghkkbmaaGreatDoor
