/-
  Disks of extents: what sixteen bytes say: plain.
-/
import Derived.Test.YtjbpibapbonkpaaGreatDoorName
import Derived.Lib.TrimByte
import Derived.Lib.SlBy2
namespace Go.Proofs.YtjbpibapbonkpaaGreatDoor
open Go Go.ChangeShapes Go.WideShapes Go.ChangeAt Go.RowKit lib
set_option linter.unusedVariables false
set_option linter.unusedSimpArgs false
set_option maxRecDepth 100000
theorem isEmpty_no {s : ByteArray} (h : s ≠ ⟨#[]⟩) : s.toList.isEmpty = false := by
  cases hh : s.toList with
  | nil =>
    have := (toList_iff s ⟨#[]⟩).1 (by rw [hh, ByteArray.toList_eq])
    exact absurd this h
  | cons a l => rfl
theorem bsx_size (n : Nat) (v : Nat → UInt8) : (bstr n v).size = n := by
  show (bstr n v).data.size = n
  simp [bstr]
theorem bsx_at {n : Nat} {v : Nat → UInt8} {i : Nat} (h : i < n) : byteAt (bstr n v) i = v i := by
  simp [byteAt, bstr, h]
theorem bsx_congr {n : Nat} {u v : Nat → UInt8} (h : ∀ i, i < n → u i = v i) : bstr n u = bstr n v := by
  unfold bstr
  congr 2
  exact List.map_congr_left fun i hi => h i (List.mem_range.1 hi)
/-- all from place t on is a byte c, and the last one ahead of it is not -/
structure TrimC (c : UInt8) (m : Nat) (v : Nat → UInt8) (t : Nat) : Prop where
  le : t ≤ m
  nul : ∀ i, t ≤ i → i < m → v i = c
  last : 0 < t → v (t - 1) ≠ c
theorem trimC_ex (c : UInt8) (m : Nat) (v : Nat → UInt8) : ∃ t, TrimC c m v t := by
  have : ∀ k, k ≤ m → (∀ i, k ≤ i → i < m → v i = c) → ∃ t, TrimC c m v t := by
    intro k
    induction k with
    | zero => intro _ h; exact ⟨0, by omega, h, fun h => by omega⟩
    | succ k ih =>
      intro hm h
      by_cases hv : v k = c
      · refine ih (by omega) fun i h1 h2 => ?_
        rcases Nat.lt_or_ge k i with h3 | h3
        · exact h i h3 h2
        · obtain rfl : i = k := by omega
          exact hv
      · exact ⟨k + 1, hm, h, fun _ => by simpa using hv⟩
  exact this m (Nat.le_refl _) fun i h1 h2 => by omega
theorem trimC_uniq {c : UInt8} {m : Nat} {v : Nat → UInt8} {a b : Nat} (ha : TrimC c m v a) (hb : TrimC c m v b) : a = b := by
  rcases Nat.lt_trichotomy a b with h | h | h
  · exact absurd (ha.nul (b - 1) (by omega) (by have := hb.le; omega)) (hb.last (by omega))
  · exact h
  · exact absurd (hb.nul (a - 1) (by omega) (by have := ha.le; omega)) (ha.last (by omega))
noncomputable def trimLen (c : UInt8) (m : Nat) (v : Nat → UInt8) : Nat := Classical.choose (trimC_ex c m v)
theorem trimLen_at (c : UInt8) (m : Nat) (v : Nat → UInt8) : TrimC c m v (trimLen c m v) := Classical.choose_spec (trimC_ex c m v)
/-- what TrimRight leaves -/
theorem trimC_str {c : UInt8} {m : Nat} {v : Nat → UInt8} {t : Nat} (h : TrimC c m v t) : (⟨(Go.Lib.trimRightB (bstr m v).data.toList c).toArray⟩ : ByteArray) = bstr t v := by
  have ht := h.le
  have hg : ∀ j b, (bstr m v).data.toList[j]? = some b → j < m ∧ b = v j := by
    intro j b hb
    simp only [bstr, List.getElem?_map, Option.map_eq_some_iff] at hb
    obtain ⟨a, ha, rfl⟩ := hb
    rw [List.getElem?_eq_some_iff] at ha
    obtain ⟨h1, h2⟩ := ha
    simp at h1 h2
    subst h2
    exact ⟨h1, rfl⟩
  rw [Go.Lib.trimRightB_take _ c t (by simp [bstr]; omega) (fun j b hj hb => by
    obtain ⟨h1, rfl⟩ := hg j b hb
    exact h.nul j hj h1) (fun b h0 hb => by
    obtain ⟨h1, rfl⟩ := hg _ b hb
    exact h.last h0)]
  unfold bstr
  congr 2
  rw [← List.map_take, List.take_range, Nat.min_eq_left ht]
/-- an extent's entry, plain -/
structure XE where
  st : Int
  nm : ByteArray
  no : Int
  tl : Int
  bl : List Int
def XE.val (e : XE) (A : Option Addr) (c : Nat) : Value := .agg #[.int .i64 e.st, .string e.nm, .int .i64 e.no, .int .i64 e.tl, .slice A e.bl.length c]
def xe0 : XE := ⟨0, ⟨#[]⟩, 0, 0, []⟩
/-- a valid entry of a disk of blocks of z bytes -/
def XE.ok (z : Nat) (e : XE) : Prop := (e.st = 0 ∧ e.nm = ⟨#[]⟩ ∧ e.no = 0 ∧ e.tl = 0 ∧ e.bl = []) ∨ ((e.st = 1 ∨ e.st = 229) ∧ NameS e.nm ∧ (0 ≤ e.no ∧ e.no ≤ 31) ∧ (0 ≤ e.tl ∧ e.tl ≤ z) ∧ e.bl.length ≤ 4 ∧ ∀ b, b ∈ e.bl → 0 ≤ b ∧ b ≤ 255)
/-- its bytes -/
def XE.byte (e : XE) (i : Nat) : UInt8 :=
  if e.st = 0 then 0 else if i = 0 then UInt8.ofNat e.st.toNat else if i < 9 then (if i - 1 < e.nm.size then byteAt e.nm (i - 1) else 32) else
  if i = 9 then UInt8.ofNat e.no.toNat else if i = 10 then UInt8.ofNat e.tl.toNat else if i = 11 then UInt8.ofNat e.bl.length else
  if i - 12 < e.bl.length then UInt8.ofNat (e.bl.getD (i - 12) 0).toNat else 0
/-- what sixteen bytes say -/
noncomputable def xPar (v : Nat → UInt8) : XE := if (v 0).toNat = 0 then xe0 else
  ⟨((v 0).toNat : Int), bstr (trimLen 32 8 (fun i => v (1 + i))) (fun i => v (1 + i)), ((v 9).toNat : Int), ((v 10).toNat : Int), (List.range (min (v 11).toNat 4)).map fun i => ((v (12 + i)).toNat : Int)⟩
/-- whether they say a valid entry, and nothing else -/
def xGood (z : Nat) (v : Nat → UInt8) : Prop := (xPar v).ok z ∧ ∀ i, i < 16 → (xPar v).byte i = v i
open Classical in
/-- the entry that sixteen bytes say; an empty one where they are malformed -/
noncomputable def xent (z : Nat) (v : Nat → UInt8) : XE := if xGood z v then xPar v else xe0
theorem xent_good {z : Nat} {v : Nat → UInt8} (h : xGood z v) : xent z v = xPar v := by rw [xent, if_pos h]
theorem xent_bad {z : Nat} {v : Nat → UInt8} (h : ¬ xGood z v) : xent z v = xe0 := by rw [xent, if_neg h]
theorem xe0_ok (z : Nat) : xe0.ok z := .inl ⟨rfl, rfl, rfl, rfl, rfl⟩
theorem xent_ok (z : Nat) (v : Nat → UInt8) : (xent z v).ok z := by
  by_cases h : xGood z v
  · rw [xent_good h]; exact h.1
  · rw [xent_bad h]; exact xe0_ok z
theorem XE.ok_len {z : Nat} {e : XE} (h : e.ok z) : e.bl.length ≤ 4 := by
  rcases h with ⟨_, _, _, _, h⟩ | ⟨_, _, _, _, h, _⟩
  · rw [h]; simp
  · exact h
theorem XE.ok_nm {z : Nat} {e : XE} (h : e.ok z) : e.nm.size ≤ 8 := by
  rcases h with ⟨_, h, _⟩ | ⟨_, h, _⟩
  · rw [h]; exact Nat.zero_le _
  · exact h.hi
theorem XE.ok_st {z : Nat} {e : XE} (h : e.ok z) : e.st = 0 ∨ e.st = 1 ∨ e.st = 229 := by
  rcases h with ⟨h, _⟩ | ⟨h, _⟩
  · exact .inl h
  · rcases h with h | h
    · exact .inr (.inl h)
    · exact .inr (.inr h)
theorem XE.ok_bl {z : Nat} {e : XE} (h : e.ok z) : ∀ b, b ∈ e.bl → 0 ≤ b ∧ b ≤ 255 := by
  rcases h with ⟨_, _, _, _, h⟩ | ⟨_, _, _, _, _, h⟩
  · rw [h]; intro b hb; cases hb
  · exact h
/-- a row of numbers of the call's own -/
def IntR (B : Nat) (w : World) (A : Option Addr) (c : Nat) (l : List Int) : Prop := w.ownsRow B 2 1 (.slice A l.length c) l.length (l.map (Value.int .i64))
theorem intR_nil (B : Nat) (w : World) : IntR B w none 0 [] := World.ownsRow_nil _ _ _ _
theorem IntR.below {B c : Nat} {w w' : World} {A : Option Addr} {l : List Int} (h : IntR B w A c l) (hb : Below w.heap.size w w') : IntR B w' A c l := own_below h hb
theorem IntR.base {B B' c : Nat} {w : World} {A : Option Addr} {l : List Int} (h : IntR B w A c l) (hB : B' ≤ B) : IntR B' w A c l := own_base h hB
theorem IntR.range {B c : Nat} {w : World} {A : Option Addr} {l : List Int} (h : IntR B w A c l) : w.ownsRow B 2 1 (.slice A l.length c) l.length ((List.range l.length).map fun i => Value.int .i64 (l.getD i 0)) := by
  have e1 : (List.range l.length).map (fun i => Value.int .i64 (l.getD i 0)) = l.map (Value.int .i64) := by
    apply List.ext_getElem
    · simp
    · intro i h1 h2
      simp at h1
      simp [List.getD_eq_getElem?_getD, h1]
  rw [e1]
  exact h
theorem IntR.sl {B c : Nat} {w : World} {A : Option Addr} {l : List Int} (h : IntR B w A c l) : Sl w w.heap.size A l.length (fun i => .int .i64 (l.getD i 0)) := own_slR h.range
end Go.Proofs.YtjbpibapbonkpaaGreatDoor
