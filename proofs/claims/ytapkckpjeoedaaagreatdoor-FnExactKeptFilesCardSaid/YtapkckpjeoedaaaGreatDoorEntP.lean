/-
  Disks of chains: what twelve bytes say: plain.
  Disks of chains: how a chain runs: plain.
-/
import Derived.Test.YtapkckpjeoedaaaGreatDoorEntA
import Derived.Lib.TrimByte
import Derived.Lib.SlBy2
namespace Go.Proofs.YtapkckpjeoedaaaGreatDoor
open Go Go.ChangeShapes Go.WideShapes Go.ChangeAt Go.RowKit lib
set_option linter.unusedVariables false
set_option maxRecDepth 100000
/-- an entry, plain -/
structure Ent where
  nm : ByteArray
  f : Nat
  l : Nat
  us : Bool
  de : Bool
def Ent.val (e : Ent) : Value := entV e.nm e.f e.l e.us e.de
def ent0 : Ent := ⟨⟨#[]⟩, 0, 0, false, false⟩
/-- the name ends at place t -/
structure NulAt (v : Nat → UInt8) (t : Nat) : Prop where
  le : t ≤ 8
  some : ∀ i, i < t → v i ≠ 0
  stop : t = 8 ∨ v t = 0
theorem nulAt_ex (v : Nat → UInt8) : ∃ t, NulAt v t := by
  have : ∀ m, m ≤ 8 → ∃ t, t ≤ m ∧ (∀ i, i < t → v i ≠ 0) ∧ (t = m ∨ v t = 0) := by
    intro m
    induction m with
    | zero => intro _; exact ⟨0, by omega, fun i hi => by omega, .inl rfl⟩
    | succ m ih =>
      intro hm
      obtain ⟨t, h1, h2, h3⟩ := ih (by omega)
      rcases h3 with rfl | h3
      · by_cases hv : v t = 0
        · exact ⟨t, by omega, h2, .inr hv⟩
        · refine ⟨t + 1, by omega, fun i hi => ?_, .inl rfl⟩
          rcases Nat.lt_or_ge i t with h | h
          · exact h2 i h
          · obtain rfl : i = t := by omega
            exact hv
      · exact ⟨t, by omega, h2, .inr h3⟩
  obtain ⟨t, h1, h2, h3⟩ := this 8 (by omega)
  exact ⟨t, h1, h2, h3⟩
theorem nulAt_uniq {v : Nat → UInt8} {a b : Nat} (ha : NulAt v a) (hb : NulAt v b) : a = b := by
  rcases Nat.lt_trichotomy a b with h | h | h
  · rcases ha.stop with h1 | h1
    · have := hb.le; omega
    · exact absurd h1 (hb.some a h)
  · exact h
  · rcases hb.stop with h1 | h1
    · have := ha.le; omega
    · exact absurd h1 (ha.some b h)
noncomputable def nmLen (v : Nat → UInt8) : Nat := Classical.choose (nulAt_ex v)
theorem nmLen_at (v : Nat → UInt8) : NulAt v (nmLen v) := Classical.choose_spec (nulAt_ex v)
/-- all behind place t is nought -/
structure TrimAt (v : Nat → UInt8) (t : Nat) : Prop where
  le : t ≤ 8
  nul : ∀ i, t ≤ i → i < 8 → v i = 0
  last : 0 < t → v (t - 1) ≠ 0
theorem trimAt_ex (v : Nat → UInt8) : ∃ t, TrimAt v t := by
  have : ∀ m, m ≤ 8 → (∀ i, m ≤ i → i < 8 → v i = 0) → ∃ t, TrimAt v t := by
    intro m
    induction m with
    | zero => intro _ h; exact ⟨0, by omega, h, fun h => by omega⟩
    | succ m ih =>
      intro hm h
      by_cases hv : v m = 0
      · refine ih (by omega) fun i h1 h2 => ?_
        rcases Nat.lt_or_ge m i with h3 | h3
        · exact h i h3 h2
        · obtain rfl : i = m := by omega
          exact hv
      · exact ⟨m + 1, hm, h, fun _ => by simpa using hv⟩
  exact this 8 (Nat.le_refl _) fun i h1 h2 => by omega
theorem bstr_size (n : Nat) (v : Nat → UInt8) : (bstr n v).size = n := by
  show (bstr n v).data.size = n
  simp [bstr]
theorem bstr_at {n : Nat} {v : Nat → UInt8} {i : Nat} (h : i < n) : byteAt (bstr n v) i = v i := by
  simp [byteAt, bstr, h]
theorem bstr_zero (v : Nat → UInt8) : bstr 0 v = ⟨#[]⟩ := rfl
theorem bstr_congr {n : Nat} {u v : Nat → UInt8} (h : ∀ i, i < n → u i = v i) : bstr n u = bstr n v := by
  unfold bstr
  congr 2
  exact List.map_congr_left fun i hi => h i (List.mem_range.1 hi)
/-- what TrimRight leaves -/
theorem trim_name {v : Nat → UInt8} {t : Nat} (h : TrimAt v t) : (⟨(Go.Lib.trimRightB (bstr 8 v).data.toList 0).toArray⟩ : ByteArray) = bstr t v := by
  have ht := h.le
  have hg : ∀ j b, (bstr 8 v).data.toList[j]? = some b → j < 8 ∧ b = v j := by
    intro j b hb
    simp only [bstr, List.getElem?_map, Option.map_eq_some_iff] at hb
    obtain ⟨a, ha, rfl⟩ := hb
    rw [List.getElem?_eq_some_iff] at ha
    obtain ⟨h1, h2⟩ := ha
    simp at h1 h2
    subst h2
    exact ⟨h1, rfl⟩
  rw [Go.Lib.trimRightB_take _ 0 t (by simp [bstr]; omega) (fun j b hj hb => by
    obtain ⟨h1, rfl⟩ := hg j b hb
    exact h.nul j hj h1) (fun b h0 hb => by
    obtain ⟨h1, rfl⟩ := hg _ b hb
    exact h.last h0)]
  unfold bstr
  congr 2
  rw [← List.map_take, List.take_range, Nat.min_eq_left ht]
/-- an entry as its bytes say, the name of length t -/
def entAt (v : Nat → UInt8) (t : Nat) : Ent := ⟨bstr t v, (v 8).toNat, (v 9).toNat * 256 + (v 10).toNat, v 11 == 1, v 11 == 2⟩
def Ent.valid (e : Ent) : Prop := validE e.nm e.f e.l e.us e.de
def Ent.byte (e : Ent) : Nat → UInt8 := entB e.nm e.f e.l e.us e.de
/-- the bytes say an entry, and nothing else -/
def okAt (v : Nat → UInt8) (t : Nat) : Prop := (entAt v t).valid ∧ ∀ i, i < 12 → (entAt v t).byte i = v i
def okE (v : Nat → UInt8) : Prop := okAt v (nmLen v)
open Classical in
/-- the entry that twelve bytes say; none where they are malformed -/
noncomputable def entryOf (v : Nat → UInt8) : Ent := if okE v then entAt v (nmLen v) else ent0
theorem entB0_at {nm : ByteArray} {f l i : Nat} (hi : i < 8) : entB0 nm f l i = if i < nm.size then byteAt nm i else 0 := by
  have hs : nm.data.toList.length = nm.size := rfl
  unfold entB0
  rw [upd_other _ _ (by omega), upd_other _ _ (by omega), upd_other _ _ (by omega)]
  unfold putU byteAt
  simp [hs]
theorem entB_at {nm : ByteArray} {f l i : Nat} {us de : Bool} (hi : i < 8) : entB nm f l us de i = if i < nm.size then byteAt nm i else 0 := by
  unfold entB
  split
  · rw [upd_other _ _ (by omega), entB0_at hi]
  · split
    · rw [upd_other _ _ (by omega), entB0_at hi]
    · exact entB0_at hi
theorem charN_ne {x : UInt8} (h : charN x.toNat) : x ≠ 0 := by
  rintro rfl
  unfold charN letterN digitN at h
  simp at h
/-- a valid name holds no nought -/
theorem name_some {v : Nat → UInt8} {t : Nat} (h : NameS (bstr t v)) : ∀ i, i < t → v i ≠ 0 := by
  intro i hi
  have := h.all i (by rw [bstr_size]; exact hi)
  rw [bstr_at hi] at this
  exact charN_ne this
theorem trim_nul {v : Nat → UInt8} {t : Nat} (h : TrimAt v t) (hv : (entAt v t).valid) : NulAt v t := by
  refine ⟨h.le, ?_, ?_⟩
  · rcases hv with ⟨hz, _⟩ | ⟨_, hn, _⟩
    · have : t = 0 := by
        have := bstr_size t v
        have hz : bstr t v = ⟨#[]⟩ := hz
        rw [hz] at this
        exact this.symm
      subst this
      intro i hi; omega
    · exact name_some hn
  · have := h.le
    rcases Nat.lt_or_ge t 8 with h8 | h8
    · exact .inr (h.nul t (Nat.le_refl _) h8)
    · exact .inl (by omega)
theorem nul_trim {v : Nat → UInt8} {t : Nat} (h : NulAt v t) (hv : okAt v t) : TrimAt v t := by
  refine ⟨h.le, fun i h1 h2 => ?_, fun h0 => h.some _ (by omega)⟩
  rw [← hv.2 i (by omega)]
  show entB (bstr t v) _ _ _ _ i = 0
  rw [entB_at h2, bstr_size, if_neg (by omega)]
theorem trimAt_uniq {v : Nat → UInt8} {a b : Nat} (ha : TrimAt v a) (hb : TrimAt v b) : a = b := by
  rcases Nat.lt_trichotomy a b with h | h | h
  · exact absurd (ha.nul (b - 1) (by omega) (by have := hb.le; omega)) (hb.last (by omega))
  · exact h
  · exact absurd (hb.nul (a - 1) (by omega) (by have := ha.le; omega)) (ha.last (by omega))
/-- both ways of reading agree -/
theorem okAt_trim {v : Nat → UInt8} {t : Nat} (h : TrimAt v t) (hk : okAt v t) : okE v ∧ nmLen v = t := by
  have := nulAt_uniq (nmLen_at v) (trim_nul h hk.1)
  unfold okE
  rw [this]
  exact ⟨hk, rfl⟩
theorem okE_trim {v : Nat → UInt8} {t : Nat} (h : TrimAt v t) (hk : okE v) : okAt v t ∧ nmLen v = t := by
  have := trimAt_uniq (nul_trim (nmLen_at v) hk) h
  unfold okE at hk
  rw [this] at hk
  exact ⟨hk, this⟩
theorem entryOf_ok {v : Nat → UInt8} (h : okE v) : entryOf v = entAt v (nmLen v) := if_pos h
theorem entryOf_not {v : Nat → UInt8} (h : ¬ okE v) : entryOf v = ent0 := if_neg h
theorem validE_fit {nm : ByteArray} {f l : Int} {us de : Bool} (h : validE nm f l us de) : nm.size ≤ 8 ∧ (0 ≤ f ∧ f ≤ 255) ∧ (0 ≤ l ∧ l ≤ 512) := by
  rcases h with ⟨rfl, rfl, rfl, _, _⟩ | ⟨_, hn, hf, hl⟩
  · exact ⟨by decide, by omega, by omega⟩
  · exact ⟨hn.hi, hf, hl⟩
/-- what an entry may be -/
theorem entryOf_valid (v : Nat → UInt8) : (entryOf v).valid := by
  by_cases h : okE v
  · rw [entryOf_ok h]; exact h.1
  · rw [entryOf_not h]; exact .inl ⟨rfl, rfl, rfl, rfl, rfl⟩
theorem entryOf_facts (v : Nat → UInt8) : (entryOf v).nm.size ≤ 8 ∧ (entryOf v).f ≤ 255 ∧ (entryOf v).l ≤ 512 ∧ ¬ ((entryOf v).us = true ∧ (entryOf v).de = true) := by
  have h := entryOf_valid v
  generalize entryOf v = e at *
  obtain ⟨nm, f, l, us, de⟩ := e
  rcases h with ⟨h1, h2, h3, h4, h5⟩ | ⟨h1, h2, h3, h4⟩
  · simp only at h1 h2 h3 h4 h5
    subst h1
    exact ⟨show (⟨#[]⟩ : ByteArray).size ≤ 8 by decide, by simp only; omega, by simp only; omega, by simp [h4]⟩
  · simp only at h1 h2 h3 h4 ⊢
    exact ⟨h2.hi, by omega, by omega, by cases us <;> simp_all⟩
theorem okE_congr {u v : Nat → UInt8} (h : ∀ i, i < 12 → u i = v i) : okE u = okE v ∧ entryOf u = entryOf v := by
  have hl : nmLen u = nmLen v := by
    refine nulAt_uniq (v := v) ⟨(nmLen_at u).le, fun i hi => ?_, ?_⟩ (nmLen_at v)
    · rw [← h i (by have := (nmLen_at u).le; omega)]; exact (nmLen_at u).some i hi
    · rcases (nmLen_at u).stop with h1 | h1
      · exact .inl h1
      · rw [h _ (by have := (nmLen_at u).le; omega)] at h1
        exact .inr h1
  have he : entAt u (nmLen u) = entAt v (nmLen v) := by
    unfold entAt
    rw [hl, h 8 (by omega), h 9 (by omega), h 10 (by omega), h 11 (by omega), bstr_congr (fun i hi => h i (by have := (nmLen_at v).le; omega))]
  have ho : okE u = okE v := by
    unfold okE okAt
    rw [he]
    refine propext (and_congr_right fun _ => ?_)
    constructor
    · intro q i hi; rw [← h i hi]; exact q i hi
    · intro q i hi; rw [h i hi]; exact q i hi
  refine ⟨ho, ?_⟩
  unfold entryOf
  by_cases hv : okE v
  · rw [if_pos hv, if_pos (ho ▸ hv), he]
  · rw [if_neg hv, if_neg (ho ▸ hv)]
/-- the twelve bytes of entry k of a disk -/
def entBytes (d z : Nat) (u : Nat → UInt8) (k : Nat) : Nat → UInt8 := fun i => u (d * z + k * 12 + i)
theorem shl_or (x y : Nat) (hx : x < 256) (hy : y < 256) : x * 256 ||| y = x * 256 + y := by
  have := Nat.two_pow_add_eq_or_of_lt (i := 8) (b := y) (by omega) x
  rw [Nat.mul_comm x 256]
  exact this.symm
end Go.Proofs.YtapkckpjeoedaaaGreatDoor
namespace Go.Proofs.YtapkckpjeoedaaaGreatDoor
open Go Go.ChangeShapes Go.WideShapes Go.ChangeAt Go.RowKit lib
set_option linter.unusedVariables false
set_option maxRecDepth 100000
theorem nodup_len : ∀ (n : Nat) (l : List Nat), l.Nodup → (∀ x, x ∈ l → x < n) → l.length ≤ n
  | 0, l, _, h => by
    cases l with
    | nil => exact Nat.le_refl _
    | cons a l => exact absurd (h a (by simp)) (by omega)
  | n + 1, l, hd, h => by
    by_cases hm : n ∈ l
    · have h1 := nodup_len n (l.erase n) (hd.erase n) fun x hx => by
        have h2 := (List.Nodup.mem_erase_iff hd).1 hx
        have := h x h2.2
        have := h2.1
        omega
      rw [List.length_erase_of_mem hm] at h1
      omega
    · have h1 := nodup_len n l hd fun x hx => by
        have := h x hx
        have : x ≠ n := fun e => hm (e ▸ hx)
        omega
      omega
/-- a link that leads nowhere -/
def isOpenN (x : Nat) : Bool := x == 0 || x == 253 || x == 254
/-- where a chain leads: 't' the first data block, 'n' all blocks, 'L' the links -/
def chainGo (t n : Nat) (L : Nat → Nat) : Nat → List Nat → Nat → List Nat × Nat
  | 0, _, _ => ([], 0)
  | m + 1, l, a =>
    if t ≤ a ∧ a < n then
      if a ∈ l then ([], 6) else
      if isOpenN (L a) then ([], 10) else
      if L a = 255 then (l ++ [a], 0) else chainGo t n L m (l ++ [a]) (L a)
    else ([], 2)
def chainOf (t n : Nat) (L : Nat → Nat) (first : Nat) : List Nat × Nat := if first = 0 then ([], 0) else chainGo t n L (n + 1) [] first
/-- what a chain's blocks are, all along -/
structure ChL (t n : Nat) (l : List Nat) : Prop where
  nd : l.Nodup
  lt : ∀ x, x ∈ l → t ≤ x ∧ x < n
theorem ChL.len {t n : Nat} {l : List Nat} (h : ChL t n l) : l.length ≤ n := nodup_len n l h.nd fun x hx => (h.lt x hx).2
theorem ChL.nil (t n : Nat) : ChL t n [] := ⟨List.nodup_nil, by simp⟩
theorem ChL.snoc {t n a : Nat} {l : List Nat} (h : ChL t n l) (ha : t ≤ a ∧ a < n) (hm : a ∉ l) : ChL t n (l ++ [a]) := by
  refine ⟨?_, fun x hx => ?_⟩
  · rw [List.nodup_append]
    refine ⟨h.nd, by simp, ?_⟩
    intro x hx y hy
    simp at hy
    subst hy
    rintro rfl
    exact hm hx
  · rw [List.mem_append] at hx
    rcases hx with hx | hx
    · exact h.lt x hx
    · simp at hx
      subst hx
      exact ha
theorem chainGo_ok {t n : Nat} {L : Nat → Nat} : ∀ (m : Nat) (l : List Nat) (a : Nat), ChL t n l → ChL t n (chainGo t n L m l a).1
  | 0, l, a, h => ChL.nil t n
  | m + 1, l, a, h => by
    unfold chainGo
    split
    · rename_i h1
      split
      · exact ChL.nil t n
      · rename_i h2
        split
        · exact ChL.nil t n
        · split
          · exact h.snoc h1 h2
          · exact chainGo_ok m _ _ (h.snoc h1 h2)
    · exact ChL.nil t n
theorem chainOf_ok (t n : Nat) (L : Nat → Nat) (first : Nat) : ChL t n (chainOf t n L first).1 := by
  unfold chainOf
  split
  · exact ChL.nil t n
  · exact chainGo_ok _ _ _ (ChL.nil t n)
/-- one step of a chain -/
theorem chainGo_step {t n m a : Nat} {L : Nat → Nat} {l : List Nat} (h1 : t ≤ a ∧ a < n) (h2 : a ∉ l) (h3 : isOpenN (L a) = false) (h4 : L a ≠ 255) : chainGo t n L (m + 1) l a = chainGo t n L m (l ++ [a]) (L a) := by
  rw [chainGo, if_pos h1, if_neg h2, h3, if_neg (by simp), if_neg h4]
theorem chainGo_end {t n m a : Nat} {L : Nat → Nat} {l : List Nat} (h1 : t ≤ a ∧ a < n) (h2 : a ∉ l) (h4 : L a = 255) : chainGo t n L (m + 1) l a = (l ++ [a], 0) := by
  rw [chainGo, if_pos h1, if_neg h2, h4, if_neg (by decide), if_pos rfl]
theorem chainGo_range {t n m a : Nat} {L : Nat → Nat} {l : List Nat} (h1 : ¬ (t ≤ a ∧ a < n)) : chainGo t n L (m + 1) l a = ([], 2) := by
  rw [chainGo, if_neg h1]
theorem chainGo_loop {t n m a : Nat} {L : Nat → Nat} {l : List Nat} (h1 : t ≤ a ∧ a < n) (h2 : a ∈ l) : chainGo t n L (m + 1) l a = ([], 6) := by
  rw [chainGo, if_pos h1, if_pos h2]
theorem chainGo_open {t n m a : Nat} {L : Nat → Nat} {l : List Nat} (h1 : t ≤ a ∧ a < n) (h2 : a ∉ l) (h3 : isOpenN (L a) = true) : chainGo t n L (m + 1) l a = ([], 10) := by
  rw [chainGo, if_pos h1, if_neg h2, h3, if_pos rfl]
end Go.Proofs.YtapkckpjeoedaaaGreatDoor
