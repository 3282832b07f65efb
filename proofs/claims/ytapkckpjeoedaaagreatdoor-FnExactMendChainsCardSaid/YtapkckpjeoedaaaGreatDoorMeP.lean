/-
  Disks of chains: the directory mended: plain.
-/
import Derived.Test.YtapkckpjeoedaaaGreatDoorSpareTop
namespace Go.Proofs.YtapkckpjeoedaaaGreatDoor
open Go Go.ChangeShapes Go.WideShapes Go.ChangeAt Go.RowKit lib
set_option linter.unusedVariables false
set_option maxRecDepth 100000
theorem putE_out {u : Nat → UInt8} {a f l j : Nat} {nm : ByteArray} {us de : Bool} (h : ¬ (a ≤ j ∧ j < a + 12)) : putE u a nm f l us de j = u j := by
  unfold putE putU
  rw [if_neg (by simpa using h)]
theorem putE_in {u : Nat → UInt8} {a f l i : Nat} {nm : ByteArray} {us de : Bool} (h : i < 12) : putE u a nm f l us de (a + i) = entB nm f l us de i := by
  unfold putE putU
  rw [if_pos (by simp; omega), show a + i - a = i by omega]
  simp [h]
/-- the bytes of no entry are noughts -/
theorem entB_none : (List.range 12).map (entB ⟨#[]⟩ 0 0 false false) = List.replicate 12 0 := by decide
theorem putE_none (u : Nat → UInt8) (a : Nat) : putE u a ⟨#[]⟩ 0 0 false false = putU u a (List.replicate 12 0) := by unfold putE; rw [entB_none]
/-- an entry that was written is read again -/
theorem entryOf_entB {nm : ByteArray} {f l : Nat} {v : Nat → UInt8} (hn : NameS nm) (hf : f ≤ 255) (hl : l ≤ 512) (hv : ∀ i, i < 12 → v i = entB nm f l true false i) : entryOf v = ⟨nm, f, l, true, false⟩ := by
  have hs := hn.hi
  have h8 : ∀ i, i < 8 → v i = if i < nm.size then byteAt nm i else 0 := fun i hi => by rw [hv i (by omega), entB_at hi]
  have hb : bstr nm.size v = nm := by
    apply ba_ext
    · exact bstr_size _ _
    · intro j hj
      rw [bstr_size] at hj
      rw [bstr_at hj, h8 j (by omega), if_pos hj]
  have v8 : (v 8).toNat = f := by
    rw [hv 8 (by omega), entB_t, upd_other _ _ (by omega)]
    unfold entB0
    rw [upd_other _ _ (by omega), upd_other _ _ (by omega), upd_same, UInt8.toNat_ofNat']
    omega
  have v9 : (v 9).toNat = l / 256 := by
    rw [hv 9 (by omega), entB_t, upd_other _ _ (by omega)]
    unfold entB0
    rw [upd_other _ _ (by omega), upd_same, UInt8.toNat_ofNat']
    omega
  have v10 : (v 10).toNat = l % 256 := by
    rw [hv 10 (by omega), entB_t, upd_other _ _ (by omega)]
    unfold entB0
    rw [upd_same, UInt8.toNat_ofNat']
    omega
  have v11 : v 11 = 1 := by rw [hv 11 (by omega), entB_t, upd_same]
  have he : entAt v nm.size = ⟨nm, f, l, true, false⟩ := by
    unfold entAt
    rw [hb, v8, v9, v10, v11, show l / 256 * 256 + l % 256 = l by omega]
    rfl
  have hnul : NulAt v nm.size := by
    refine ⟨hs, fun i hi => ?_, ?_⟩
    · rw [h8 i (by omega), if_pos hi]
      exact charN_ne (hn.all i hi)
    · rcases Nat.lt_or_ge nm.size 8 with h | h
      · exact .inr (by rw [h8 _ h, if_neg (by omega)])
      · exact .inl (by omega)
  have hlen : nmLen v = nm.size := nulAt_uniq (nmLen_at v) hnul
  have hok : okE v := by
    unfold okE okAt
    rw [hlen, he]
    exact ⟨.inr ⟨by simp, hn, by simp only; omega, by simp only; omega⟩, fun i hi => (hv i hi).symm⟩
  rw [entryOf_ok hok, hlen, he]
theorem entK_put {n z k i : Nat} {u : Nat → UInt8} {nm : ByteArray} {f l : Nat} {us de : Bool} (h : i ≠ k) : entK n z (putE u (dirN n z * z + k * 12) nm f l us de) i = entK n z u i := by
  unfold entK
  refine (okE_congr fun j hj => ?_).2
  exact putE_out (by omega)
theorem entK_same {n z k : Nat} {u : Nat → UInt8} {nm : ByteArray} {f l : Nat} (hn : NameS nm) (hf : f ≤ 255) (hl : l ≤ 512) : entK n z (putE u (dirN n z * z + k * 12) nm f l true false) k = ⟨nm, f, l, true, false⟩ :=
  entryOf_entB hn hf hl fun i hi => putE_in hi
theorem named_put {n z k : Nat} {u : Nat → UInt8} {nm x : ByteArray} {f l : Nat} (hn : NameS nm) (hf : f ≤ 255) (hl : l ≤ 512) : namedTo n z (putE u (dirN n z * z + k * 12) nm f l true false) x (k + 1) ↔ (namedTo n z u x k ∨ x = nm) := by
  constructor
  · rintro ⟨i, hi, h2, h3⟩
    by_cases hik : i = k
    · subst hik
      rw [entK_same hn hf hl] at h3
      exact .inr h3.symm
    · rw [entK_put hik] at h2 h3
      exact .inl ⟨i, by omega, h2, h3⟩
  · rintro (⟨i, hi, h2, h3⟩ | rfl)
    · exact ⟨i, by omega, by rw [entK_put (by omega)]; exact h2, by rw [entK_put (by omega)]; exact h3⟩
    · exact ⟨k, by omega, by rw [entK_same hn hf hl], by rw [entK_same hn hf hl]⟩
def DUP : ByteArray := ⟨#[68, 85, 80]⟩
theorem spName_data (k : Nat) : (spName DUP k).data.toList = [68, 85, 80, UInt8.ofNat (48 + k / 10), UInt8.ofNat (48 + k % 10)] := by
  unfold spName DUP
  rw [ByteArray.data_append]
  rfl
theorem ofNat_inj {a b : Nat} (ha : a < 256) (hb : b < 256) (h : UInt8.ofNat a = UInt8.ofNat b) : a = b := by
  have := congrArg UInt8.toNat h
  rw [UInt8.toNat_ofNat', UInt8.toNat_ofNat'] at this
  omega
theorem spName_inj {i j : Nat} (hi : i < 100) (hj : j < 100) (h : spName DUP i = spName DUP j) : i = j := by
  have h1 := congrArg (fun x : ByteArray => x.data.toList) h
  simp only [spName_data, List.cons.injEq, and_true, true_and] at h1
  have h2 := ofNat_inj (by omega) (by omega) h1.1
  have h3 := ofNat_inj (by omega) (by omega) h1.2
  omega
theorem spName_ok {k : Nat} (hk : k < 100) : NameS (spName DUP k) := by
  have hs : (spName DUP k).size = 5 := by rw [spName_size]; rfl
  have hb : ∀ i, byteAt (spName DUP k) i = [68, 85, 80, UInt8.ofNat (48 + k / 10), UInt8.ofNat (48 + k % 10)].getD i 0 := fun i => by unfold byteAt; rw [spName_data]
  have hd : ∀ y, 48 ≤ y → y ≤ 57 → charN (UInt8.ofNat y).toNat := fun y h1 h2 => by
    rw [UInt8.toNat_ofNat', Nat.mod_eq_of_lt (by omega)]
    unfold charN letterN digitN
    omega
  refine ⟨by omega, by omega, ?_, fun i hi => ?_⟩
  · rw [hb]
    have h0 : letterN (68 : UInt8).toNat := by unfold letterN; decide
    exact h0
  · rw [hb]
    rw [hs] at hi
    have : i = 0 ∨ i = 1 ∨ i = 2 ∨ i = 3 ∨ i = 4 := by omega
    rcases this with rfl | rfl | rfl | rfl | rfl
    · have h0 : charN (68 : UInt8).toNat := by unfold charN letterN digitN; decide
      exact h0
    · have h0 : charN (85 : UInt8).toNat := by unfold charN letterN digitN; decide
      exact h0
    · have h0 : charN (80 : UInt8).toNat := by unfold charN letterN digitN; decide
      exact h0
    · exact hd _ (by omega) (by omega)
    · exact hd _ (by omega) (by omega)
theorem spGo_ok {n z : Nat} {U : Nat → UInt8} {E : Nat} {pre : ByteArray} : ∀ (f k : Nat), (∃ j, k ≤ j ∧ j < k + f ∧ spGo n z U E pre f k = some (spName pre j)) ∨ (spGo n z U E pre f k = none ∧ ∀ j, k ≤ j → j < k + f → namedTo n z U (spName pre j) E)
  | 0, k => .inr ⟨rfl, fun j h1 h2 => by omega⟩
  | f + 1, k => by
    by_cases h : namedTo n z U (spName pre k) E
    · rw [spGo_next h]
      rcases spGo_ok (n := n) (z := z) (U := U) (E := E) (pre := pre) f (k + 1) with ⟨j, h1, h2, h3⟩ | ⟨h1, h2⟩
      · exact .inl ⟨j, by omega, by omega, h3⟩
      · refine .inr ⟨h1, fun j h3 h4 => ?_⟩
        by_cases e : j = k
        · subst e; exact h
        · exact h2 j (by omega) (by omega)
    · exact .inl ⟨k, Nat.le_refl _, by omega, spGo_hit h⟩
/-- a spare name is always there -/
theorem dup_some {n z : Nat} {U : Nat → UInt8} {E : Nat} (hE : E ≤ 16) : ∃ x, NameS x ∧ spGo n z U E DUP 100 0 = some x := by
  rcases spGo_ok (n := n) (z := z) (U := U) (E := E) (pre := DUP) 100 0 with ⟨j, h1, h2, h3⟩ | ⟨h1, h2⟩
  · exact ⟨_, spName_ok (by omega), h3⟩
  · exfalso
    have h4 : ∀ j, j < 100 → ∃ i, i < E ∧ (entK n z U i).nm = spName DUP j := fun j hj => by
      obtain ⟨i, hi, _, h⟩ := h2 j (by omega) (by omega)
      exact ⟨i, hi, h⟩
    have h5 : ∃ g : Nat → Nat, ∀ j, j < 100 → g j < E ∧ (entK n z U (g j)).nm = spName DUP j := by
      refine ⟨fun j => if h : j < 100 then Classical.choose (h4 j h) else 0, fun j hj => ?_⟩
      simp only [dif_pos hj]
      exact Classical.choose_spec (h4 j hj)
    obtain ⟨g, hg⟩ := h5
    have hlen := nodup_len E ((List.range 17).map g) (by
      rw [List.nodup_iff_pairwise_ne, List.pairwise_map]
      refine List.Pairwise.imp_of_mem ?_ List.pairwise_lt_range
      intro a b ha hb hab he
      have ha := List.mem_range.1 ha
      have hb := List.mem_range.1 hb
      have h6 := (hg a (by omega)).2
      rw [he, (hg b (by omega)).2] at h6
      have := spName_inj (by omega) (by omega) h6
      omega) (fun x hx => by
      obtain ⟨j, hj, rfl⟩ := List.mem_map.1 hx
      exact (hg j (by have := List.mem_range.1 hj; omega)).1)
    simp at hlen
    omega
open Classical in
/-- the entries that are malformed made empty: bytes, and how many -/
noncomputable def clrGo (n z : Nat) (U : Nat → UInt8) : Nat → (Nat → UInt8) × Nat
  | 0 => (U, 0)
  | k + 1 => if okE (fun i => (clrGo n z U k).1 (dirN n z * z + k * 12 + i)) then clrGo n z U k else (putE (clrGo n z U k).1 (dirN n z * z + k * 12) ⟨#[]⟩ 0 0 false false, (clrGo n z U k).2 + 1)
theorem clrGo_le (n z : Nat) (U : Nat → UInt8) : ∀ k, (clrGo n z U k).2 ≤ k
  | 0 => Nat.le_refl _
  | k + 1 => by
    have := clrGo_le n z U k
    rw [clrGo]
    split
    · omega
    · show (clrGo n z U k).2 + 1 ≤ k + 1
      omega
/-- the spare name -/
noncomputable def dupN (n z : Nat) (U : Nat → UInt8) (E : Nat) : ByteArray := (spGo n z U E DUP 100 0).getD ⟨#[]⟩
open Classical in
/-- the entries that are named as others renamed: bytes, and how many -/
noncomputable def renGo (n z E : Nat) (U : Nat → UInt8) : Nat → (Nat → UInt8) × Nat
  | 0 => (U, 0)
  | k + 1 => if (entK n z (renGo n z E U k).1 k).us = true ∧ namedTo n z (renGo n z E U k).1 (entK n z (renGo n z E U k).1 k).nm k then (putE (renGo n z E U k).1 (dirN n z * z + k * 12) (dupN n z (renGo n z E U k).1 E) (entK n z (renGo n z E U k).1 k).f (entK n z (renGo n z E U k).1 k).l true false, (renGo n z E U k).2 + 1) else renGo n z E U k
theorem renGo_le (n z E : Nat) (U : Nat → UInt8) : ∀ k, (renGo n z E U k).2 ≤ k
  | 0 => Nat.le_refl _
  | k + 1 => by
    have := renGo_le n z E U k
    rw [renGo]
    split
    · show (renGo n z E U k).2 + 1 ≤ k + 1
      omega
    · omega
theorem ent_de {n z k : Nat} {U : Nat → UInt8} (h : (entK n z U k).us = true) : (entK n z U k).de = false := by
  have := (entryOf_facts (fun i => U (dirN n z * z + k * 12 + i))).2.2.2
  change ¬ ((entK n z U k).us = true ∧ (entK n z U k).de = true) at this
  cases hd : (entK n z U k).de
  · rfl
  · exact absurd ⟨h, hd⟩ this
end Go.Proofs.YtapkckpjeoedaaaGreatDoor
