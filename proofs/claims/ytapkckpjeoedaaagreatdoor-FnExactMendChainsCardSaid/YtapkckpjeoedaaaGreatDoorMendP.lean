/-
  Disks of chains: reserved links, chains cut: plain, and the cut on both sides.
-/
import Derived.Test.YtapkckpjeoedaaaGreatDoorLostTop
import Derived.Test.YtapkckpjeoedaaaGreatDoorEntC
namespace Go.Proofs.YtapkckpjeoedaaaGreatDoor
open Go Go.ChangeShapes Go.WideShapes Go.ChangeAt Go.RowKit lib
set_option linter.unusedVariables false
set_option maxRecDepth 100000
/-- the links of the first i blocks are reserved; how many were not -/
def resGo (z : Nat) (u : Nat → UInt8) : Nat → (Nat → UInt8) × Nat
  | 0 => (u, 0)
  | i + 1 => if (resGo z u i).1 (z + i) = 253 then resGo z u i else (upd (resGo z u i).1 (z + i) 253, (resGo z u i).2 + 1)
theorem resGo_same {z : Nat} {u : Nat → UInt8} {i : Nat} (h : (resGo z u i).1 (z + i) = 253) : resGo z u (i + 1) = resGo z u i := by rw [resGo, if_pos h]
theorem resGo_set {z : Nat} {u : Nat → UInt8} {i : Nat} (h : (resGo z u i).1 (z + i) ≠ 253) : resGo z u (i + 1) = (upd (resGo z u i).1 (z + i) 253, (resGo z u i).2 + 1) := by rw [resGo, if_neg h]
theorem resGo_le (z : Nat) (u : Nat → UInt8) : ∀ i, (resGo z u i).2 ≤ i
  | 0 => Nat.le_refl _
  | i + 1 => by
    have := resGo_le z u i
    unfold resGo
    split
    · omega
    · show (resGo z u i).2 + 1 ≤ i + 1
      omega
/-- a chain is cut behind some blocks -/
def cutU (z a : Nat) (u : Nat → UInt8) (l : List Nat) : Nat → UInt8 := if l.length = 0 then upd u (a + 8) 0 else upd u (z + l.getD (l.length - 1) 0) 255
def cutGo (n z : Nat) (W : Nat → List Nat × Nat × Nat) (u : Nat → UInt8) : Nat → (Nat → UInt8) × Nat
  | 0 => (u, 0)
  | k + 1 => if (W k).2.1 = 0 then cutGo n z W u k else (cutU z (dirN n z * z + k * 12) (cutGo n z W u k).1 (W k).1, (cutGo n z W u k).2 + 1)
theorem cutGo_same {n z : Nat} {W : Nat → List Nat × Nat × Nat} {u : Nat → UInt8} {k : Nat} (h : (W k).2.1 = 0) : cutGo n z W u (k + 1) = cutGo n z W u k := by rw [cutGo, if_pos h]
theorem cutGo_cut {n z : Nat} {W : Nat → List Nat × Nat × Nat} {u : Nat → UInt8} {k : Nat} (h : (W k).2.1 ≠ 0) : cutGo n z W u (k + 1) = (cutU z (dirN n z * z + k * 12) (cutGo n z W u k).1 (W k).1, (cutGo n z W u k).2 + 1) := by rw [cutGo, if_neg h]
theorem cutGo_le (n z : Nat) (W : Nat → List Nat × Nat × Nat) (u : Nat → UInt8) : ∀ k, (cutGo n z W u k).2 ≤ k
  | 0 => Nat.le_refl _
  | k + 1 => by
    have := cutGo_le n z W u k
    unfold cutGo
    split
    · omega
    · show (cutGo n z W u k).2 + 1 ≤ k + 1
      omega
theorem dir_ge2 {n z : Nat} (hz : 0 < z) : z + n ≤ dirN n z * z := by
  unfold dirN
  have := Nat.div_add_mod (n + z - 1) z
  have h2 := Nat.mod_lt (n + z - 1) hz
  rw [Nat.add_mul, Nat.mul_comm ((n + z - 1) / z) z]
  omega
/-- later entries are untouched -/
theorem cutGo_keep {n z t : Nat} {W : Nat → List Nat × Nat × Nat} {u : Nat → UInt8} (hz : 0 < z) (hW : ∀ k, ChL t n (W k).1) : ∀ k m i, k ≤ m → i < 12 → (cutGo n z W u k).1 (dirN n z * z + m * 12 + i) = u (dirN n z * z + m * 12 + i)
  | 0, m, i, _, _ => rfl
  | k + 1, m, i, hk, hi => by
    have ih := cutGo_keep (u := u) hz hW k m i (by omega) hi
    by_cases h : (W k).2.1 = 0
    · rw [cutGo_same h]; exact ih
    · rw [cutGo_cut h]
      show cutU z (dirN n z * z + k * 12) (cutGo n z W u k).1 (W k).1 _ = _
      unfold cutU
      split
      · rw [upd_other _ _ (by omega)]; exact ih
      · rename_i hl
        have hlt : (W k).1.length - 1 < (W k).1.length := by omega
        have := ((hW k).lt ((W k).1.getD ((W k).1.length - 1) 0) (by rw [List.getD_eq_getElem?_getD, List.getElem?_eq_getElem hlt]; exact List.getElem_mem hlt)).2
        have hge := dir_ge2 (n := n) hz
        rw [upd_other _ _ (by omega)]; exact ih
theorem walkN_chl (n z t : Nat) (U : Nat → UInt8) (k : Nat) : ChL t n (walkN n z t U k).1 ∧ (walkN n z t U k).2.1 ≤ 7 := by
  unfold walkN
  split
  · have := walkOf_ok t n (lkN z U) (ownsN n z t U k) (entK n z U k).f
    exact ⟨this.1, this.2.1⟩
  · exact ⟨ChL.nil t n, by simp⟩
theorem walkN_us {n z t : Nat} {U : Nat → UInt8} {k : Nat} (h : (walkN n z t U k).2.1 ≠ 0) : okE (fun i => U (dirN n z * z + k * 12 + i)) := by
  have hus : (entK n z U k).us = true := by
    cases hu : (entK n z U k).us with
    | true => rfl
    | false => rw [walkN_not hu] at h; exact absurd rfl h
  refine Classical.byContradiction fun q => ?_
  unfold entK at hus
  rw [entryOf_not q] at hus
  cases hus
theorem entB_first (nm : ByteArray) (f l : Nat) (us de : Bool) (i : Nat) : entB nm 0 l us de i = if i = 8 then 0 else entB nm f l us de i := by
  have h0 : ∀ j, entB0 nm 0 l j = if j = 8 then 0 else entB0 nm f l j := by
    intro j
    unfold entB0 upd
    by_cases h10 : j = 10
    · simp [h10]
    · by_cases h9 : j = 9
      · simp [h9]
      · by_cases h8 : j = 8
        · simp [h8]
        · simp [h10, h9, h8]
  have h1 : ∀ x : UInt8, upd (entB0 nm 0 l) 11 x i = if i = 8 then 0 else upd (entB0 nm f l) 11 x i := by
    intro x
    by_cases h11 : i = 11
    · subst h11; simp [upd]
    · rw [upd_other _ _ h11, upd_other _ _ h11]; exact h0 i
  cases us with
  | true => rw [entB_t, entB_t]; exact h1 1
  | false =>
    cases de with
    | true => rw [entB_ft, entB_ft]; exact h1 2
    | false => rw [entB_ff, entB_ff]; exact h0 i
/-- an entry stored with no first block -/
theorem first_same {u : Nat → UInt8} {a f ln : Nat} {nm : ByteArray} {us de : Bool} (hok : okE (fun i => u (a + i))) (he : entryOf (fun i => u (a + i)) = ⟨nm, f, ln, us, de⟩) : putE u a nm 0 ln us de = upd u (a + 8) 0 := by
  have hb : ∀ i, i < 12 → entB nm f ln us de i = u (a + i) := fun i hi => by
    have := hok.2 i hi
    rw [entryOf_ok hok] at he
    rw [he] at this
    exact this
  funext j
  unfold putE putU
  have hlen : ((List.range 12).map (entB nm 0 ln us de)).length = 12 := by simp
  split
  · rename_i h
    rw [hlen] at h
    obtain ⟨i, hi, rfl⟩ : ∃ i, i < 12 ∧ j = a + i := ⟨j - a, by omega, by omega⟩
    have hg : ((List.range 12).map (entB nm 0 ln us de)).getD (a + i - a) 0 = entB nm 0 ln us de i := by
      rw [show a + i - a = i by omega]
      simp [hi]
    try simp only at hg ⊢
    rw [hg, entB_first nm f]
    unfold upd
    by_cases e : i = 8
    · simp [e]
    · rw [if_neg e, if_neg (by omega)]
      exact hb i hi
  · rename_i h
    rw [hlen] at h
    rw [upd_other _ _ (by omega)]
theorem implCut_any {w : World} {p g n z E d t N c B cl : Nat} {u : Nat → UInt8} {A : Option Addr} {l : List Nat} (k at' : Nat) (h : ChW w p g n z E d t N c u) (hi : IntsR B w A cl l) (hl : ChL t n l) (hn : n ≤ 128) (hNz : z + n ≤ N) (hN : N ≤ 4096) (hcN : N ≤ c) (ha : d * z + k * 12 = at') (hat : at' + 12 ≤ N) (hk : k ≤ 1024) :
    Calls Tryz.prog 82 #[.pointer (some ⟨p, 0, none⟩), .int .i64 k, .slice A l.length cl] w fun r w' => r = .returned (.tuple #[]) ∧ ChW w' p g n z E d t N c (cutU z at' u l) ∧ w.grownBy w' (some g) := by
  have hlen := hl.len
  by_cases h0 : l.length = 0
  · have HU := Lib.hid (show cutU z at' u l = upd u (at' + 8) 0 by unfold cutU; rw [if_pos h0])
    have HEB := Lib.hid (implEntryBytes_any k at' h ha hat (by omega) hcN hk)
    have gc := h.row.cell (i := at' + 8) (by omega)
    have gf := h.row.frozen (i := at' + 8) (by omega)
    have e0 : (l.length : Int) = 0 := by omega
    have HH := Lib.hid h
    have H0 := Lib.hid h0
    clear hi hl h ha
    rw [H0.out]
    clear h0 e0
    go_enter Tryz.func82, Tryz.ntmps82
    go_wp2_with (go_at_call 63; refine HEB.out.mono ?_; rintro e3 w3 ⟨rfl, rfl⟩)
    go_end0
    rw [HU.out]
    exact ⟨rfl, (HH.out.drew.put (at' + 8) 0 rfl), only_setCell (only_drew (only_refl _ _)) (.inl rfl) _⟩
  · have HU := Lib.hid (show cutU z at' u l = upd u (z + l.getD (l.length - 1) 0) 255 by unfold cutU; rw [if_neg h0])
    have hlt : l.length - 1 < l.length := by omega
    obtain ⟨bb, oo, hA, hbb, hcc⟩ := hi.sl (l.length - 1) hlt
    have hy := (hl.lt (l.getD (l.length - 1) 0) (by rw [List.getD_eq_getElem?_getD, List.getElem?_eq_getElem hlt]; exact List.getElem_mem hlt)).2
    dsimp only at hcc
    subst hA
    obtain ⟨y, hyy⟩ : ∃ y, l.getD (l.length - 1) 0 = y := ⟨_, rfl⟩
    rw [hyy] at hcc hy HU
    obtain ⟨m, hm⟩ : ∃ m, l.length = m + 1 := ⟨l.length - 1, by omega⟩
    rw [hm, show m + 1 - 1 = m from rfl] at hcc
    rw [hm]
    have gc := h.row.cell (i := z + y) (by omega)
    have gf := h.row.frozen (i := z + y) (by omega)
    have HH := Lib.hid h
    have e1 : IntKind.i64.wrap (((m + 1 : Nat) : Int) - 1) = (m : Int) := by rw [IntKind.wrap_i64]; omega
    have e2 : (0 : Int) < ((m + 1 : Nat) : Int) := by omega
    have hm128 : m ≤ 128 := by omega
    clear hi hl hyy hm h0 hlt hlen
    go_enter Tryz.func82, Tryz.ntmps82
    go_wp2_with (go_at_call 65; refine (implLink_any y h (by omega) (by omega)).mono ?_; rintro e3 w3 ⟨rfl, rfl⟩)
    go_end0
    rw [HU.out]
    exact ⟨rfl, (HH.out.drew.put (z + y) 255 rfl), only_setCell (only_drew (only_refl _ _)) (.inl rfl) _⟩
theorem specCut_any {w : World} {p g n z E d t N c B cl : Nat} {u : Nat → UInt8} {A : Option Addr} {l : List Nat} (k at' : Nat) (h : ChW w p g n z E d t N c u) (hi : IntsR B w A cl l) (hl : ChL t n l) (hn : n ≤ 128) (hNz : z + n ≤ N) (hN : N ≤ 4096) (hcN : N ≤ c) (ha : d * z + k * 12 = at') (hat : at' + 12 ≤ N) (hk : k ≤ 1024) (hok : okE (fun i => u (at' + i))) (m : Nat) (hm : l.length = m) :
    Calls Tryz.prog 80 #[.pointer (some ⟨p, 0, none⟩), .int .i64 k, .slice A l.length cl, .int .i64 m] w fun r w' => r = .returned (.tuple #[]) ∧ ChW w' p g n z E d t N c (cutU z at' u l) ∧ w.grownBy w' (some g) := by
  have hlen := hl.len
  by_cases h0 : m = 0
  · subst h0
    have HU := Lib.hid (show cutU z at' u l = upd u (at' + 8) 0 by unfold cutU; rw [if_pos hm])
    have HEB := Lib.hid (specEntry_any k at' h ha hat (by omega) hcN hk)
    obtain ⟨e, he⟩ : ∃ e, entryOf (fun i => u (at' + i)) = e := ⟨_, rfl⟩
    have hf := entryOf_facts (fun i => u (at' + i))
    rw [he] at hf
    obtain ⟨nm, f, ln, us, de⟩ := e
    have HFS := Lib.hid (first_same hok he)
    have HE := Lib.hid he
    have HH := Lib.hid h
    have HA := Lib.hid ha
    have hf1 := hf.1
    have hf2 : ln ≤ 512 := hf.2.2.1
    have hplt := h.plt
    have hglt := h.row.lt
    clear hi hl h ha he hf hok hm
    go_enter Tryz.func80, Tryz.ntmps80
    go_wp2_with (first
      | (go_at_call 68; refine HEB.out.mono ?_; intro e2 w2 h2; obtain ⟨b, hbk, rfl, hb2⟩ := h2; rw [HE.out]; unfold Ent.val entV; dsimp only; have hbE := hb2.alloc hb2.size (.cells #[.string nm, .int .i64 f, .int .i64 ln, .bool us, .bool de] 82); have hc2a := HH.out.below hbE; have rE := Rw.new w2 82 #[.string nm, .int .i64 f, .int .i64 ln, .bool us, .bool de]; have y1 := rE.cell 1; have yf1 := rE.frozen 1; have hpq : p ≠ w2.heap.size := (by have := hb2.size; omega); have hgq : g ≠ w2.heap.size := (by have := hb2.size; omega))
      | (go_at_call 52; refine (specSetEntryG_any k at' nm 0 ln us de hf1 (by omega) hf2 (HH.out.below (hb2.alloc hb2.size (.cells #[.string nm, .int .i64 0, .int .i64 ln, .bool us, .bool de] 82))) (Rw.new w2 82 #[.string nm, .int .i64 0, .int .i64 ln, .bool us, .bool de]) HA.out hat (by omega) hcN hk).mono ?_; rintro e5 w5 ⟨rfl, hc5, hb5, hg5⟩))
    have hg1 : w.grownBy (w2.alloc (.cells #[.string nm, .int .i64 0, .int .i64 ln, .bool us, .bool de] 82)) (some g) := only_alloc (only_below hb2 (Nat.le_refl _) _) _
    rw [HU.out, ← HFS.out]
    exact bodyPost_ret (v := .tuple #[]) (by simp [results, Tryz.results80, go_sem]) rfl ⟨rfl, hc5, only_trans hg1 hg5⟩
  · have HU := Lib.hid (show cutU z at' u l = upd u (z + l.getD (l.length - 1) 0) 255 by unfold cutU; rw [if_neg (by omega)])
    have hlt : l.length - 1 < l.length := by omega
    obtain ⟨bb, oo, hA, hbb, hcc⟩ := hi.sl (l.length - 1) hlt
    have hy := (hl.lt (l.getD (l.length - 1) 0) (by rw [List.getD_eq_getElem?_getD, List.getElem?_eq_getElem hlt]; exact List.getElem_mem hlt)).2
    dsimp only at hcc
    subst hA
    obtain ⟨y, hyy⟩ : ∃ y, l.getD (l.length - 1) 0 = y := ⟨_, rfl⟩
    rw [hyy] at hcc hy HU
    obtain ⟨m', hm'⟩ : ∃ m', l.length = m' + 1 := ⟨l.length - 1, by omega⟩
    rw [hm', show m' + 1 - 1 = m' from rfl] at hcc
    have hmm : m = m' + 1 := by omega
    rw [hm', hmm]
    have HH := Lib.hid h
    have e1 : IntKind.i64.wrap (((m' + 1 : Nat) : Int) - 1) = (m' : Int) := by rw [IntKind.wrap_i64]; omega
    have e2 : (((m' + 1 : Nat) : Int) == 0) = false := by simp; omega
    have hm128 : m' ≤ 128 := by omega
    clear hi hl hyy hm' h0 hlt hlen hm hmm
    go_enter Tryz.func80, Tryz.ntmps80
    go_wp2_with (go_at_call 50; refine (specSetLink_any y 255 h (by omega) (by omega)).mono ?_; rintro e3 w3 ⟨rfl, rfl⟩)
    go_end0
    rw [HU.out]
    exact ⟨rfl, (HH.out.put (z + y) 255 rfl).drew, only_drew (only_setCell (only_refl _ _) (.inl rfl) _)⟩
end Go.Proofs.YtapkckpjeoedaaaGreatDoor
