/-
  Disks of chains: lengths that fit: plain; a chain cut short by the reference.
-/
import Derived.Test.YtapkckpjeoedaaaGreatDoorMendTop
namespace Go.Proofs.YtapkckpjeoedaaaGreatDoor
open Go Go.ChangeShapes Go.WideShapes Go.ChangeAt Go.RowKit lib
set_option linter.unusedVariables false
set_option maxRecDepth 100000
def lenStep (n z : Nat) (l : List Nat) (e : Ent) (k : Nat) (r : (Nat → UInt8) × Nat) : (Nat → UInt8) × Nat :=
  if e.us = true then if l.length < needN z e.l then (putE r.1 (dirN n z * z + k * 12) e.nm e.f (l.length * z) true e.de, r.2 + 1) else if needN z e.l < l.length then (cutU z (dirN n z * z + k * 12) r.1 (l.take (needN z e.l)), r.2 + 1) else r else r
noncomputable def lenGo (n z t : Nat) (u : Nat → UInt8) : Nat → (Nat → UInt8) × Nat
  | 0 => (u, 0)
  | k + 1 => lenStep n z (walkN n z t u k).1 (entK n z u k) k (lenGo n z t u k)
theorem lenGo_succ (n z t : Nat) (u : Nat → UInt8) (k : Nat) : lenGo n z t u (k + 1) = lenStep n z (walkN n z t u k).1 (entK n z u k) k (lenGo n z t u k) := rfl
theorem lenStep_le (n z : Nat) (l : List Nat) (e : Ent) (k : Nat) (r : (Nat → UInt8) × Nat) : (lenStep n z l e k r).2 ≤ r.2 + 1 := by
  unfold lenStep
  split
  · split
    · exact Nat.le_refl _
    · split
      · exact Nat.le_refl _
      · omega
  · omega
theorem lenGo_le (n z t : Nat) (u : Nat → UInt8) : ∀ k, (lenGo n z t u k).2 ≤ k
  | 0 => Nat.le_refl _
  | k + 1 => by
    have := lenGo_le n z t u k
    have := lenStep_le n z (walkN n z t u k).1 (entK n z u k) k (lenGo n z t u k)
    rw [lenGo_succ]
    omega
theorem ChL.take {t n : Nat} {l : List Nat} (h : ChL t n l) (m : Nat) : ChL t n (l.take m) :=
  ⟨h.nd.sublist (List.take_sublist _ _), fun x hx => h.lt x (List.mem_of_mem_take hx)⟩
theorem putE_far {u : Nat → UInt8} {a f l j : Nat} {nm : ByteArray} {us de : Bool} (h : ¬ (a ≤ j ∧ j < a + 12)) : putE u a nm f l us de j = u j := by
  unfold putE putU
  rw [if_neg (by simpa using h)]
theorem cutU_far {n z t k : Nat} {u : Nat → UInt8} {l : List Nat} (hz : 0 < z) (hl : ChL t n l) {j : Nat} (hj : dirN n z * z + (k + 1) * 12 ≤ j) : cutU z (dirN n z * z + k * 12) u l j = u j := by
  unfold cutU
  split
  · rw [upd_other _ _ (by omega)]
  · rename_i h
    have hlt : l.length - 1 < l.length := by omega
    have := (hl.lt (l.getD (l.length - 1) 0) (by rw [List.getD_eq_getElem?_getD, List.getElem?_eq_getElem hlt]; exact List.getElem_mem hlt)).2
    have hge := dir_ge2 (n := n) hz
    rw [upd_other _ _ (by omega)]
/-- later entries are untouched -/
theorem lenGo_keep {n z t : Nat} {u : Nat → UInt8} (hz : 0 < z) : ∀ k m i, k ≤ m → i < 12 → (lenGo n z t u k).1 (dirN n z * z + m * 12 + i) = u (dirN n z * z + m * 12 + i)
  | 0, m, i, _, _ => rfl
  | k + 1, m, i, hk, hi => by
    have ih := lenGo_keep (n := n) (t := t) (u := u) hz k m i (by omega) hi
    rw [lenGo_succ]
    unfold lenStep
    split
    · split
      · show putE _ _ _ _ _ _ _ _ = _
        rw [putE_far (by omega)]
        exact ih
      · split
        · show cutU _ _ _ _ _ = _
          rw [cutU_far hz (((walkN_chl n z t u k).1).take _) (by omega)]
          exact ih
        · exact ih
    · exact ih
theorem lenGo_entry {n z t : Nat} {u : Nat → UInt8} (hz : 0 < z) (k : Nat) : okE (fun i => (lenGo n z t u k).1 (dirN n z * z + k * 12 + i)) = okE (fun i => u (dirN n z * z + k * 12 + i)) ∧ entryOf (fun i => (lenGo n z t u k).1 (dirN n z * z + k * 12 + i)) = entK n z u k :=
  okE_congr fun i hi => lenGo_keep (n := n) (t := t) hz k k i (Nat.le_refl _) hi
theorem specCut2_any {w : World} {p g n z E d t N c B cl : Nat} {u : Nat → UInt8} {A : Option Addr} {l : List Nat} (k at' : Nat) (h : ChW w p g n z E d t N c u) (hi : IntsR B w A cl l) (hl : ChL t n l) (hn : n ≤ 128) (hNz : z + n ≤ N) (hN : N ≤ 4096) (hcN : N ≤ c) (ha : d * z + k * 12 = at') (hat : at' + 12 ≤ N) (hk : k ≤ 1024) (hok : okE (fun i => u (at' + i))) (m : Nat) (hm : m ≤ l.length) :
    Calls Tryz.prog 80 #[.pointer (some ⟨p, 0, none⟩), .int .i64 k, .slice A l.length cl, .int .i64 m] w fun r w' => r = .returned (.tuple #[]) ∧ ChW w' p g n z E d t N c (cutU z at' u (l.take m)) ∧ w.grownBy w' (some g) := by
  have hlen := hl.len
  have htl : (l.take m).length = m := by simp; omega
  by_cases h0 : m = 0
  · subst h0
    have HU := Lib.hid (show cutU z at' u (l.take 0) = upd u (at' + 8) 0 by unfold cutU; rw [if_pos htl])
    have HEB := Lib.hid (specEntry_any k at' h ha hat (by omega) hcN hk)
    obtain ⟨e, he⟩ : ∃ e, entryOf (fun i => u (at' + i)) = e := ⟨_, rfl⟩
    have hf := entryOf_facts (fun i => u (at' + i))
    rw [he] at hf
    obtain ⟨nm, f, ln, us, de⟩ := e
    have HFS := Lib.hid (first_same hok he)
    have HE := Lib.hid he
    have HH := Lib.hid h
    have HA := Lib.hid ha
    have hf1 := hf.1
    have hf2 : ln ≤ 512 := hf.2.2.1
    have hplt := h.plt
    have hglt := h.row.lt
    clear hi hl h ha he hf hok hm htl
    go_enter Tryz.func80, Tryz.ntmps80
    go_wp2_with (first
      | (go_at_call 68; refine HEB.out.mono ?_; intro e2 w2 h2; obtain ⟨b, hbk, rfl, hb2⟩ := h2; rw [HE.out]; unfold Ent.val entV; dsimp only; have rE := Rw.new w2 82 #[.string nm, .int .i64 f, .int .i64 ln, .bool us, .bool de]; have y1 := rE.cell 1; have yf1 := rE.frozen 1)
      | (go_at_call 52; refine (specSetEntryG_any k at' nm 0 ln us de hf1 (by omega) hf2 (HH.out.below (hb2.alloc hb2.size (.cells #[.string nm, .int .i64 0, .int .i64 ln, .bool us, .bool de] 82))) (Rw.new w2 82 #[.string nm, .int .i64 0, .int .i64 ln, .bool us, .bool de]) HA.out hat (by omega) hcN hk).mono ?_; rintro e5 w5 ⟨rfl, hc5, hb5, hg5⟩))
    have hg1 : w.grownBy (w2.alloc (.cells #[.string nm, .int .i64 0, .int .i64 ln, .bool us, .bool de] 82)) (some g) := only_alloc (only_below hb2 (Nat.le_refl _) _) _
    rw [HU.out, ← HFS.out]
    exact bodyPost_ret (v := .tuple #[]) (by simp [results, Tryz.results80, go_sem]) rfl ⟨rfl, hc5, only_trans hg1 hg5⟩
  · obtain ⟨m', hm'⟩ : ∃ m', m = m' + 1 := ⟨m - 1, by omega⟩
    subst hm'
    have hlt : m' < l.length := by omega
    have HU := Lib.hid (show cutU z at' u (l.take (m' + 1)) = upd u (z + l.getD m' 0) 255 by
      unfold cutU
      rw [if_neg (by omega), htl, show m' + 1 - 1 = m' from rfl]
      congr 2
      simp [List.getD_eq_getElem?_getD, List.getElem?_take])
    obtain ⟨bb, oo, hA, hbb, hcc⟩ := hi.sl m' hlt
    have hy := (hl.lt (l.getD m' 0) (by rw [List.getD_eq_getElem?_getD, List.getElem?_eq_getElem hlt]; exact List.getElem_mem hlt)).2
    dsimp only at hcc
    subst hA
    obtain ⟨y, hyy⟩ : ∃ y, l.getD m' 0 = y := ⟨_, rfl⟩
    rw [hyy] at hcc hy HU
    have HH := Lib.hid h
    have e1 : IntKind.i64.wrap (((m' + 1 : Nat) : Int) - 1) = (m' : Int) := by rw [IntKind.wrap_i64]; omega
    have e2 : (((m' + 1 : Nat) : Int) == 0) = false := by simp; omega
    have hlt2 : (m' : Int) < (l.length : Int) := by omega
    clear hi hl hyy h0 hm htl
    go_enter Tryz.func80, Tryz.ntmps80
    go_wp2_with (go_at_call 50; refine (specSetLink_any y 255 h (by omega) (by omega)).mono ?_; rintro e3 w3 ⟨rfl, rfl⟩)
    go_end0
    rw [HU.out]
    exact ⟨rfl, (HH.out.put (z + y) 255 rfl).drew, only_drew (only_setCell (only_refl _ _) (.inl rfl) _)⟩
end Go.Proofs.YtapkckpjeoedaaaGreatDoor
