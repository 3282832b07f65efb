/-
  Disks of chains: files made of lost chains: plain.
-/
import Derived.Test.YtapkckpjeoedaaaGreatDoorMeP
import Derived.Test.YtapkckpjeoedaaaGreatDoorLcP
namespace Go.Proofs.YtapkckpjeoedaaaGreatDoor
open Go Go.ChangeShapes Go.WideShapes Go.ChangeAt Go.RowKit lib
set_option linter.unusedVariables false
set_option maxRecDepth 100000
/-- the bytes of a disk when some blocks are free -/
def frU (z : Nat) (u : Nat → UInt8) (l : List Nat) : Nat → UInt8 := fun j => if (l.any fun a => j == z + a) = true then 0 else u j
theorem frU_nil (z : Nat) (u : Nat → UInt8) : frU z u [] = u := by funext j; simp [frU]
theorem frU_snoc (z : Nat) (u : Nat → UInt8) (l : List Nat) (a : Nat) : upd (frU z u l) (z + a) 0 = frU z u (l ++ [a]) := by
  funext j
  unfold frU upd
  by_cases h : j = z + a
  · simp [h]
  · simp [h]
theorem frU_take (z : Nat) (u : Nat → UInt8) (l : List Nat) {i : Nat} (hi : i < l.length) : upd (frU z u (l.take i)) (z + l.getD i 0) 0 = frU z u (l.take (i + 1)) := by
  rw [List.take_add_one, List.getElem?_eq_getElem hi, Option.toList_some, ← frU_snoc]
  simp [List.getD_eq_getElem?_getD, hi]
theorem ldir_ge {n z : Nat} (hz : 0 < z) : z + n ≤ dirN n z * z := by
  unfold dirN
  have := Nat.div_add_mod (n + z - 1) z
  have h2 := Nat.mod_lt (n + z - 1) hz
  rw [Nat.add_mul, Nat.mul_comm ((n + z - 1) / z) z]
  omega
theorem entK_link {n z k b : Nat} {u : Nat → UInt8} {y : UInt8} (hz : 0 < z) (hb : b < n) : entK n z (upd u (z + b) y) k = entK n z u k := by
  unfold entK
  refine (okE_congr fun j hj => ?_).2
  exact upd_other _ _ (by have := ldir_ge (n := n) hz; omega)
theorem named_link {n z b E : Nat} {u : Nat → UInt8} {y : UInt8} {x : ByteArray} (hz : 0 < z) (hb : b < n) : namedTo n z (upd u (z + b) y) x E ↔ namedTo n z u x E := by
  unfold namedTo
  simp only [entK_link hz hb]
theorem spGo_link {n z b E : Nat} {u : Nat → UInt8} {y : UInt8} {pre : ByteArray} (hz : 0 < z) (hb : b < n) : ∀ f k, spGo n z (upd u (z + b) y) E pre f k = spGo n z u E pre f k
  | 0, _ => rfl
  | f + 1, k => by
    by_cases h : namedTo n z u (spName pre k) E
    · rw [spGo_next h, spGo_next ((named_link hz hb).2 h), spGo_link hz hb f (k + 1)]
    · rw [spGo_hit h, spGo_hit (fun q => h ((named_link hz hb).1 q))]
theorem putE_upd {u : Nat → UInt8} {a f l j : Nat} {nm : ByteArray} {us de : Bool} {y : UInt8} (h : ¬ (a ≤ j ∧ j < a + 12)) : putE (upd u j y) a nm f l us de = upd (putE u a nm f l us de) j y := by
  funext i
  by_cases hi : i = j
  · subst hi
    rw [putE_out h, upd_same, upd_same]
  · rw [upd_other _ _ hi]
    by_cases hin : a ≤ i ∧ i < a + 12
    · obtain ⟨m, rfl⟩ : ∃ m, i = a + m := ⟨i - a, by omega⟩
      rw [putE_in (by omega), putE_in (by omega)]
    · rw [putE_out hin, putE_out hin, upd_other _ _ hi]
def LOST : ByteArray := ⟨#[76, 79, 83, 84]⟩
/-- the spare name -/
noncomputable def lstN (n z : Nat) (U : Nat → UInt8) (E : Nat) : ByteArray := (spGo n z U E LOST 100 0).getD ⟨#[]⟩
theorem lstN_size (n z : Nat) (U : Nat → UInt8) (E : Nat) : (lstN n z U E).size ≤ 8 := by
  unfold lstN
  rcases spGo_ok (n := n) (z := z) (U := U) (E := E) (pre := LOST) 100 0 with ⟨j, _, _, h⟩ | ⟨h, _⟩
  · rw [h]
    show (spName LOST j).size ≤ 8
    rw [spName_size]
    decide
  · rw [h]
    decide
theorem lstN_link {n z b E : Nat} {u : Nat → UInt8} {y : UInt8} (hz : 0 < z) (hb : b < n) : lstN n z (upd u (z + b) y) E = lstN n z u E := by
  unfold lstN
  rw [spGo_link hz hb]
theorem spOut_getD {R : Option ByteArray} {r : Ending} {w w' : World} (h : SpOut R r w w') : ∃ b, r = .returned (.tuple #[.string (R.getD ⟨#[]⟩), .bool b]) ∧ Below w.heap.size w w' := by
  cases R with
  | none => exact ⟨false, h.2.1 rfl, h.2.2⟩
  | some s => exact ⟨true, h.1 s rfl, h.2.2⟩
open Classical in
/-- the place for an entry among f entries from k on: none where an entry is malformed -/
noncomputable def vacGo (n z : Nat) (U : Nat → UInt8) : Nat → Nat → Option Nat → Option (Option Nat)
  | 0, _, d => some d
  | f + 1, k, d => if okE (fun i => U (dirN n z * z + k * 12 + i)) then (if (entK n z U k).us = false ∧ (entK n z U k).de = false then some (some k) else vacGo n z U f (k + 1) (if (entK n z U k).de = true ∧ d = none then some k else d)) else none
def atI : Option Nat → Int
  | none => -1
  | some k => (k : Int)
theorem vacGo_bad {n z : Nat} {U : Nat → UInt8} {f k : Nat} {d : Option Nat} (h : ¬ okE (fun i => U (dirN n z * z + k * 12 + i))) : vacGo n z U (f + 1) k d = none := by rw [vacGo, if_neg h]
theorem vacGo_hit {n z : Nat} {U : Nat → UInt8} {f k : Nat} {d : Option Nat} (h : okE (fun i => U (dirN n z * z + k * 12 + i))) (h2 : (entK n z U k).us = false ∧ (entK n z U k).de = false) : vacGo n z U (f + 1) k d = some (some k) := by rw [vacGo, if_pos h, if_pos h2]
theorem vacGo_del {n z : Nat} {U : Nat → UInt8} {f k : Nat} (h : okE (fun i => U (dirN n z * z + k * 12 + i))) (h2 : (entK n z U k).de = true) : vacGo n z U (f + 1) k none = vacGo n z U f (k + 1) (some k) := by rw [vacGo, if_pos h, if_neg (fun q => by rw [q.2] at h2; cases h2), if_pos ⟨h2, rfl⟩]
theorem vacGo_old {n z : Nat} {U : Nat → UInt8} {f k q : Nat} (h : okE (fun i => U (dirN n z * z + k * 12 + i))) (h2 : (entK n z U k).us = true ∨ (entK n z U k).de = true) : vacGo n z U (f + 1) k (some q) = vacGo n z U f (k + 1) (some q) := by
  rw [vacGo, if_pos h, if_neg (fun q => by rcases h2 with h2 | h2; rw [q.1] at h2; cases h2; rw [q.2] at h2; cases h2), if_neg (fun q => by cases q.2)]
theorem vacGo_use {n z : Nat} {U : Nat → UInt8} {f k : Nat} {d : Option Nat} (h : okE (fun i => U (dirN n z * z + k * 12 + i))) (h2 : (entK n z U k).us = true) (h3 : (entK n z U k).de = false) : vacGo n z U (f + 1) k d = vacGo n z U f (k + 1) d := by
  rw [vacGo, if_pos h, if_neg (fun q => by rw [q.1] at h2; cases h2), if_neg (fun q => by rw [h3] at q; cases q.1)]
theorem vacGo_lt {n z : Nat} {U : Nat → UInt8} {a : Nat} : ∀ (f k : Nat) (d : Option Nat), (∀ q, d = some q → q < k) → vacGo n z U f k d = some (some a) → a < k + f
  | 0, k, d, hd, h => by
    rw [vacGo] at h
    injection h with h
    have := hd a h
    omega
  | f + 1, k, d, hd, h => by
    rw [vacGo] at h
    split at h
    · split at h
      · injection h with h
        injection h with h
        omega
      · have := vacGo_lt f (k + 1) _ (fun q hq => by
          split at hq
          · injection hq with hq; omega
          · have := hd q hq; omega) h
        omega
    · cases h
noncomputable def vacN (n z : Nat) (U : Nat → UInt8) (E : Nat) : Option (Option Nat) := vacGo n z U E 0 none
theorem vacN_lt {n z : Nat} {U : Nat → UInt8} {E a : Nat} (h : vacN n z U E = some (some a)) : a < E := by
  have := vacGo_lt E 0 none (fun q hq => by cases hq) h
  omega
def VacOut (R : Option (Option Nat)) (r : Ending) (w w' : World) : Prop := (∀ a, R = some a → r = .returned (.tuple #[.int .i64 (atI a), .bool true])) ∧ (R = none → ∃ x, r = .returned (.tuple #[.int .i64 x, .bool false])) ∧ Below w.heap.size w w'
theorem VacOut.parts {R : Option (Option Nat)} {r : Ending} {w w' : World} (h : VacOut R r w w') : ∃ x b, r = .returned (.tuple #[.int .i64 x, .bool b]) ∧ (R = none → b = false) ∧ (∀ a, R = some a → b = true ∧ x = atI a) ∧ Below w.heap.size w w' := by
  cases R with
  | none =>
    obtain ⟨x, hx⟩ := h.2.1 rfl
    exact ⟨x, false, hx, fun _ => rfl, (fun a e => by cases e), h.2.2⟩
  | some a => exact ⟨atI a, true, h.1 a rfl, (fun e => by cases e), (fun a' e => by injection e with e; subst e; exact ⟨rfl, rfl⟩), h.2.2⟩
/-- how many blocks of a lost chain are kept -/
def keepN (z : Nat) (l : List Nat) : Option Nat → Nat
  | none => 0
  | some _ => min l.length (512 / z)
/-- some blocks kept, the others freed -/
def lnkd (z : Nat) (U : Nat → UInt8) (l : List Nat) (m : Nat) : Nat → UInt8 := upd (frU z U (l.drop m)) (z + l.getD (m - 1) 0) 255
/-- the bytes of a disk when a file is made of a lost chain -/
noncomputable def mlU (n z E : Nat) (U : Nat → UInt8) (l : List Nat) : Option Nat → Nat → UInt8
  | none => frU z U l
  | some a => putE (lnkd z U l (min l.length (512 / z))) (dirN n z * z + a * 12) (lstN n z (lnkd z U l (min l.length (512 / z))) E) (l.getD 0 0) (min l.length (512 / z) * z) true false
/-- the program's order of the two writes -/
theorem mlU_impl {n z E a m : Nat} {U : Nat → UInt8} {l : List Nat} (hz : 0 < z) (hm : min l.length (512 / z) = m) (hb : l.getD (m - 1) 0 < n) :
    mlU n z E U l (some a) = upd (putE (frU z U (l.drop m)) (dirN n z * z + a * 12) (lstN n z (frU z U (l.drop m)) E) (l.getD 0 0) (m * z) true false) (z + l.getD (m - 1) 0) 255 := by
  have hd := ldir_ge (n := n) hz
  unfold mlU
  simp only
  rw [hm]
  unfold lnkd
  rw [lstN_link hz hb, putE_upd (by omega)]
/-- all lost chains made files: bytes, how many found, how many freed, and whether no entry was malformed -/
noncomputable def mlRun (n z E : Nat) : List (List Nat) → (Nat → UInt8) → Nat → Nat → (Nat → UInt8) × Nat × Nat × Bool
  | [], U, fo, fr => (U, fo, fr, true)
  | l :: Ls, U, fo, fr => match vacN n z U E with
    | none => (U, 0, 0, false)
    | some a => mlRun n z E Ls (mlU n z E U l a) (fo + (if a = none then 0 else 1)) (fr + (l.length - keepN z l a))
theorem mlRun_none {n z E : Nat} {l : List Nat} {Ls : List (List Nat)} {U : Nat → UInt8} {fo fr : Nat} (h : vacN n z U E = none) : mlRun n z E (l :: Ls) U fo fr = (U, 0, 0, false) := by rw [mlRun, h]
theorem mlRun_some {n z E : Nat} {l : List Nat} {Ls : List (List Nat)} {U : Nat → UInt8} {fo fr : Nat} {a : Option Nat} (h : vacN n z U E = some a) : mlRun n z E (l :: Ls) U fo fr = mlRun n z E Ls (mlU n z E U l a) (fo + (if a = none then 0 else 1)) (fr + (l.length - keepN z l a)) := by rw [mlRun, h]
theorem lostN_ltL {own : Nat → Int} {u : Nat → UInt8} {z t : Nat} : ∀ m x, x ∈ lostN own u z t m → x < t + m
  | 0, x, h => by simp [lostN] at h
  | m + 1, x, h => by
    rw [lostN, List.mem_append] at h
    rcases h with h | h
    · have := lostN_ltL m x h
      omega
    · split at h
      · simp at h; omega
      · simp at h
/-- a chain of lost blocks -/
def chOk (L l : List Nat) : Prop := 0 < l.length ∧ ∀ x, x ∈ l → x ∈ L
theorem stepC_all {n : Nat} {L : List Nat} {lk : Nat → Nat} {rest : Bool} {b : Nat} {S : List Nat × List (List Nat)} (h : ∀ l, l ∈ S.2 → chOk L l) (hL : ∀ x, x ∈ L → x < n) (hb : b ∈ L) : ∀ l, l ∈ (stepC L lk rest b S).2 → chOk L l := by
  unfold stepC
  split
  · exact h
  · rename_i hc
    have hu : b ∉ S.1 := fun h => hc (.inl h)
    intro l hl
    rcases List.mem_append.1 hl with h1 | h1
    · exact h l h1
    · simp at h1
      subst h1
      exact ⟨flwA_pos ⟨hb, hu⟩, fun x hx => ((flw_ok (lk := lk) (used := S.1) hL 129 [] b (FlwOk.nil n L S.1)).mem x hx).1⟩
theorem passC_all {n : Nat} {L : List Nat} {lk : Nat → Nat} {rest : Bool} {S : List Nat × List (List Nat)} (h : ∀ l, l ∈ S.2 → chOk L l) (hL : ∀ x, x ∈ L → x < n) : ∀ i, i ≤ L.length → ∀ l, l ∈ (passC L lk rest S i).2 → chOk L l
  | 0, _ => h
  | i + 1, hi => by
    rw [passC]
    refine stepC_all (passC_all h hL i (by omega)) hL ?_
    rw [List.getD_eq_getElem?_getD, List.getElem?_eq_getElem (by omega)]
    exact List.getElem_mem _
theorem chainsC_all {n : Nat} {L : List Nat} {lk : Nat → Nat} (hL : ∀ x, x ∈ L → x < n) : ∀ l, l ∈ chainsC L lk → chOk L l := by
  unfold chainsC
  exact passC_all (passC_all (fun l hl => by simp at hl) hL _ (Nat.le_refl _)) hL _ (Nat.le_refl _)
/-- a slice of integers somewhere else than in block g -/
def ISl (w : World) (g : Nat) (A : Option Addr) (l : List Nat) : Prop := ∀ i, i < l.length → ∃ q o, A = some ⟨q, o, none⟩ ∧ q ≠ g ∧ q < w.heap.size ∧ w.cell? ⟨q, o + i, none⟩ = some (.int .i64 ((l.getD i 0 : Nat) : Int))
theorem ISl.grown {w w' : World} {g : Nat} {A : Option Addr} {l : List Nat} (h : ISl w g A l) (hg : w.grownBy w' (some g)) : ISl w' g A l := by
  intro i hi
  obtain ⟨q, o, h1, h2, h3, h4⟩ := h i hi
  exact ⟨q, o, h1, h2, Nat.lt_of_lt_of_le h3 hg.size, (World.cell?_of_block (a := ⟨q, o + i, none⟩) (hg.block q h3 (fun e => h2 (by injection e)))).trans h4⟩
theorem ISl.drop {w : World} {g m : Nat} {q o : Nat} {l : List Nat} (h : ISl w g (some ⟨q, o, none⟩) l) : ISl w g (some ⟨q, o + m, none⟩) (l.drop m) := by
  intro i hi
  rw [List.length_drop] at hi
  obtain ⟨q', o', h1, h2, h3, h4⟩ := h (m + i) (by omega)
  injection h1 with h1
  injection h1 with h1 h1' _
  subst h1 h1'
  refine ⟨q, o + m, rfl, h2, h3, ?_⟩
  rw [Nat.add_assoc, h4]
  simp [List.getD_eq_getElem?_getD]
theorem chOk_at {L l : List Nat} {n j : Nat} (h : chOk L l) (hL : ∀ x, x ∈ L → x < n) (hj : j < l.length) : l.getD j 0 < n := by
  apply hL
  apply h.2
  rw [List.getD_eq_getElem?_getD, List.getElem?_eq_getElem hj]
  exact List.getElem_mem hj
theorem IntsR.isl {B g c q : Nat} {w : World} {l : List Nat} (h : IntsR B w (some ⟨q, 0, none⟩) c l) (hg : g < B) : ISl w g (some ⟨q, 0, none⟩) l := by
  intro i hi
  obtain ⟨q', o, hA, hq, hc⟩ := h.sl i hi
  refine ⟨q', o, hA, ?_, hq, hc⟩
  injection hA with hA
  injection hA with hA _ _
  subst hA
  have := own_lt h q rfl
  omega
/-- a list of a list of lists -/
def LK (w : World) (g : Nat) (A : Option Addr) (i : Nat) (l : List Nat) (qi ci : Nat) : Prop := ∃ q o, A = some ⟨q, o, none⟩ ∧ q ≠ g ∧ q < w.heap.size ∧ w.cell? ⟨q, o + i, none⟩ = some (.slice (some ⟨qi, 0, none⟩) l.length ci) ∧ ISl w g (some ⟨qi, 0, none⟩) l ∧ l.length ≤ ci
theorem LK.grown {w w' : World} {g i qi ci : Nat} {A : Option Addr} {l : List Nat} (h : LK w g A i l qi ci) (hg : w.grownBy w' (some g)) : LK w' g A i l qi ci := by
  obtain ⟨q, o, h1, h2, h3, h4, h5, h6⟩ := h
  exact ⟨q, o, h1, h2, Nat.lt_of_lt_of_le h3 hg.size, (World.cell?_of_block (a := ⟨q, o + i, none⟩) (hg.block q h3 (fun e => h2 (by injection e)))).trans h4, h5.grown hg, h6⟩
theorem OL.look {B c g : Nat} {F : Nat → Prop} {w : World} {A : Option Addr} {Ls : List (List Nat)} (h : OL B F w A c Ls) (hg : g < B) {i : Nat} (hi : i < Ls.length) (hp : 0 < (Ls.getD i []).length) : ∃ qi ci, LK w g A i (Ls.getD i []) qi ci := by
  obtain ⟨xs, h1, a, cc, h2, h3⟩ := h
  obtain ⟨q, o, hA, hq, h0⟩ := own_sl h1 i (by omega)
  dsimp only at h0
  rw [List.getD_eq_getElem?_getD, (h2 i hi).1] at h0
  obtain ⟨hx, hR, hF⟩ := h2 i hi
  obtain ⟨qi, hai⟩ : ∃ qi, a i = some ⟨qi, 0, none⟩ := by
    rcases hR.2 with ⟨hv, h00⟩ | ⟨g', cap, cur, hv, _⟩
    · omega
    · injection hv with h4 _ _
      exact ⟨g', h4⟩
  rw [hai] at hR h0
  have hgq : q ≠ g := by
    subst hA
    have := own_lt h1 q rfl
    omega
  exact ⟨qi, cc i, q, o, hA, hgq, hq, h0, hR.isl hg, hR.cap⟩
theorem drop_getD {α : Type} {Ls : List (List α)} {i : Nat} (hi : i < Ls.length) : Ls.drop i = Ls.getD i [] :: Ls.drop (i + 1) := by
  rw [List.drop_eq_getElem_cons hi, List.getD_eq_getElem?_getD, List.getElem?_eq_getElem hi]
  rfl
theorem getD_memLs {α : Type} {Ls : List (List α)} {i : Nat} (hi : i < Ls.length) : Ls.getD i [] ∈ Ls := by
  rw [List.getD_eq_getElem?_getD, List.getElem?_eq_getElem hi]
  exact List.getElem_mem hi
theorem ent_zero {v : Nat → UInt8} {nm : ByteArray} {f l : Nat} (h : okE v) (he : entryOf v = ⟨nm, f, l, false, false⟩) : nm = ⟨#[]⟩ ∧ f = 0 ∧ l = 0 := by
  have hv := h.1
  rw [entryOf_ok h] at he
  unfold Ent.valid at hv
  rw [he] at hv
  simp only [validE, zeroE] at hv
  rcases hv with ⟨h1, h2, h3, _⟩ | ⟨h1, _⟩
  · exact ⟨h1, by omega, by omega⟩
  · exact absurd rfl h1
end Go.Proofs.YtapkckpjeoedaaaGreatDoor
