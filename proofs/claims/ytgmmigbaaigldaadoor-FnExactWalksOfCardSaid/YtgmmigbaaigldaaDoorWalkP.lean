/-
  Disks of chains: the walk along a chain, with the owners of blocks: plain; rows of numbers.
-/
import Derived.Test.YtgmmigbaaigldaaDoorChainC2
import Derived.Test.YtgmmigbaaigldaaDoorIntsP
namespace Go.Proofs.YtgmmigbaaigldaaDoor
open Go Go.ChangeShapes Go.WideShapes Go.ChangeAt Go.RowKit lib
set_option linter.unusedVariables false
set_option maxRecDepth 100000
/-- a walk: its blocks, how it ends, the block where it ends -/
def walkGo (t n : Nat) (L : Nat → Nat) (own : Nat → Int) : Nat → List Nat → Nat → Nat → List Nat × Nat × Nat
  | 0, l, _, _ => (l, 0, 0)
  | m + 1, l, last, a =>
    if t ≤ a ∧ a < n then
      if a ∈ l then (l, 5, last) else
      if 0 ≤ own a then (l, 6, last) else
      if L a = 255 then (l ++ [a], 0, 0) else
      if isOpenN (L a) then (l ++ [a], 7, a) else walkGo t n L own m (l ++ [a]) a (L a)
    else (l, 4, last)
def walkOf (t n : Nat) (L : Nat → Nat) (own : Nat → Int) (first : Nat) : List Nat × Nat × Nat := if first = 0 then ([], 0, 0) else walkGo t n L own (n + 1) [] 0 first
section
variable {t n m a last : Nat} {L : Nat → Nat} {own : Nat → Int} {l : List Nat}
theorem walkGo_range (h : ¬ (t ≤ a ∧ a < n)) : walkGo t n L own (m + 1) l last a = (l, 4, last) := by rw [walkGo, if_neg h]
theorem walkGo_loop (h : t ≤ a ∧ a < n) (h2 : a ∈ l) : walkGo t n L own (m + 1) l last a = (l, 5, last) := by rw [walkGo, if_pos h, if_pos h2]
theorem walkGo_cross (h : t ≤ a ∧ a < n) (h2 : a ∉ l) (h3 : 0 ≤ own a) : walkGo t n L own (m + 1) l last a = (l, 6, last) := by rw [walkGo, if_pos h, if_neg h2, if_pos h3]
theorem walkGo_end (h : t ≤ a ∧ a < n) (h2 : a ∉ l) (h3 : ¬ 0 ≤ own a) (h4 : L a = 255) : walkGo t n L own (m + 1) l last a = (l ++ [a], 0, 0) := by rw [walkGo, if_pos h, if_neg h2, if_neg h3, if_pos h4]
theorem walkGo_open (h : t ≤ a ∧ a < n) (h2 : a ∉ l) (h3 : ¬ 0 ≤ own a) (h5 : isOpenN (L a) = true) : walkGo t n L own (m + 1) l last a = (l ++ [a], 7, a) := by
  have h4 : L a ≠ 255 := by intro h; rw [h] at h5; cases h5
  rw [walkGo, if_pos h, if_neg h2, if_neg h3, if_neg h4, if_pos h5]
theorem walkGo_step (h : t ≤ a ∧ a < n) (h2 : a ∉ l) (h3 : ¬ 0 ≤ own a) (h4 : L a ≠ 255) (h5 : isOpenN (L a) = false) : walkGo t n L own (m + 1) l last a = walkGo t n L own m (l ++ [a]) a (L a) := by
  rw [walkGo, if_pos h, if_neg h2, if_neg h3, if_neg h4, h5, if_neg (by simp)]
end
theorem walkGo_ok {t n : Nat} {L : Nat → Nat} {own : Nat → Int} : ∀ (m : Nat) (l : List Nat) (last a : Nat), ChL t n l → (last = 0 ∨ last < n) → ChL t n (walkGo t n L own m l last a).1 ∧ (walkGo t n L own m l last a).2.1 ≤ 7 ∧ ((walkGo t n L own m l last a).2.2 = 0 ∨ (walkGo t n L own m l last a).2.2 < n)
  | 0, l, last, a, h, hl => ⟨h, by simp [walkGo], .inl rfl⟩
  | m + 1, l, last, a, h, hl => by
    unfold walkGo
    split
    · rename_i h1
      split
      · exact ⟨h, by simp, hl⟩
      · rename_i h2
        split
        · exact ⟨h, by simp, hl⟩
        · split
          · exact ⟨h.snoc h1 h2, by simp, .inl rfl⟩
          · split
            · exact ⟨h.snoc h1 h2, by simp, .inr h1.2⟩
            · exact walkGo_ok m _ _ _ (h.snoc h1 h2) (.inr h1.2)
    · exact ⟨h, by simp, hl⟩
theorem walkOf_ok (t n : Nat) (L : Nat → Nat) (own : Nat → Int) (first : Nat) : ChL t n (walkOf t n L own first).1 ∧ (walkOf t n L own first).2.1 ≤ 7 ∧ ((walkOf t n L own first).2.2 = 0 ∨ (walkOf t n L own first).2.2 < n) := by
  unfold walkOf
  split
  · exact ⟨ChL.nil t n, by simp, .inl rfl⟩
  · exact walkGo_ok _ _ _ _ (ChL.nil t n) (.inl rfl)
/-- the owners behind a walk -/
def setOwn (own : Nat → Int) (l : List Nat) (k : Int) : Nat → Int := fun x => if x ∈ l then k else own x
theorem setOwn_nil (own : Nat → Int) (k : Int) : setOwn own [] k = own := by funext x; simp [setOwn]
theorem setOwn_snoc (own : Nat → Int) (l : List Nat) (a : Nat) (k : Int) : (fun x => if x = a then k else setOwn own l k x) = setOwn own (l ++ [a]) k := by
  funext x
  unfold setOwn
  by_cases h : x = a
  · simp [h]
  · by_cases h2 : x ∈ l <;> simp [h, h2]
/-- a row of numbers -/
def ORow (w : World) (e g n : Nat) (f : Nat → Int) : Prop := ∃ cs : Array Value, Rw w g e cs ∧ cs.size = n ∧ ∀ i, i < n → cs[i]? = some (.int .i64 (f i))
section
variable {w w' : World} {e g n : Nat} {f : Nat → Int}
theorem ORow.lt (h : ORow w e g n f) : g < w.heap.size := by obtain ⟨cs, h, _⟩ := h; exact h.lt
theorem ORow.cell (h : ORow w e g n f) {i : Nat} (hi : i < n) : w.cell? ⟨g, i, none⟩ = some (.int .i64 (f i)) := by
  obtain ⟨cs, h, _, hc⟩ := h
  rw [h.cell i]
  exact hc i hi
theorem ORow.frozen (h : ORow w e g n f) {i : Nat} (hi : i < n) : w.frozen? ⟨g, i, none⟩ = false := by
  obtain ⟨cs, h, hs, hc⟩ := h
  exact h.frozen i
theorem ORow.keep (h : ORow w e g n f) (hk : w'.heap[g]? = w.heap[g]?) : ORow w' e g n f := by
  obtain ⟨cs, h, hc⟩ := h
  exact ⟨cs, hk.trans h, hc⟩
theorem ORow.below {B : Nat} (h : ORow w e g n f) (hb : Below B w w') (hg : g < B) : ORow w' e g n f := h.keep (hb.block g hg)
theorem ORow.grown {row : Option Nat} (h : ORow w e g n f) (hb : w.grownBy w' row) (hg : some g ≠ row) : ORow w' e g n f := h.keep (hb.block g h.lt hg)
theorem ORow.drew (h : ORow w e g n f) : ORow w.drew e g n f := h
theorem ORow.drewN (h : ORow w e g n f) (k : Nat) : ORow (w.drewN k) e g n f := h
theorem ORow.alloc (h : ORow w e g n f) (o : Obj) : ORow (w.alloc o) e g n f := h.keep (Below.heap_alloc w o g h.lt)
theorem ORow.far (h : ORow w e g n f) {p : Addr} (hp : g ≠ p.block) (x : Value) : ORow (w.setCell p x) e g n f := h.keep (Below.heap_setCell w p x g hp)
theorem ORow.set (h : ORow w e g n f) (i : Nat) (y : Int) : ORow (w.setCell ⟨g, i, none⟩ (.int .i64 y)) e g n (fun x => if x = i then y else f x) := by
  obtain ⟨cs, h, hs, hc⟩ := h
  refine ⟨_, h.set i (.int .i64 y), by simpa using hs, fun j hj => ?_⟩
  rw [Array.getElem?_setIfInBounds]
  by_cases hij : i = j
  · subst hij; simp; omega
  · rw [if_neg hij, hc j hj]
    show some _ = some (Value.int .i64 (if j = i then y else f j))
    rw [if_neg (fun h : j = i => hij h.symm)]
theorem ORow.congr {f' : Nat → Int} (h : ORow w e g n f) (he : ∀ i, i < n → f i = f' i) : ORow w e g n f' := by
  obtain ⟨cs, h, hs, hc⟩ := h
  exact ⟨cs, h, hs, fun i hi => by rw [hc i hi, he i hi]⟩
theorem ORow.sl (h : ORow w e g n f) : Sl w w.heap.size (some ⟨g, 0, none⟩) n (fun i => .int .i64 (f i)) := fun i hi => ⟨g, 0, rfl, h.lt, by rw [Nat.zero_add]; exact h.cell hi⟩
theorem ORow.made (w : World) (e n : Nat) : ORow (w.alloc (.cells (madeCells #[.int .i64 0] n) e)) e w.heap.size n (fun _ => 0) :=
  ⟨_, Rw.new w e _, by simp [madeCells], fun i hi => by simp [madeCells, hi, Nat.mod_one]⟩
theorem ORow.own {B : Nat} (h : ORow w e g n f) (hB : B ≤ g) (hn : n ≤ 1099511627776) : w.ownsRow B e 1 (.slice (some ⟨g, 0, none⟩) n n) n ((List.range n).map fun (i : Nat) => Value.int .i64 (f i)) := by
  obtain ⟨cs, h, hs, hc⟩ := h
  refine ⟨by simp, .inr ⟨g, n, cs, rfl, hB, h, Nat.le_refl _, by simp only [maxLen]; omega, by omega, ?_⟩⟩
  apply List.ext_getElem
  · simp; omega
  · intro i h1 h2
    simp at h2
    have := hc i h2
    rw [Array.getElem?_eq_getElem (by omega)] at this
    simp at this ⊢
    exact this
theorem rowset3 {g e : Nat} {a0 a1 a2 : Value} (h : Rw w g e #[a0, a1, a2]) (v0 v1 v2 : Value) :
    (w.setCell ⟨g, 0, none⟩ v0).cell? ⟨g, 0, none⟩ = some v0 ∧ ((w.setCell ⟨g, 0, none⟩ v0).setCell ⟨g, 1, none⟩ v1).cell? ⟨g, 1, none⟩ = some v1 ∧ (((w.setCell ⟨g, 0, none⟩ v0).setCell ⟨g, 1, none⟩ v1).setCell ⟨g, 2, none⟩ v2).cell? ⟨g, 2, none⟩ = some v2 :=
  ⟨(h.set 0 v0).cell 0, ((h.set 0 v0).set 1 v1).cell 1, (((h.set 0 v0).set 1 v1).set 2 v2).cell 2⟩
end
theorem implIsOpen_any (x : Nat) (w : World) : Calls Tryd.prog 103 #[.int .i64 x] w fun r w' => r = .returned (.bool (isOpenN x)) ∧ w' = w := by
  obtain ⟨y, hy⟩ : ∃ y : Int, y = (x : Int) := ⟨_, rfl⟩
  have HY := Lib.hid hy
  rw [← hy]
  clear hy
  have h4 : y = 0 ∨ (y ≠ 0 ∧ y = 253) ∨ (y ≠ 0 ∧ y ≠ 253 ∧ y = 254) ∨ (y ≠ 0 ∧ y ≠ 253 ∧ y ≠ 254) := by omega
  rcases h4 with h1 | ⟨h1, h2⟩ | ⟨h1, h2, h3⟩ | ⟨h1, h2, h3⟩
  · have e1 : (y == 0) = true := by simp [h1]
    have HB := Lib.hid (show isOpenN x = true by have := HY.out; unfold isOpenN; simp; omega)
    clear h1
    go_enter Tryd.func103, Tryd.ntmps103
    go_wp2
    go_ret
    rw [HB.out]
    exact ⟨rfl, rfl⟩
  · have e1 : (y == 0) = false := by simp [h1]
    have e2 : (y == 253) = true := by simp [h2]
    have HB := Lib.hid (show isOpenN x = true by have := HY.out; unfold isOpenN; simp; omega)
    clear h1 h2
    go_enter Tryd.func103, Tryd.ntmps103
    go_wp2
    go_ret
    rw [HB.out]
    exact ⟨rfl, rfl⟩
  · have e1 : (y == 0) = false := by simp [h1]
    have e2 : (y == 253) = false := by simp [h2]
    have e3 : (y == 254) = true := by simp [h3]
    have HB := Lib.hid (show isOpenN x = true by have := HY.out; unfold isOpenN; simp; omega)
    clear h1 h2 h3
    go_enter Tryd.func103, Tryd.ntmps103
    go_wp2
    go_ret
    rw [HB.out]
    exact ⟨rfl, rfl⟩
  · have e1 : (y == 0) = false := by simp [h1]
    have e2 : (y == 253) = false := by simp [h2]
    have e3 : (y == 254) = false := by simp [h3]
    have HB := Lib.hid (show isOpenN x = false by have := HY.out; unfold isOpenN; simp; omega)
    clear h1 h2 h3
    go_enter Tryd.func103, Tryd.ntmps103
    go_wp2
    go_ret
    rw [HB.out]
    exact ⟨rfl, rfl⟩
end Go.Proofs.YtgmmigbaaigldaaDoor
