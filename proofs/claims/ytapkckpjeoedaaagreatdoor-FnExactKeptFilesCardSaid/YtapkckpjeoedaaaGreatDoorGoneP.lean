/-
  Disks of chains: GoneChains, both sides.
  Lists of numbers of the call's own: what keeps them; what the walks ask of a disk; the number of blocks of a file.
  Disks of chains: a name is looked for: plain.
  Disks of chains: the walk along a chain, with the owners of blocks: plain; rows of numbers.
  Disks of chains: the entry of a name, both sides.
-/
import Derived.Test.YtapkckpjeoedaaaGreatDoorEntRS
import Derived.Test.YtapkckpjeoedaaaGreatDoorEntryTop
import Derived.Test.YtapkckpjeoedaaaGreatDoorChC
import Derived.Test.YtapkckpjeoedaaaGreatDoorEntC
namespace Go.Proofs.YtapkckpjeoedaaaGreatDoor
open Go Go.ChangeShapes Go.WideShapes Go.ChangeAt Go.RowKit lib
set_option linter.unusedVariables false
set_option maxRecDepth 100000
/-- entry k of a disk -/
noncomputable def entK (n z : Nat) (U : Nat → UInt8) (k : Nat) : Ent := entryOf (fun i => U (dirN n z * z + k * 12 + i))
/-- the first k entries' numbers: those that are deleted -/
noncomputable def goneL (n z : Nat) (U : Nat → UInt8) : Nat → List Nat
  | 0 => []
  | k + 1 => goneL n z U k ++ (if (entK n z U k).de = true then [k] else [])
theorem goneL_hit {n z : Nat} {U : Nat → UInt8} {k : Nat} (h : (entK n z U k).de = true) : goneL n z U (k + 1) = goneL n z U k ++ [k] := by simp only [goneL, if_pos h]
theorem goneL_miss {n z : Nat} {U : Nat → UInt8} {k : Nat} (h : (entK n z U k).de = false) : goneL n z U (k + 1) = goneL n z U k := by simp [goneL, h]
theorem goneL_le (n z : Nat) (U : Nat → UInt8) : ∀ k, (goneL n z U k).length ≤ k
  | 0 => Nat.le_refl _
  | k + 1 => by
    have := goneL_le n z U k
    simp only [goneL, List.length_append]
    split <;> simp <;> omega
/-- how reading entry k ends: its parts -/
theorem entOut_parts {r : Ending} {w w' : World} {v : Nat → UInt8} (h : EntOut r w w' v) : ∃ (b : Bool) (nm : ByteArray) (f l : Nat) (us de : Bool), (b = true ↔ okE v) ∧ entryOf v = ⟨nm, f, l, us, de⟩ ∧ r = .returned (.tuple #[.agg #[.string nm, .int .i64 f, .int .i64 l, .bool us, .bool de], .bool b]) ∧ Below w.heap.size w w' ∧ nm.size ≤ 8 ∧ f ≤ 255 ∧ l ≤ 512 ∧ (b = false → us = false ∧ de = false) := by
  obtain ⟨b, hb, hr, hw⟩ := h
  obtain ⟨e, he⟩ : ∃ e, entryOf v = e := ⟨_, rfl⟩
  have hf := entryOf_facts v
  rw [he] at hf hr
  obtain ⟨nm, f, l, us, de⟩ := e
  refine ⟨b, nm, f, l, us, de, hb, he, hr, hw, hf.1, hf.2.1, hf.2.2.1, fun hbf => ?_⟩
  have hn : ¬ okE v := fun q => by have := hb.2 q; rw [hbf] at this; cases this
  rw [entryOf_not hn] at he
  unfold ent0 at he
  injection he with _ _ _ h4 h5
  exact ⟨h4.symm, h5.symm⟩
noncomputable def goneOf (n : Nat) (s : Nat → ByteArray) : List Nat := goneL n (s 0).size (joinU (s 0).size s) (entsN n)
end Go.Proofs.YtapkckpjeoedaaaGreatDoor
namespace Go.Proofs.YtapkckpjeoedaaaGreatDoor
open Go Go.ChangeShapes Go.WideShapes Go.ChangeAt Go.RowKit lib
set_option linter.unusedVariables false
set_option maxRecDepth 100000
section
variable {w w' : World} {e : Nat}
theorem own_far {B k : Nat} {v : Value} {xs : List Value} {m : Nat} (h : w.ownsRow B e k v m xs) {p : Addr} (hp : p.block < B) (x : Value) : (w.setCell p x).ownsRow B e k v m xs :=
  h.kept (only_setCell (g := p.block) (only_refl w _) (.inl rfl) x) (by
    cases hv : v.ownBlock with
    | none => exact .inl rfl
    | some g => exact .inr (by have := own_lt h g hv; intro e; injection e; omega))
theorem IntsR.far {B c : Nat} {A : Option Addr} {l : List Nat} (h : IntsR B w A c l) {p : Addr} (hp : p.block < B) (x : Value) : IntsR B (w.setCell p x) A c l := own_far h hp x
theorem IntsR.below {B c : Nat} {A : Option Addr} {l : List Nat} (h : IntsR B w A c l) (hb : Below w.heap.size w w') : IntsR B w' A c l := own_below h hb
theorem IntsR.drew {B c : Nat} {A : Option Addr} {l : List Nat} (h : IntsR B w A c l) : IntsR B w.drew A c l := own_below h (Below.refl _ _).drew
theorem IntsR.base {B B' c : Nat} {A : Option Addr} {l : List Nat} (h : IntsR B w A c l) (hB : B' ≤ B) : IntsR B' w A c l := own_base h hB
end
theorem intsR_snoc {B : Nat} {w' : World} {A : Option Addr} {c a : Nat} {l : List Nat} (h : w'.ownsRow B 2 1 (.slice A (l.length + 1) c) (l.length + 1) ((l.map fun (i : Nat) => Value.int .i64 (i : Int)) ++ [.int .i64 (a : Int)])) : IntsR B w' A c (l ++ [a]) := by
  simpa [IntsR] using h
theorem own_ne {w : World} {B e k n : Nat} {v : Value} {xs : List Value} (h : w.ownsRow B e k v n xs) {q T : Nat} {cs : Array Value} (hr : Rw w q T cs) (hne : e ≠ T) : v.ownBlock = none ∨ v.ownBlock ≠ some q := by
  rcases h.2 with ⟨hv, _⟩ | ⟨g, cap, cur, hv, hb, hg, _⟩
  · left; rw [hv]; rfl
  · right
    rw [hv]
    intro he
    have : g = q := by simpa [Value.ownBlock] using he
    subst this
    unfold Rw at hr
    rw [hg] at hr
    injection hr with hr
    injection hr with _ h2 _
    exact hne h2
theorem own_farR {w : World} {B e k n : Nat} {v : Value} {xs : List Value} (h : w.ownsRow B e k v n xs) {q T : Nat} {cs : Array Value} (hr : Rw w q T cs) (hne : e ≠ T) (j : Nat) (x : Value) : (w.setCell ⟨q, j, none⟩ x).ownsRow B e k v n xs :=
  h.kept (only_setCell (g := q) (p := ⟨q, j, none⟩) (only_refl w _) (.inl rfl) x) (own_ne h hr hne)
section
variable {P : Program} {w w0 : World}
/-- 'out = append(out, x)', x of one cell: only the row's own block has turned -/
theorem wpList_pushG {ops : Array Oper} {rest : List Oper} {o : Oper} {a : Act} {Q : Exit → Act → World → Prop} (s x : Operand) (t : TypeId) (base e : Nat) (z u : Value) (bytes : Nat) (v : Value) (n : Nat) (xs : List Value)
    (hown : w0.ownsRow base e 1 v n xs) (hg : o.guard = none) (hop : o.op = .call { callee := .builtin .append, args := #[s, x], argTypes := #[t, t] })
    (h1 : P.underlying t = some (.slice e)) (hinfo : (P.info? e).map (fun i => (i.zero, i.size, i.bytes)) = some (some z, 1, bytes)) (hz : z.cells.size = 1)
    (hs : a.eval s = v) (hx : a.eval x = .slice (some ⟨w0.heap.size, 0, none⟩) 1 1) (hw : w = w0.alloc (.cells #[u] e)) (hu : u.oneCell' = true) (hn : n ≤ 1099511627776) (hby : bytes ≤ 64) (hbase : base ≤ w0.heap.size)
    (hK : ∀ A' c' w1, w1.ownsRow base e 1 (.slice (some A') (n + 1) c') (n + 1) (xs ++ [u]) → w0.grownBy w1 v.ownBlock → wpList P ops Q rest (a.put o.dst (.slice (some A') (n + 1) c')) w1) :
    wpList P ops Q (o :: rest) a w := by
  obtain ⟨i0, hi, hz0, hz1, hz2⟩ := info_parts hinfo
  subst hw
  have hb : (n + 1) * bytes ≤ 140737488355328 := by
    have := Nat.mul_le_mul (show n + 1 ≤ 1099511627777 by omega) hby
    omega
  refine wpList_append_own _ hg s x t hop base e i0 z 1 bytes h1 hi hz0 hz1 hz2 hz (by decide) v n xs hs (hown.alloc _) ⟨w0.heap.size, 0, none⟩ 1 1 [u] hx rfl ?_ ?_ (by simp only [maxLen]; omega) hb (by simp; omega) ?_
  · intro j q hq
    match j, hq with
    | 0, hq => simp at hq; subst hq; simp [Addr.add, World.cell?_alloc_new]
  · intro q hq; simp at hq; subst hq; exact hu
  · intro v' w1 hown1 hgrow _
    obtain ⟨g, cap, rfl, _, _⟩ := hown1.form (by omega)
    exact hK _ _ _ hown1 (only_trans (only_alloc (only_refl _ _) _) hgrow)
end
theorem rw_grown {w w' : World} {g e : Nat} {cs : Array Value} {row : Option Nat} (h : Rw w g e cs) (hb : w.grownBy w' row) (hg : row = none ∨ row ≠ some g) : Rw w' g e cs :=
  (hb.block g h.lt (fun e => by rcases hg with h | h <;> simp_all)).trans h
/-- two rows are not one -/
def apart (x y : Value) : Prop := x.ownBlock = none ∨ x.ownBlock ≠ y.ownBlock
theorem IntsR.grown {B c : Nat} {w w' : World} {A : Option Addr} {l : List Nat} {row : Option Nat} (h : IntsR B w A c l) (hb : w.grownBy w' row) (hr : (Value.slice A l.length c).ownBlock = none ∨ row ≠ (Value.slice A l.length c).ownBlock) : IntsR B w' A c l :=
  World.ownsRow.kept h hb (hr.imp id fun h e => h e.symm)
theorem own_not {B c o : Nat} {w : World} {A : Option Addr} {l : List Nat} (h : IntsR B w A c l) (ho : o < B) : (Value.slice A l.length c).ownBlock = none ∨ some o ≠ (Value.slice A l.length c).ownBlock := by
  cases hv : (Value.slice A l.length c).ownBlock with
  | none => exact .inl rfl
  | some j => exact .inr (fun e => by have := own_lt h j hv; injection e; omega)
theorem IntsR.cap {B c : Nat} {w : World} {A : Option Addr} {l : List Nat} (h : IntsR B w A c l) : l.length ≤ c := by
  rcases h.2 with ⟨hv, h0⟩ | ⟨g, cap, cur, hv, hb, hg, hnc, _⟩
  · omega
  · injection hv with _ _ h3
    omega
theorem chw_far {w : World} {p g n z e d t N c q : Nat} {u : Nat → UInt8} (h : ChW w p g n z e d t N c u) (hp : p ≠ q) (hg : g ≠ q) (j : Nat) (x : Value) : ChW (w.setCell ⟨q, j, none⟩ x) p g n z e d t N c u :=
  h.keep (Below.heap_setCell w ⟨q, j, none⟩ x p hp) (by simp [World.setCell]) (h.row.keep (Below.heap_setCell w ⟨q, j, none⟩ x g hg))
theorem tE1 : 2 ≠ 82 := by decide
theorem IntsR.take {B c : Nat} {w : World} {A : Option Addr} {l : List Nat} (h : IntsR B w A c l) {m : Nat} (hm : m ≤ l.length) : IntsR B w A c (l.take m) := by
  have hl : (l.take m).length = m := by simp; omega
  unfold IntsR at h ⊢
  rw [hl]
  refine ⟨by simp; omega, ?_⟩
  rcases h.2 with ⟨hv, h0⟩ | ⟨g, cap, cur, hv, hb, hg, hnc, hmx, hcs, ht⟩
  · injection hv with h1 h2 h3
    subst h1 h3
    have : m = 0 := by omega
    subst this
    exact .inl ⟨rfl, rfl⟩
  · injection hv with h1 h2 h3
    subst h1 h3
    refine .inr ⟨g, c, cur, rfl, hb, hg, by omega, hmx, hcs, ?_⟩
    rw [Nat.mul_one] at ht ⊢
    have : cur.toList.take m = (cur.toList.take l.length).take m := by rw [List.take_take, Nat.min_eq_left hm]
    rw [this, ht, List.map_take]
/-- the number of blocks of a file -/
def needN (z l : Nat) : Nat := (l + z - 1) / z
theorem need_short {z l m : Nat} (hz : 0 < z) (h : m < needN z l) : m * z < l := by
  unfold needN at h
  have h1 := Nat.div_add_mod (l + z - 1) z
  have h2 := Nat.mul_le_mul_left z (show m + 1 ≤ (l + z - 1) / z by omega)
  rw [Nat.mul_add, Nat.mul_comm z m] at h2
  omega
/-- what the walks ask of a disk -/
theorem walk_fit {n : Nat} {s : Nat → ByteArray} (h : ShapeS 8 n s) : n ≤ 128 ∧ (s 0).size + n ≤ n * (s 0).size ∧ n * (s 0).size ≤ 4096 ∧ entsN n ≤ 16 ∧ dataN n (s 0).size ≤ n ∧ ∀ k, k < entsN n → dirN n (s 0).size * (s 0).size + k * 12 + 12 ≤ n * (s 0).size := by
  have hf := shape_facts h
  refine ⟨hf.2.1, by have := hf.2.2.1; omega, by have := hf.2.2.2.1; omega, by unfold entsN; omega, hf.1, fun k hk => (fit_facts h hk).1⟩
theorem sizeI_any (A : Option Addr) (n c : Nat) (w : World) (hn : n ≤ 9223372036854775807) : Calls Tryz.prog 60 #[.slice A n c] w fun e w' => e = .returned (.int .i64 n) ∧ w' = w := by
  go_enter Tryz.func60, Tryz.ntmps60
  go_wp2
  go_ret
  exact ⟨rfl, rfl⟩
theorem specNeed_any {w : World} {p g n z E d t N c : Nat} {u : Nat → UInt8} (l : Nat) (h : ChW w p g n z E d t N c u) (hz : 0 < z) (hz2 : z ≤ 64) (hl : l ≤ 512) :
    Calls Tryz.prog 81 #[.pointer (some ⟨p, 0, none⟩), .int .i64 l] w fun r w' => r = .returned (.int .i64 (needN z l : Nat)) ∧ w' = w.drew := by
  have c1 := h.c1
  have e1 : IntKind.i64.wrap ((l : Int) + z) = (l : Int) + z := by rw [IntKind.wrap_i64]; omega
  have e2 : IntKind.i64.wrap ((l : Int) + z - 1) = (l : Int) + z - 1 := by rw [IntKind.wrap_i64]; omega
  have e0 : ¬ ((z : Int) = 0) := by omega
  have e3 : ((l : Int) + z - 1).tdiv z = (needN z l : Nat) := by
    rw [Int.tdiv_eq_ediv_of_nonneg (by omega)]
    unfold needN
    rw [show (l : Int) + z - 1 = ((l + z - 1 : Nat) : Int) by omega]
    rfl
  have e4 : IntKind.i64.wrap ((needN z l : Nat) : Int) = ((needN z l : Nat) : Int) := by
    have : needN z l ≤ l + z - 1 := Nat.div_le_self _ _
    rw [IntKind.wrap_i64]; omega
  have e5 : ((l : Int) + z - 1) / z = (needN z l : Nat) := by rw [← e3, Int.tdiv_eq_ediv_of_nonneg (by omega)]
  clear h
  go_enter Tryz.func81, Tryz.ntmps81
  go_wp2_with fail
  go_region
  go_wp2
  go_ret
  exact ⟨ret_int (by first | rfl | simp [e5]), rfl⟩
end Go.Proofs.YtapkckpjeoedaaaGreatDoor
namespace Go.Proofs.YtapkckpjeoedaaaGreatDoor
open Go Go.ChangeShapes Go.WideShapes Go.ChangeAt Go.RowKit lib
set_option linter.unusedVariables false
set_option maxRecDepth 100000
/-- whether one of the first m entries is used and bears a name -/
def namedTo (n z : Nat) (U : Nat → UInt8) (nm : ByteArray) (m : Nat) : Prop := ∃ i, i < m ∧ (entK n z U i).us = true ∧ (entK n z U i).nm = nm
theorem namedTo_succ {n z : Nat} {U : Nat → UInt8} {nm : ByteArray} {m : Nat} (h : ¬ namedTo n z U nm m) (h2 : ¬ ((entK n z U m).us = true ∧ (entK n z U m).nm = nm)) : ¬ namedTo n z U nm (m + 1) := by
  rintro ⟨i, hi, h3⟩
  rcases Nat.lt_or_ge i m with h4 | h4
  · exact h ⟨i, h4, h3⟩
  · obtain rfl : i = m := by omega
    exact h2 h3
theorem named_same {n z : Nat} {U : Nat → UInt8} {nm : ByteArray} {m : Nat} (h : (entK n z U m).us = false) : namedTo n z U nm m ↔ namedTo n z U nm (m + 1) := by
  constructor
  · rintro ⟨i, hi, h3⟩
    exact ⟨i, by omega, h3⟩
  · rintro ⟨i, hi, h3⟩
    rcases Nat.lt_or_ge i m with h4 | h4
    · exact ⟨i, h4, h3⟩
    · obtain rfl : i = m := by omega
      rw [h] at h3
      cases h3.1
theorem named_more {n z : Nat} {U : Nat → UInt8} {nm : ByteArray} {m : Nat} (h : (entK n z U m).us = true) : namedTo n z U nm (m + 1) ↔ (namedTo n z U nm m ∨ nm = (entK n z U m).nm) := by
  constructor
  · rintro ⟨i, hi, h3⟩
    rcases Nat.lt_or_ge i m with h4 | h4
    · exact .inl ⟨i, h4, h3⟩
    · obtain rfl : i = m := by omega
      exact .inr h3.2.symm
  · rintro (⟨i, hi, h3⟩ | h1)
    · exact ⟨i, by omega, h3⟩
    · exact ⟨m, by omega, h, h1.symm⟩
end Go.Proofs.YtapkckpjeoedaaaGreatDoor
namespace Go.Proofs.YtapkckpjeoedaaaGreatDoor
open Go Go.ChangeShapes Go.WideShapes Go.ChangeAt Go.RowKit lib
set_option linter.unusedVariables false
set_option maxRecDepth 100000
/-- a walk: its blocks, how it ends, the block where it ends -/
def walkGo (t n : Nat) (L : Nat → Nat) (own : Nat → Int) : Nat → List Nat → Nat → Nat → List Nat × Nat × Nat
  | 0, l, _, _ => (l, 0, 0)
  | m + 1, l, last, a =>
    if t ≤ a ∧ a < n then
      if a ∈ l then (l, 5, last) else
      if 0 ≤ own a then (l, 6, last) else
      if L a = 255 then (l ++ [a], 0, 0) else
      if isOpenN (L a) then (l ++ [a], 7, a) else walkGo t n L own m (l ++ [a]) a (L a)
    else (l, 4, last)
def walkOf (t n : Nat) (L : Nat → Nat) (own : Nat → Int) (first : Nat) : List Nat × Nat × Nat := if first = 0 then ([], 0, 0) else walkGo t n L own (n + 1) [] 0 first
section
variable {t n m a last : Nat} {L : Nat → Nat} {own : Nat → Int} {l : List Nat}
theorem walkGo_range (h : ¬ (t ≤ a ∧ a < n)) : walkGo t n L own (m + 1) l last a = (l, 4, last) := by rw [walkGo, if_neg h]
theorem walkGo_loop (h : t ≤ a ∧ a < n) (h2 : a ∈ l) : walkGo t n L own (m + 1) l last a = (l, 5, last) := by rw [walkGo, if_pos h, if_pos h2]
theorem walkGo_cross (h : t ≤ a ∧ a < n) (h2 : a ∉ l) (h3 : 0 ≤ own a) : walkGo t n L own (m + 1) l last a = (l, 6, last) := by rw [walkGo, if_pos h, if_neg h2, if_pos h3]
theorem walkGo_end (h : t ≤ a ∧ a < n) (h2 : a ∉ l) (h3 : ¬ 0 ≤ own a) (h4 : L a = 255) : walkGo t n L own (m + 1) l last a = (l ++ [a], 0, 0) := by rw [walkGo, if_pos h, if_neg h2, if_neg h3, if_pos h4]
theorem walkGo_open (h : t ≤ a ∧ a < n) (h2 : a ∉ l) (h3 : ¬ 0 ≤ own a) (h5 : isOpenN (L a) = true) : walkGo t n L own (m + 1) l last a = (l ++ [a], 7, a) := by
  have h4 : L a ≠ 255 := by intro h; rw [h] at h5; cases h5
  rw [walkGo, if_pos h, if_neg h2, if_neg h3, if_neg h4, if_pos h5]
theorem walkGo_step (h : t ≤ a ∧ a < n) (h2 : a ∉ l) (h3 : ¬ 0 ≤ own a) (h4 : L a ≠ 255) (h5 : isOpenN (L a) = false) : walkGo t n L own (m + 1) l last a = walkGo t n L own m (l ++ [a]) a (L a) := by
  rw [walkGo, if_pos h, if_neg h2, if_neg h3, if_neg h4, h5, if_neg (by simp)]
end
theorem walkGo_ok {t n : Nat} {L : Nat → Nat} {own : Nat → Int} : ∀ (m : Nat) (l : List Nat) (last a : Nat), ChL t n l → (last = 0 ∨ last < n) → ChL t n (walkGo t n L own m l last a).1 ∧ (walkGo t n L own m l last a).2.1 ≤ 7 ∧ ((walkGo t n L own m l last a).2.2 = 0 ∨ (walkGo t n L own m l last a).2.2 < n)
  | 0, l, last, a, h, hl => ⟨h, by simp [walkGo], .inl rfl⟩
  | m + 1, l, last, a, h, hl => by
    unfold walkGo
    split
    · rename_i h1
      split
      · exact ⟨h, by simp, hl⟩
      · rename_i h2
        split
        · exact ⟨h, by simp, hl⟩
        · split
          · exact ⟨h.snoc h1 h2, by simp, .inl rfl⟩
          · split
            · exact ⟨h.snoc h1 h2, by simp, .inr h1.2⟩
            · exact walkGo_ok m _ _ _ (h.snoc h1 h2) (.inr h1.2)
    · exact ⟨h, by simp, hl⟩
theorem walkOf_ok (t n : Nat) (L : Nat → Nat) (own : Nat → Int) (first : Nat) : ChL t n (walkOf t n L own first).1 ∧ (walkOf t n L own first).2.1 ≤ 7 ∧ ((walkOf t n L own first).2.2 = 0 ∨ (walkOf t n L own first).2.2 < n) := by
  unfold walkOf
  split
  · exact ⟨ChL.nil t n, by simp, .inl rfl⟩
  · exact walkGo_ok _ _ _ _ (ChL.nil t n) (.inl rfl)
/-- the owners behind a walk -/
def setOwn (own : Nat → Int) (l : List Nat) (k : Int) : Nat → Int := fun x => if x ∈ l then k else own x
theorem setOwn_nil (own : Nat → Int) (k : Int) : setOwn own [] k = own := by funext x; simp [setOwn]
theorem setOwn_snoc (own : Nat → Int) (l : List Nat) (a : Nat) (k : Int) : (fun x => if x = a then k else setOwn own l k x) = setOwn own (l ++ [a]) k := by
  funext x
  unfold setOwn
  by_cases h : x = a
  · simp [h]
  · by_cases h2 : x ∈ l <;> simp [h, h2]
/-- a row of numbers -/
def ORow (w : World) (e g n : Nat) (f : Nat → Int) : Prop := ∃ cs : Array Value, Rw w g e cs ∧ cs.size = n ∧ ∀ i, i < n → cs[i]? = some (.int .i64 (f i))
section
variable {w w' : World} {e g n : Nat} {f : Nat → Int}
theorem ORow.lt (h : ORow w e g n f) : g < w.heap.size := by obtain ⟨cs, h, _⟩ := h; exact h.lt
theorem ORow.cell (h : ORow w e g n f) {i : Nat} (hi : i < n) : w.cell? ⟨g, i, none⟩ = some (.int .i64 (f i)) := by
  obtain ⟨cs, h, _, hc⟩ := h
  rw [h.cell i]
  exact hc i hi
theorem ORow.frozen (h : ORow w e g n f) {i : Nat} (hi : i < n) : w.frozen? ⟨g, i, none⟩ = false := by
  obtain ⟨cs, h, hs, hc⟩ := h
  exact h.frozen i
theorem ORow.keep (h : ORow w e g n f) (hk : w'.heap[g]? = w.heap[g]?) : ORow w' e g n f := by
  obtain ⟨cs, h, hc⟩ := h
  exact ⟨cs, hk.trans h, hc⟩
theorem ORow.below {B : Nat} (h : ORow w e g n f) (hb : Below B w w') (hg : g < B) : ORow w' e g n f := h.keep (hb.block g hg)
theorem ORow.grown {row : Option Nat} (h : ORow w e g n f) (hb : w.grownBy w' row) (hg : some g ≠ row) : ORow w' e g n f := h.keep (hb.block g h.lt hg)
theorem ORow.drew (h : ORow w e g n f) : ORow w.drew e g n f := h
theorem ORow.drewN (h : ORow w e g n f) (k : Nat) : ORow (w.drewN k) e g n f := h
theorem ORow.alloc (h : ORow w e g n f) (o : Obj) : ORow (w.alloc o) e g n f := h.keep (Below.heap_alloc w o g h.lt)
theorem ORow.far (h : ORow w e g n f) {p : Addr} (hp : g ≠ p.block) (x : Value) : ORow (w.setCell p x) e g n f := h.keep (Below.heap_setCell w p x g hp)
theorem ORow.set (h : ORow w e g n f) (i : Nat) (y : Int) : ORow (w.setCell ⟨g, i, none⟩ (.int .i64 y)) e g n (fun x => if x = i then y else f x) := by
  obtain ⟨cs, h, hs, hc⟩ := h
  refine ⟨_, h.set i (.int .i64 y), by simpa using hs, fun j hj => ?_⟩
  rw [Array.getElem?_setIfInBounds]
  by_cases hij : i = j
  · subst hij; simp; omega
  · rw [if_neg hij, hc j hj]
    show some _ = some (Value.int .i64 (if j = i then y else f j))
    rw [if_neg (fun h : j = i => hij h.symm)]
theorem ORow.congr {f' : Nat → Int} (h : ORow w e g n f) (he : ∀ i, i < n → f i = f' i) : ORow w e g n f' := by
  obtain ⟨cs, h, hs, hc⟩ := h
  exact ⟨cs, h, hs, fun i hi => by rw [hc i hi, he i hi]⟩
theorem ORow.sl (h : ORow w e g n f) : Sl w w.heap.size (some ⟨g, 0, none⟩) n (fun i => .int .i64 (f i)) := fun i hi => ⟨g, 0, rfl, h.lt, by rw [Nat.zero_add]; exact h.cell hi⟩
theorem ORow.made (w : World) (e n : Nat) : ORow (w.alloc (.cells (madeCells #[.int .i64 0] n) e)) e w.heap.size n (fun _ => 0) :=
  ⟨_, Rw.new w e _, by simp [madeCells], fun i hi => by simp [madeCells, hi, Nat.mod_one]⟩
theorem ORow.own {B : Nat} (h : ORow w e g n f) (hB : B ≤ g) (hn : n ≤ 1099511627776) : w.ownsRow B e 1 (.slice (some ⟨g, 0, none⟩) n n) n ((List.range n).map fun (i : Nat) => Value.int .i64 (f i)) := by
  obtain ⟨cs, h, hs, hc⟩ := h
  refine ⟨by simp, .inr ⟨g, n, cs, rfl, hB, h, Nat.le_refl _, by simp only [maxLen]; omega, by omega, ?_⟩⟩
  apply List.ext_getElem
  · simp; omega
  · intro i h1 h2
    simp at h2
    have := hc i h2
    rw [Array.getElem?_eq_getElem (by omega)] at this
    simp at this ⊢
    exact this
theorem rowset3 {g e : Nat} {a0 a1 a2 : Value} (h : Rw w g e #[a0, a1, a2]) (v0 v1 v2 : Value) :
    (w.setCell ⟨g, 0, none⟩ v0).cell? ⟨g, 0, none⟩ = some v0 ∧ ((w.setCell ⟨g, 0, none⟩ v0).setCell ⟨g, 1, none⟩ v1).cell? ⟨g, 1, none⟩ = some v1 ∧ (((w.setCell ⟨g, 0, none⟩ v0).setCell ⟨g, 1, none⟩ v1).setCell ⟨g, 2, none⟩ v2).cell? ⟨g, 2, none⟩ = some v2 :=
  ⟨(h.set 0 v0).cell 0, ((h.set 0 v0).set 1 v1).cell 1, (((h.set 0 v0).set 1 v1).set 2 v2).cell 2⟩
end
theorem implIsOpen_any (x : Nat) (w : World) : Calls Tryz.prog 131 #[.int .i64 x] w fun r w' => r = .returned (.bool (isOpenN x)) ∧ w' = w := by
  obtain ⟨y, hy⟩ : ∃ y : Int, y = (x : Int) := ⟨_, rfl⟩
  have HY := Lib.hid hy
  rw [← hy]
  clear hy
  have h4 : y = 0 ∨ (y ≠ 0 ∧ y = 253) ∨ (y ≠ 0 ∧ y ≠ 253 ∧ y = 254) ∨ (y ≠ 0 ∧ y ≠ 253 ∧ y ≠ 254) := by omega
  rcases h4 with h1 | ⟨h1, h2⟩ | ⟨h1, h2, h3⟩ | ⟨h1, h2, h3⟩
  · have e1 : (y == 0) = true := by simp [h1]
    have HB := Lib.hid (show isOpenN x = true by have := HY.out; unfold isOpenN; simp; omega)
    clear h1
    go_enter Tryz.func131, Tryz.ntmps131
    go_wp2
    go_ret
    rw [HB.out]
    exact ⟨rfl, rfl⟩
  · have e1 : (y == 0) = false := by simp [h1]
    have e2 : (y == 253) = true := by simp [h2]
    have HB := Lib.hid (show isOpenN x = true by have := HY.out; unfold isOpenN; simp; omega)
    clear h1 h2
    go_enter Tryz.func131, Tryz.ntmps131
    go_wp2
    go_ret
    rw [HB.out]
    exact ⟨rfl, rfl⟩
  · have e1 : (y == 0) = false := by simp [h1]
    have e2 : (y == 253) = false := by simp [h2]
    have e3 : (y == 254) = true := by simp [h3]
    have HB := Lib.hid (show isOpenN x = true by have := HY.out; unfold isOpenN; simp; omega)
    clear h1 h2 h3
    go_enter Tryz.func131, Tryz.ntmps131
    go_wp2
    go_ret
    rw [HB.out]
    exact ⟨rfl, rfl⟩
  · have e1 : (y == 0) = false := by simp [h1]
    have e2 : (y == 253) = false := by simp [h2]
    have e3 : (y == 254) = false := by simp [h3]
    have HB := Lib.hid (show isOpenN x = false by have := HY.out; unfold isOpenN; simp; omega)
    clear h1 h2 h3
    go_enter Tryz.func131, Tryz.ntmps131
    go_wp2
    go_ret
    rw [HB.out]
    exact ⟨rfl, rfl⟩
end Go.Proofs.YtapkckpjeoedaaaGreatDoor
namespace Go.Proofs.YtapkckpjeoedaaaGreatDoor
open Go Go.ChangeShapes Go.WideShapes Go.ChangeAt Go.RowKit lib
set_option linter.unusedVariables false
set_option maxRecDepth 100000
/-- whether entry k is well formed -/
def okK (n z : Nat) (U : Nat → UInt8) (k : Nat) : Prop := okE (fun i => U (dirN n z * z + k * 12 + i))
open Classical in
/-- the entry of a name among m entries from k on, and a code -/
noncomputable def findGo (n z : Nat) (U : Nat → UInt8) (nm : ByteArray) : Nat → Nat → Nat × Nat
  | 0, _ => (0, 3)
  | m + 1, k => if okK n z U k then if (entK n z U k).us = true ∧ (entK n z U k).nm = nm then (k, 0) else findGo n z U nm m (k + 1) else (0, 7)
section
variable {n z : Nat} {U : Nat → UInt8} {nm : ByteArray} {m k : Nat}
theorem findGo_bad (h : ¬ okK n z U k) : findGo n z U nm (m + 1) k = (0, 7) := by rw [findGo, if_neg h]
theorem findGo_hit (h : okK n z U k) (h2 : (entK n z U k).us = true ∧ (entK n z U k).nm = nm) : findGo n z U nm (m + 1) k = (k, 0) := by rw [findGo, if_pos h, if_pos h2]
theorem findGo_next (h : okK n z U k) (h2 : ¬ ((entK n z U k).us = true ∧ (entK n z U k).nm = nm)) : findGo n z U nm (m + 1) k = findGo n z U nm m (k + 1) := by rw [findGo, if_pos h, if_neg h2]
end
theorem findGo_ok {n z : Nat} {U : Nat → UInt8} {nm : ByteArray} : ∀ (m k : Nat), ((findGo n z U nm m k).2 = 0 → k ≤ (findGo n z U nm m k).1 ∧ (findGo n z U nm m k).1 < k + m ∧ okK n z U (findGo n z U nm m k).1 ∧ (entK n z U (findGo n z U nm m k).1).us = true) ∧ ((findGo n z U nm m k).2 = 0 ∨ (findGo n z U nm m k).2 = 3 ∨ (findGo n z U nm m k).2 = 7) ∧ ((findGo n z U nm m k).2 ≠ 0 → (findGo n z U nm m k).1 = 0)
  | 0, k => by simp [findGo]
  | m + 1, k => by
    unfold findGo
    split
    · rename_i h
      split
      · rename_i h2
        exact ⟨fun _ => ⟨Nat.le_refl _, by omega, h, h2.1⟩, .inl rfl, fun h => absurd rfl h⟩
      · have := findGo_ok (n := n) (z := z) (U := U) (nm := nm) m (k + 1)
        exact ⟨fun h => by have := this.1 h; exact ⟨by omega, by omega, this.2.2⟩, this.2⟩
    · exact ⟨fun h => absurd h (by simp), .inr (.inr rfl), fun _ => rfl⟩
/-- the entry that goes with a find -/
noncomputable def findE (n z : Nat) (U : Nat → UInt8) (r : Nat × Nat) : Ent := if r.2 = 0 then entK n z U r.1 else ent0
end Go.Proofs.YtapkckpjeoedaaaGreatDoor
