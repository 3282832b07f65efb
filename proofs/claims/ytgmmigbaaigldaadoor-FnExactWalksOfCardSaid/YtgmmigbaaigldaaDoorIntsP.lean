/-
  Lists of numbers of the call's own: what keeps them; what the walks ask of a disk; the number of blocks of a file.
-/
import Derived.Test.YtgmmigbaaigldaaDoorGoneTop
import Derived.Test.YtgmmigbaaigldaaDoorEntryG
namespace Go.Proofs.YtgmmigbaaigldaaDoor
open Go Go.ChangeShapes Go.WideShapes Go.ChangeAt Go.RowKit lib
set_option linter.unusedVariables false
set_option maxRecDepth 100000
section
variable {w w' : World} {e : Nat}
theorem own_far {B k : Nat} {v : Value} {xs : List Value} {m : Nat} (h : w.ownsRow B e k v m xs) {p : Addr} (hp : p.block < B) (x : Value) : (w.setCell p x).ownsRow B e k v m xs :=
  h.kept (only_setCell (g := p.block) (only_refl w _) (.inl rfl) x) (by
    cases hv : v.ownBlock with
    | none => exact .inl rfl
    | some g => exact .inr (by have := own_lt h g hv; intro e; injection e; omega))
theorem IntsR.far {B c : Nat} {A : Option Addr} {l : List Nat} (h : IntsR B w A c l) {p : Addr} (hp : p.block < B) (x : Value) : IntsR B (w.setCell p x) A c l := own_far h hp x
theorem IntsR.below {B c : Nat} {A : Option Addr} {l : List Nat} (h : IntsR B w A c l) (hb : Below w.heap.size w w') : IntsR B w' A c l := own_below h hb
theorem IntsR.drew {B c : Nat} {A : Option Addr} {l : List Nat} (h : IntsR B w A c l) : IntsR B w.drew A c l := own_below h (Below.refl _ _).drew
theorem IntsR.base {B B' c : Nat} {A : Option Addr} {l : List Nat} (h : IntsR B w A c l) (hB : B' ≤ B) : IntsR B' w A c l := own_base h hB
end
theorem intsR_snoc {B : Nat} {w' : World} {A : Option Addr} {c a : Nat} {l : List Nat} (h : w'.ownsRow B 2 1 (.slice A (l.length + 1) c) (l.length + 1) ((l.map fun (i : Nat) => Value.int .i64 (i : Int)) ++ [.int .i64 (a : Int)])) : IntsR B w' A c (l ++ [a]) := by
  simpa [IntsR] using h
theorem own_ne {w : World} {B e k n : Nat} {v : Value} {xs : List Value} (h : w.ownsRow B e k v n xs) {q T : Nat} {cs : Array Value} (hr : Rw w q T cs) (hne : e ≠ T) : v.ownBlock = none ∨ v.ownBlock ≠ some q := by
  rcases h.2 with ⟨hv, _⟩ | ⟨g, cap, cur, hv, hb, hg, _⟩
  · left; rw [hv]; rfl
  · right
    rw [hv]
    intro he
    have : g = q := by simpa [Value.ownBlock] using he
    subst this
    unfold Rw at hr
    rw [hg] at hr
    injection hr with hr
    injection hr with _ h2 _
    exact hne h2
theorem own_farR {w : World} {B e k n : Nat} {v : Value} {xs : List Value} (h : w.ownsRow B e k v n xs) {q T : Nat} {cs : Array Value} (hr : Rw w q T cs) (hne : e ≠ T) (j : Nat) (x : Value) : (w.setCell ⟨q, j, none⟩ x).ownsRow B e k v n xs :=
  h.kept (only_setCell (g := q) (p := ⟨q, j, none⟩) (only_refl w _) (.inl rfl) x) (own_ne h hr hne)
section
variable {P : Program} {w w0 : World}
/-- 'out = append(out, x)', x of one cell: only the row's own block has turned -/
theorem wpList_pushG {ops : Array Oper} {rest : List Oper} {o : Oper} {a : Act} {Q : Exit → Act → World → Prop} (s x : Operand) (t : TypeId) (base e : Nat) (z u : Value) (bytes : Nat) (v : Value) (n : Nat) (xs : List Value)
    (hown : w0.ownsRow base e 1 v n xs) (hg : o.guard = none) (hop : o.op = .call { callee := .builtin .append, args := #[s, x], argTypes := #[t, t] })
    (h1 : P.underlying t = some (.slice e)) (hinfo : (P.info? e).map (fun i => (i.zero, i.size, i.bytes)) = some (some z, 1, bytes)) (hz : z.cells.size = 1)
    (hs : a.eval s = v) (hx : a.eval x = .slice (some ⟨w0.heap.size, 0, none⟩) 1 1) (hw : w = w0.alloc (.cells #[u] e)) (hu : u.oneCell' = true) (hn : n ≤ 1099511627776) (hby : bytes ≤ 64) (hbase : base ≤ w0.heap.size)
    (hK : ∀ A' c' w1, w1.ownsRow base e 1 (.slice (some A') (n + 1) c') (n + 1) (xs ++ [u]) → w0.grownBy w1 v.ownBlock → wpList P ops Q rest (a.put o.dst (.slice (some A') (n + 1) c')) w1) :
    wpList P ops Q (o :: rest) a w := by
  obtain ⟨i0, hi, hz0, hz1, hz2⟩ := info_parts hinfo
  subst hw
  have hb : (n + 1) * bytes ≤ 140737488355328 := by
    have := Nat.mul_le_mul (show n + 1 ≤ 1099511627777 by omega) hby
    omega
  refine wpList_append_own _ hg s x t hop base e i0 z 1 bytes h1 hi hz0 hz1 hz2 hz (by decide) v n xs hs (hown.alloc _) ⟨w0.heap.size, 0, none⟩ 1 1 [u] hx rfl ?_ ?_ (by simp only [maxLen]; omega) hb (by simp; omega) ?_
  · intro j q hq
    match j, hq with
    | 0, hq => simp at hq; subst hq; simp [Addr.add, World.cell?_alloc_new]
  · intro q hq; simp at hq; subst hq; exact hu
  · intro v' w1 hown1 hgrow _
    obtain ⟨g, cap, rfl, _, _⟩ := hown1.form (by omega)
    exact hK _ _ _ hown1 (only_trans (only_alloc (only_refl _ _) _) hgrow)
end
theorem rw_grown {w w' : World} {g e : Nat} {cs : Array Value} {row : Option Nat} (h : Rw w g e cs) (hb : w.grownBy w' row) (hg : row = none ∨ row ≠ some g) : Rw w' g e cs :=
  (hb.block g h.lt (fun e => by rcases hg with h | h <;> simp_all)).trans h
/-- two rows are not one -/
def apart (x y : Value) : Prop := x.ownBlock = none ∨ x.ownBlock ≠ y.ownBlock
theorem IntsR.grown {B c : Nat} {w w' : World} {A : Option Addr} {l : List Nat} {row : Option Nat} (h : IntsR B w A c l) (hb : w.grownBy w' row) (hr : (Value.slice A l.length c).ownBlock = none ∨ row ≠ (Value.slice A l.length c).ownBlock) : IntsR B w' A c l :=
  World.ownsRow.kept h hb (hr.imp id fun h e => h e.symm)
theorem own_not {B c o : Nat} {w : World} {A : Option Addr} {l : List Nat} (h : IntsR B w A c l) (ho : o < B) : (Value.slice A l.length c).ownBlock = none ∨ some o ≠ (Value.slice A l.length c).ownBlock := by
  cases hv : (Value.slice A l.length c).ownBlock with
  | none => exact .inl rfl
  | some j => exact .inr (fun e => by have := own_lt h j hv; injection e; omega)
theorem IntsR.cap {B c : Nat} {w : World} {A : Option Addr} {l : List Nat} (h : IntsR B w A c l) : l.length ≤ c := by
  rcases h.2 with ⟨hv, h0⟩ | ⟨g, cap, cur, hv, hb, hg, hnc, _⟩
  · omega
  · injection hv with _ _ h3
    omega
theorem chw_far {w : World} {p g n z e d t N c q : Nat} {u : Nat → UInt8} (h : ChW w p g n z e d t N c u) (hp : p ≠ q) (hg : g ≠ q) (j : Nat) (x : Value) : ChW (w.setCell ⟨q, j, none⟩ x) p g n z e d t N c u :=
  h.keep (Below.heap_setCell w ⟨q, j, none⟩ x p hp) (by simp [World.setCell]) (h.row.keep (Below.heap_setCell w ⟨q, j, none⟩ x g hg))
theorem tE1 : 2 ≠ 77 := by decide
theorem IntsR.take {B c : Nat} {w : World} {A : Option Addr} {l : List Nat} (h : IntsR B w A c l) {m : Nat} (hm : m ≤ l.length) : IntsR B w A c (l.take m) := by
  have hl : (l.take m).length = m := by simp; omega
  unfold IntsR at h ⊢
  rw [hl]
  refine ⟨by simp; omega, ?_⟩
  rcases h.2 with ⟨hv, h0⟩ | ⟨g, cap, cur, hv, hb, hg, hnc, hmx, hcs, ht⟩
  · injection hv with h1 h2 h3
    subst h1 h3
    have : m = 0 := by omega
    subst this
    exact .inl ⟨rfl, rfl⟩
  · injection hv with h1 h2 h3
    subst h1 h3
    refine .inr ⟨g, c, cur, rfl, hb, hg, by omega, hmx, hcs, ?_⟩
    rw [Nat.mul_one] at ht ⊢
    have : cur.toList.take m = (cur.toList.take l.length).take m := by rw [List.take_take, Nat.min_eq_left hm]
    rw [this, ht, List.map_take]
/-- the number of blocks of a file -/
def needN (z l : Nat) : Nat := (l + z - 1) / z
theorem need_short {z l m : Nat} (hz : 0 < z) (h : m < needN z l) : m * z < l := by
  unfold needN at h
  have h1 := Nat.div_add_mod (l + z - 1) z
  have h2 := Nat.mul_le_mul_left z (show m + 1 ≤ (l + z - 1) / z by omega)
  rw [Nat.mul_add, Nat.mul_comm z m] at h2
  omega
/-- what the walks ask of a disk -/
theorem walk_fit {n : Nat} {s : Nat → ByteArray} (h : ShapeS 8 n s) : n ≤ 128 ∧ (s 0).size + n ≤ n * (s 0).size ∧ n * (s 0).size ≤ 4096 ∧ entsN n ≤ 16 ∧ dataN n (s 0).size ≤ n ∧ ∀ k, k < entsN n → dirN n (s 0).size * (s 0).size + k * 12 + 12 ≤ n * (s 0).size := by
  have hf := shape_facts h
  refine ⟨hf.2.1, by have := hf.2.2.1; omega, by have := hf.2.2.2.1; omega, by unfold entsN; omega, hf.1, fun k hk => (fit_facts h hk).1⟩
theorem sizeI_any (A : Option Addr) (n c : Nat) (w : World) (hn : n ≤ 9223372036854775807) : Calls Tryd.prog 48 #[.slice A n c] w fun e w' => e = .returned (.int .i64 n) ∧ w' = w := by
  go_enter Tryd.func48, Tryd.ntmps48
  go_wp2
  go_ret
  exact ⟨rfl, rfl⟩
theorem specNeed_any {w : World} {p g n z E d t N c : Nat} {u : Nat → UInt8} (l : Nat) (h : ChW w p g n z E d t N c u) (hz : 0 < z) (hz2 : z ≤ 64) (hl : l ≤ 512) :
    Calls Tryd.prog 63 #[.pointer (some ⟨p, 0, none⟩), .int .i64 l] w fun r w' => r = .returned (.int .i64 (needN z l : Nat)) ∧ w' = w.drew := by
  have c1 := h.c1
  have e1 : IntKind.i64.wrap ((l : Int) + z) = (l : Int) + z := by rw [IntKind.wrap_i64]; omega
  have e2 : IntKind.i64.wrap ((l : Int) + z - 1) = (l : Int) + z - 1 := by rw [IntKind.wrap_i64]; omega
  have e0 : ¬ ((z : Int) = 0) := by omega
  have e3 : ((l : Int) + z - 1).tdiv z = (needN z l : Nat) := by
    rw [Int.tdiv_eq_ediv_of_nonneg (by omega)]
    unfold needN
    rw [show (l : Int) + z - 1 = ((l + z - 1 : Nat) : Int) by omega]
    rfl
  have e4 : IntKind.i64.wrap ((needN z l : Nat) : Int) = ((needN z l : Nat) : Int) := by
    have : needN z l ≤ l + z - 1 := Nat.div_le_self _ _
    rw [IntKind.wrap_i64]; omega
  have e5 : ((l : Int) + z - 1) / z = (needN z l : Nat) := by rw [← e3, Int.tdiv_eq_ediv_of_nonneg (by omega)]
  clear h
  go_enter Tryd.func63, Tryd.ntmps63
  go_wp2_with fail
  go_region
  go_wp2
  go_ret
  exact ⟨ret_int (by first | rfl | simp [e5]), rfl⟩
end Go.Proofs.YtgmmigbaaigldaaDoor
