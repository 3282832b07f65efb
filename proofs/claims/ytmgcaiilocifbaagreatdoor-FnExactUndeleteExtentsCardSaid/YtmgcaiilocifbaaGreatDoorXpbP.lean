/-
  Disks of extents: the problems: plain; the blocks' problems, the program's side.
-/
import Derived.Test.YtmgcaiilocifbaaGreatDoorXrS
import Derived.Deep.DeepCutAuto
namespace Go.Proofs.YtmgcaiilocifbaaGreatDoor
open Go Go.ChangeShapes Go.WideShapes Go.ChangeAt Go.RowKit lib
set_option linter.unusedVariables false
set_option linter.unusedSimpArgs false
set_option maxRecDepth 100000
abbrev P3 := Int × Int × Int
/-- a data block -/
def inX (n t : Nat) (b : Int) : Prop := (t : Int) ≤ b ∧ b ≤ (n : Int) - 1
/-- block i of a list lies outside -/
def oQ (n t : Nat) (l : List Int) (i : Nat) : Prop := ¬ inX n t (l.getD i 0)
/-- block i of a list is crossed: it is listed before -/
def cQ (n t : Nat) (T l : List Int) (i : Nat) : Prop := inX n t (l.getD i 0) ∧ l.getD i 0 ∈ T ++ l.take i
noncomputable def oX (n t : Nat) (l : List Int) (k : Int) (i : Nat) : List P3 := (picks (oQ n t l) i).map fun j => (2, k, l.getD j 0)
noncomputable def cX (n t : Nat) (T l : List Int) (k : Int) (i : Nat) : List P3 := (picks (cQ n t T l) i).map fun j => (3, k, l.getD j 0)
section
variable {n t i : Nat} {T l : List Int} {k : Int}
theorem oX_hit (h : oQ n t l i) : oX n t l k (i + 1) = oX n t l k i ++ [(2, k, l.getD i 0)] := by unfold oX; rw [picks_hit h, List.map_append]; rfl
theorem oX_miss (h : ¬ oQ n t l i) : oX n t l k (i + 1) = oX n t l k i := by unfold oX; rw [picks_miss h]
theorem cX_hit (h : cQ n t T l i) : cX n t T l k (i + 1) = cX n t T l k i ++ [(3, k, l.getD i 0)] := by unfold cX; rw [picks_hit h, List.map_append]; rfl
theorem cX_miss (h : ¬ cQ n t T l i) : cX n t T l k (i + 1) = cX n t T l k i := by unfold cX; rw [picks_miss h]
theorem oX_len : (oX n t l k i).length ≤ i := by unfold oX; rw [List.length_map]; exact picks_len _ _
theorem cX_len : (cX n t T l k i).length ≤ i := by unfold cX; rw [List.length_map]; exact picks_len _ _
end
theorem take_moreI {l : List Int} {j : Nat} (h : j < l.length) : l.take (j + 1) = l.take j ++ [l.getD j 0] := by
  rw [List.take_add_one, List.getElem?_eq_getElem h, List.getD_eq_getElem?_getD, List.getElem?_eq_getElem h]
  rfl
/-- the problems of an entry's blocks, those outside first -/
noncomputable def bProbs (n t : Nat) (T l : List Int) (k : Int) : List P3 := oX n t l k l.length ++ cX n t T l k l.length
theorem bProbs_len {n t : Nat} {T l : List Int} {k : Int} : (bProbs n t T l k).length ≤ l.length + l.length := by
  unfold bProbs
  rw [List.length_append]
  exact Nat.add_le_add oX_len cX_len
def cellsP (l : List P3) : List Value := l.flatMap fun a => [.int .i64 a.1, .int .i64 a.2.1, .int .i64 a.2.2]
theorem cellsP_append (l m : List P3) : cellsP (l ++ m) = cellsP l ++ cellsP m := by simp [cellsP]
theorem cellsP_one (a b c : Int) : cellsP [(a, b, c)] = [.int .i64 a, .int .i64 b, .int .i64 c] := rfl
theorem cellsP_len (l : List P3) : (cellsP l).length = l.length * 3 := by
  unfold cellsP
  induction l with
  | nil => rfl
  | cons a l ih => rw [List.flatMap_cons, List.length_append, ih]; simp; omega
/-- a cell of a list of problems -/
def pIntX (l : List P3) (i : Nat) : Int := match (cellsP l).getD i undef with
  | .int _ x => x
  | _ => 0
theorem cellsP_range (l : List P3) : cellsP l = (List.range (l.length * 3)).map fun (i : Nat) => Value.int .i64 (pIntX l i) := by
  have hall : ∀ v, v ∈ cellsP l → ∃ x : Int, v = .int .i64 x := by
    intro v hv
    unfold cellsP at hv
    rw [List.mem_flatMap] at hv
    obtain ⟨a, _, ha⟩ := hv
    simp only [List.mem_cons, List.not_mem_nil, or_false] at ha
    rcases ha with rfl | rfl | rfl <;> exact ⟨_, rfl⟩
  apply List.ext_getElem
  · simp [cellsP_len]
  · intro i h1 h2
    obtain ⟨x, hx⟩ := hall _ (List.getElem_mem h1)
    rw [List.getElem_map, List.getElem_range]
    unfold pIntX
    rw [List.getD_eq_getElem?_getD, List.getElem?_eq_getElem h1, Option.getD_some, hx]
/-- two slices lie in other blocks -/
def Apart (v v' : Value) : Prop := ∀ o, v.ownBlock = some o → v'.ownBlock ≠ some o
theorem Apart.kept {v v' : Value} (h : Apart v v') : v.ownBlock = none ∨ v.ownBlock ≠ v'.ownBlock := by
  cases hv : v.ownBlock with
  | none => exact .inl rfl
  | some o => exact .inr fun e => h o hv e.symm
theorem Apart.symm {v v' : Value} (h : Apart v v') : Apart v' v := fun o h1 h2 => h o h2 h1
theorem apart_nil (v : Value) : Apart (.slice none 0 0) v := fun o h => by cases h
theorem Apart.fresh {v v' u : Value} {q : Nat} (h : Apart v v') (hu : ∀ o, u.ownBlock = some o → v.ownBlock = some o ∨ q ≤ o) (hq : ∀ o, v'.ownBlock = some o → o < q) : Apart u v' := fun o h1 h2 => by
  rcases hu o h1 with h3 | h3
  · exact h o h3 h2
  · have := hq o h2; omega
theorem own_hi {w : World} {B e k n : Nat} {v : Value} {xs : List Value} (h : w.ownsRow B e k v n xs) : ∀ j, v.ownBlock = some j → j < w.heap.size := fun j hj => (h.lt j hj).2
/-- only one old block and blocks made since have changed -/
theorem only_more {w wr w' : World} {mb : Nat} {row : Option Nat} (h : w.grownBy wr (some mb)) (hb : wr.grownBy w' row) (hr : ∀ q, row = some q → w.heap.size ≤ q) : w.grownBy w' (some mb) :=
  ⟨hb.os.trans h.os, hb.tape.trans h.tape, hb.output.trans h.output, Nat.le_trans h.size hb.size, fun i hi hne => (hb.block i (Nat.lt_of_lt_of_le hi h.size) (fun e => by have := hr i e.symm; omega)).trans (h.block i hi hne)⟩
theorem only_belowX {w wr w' : World} {mb : Nat} (h : w.grownBy wr (some mb)) (hb : Below wr.heap.size wr w') : w.grownBy w' (some mb) := only_more h (only_below hb (Nat.le_refl _) none) (fun q e => by cases e)
section
variable {P : Program} {w w0 : World}
theorem wpList_pushO {ops : Array Oper} {rest : List Oper} {o : Oper} {a : Act} {Q : Exit → Act → World → Prop} (s x : Operand) (t : TypeId) (base e : Nat) (z : Value) (us : List Value) (k bytes : Nat) (v : Value) (n : Nat) (xs : List Value)
    (hown : w0.ownsRow base e k v n xs) (hg : o.guard = none) (hop : o.op = .call { callee := .builtin .append, args := #[s, x], argTypes := #[t, t] })
    (h1 : P.underlying t = some (.slice e)) (hinfo : (P.info? e).map (fun i => (i.zero, i.size, i.bytes)) = some (some z, k, bytes)) (hz : z.cells.size = k) (hk : 0 < k) (hus : us.length = k)
    (hs : a.eval s = v) (hx : a.eval x = .slice (some ⟨w0.heap.size, 0, none⟩) 1 1) (hw : w = w0.alloc (.cells us.toArray e)) (hu : ∀ u, u ∈ us → u.oneCell' = true) (hn : n ≤ 1099511627776) (hby : bytes ≤ 64) (hbase : base ≤ w0.heap.size)
    (hK : ∀ A' c' w1, w1.ownsRow base e k (.slice (some A') (n + 1) c') (n + 1) (xs ++ us) → w0.grownBy w1 v.ownBlock → (∀ o, (Value.slice (some A') (n + 1) c').ownBlock = some o → v.ownBlock = some o ∨ w0.heap.size ≤ o) → wpList P ops Q rest (a.put o.dst (.slice (some A') (n + 1) c')) w1) :
    wpList P ops Q (o :: rest) a w := by
  obtain ⟨i0, hi, hz0, hz1, hz2⟩ := info_parts hinfo
  subst hw
  have hb : (n + 1) * bytes ≤ 140737488355328 := by
    have := Nat.mul_le_mul (show n + 1 ≤ 1099511627777 by omega) hby
    omega
  have hsl : Sl (w0.alloc (.cells us.toArray e)) (w0.alloc (.cells us.toArray e)).heap.size (some ⟨w0.heap.size, 0, none⟩) (1 * k) (fun i => us.getD i (.bool false)) := fun i hi2 => by
    refine ⟨w0.heap.size, 0, rfl, by simp, ?_⟩
    rw [Nat.zero_add, World.cell?_alloc_new]
    simp [List.getD_eq_getElem?_getD, show i < us.length by omega]
  refine wpList_appR hg s x t hop base e i0 z k bytes h1 hi hz0 hz1 hz2 hz hk v n xs hs (hown.alloc _) _ 1 1 _ _ hx hsl ?_ (by simp only [maxLen]; omega) hb (by simp; omega) ?_
  · intro i
    by_cases hi2 : i < us.length
    · refine hu _ ?_
      rw [List.getD_eq_getElem?_getD, List.getElem?_eq_getElem hi2]
      exact List.getElem_mem hi2
    · rw [List.getD_eq_getElem?_getD, List.getElem?_eq_none (by omega)]
      rfl
  · intro A' c' w1 hown1 hgrow hfr
    obtain ⟨g, cap, hv, _, _⟩ := hown1.form (by omega)
    injection hv with hA _ hC
    subst hA hC
    refine hK _ _ _ ?_ (only_trans (only_alloc (only_refl _ _) _) hgrow) (fun o ho => by
      rcases hfr o ho with h | h
      · exact .inl h
      · right; simp at h; omega)
    have he : (List.range (1 * k)).map (fun i => us.getD i (.bool false)) = us := by
      apply List.ext_getElem
      · simp [hus]
      · intro i h1 h2
        simp [List.getD_eq_getElem?_getD, h2]
    rw [he] at hown1
    exact hown1
end
theorem implIsDataX_any {w : World} {p g n z E t N c : Nat} {u : Nat → UInt8} (a : Int) (h : XW w p g n z E t N c u) (hn : n ≤ 1048576) :
    Calls Tryz.prog 67 #[.pointer (some ⟨p, 0, none⟩), .int .i64 a] w fun r w' => r = .returned (.bool (decide ((t : Int) ≤ a) && decide (a ≤ (n : Int) - 1))) ∧ w' = w.drew := by
  have h0 := h.c0
  have h4 := h.c3
  have hw : IntKind.i64.wrap ((n : Int) - 1) = (n : Int) - 1 := by rw [IntKind.wrap_i64]; omega
  clear h
  go_enter Tryz.func67, Tryz.ntmps67
  go_wp2_with fail
  go_region_law (go_simp; go_at_call 53; refine (within_any _ _ _ _).mono ?_; rintro e w' ⟨rfl, rfl⟩)
  all_goals
    go_wp2
    go_ret
    exact ⟨rfl, rfl⟩
end Go.Proofs.YtmgcaiilocifbaaGreatDoor
