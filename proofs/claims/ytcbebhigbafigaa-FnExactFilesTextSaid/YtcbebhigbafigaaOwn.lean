/-
  Rows of the call's own (a frozen mark behind the end let in, as '[]byte(s)' lays it), what is appended one by one, bytes and texts. No function of the program is named here.
-/
import Derived.Test.YtcbebhigbafigaaLib
import Derived.Deep.AppendLies
import Derived.Laws.BytesArg
import Derived.Laws.IdiomStrings
import Derived.Laws.Concat
import Derived.Deep.RegionHeld3
import Derived.Deep.RegionLaw
namespace Go.Proofs.Ytcbebhigbafigaa.lib
open Go Go.ChangeShapes Go.WideShapes Go.ChangeAt Go.RowKit
set_option linter.unusedVariables false
/-! ### a row that can be written -/
def Row (w : World) (g e : Nat) (cs : Array Value) : Prop := ∃ fr : Nat × Nat, w.heap[g]? = some (.cells cs e fr) ∧ ∀ j, j < cs.size → ¬ (fr.1 ≤ j ∧ j < fr.2)
section
variable {w w' : World} {g e : Nat} {cs : Array Value}
theorem Row.lt (h : Row w g e cs) : g < w.heap.size := by
  obtain ⟨fr, h, _⟩ := h
  exact (Array.getElem?_eq_some_iff.1 h).1
theorem Row.cell (h : Row w g e cs) (i : Nat) : w.cell? ⟨g, i, none⟩ = cs[i]? := by
  obtain ⟨fr, h, _⟩ := h
  exact cell_of_row w g i cs e fr h
theorem Row.frozen (h : Row w g e cs) {i : Nat} (hi : i < cs.size) : w.frozen? ⟨g, i, none⟩ = false := by
  obtain ⟨fr, h, hf⟩ := h
  have := hf i hi
  simp only [World.frozen?, h, Bool.and_eq_false_iff, decide_eq_false_iff_not]
  omega
theorem Row.of (h : w.heap[g]? = some (.cells cs e (0, 0))) : Row w g e cs := ⟨(0, 0), h, fun j _ => by simp⟩
theorem Row.ofRw (h : Rw w g e cs) : Row w g e cs := Row.of h
theorem Row.new (w : World) (e : Nat) (cs : Array Value) : Row (w.alloc (.cells cs e)) w.heap.size e cs := Row.of (heap_alloc_new w _)
theorem Row.keep (h : Row w g e cs) (hk : w'.heap[g]? = w.heap[g]?) : Row w' g e cs := by
  obtain ⟨fr, h, hf⟩ := h
  exact ⟨fr, hk.trans h, hf⟩
theorem Row.alloc (h : Row w g e cs) (o : Obj) : Row (w.alloc o) g e cs := h.keep (Below.heap_alloc w o g h.lt)
theorem Row.drewN (h : Row w g e cs) (k : Nat) : Row (w.drewN k) g e cs := h
theorem Row.drew (h : Row w g e cs) : Row w.drew g e cs := h
theorem Row.set (h : Row w g e cs) (i : Nat) (u : Value) : Row (w.setCell ⟨g, i, none⟩ u) g e (cs.setIfInBounds i u) := by
  obtain ⟨fr, h, hf⟩ := h
  exact ⟨fr, by simp [World.setCell, Array.getElem?_modify, h], by simpa using hf⟩
theorem Row.far (h : Row w g e cs) {p : Addr} (hp : g ≠ p.block) (u : Value) : Row (w.setCell p u) g e cs := h.keep (Below.heap_setCell w p u g hp)
theorem Row.below {B : Nat} (h : Row w g e cs) (hb : Below B w w') (hg : g < B) : Row w' g e cs := h.keep (hb.block g hg)
theorem Row.grown {row : Option Nat} (h : Row w g e cs) (hb : w.grownBy w' row) (hg : some g ≠ row) : Row w' g e cs := h.keep (hb.block g h.lt hg)
theorem Row.sl (h : Row w g e cs) {n : Nat} {f : Nat → Value} (hf : ∀ i, i < n → cs[i]? = some (f i)) : Sl w w.heap.size (some ⟨g, 0, none⟩) n f :=
  fun i hi => ⟨g, 0, rfl, h.lt, by rw [Nat.zero_add, h.cell i]; exact hf i hi⟩
theorem Row.ne {g' e' : Nat} {cs' : Array Value} (h : Row w g e cs) (h' : Row w g' e' cs') (hne : e ≠ e') : g ≠ g' := by
  rintro rfl
  obtain ⟨fr, h, _⟩ := h
  obtain ⟨fr', h', _⟩ := h'
  rw [h] at h'
  injection h' with h'
  injection h' with _ h2 _
  exact hne h2
end
/-! ### 'grownBy': only one block, and what is new, has turned -/
section
variable {a b c w : World} {g : Nat} {row : Option Nat}
theorem only_refl (w : World) (row : Option Nat) : w.grownBy w row := ⟨rfl, rfl, rfl, Nat.le_refl _, fun _ _ _ => rfl⟩
theorem only_below {B : Nat} (h : Below B a b) (hB : a.heap.size ≤ B) (row : Option Nat) : a.grownBy b row := ⟨h.os, h.tape, h.output, h.size, fun i hi _ => h.block i (by omega)⟩
theorem only_trans (h : a.grownBy b row) (k : b.grownBy c row) : a.grownBy c row :=
  ⟨k.os.trans h.os, k.tape.trans h.tape, k.output.trans h.output, Nat.le_trans h.size k.size, fun i hi hn => (k.block i (Nat.lt_of_lt_of_le hi h.size) hn).trans (h.block i hi hn)⟩
theorem only_drewN (h : a.grownBy w row) (n : Nat) : a.grownBy (w.drewN n) row := ⟨h.os, h.tape, h.output, h.size, h.block⟩
theorem only_drew (h : a.grownBy w row) : a.grownBy w.drew row := ⟨h.os, h.tape, h.output, h.size, h.block⟩
theorem only_alloc (h : a.grownBy w row) (o : Obj) : a.grownBy (w.alloc o) row :=
  ⟨h.os, h.tape, h.output, Nat.le_trans h.size (by simp), fun i hi hn => (Below.heap_alloc w o i (Nat.lt_of_lt_of_le hi h.size)).trans (h.block i hi hn)⟩
theorem only_setCell (h : a.grownBy w (some g)) {p : Addr} (hp : p.block = g ∨ a.heap.size ≤ p.block) (u : Value) : a.grownBy (w.setCell p u) (some g) :=
  ⟨h.os, h.tape, h.output, by simpa [World.setCell] using h.size, fun i hi hn => (Below.heap_setCell w p u i (by
    rintro rfl
    rcases hp with hp | hp
    · exact hn (by rw [hp])
    · omega)).trans (h.block i hi hn)⟩
theorem below_only {B : Nat} (h : a.grownBy b (some g)) (hB : B ≤ g) (hs : B ≤ a.heap.size) : Below B a b :=
  ⟨h.os, h.tape, h.output, h.size, fun k hk => h.block k (by omega) (fun e => by injection e; omega)⟩
end
/-! ### what is appended one by one -/
theorem own_lt {w : World} {B e k n : Nat} {v : Value} {xs : List Value} (h : w.ownsRow B e k v n xs) : ∀ j, v.ownBlock = some j → B ≤ j := fun j hj => (h.lt j hj).1
theorem own_base {w : World} {B B' e k n : Nat} {v : Value} {xs : List Value} (h : w.ownsRow B e k v n xs) (hB : B' ≤ B) : w.ownsRow B' e k v n xs := by
  refine ⟨h.1, ?_⟩
  rcases h.2 with hn | ⟨g, cap, cur, hv, hb, r⟩
  · exact .inl hn
  · exact .inr ⟨g, cap, cur, hv, by omega, r⟩
theorem own_below {w w' : World} {B e k n : Nat} {v : Value} {xs : List Value} (h : w.ownsRow B e k v n xs) (hb : Below w.heap.size w w') : w'.ownsRow B e k v n xs :=
  h.kept (only_below hb (Nat.le_refl _) none) (by cases v.ownBlock <;> simp)
theorem own_sl {w : World} {B e k n c : Nat} {A : Option Addr} {xs : List Value} (h : w.ownsRow B e k (.slice A n c) n xs) : Sl w w.heap.size A (n * k) (fun i => xs.getD i undef) := by
  intro i hi
  have hn : 0 < n := by
    rcases Nat.eq_zero_or_pos n with h0 | h0
    · subst h0; omega
    · exact h0
  obtain ⟨g, cap, hv, hb, hlt⟩ := h.form hn
  injection hv with hA hn' hc
  subst hA
  have hl : i < xs.length := by have := h.1; omega
  have hc := h.cells (g := g) rfl i xs[i] (List.getElem?_eq_getElem hl)
  rw [Addr.add_lit, Nat.zero_add] at hc
  exact ⟨g, 0, rfl, hlt, by rw [Nat.zero_add, hc]; simp [hl]⟩
theorem own_row {w : World} {B e k n c : Nat} {A : Option Addr} {xs : List Value} (h : w.ownsRow B e k (.slice A n c) n xs) (hn : 0 < n) :
    ∃ g cs, A = some ⟨g, 0, none⟩ ∧ B ≤ g ∧ Row w g e cs ∧ n * k ≤ cs.size ∧ ∀ i, i < n * k → cs[i]? = xs[i]? := by
  rcases h.2 with ⟨_, h0⟩ | ⟨g, cap, cur, hv, hb, hg, hnc, _, hcs, ht⟩
  · omega
  · injection hv with hA _ _
    refine ⟨g, cur, hA, hb, Row.of hg, by rw [hcs]; exact Nat.mul_le_mul_right _ hnc, fun i hi => ?_⟩
    rw [← ht, List.getElem?_take, if_pos hi]
    simp
theorem own_set {w : World} {B e k n c g i : Nat} {xs : List Value} (h : w.ownsRow B e k (.slice (some ⟨g, 0, none⟩) n c) n xs) (hi : i < n * k) (u : Value) :
    (w.setCell ⟨g, i, none⟩ u).ownsRow B e k (.slice (some ⟨g, 0, none⟩) n c) n (xs.set i u) := by
  rcases h.2 with ⟨e0, _⟩ | ⟨g', cap, cur, hv, hb, hg, hnc, hm, hcs, ht⟩
  · cases e0
  · injection hv with hA _ hc
    injection hA with hA
    injection hA with hA _ _
    subst hA hc
    refine ⟨by rw [List.length_set]; exact h.1, .inr ⟨g, c, cur.setIfInBounds i u, rfl, hb, by simp [World.setCell, Array.getElem?_modify, hg], hnc, hm, by simpa using hcs, ?_⟩⟩
    rw [Array.toList_setIfInBounds, List.take_set, ht]
theorem own_cell {w : World} {B e k n c g i : Nat} {xs : List Value} (h : w.ownsRow B e k (.slice (some ⟨g, 0, none⟩) n c) n xs) (hi : i < n * k) :
    (∃ u, w.cell? ⟨g, i, none⟩ = some u) ∧ w.frozen? ⟨g, i, none⟩ = false := by
  rcases h.2 with ⟨e0, _⟩ | ⟨g', cap, cur, hv, hb, hg, hnc, hm, hcs, ht⟩
  · cases e0
  · injection hv with hA _ hc
    injection hA with hA
    injection hA with hA _ _
    subst hA
    have hr : Row w g e cur := Row.of hg
    have hlt : i < cur.size := by rw [hcs]; exact Nat.lt_of_lt_of_le hi (Nat.mul_le_mul_right _ hnc)
    exact ⟨⟨cur[i], by rw [hr.cell, Array.getElem?_eq_getElem hlt]⟩, hr.frozen hlt⟩
theorem set_next {α : Type} (l xs : List α) (u : α) (k : Nat) (hk : l.length = k) (hx : k < xs.length) : (l ++ xs.drop k).set k u = (l ++ [u]) ++ xs.drop (k + 1) := by
  subst hk
  rw [List.set_append_right _ _ (Nat.le_refl _), Nat.sub_self, List.drop_eq_getElem_cons hx, List.set_cons_zero, List.append_assoc]
  rfl
section
variable {P : Program} {w w0 : World}
/-- 'out = append(out, x)', x of one cell: x lies in a new block of its own -/
theorem wpList_push {ops : Array Oper} {rest : List Oper} {o : Oper} {a : Act} {Q : Exit → Act → World → Prop} (s x : Operand) (t : TypeId) (base e : Nat) (z u : Value) (bytes : Nat) (v : Value) (n : Nat) (xs : List Value)
    (hown : w0.ownsRow base e 1 v n xs) (hg : o.guard = none) (hop : o.op = .call { callee := .builtin .append, args := #[s, x], argTypes := #[t, t] })
    (h1 : P.underlying t = some (.slice e)) (hinfo : (P.info? e).map (fun i => (i.zero, i.size, i.bytes)) = some (some z, 1, bytes)) (hz : z.cells.size = 1)
    (hs : a.eval s = v) (hx : a.eval x = .slice (some ⟨w0.heap.size, 0, none⟩) 1 1) (hw : w = w0.alloc (.cells #[u] e)) (hu : u.oneCell' = true) (hn : n ≤ 1099511627776) (hby : bytes ≤ 64) (hbase : base ≤ w0.heap.size)
    (hK : ∀ A' c' w1, w1.ownsRow base e 1 (.slice (some A') (n + 1) c') (n + 1) (xs ++ [u]) → Below base w0 w1 → wpList P ops Q rest (a.put o.dst (.slice (some A') (n + 1) c')) w1) :
    wpList P ops Q (o :: rest) a w := by
  obtain ⟨i0, hi, hz0, hz1, hz2⟩ := info_parts hinfo
  subst hw
  have hb : (n + 1) * bytes ≤ 140737488355328 := by
    have := Nat.mul_le_mul (show n + 1 ≤ 1099511627777 by omega) hby
    omega
  refine wpList_append_own _ hg s x t hop base e i0 z 1 bytes h1 hi hz0 hz1 hz2 hz (by decide) v n xs hs (hown.alloc _) ⟨w0.heap.size, 0, none⟩ 1 1 [u] hx rfl ?_ ?_ (by simp only [maxLen]; omega) hb (by simp; omega) ?_
  · intro j q hq
    match j, hq with
    | 0, hq => simp at hq; subst hq; simp [Addr.add, World.cell?_alloc_new]
  · intro q hq; simp at hq; subst hq; exact hu
  · intro v' w1 hown1 hgrow _
    obtain ⟨g, cap, rfl, _, _⟩ := hown1.form (by omega)
    exact hK _ _ _ hown1 (((Below.refl _ _).alloc hbase _).grown hgrow (by simp; omega) (own_lt hown))
/-- a slice of bytes turned into a text -/
def bstr (n : Nat) (u : Nat → UInt8) : ByteArray := ⟨((List.range n).map u).toArray⟩
theorem run_bstr (src dst e : TypeId) (hs : P.underlying src = some (.slice e)) (he : P.underlying e = some (.int .u8)) (hd : P.underlying dst = some .string) {B n c : Nat} {A : Option Addr} {u : Nat → UInt8}
    (h : Sl w B A n (fun i => .int .u8 ((u i).toNat : Int))) (hA : A = none → n = 0) : (convert src dst (.slice A n c)).run P w = .ok (.string (bstr n u)) w := by
  cases A with
  | none =>
    have hn := hA rfl
    subst hn
    rw [run_convert_bytes_string w src dst e none 0 c hs he hd]
    simp [Conv.bytesToString, bstr]
    rfl
  | some ad =>
    obtain ⟨b, o, hao⟩ : ∃ b o, ad = ⟨b, o, none⟩ ∨ n = 0 := by
      rcases Nat.eq_zero_or_pos n with h0 | h0
      · exact ⟨0, 0, .inr h0⟩
      · obtain ⟨b, o, hA, _⟩ := h 0 h0
        injection hA with hA
        exact ⟨b, o, .inl hA⟩
    have key : (loadCells ad n).run P w = .ok (((List.range n).map fun i => ((u i).toNat : Int)).map (Value.int .u8)).toArray w := by
      have := run_loadCells_list (P := P) w ad (((List.range n).map fun i => ((u i).toNat : Int)).map (Value.int .u8)) (fun j v hj => by
        have hjn : j < n := by
          have := (List.getElem?_eq_some_iff.1 hj).1
          simpa using this
        rcases hao with hao | h0
        · obtain ⟨b', o', hA, _, hc⟩ := h j hjn
          injection hA with hA
          subst hA
          rw [Addr.add_lit, hc]
          rw [← hj]
          simp [hjn]
        · omega)
      simpa using this
    rw [run_convert_bytes_string w src dst e (some ad) n c hs he hd, run_bytesToString w ad n c _ key, foldl_push_bytes]
    have e : (((List.range n).map fun i => ((u i).toNat : Int)).map fun n => UInt8.ofNat n.toNat) = (List.range n).map u := by
      rw [List.map_map]
      exact List.map_congr_left fun i _ => by simp
    rw [e]
    simp [bstr, ByteArray.empty, ByteArray.emptyWithCapacity]
    rfl
/-- 'string([]byte{x})' -/
theorem run_bstr1 (src dst e : TypeId) (hs : P.underlying src = some (.slice e)) (he : P.underlying e = some (.int .u8)) (hd : P.underlying dst = some .string) (W : World) (x : Int) :
    (convert src dst (.slice (some ⟨W.heap.size, 0, none⟩) 1 1)).run P (W.alloc (.cells #[.int .u8 x] e)) = .ok (.string ⟨#[UInt8.ofNat x.toNat]⟩) (W.alloc (.cells #[.int .u8 x] e)) := by
  have h := run_convert_bytes_arg (P := P) (w := W.alloc (.cells #[.int .u8 x] e)) src e hs he W.heap.size 0 1 1 [x] rfl (fun i hi => by
    have : i = 0 := by omega
    subst this
    simp [World.cell?_alloc_new]) dst hd
  rw [h]; rfl
/-- 'string([]byte{x, y})' -/
theorem run_bstr2 (src dst e : TypeId) (hs : P.underlying src = some (.slice e)) (he : P.underlying e = some (.int .u8)) (hd : P.underlying dst = some .string) (W : World) (x y : Int) :
    (convert src dst (.slice (some ⟨W.heap.size, 0, none⟩) 2 2)).run P (W.alloc (.cells #[.int .u8 x, .int .u8 y] e)) = .ok (.string ⟨#[UInt8.ofNat x.toNat, UInt8.ofNat y.toNat]⟩) (W.alloc (.cells #[.int .u8 x, .int .u8 y] e)) := by
  have h := run_convert_bytes_arg (P := P) (w := W.alloc (.cells #[.int .u8 x, .int .u8 y] e)) src e hs he W.heap.size 0 2 2 [x, y] rfl (fun i hi => by
    have : i = 0 ∨ i = 1 := by omega
    rcases this with rfl | rfl
    · simp [World.cell?_alloc_new]
    · simp [World.cell?_alloc_new]) dst hd
  rw [h]; rfl
end
/-- the walk's step at 'string(b)', b a slice of bytes -/
theorem wpList_bstr {P : Program} {w : World} {ops : Array Oper} {rest : List Oper} {o : Oper} {a : Act} {Q : Exit → Act → World → Prop} (src dst e : TypeId) (x : Operand) (hop : o.op = .convert src dst x) (hg : o.guard = none)
    (hs : P.underlying src = some (.slice e)) (he : P.underlying e = some (.int .u8)) (hd : P.underlying dst = some .string) {B n c : Nat} {A : Option Addr} {u : Nat → UInt8} (hx : a.eval x = .slice A n c)
    (h : Sl w B A n (fun i => .int .u8 ((u i).toNat : Int))) (hA : A = none → n = 0) (hK : wpList P ops Q rest (a.put o.dst (.string (bstr n u))) w) : wpList P ops Q (o :: rest) a w := by
  refine wpList_plain hg fun K hK' => ?_
  have hrun := run_bstr (P := P) (w := w) src dst e hs he hd (c := c) h hA
  unfold Oper.wp
  simp [execOp, hop, hx, hrun, Result.andThen]
  exact hK' _ _ hK
/-! ### rows of bytes -/
def upd (u : Nat → UInt8) (i : Nat) (x : UInt8) : Nat → UInt8 := fun j => if j = i then x else u j
theorem upd_same (u : Nat → UInt8) (i : Nat) (x : UInt8) : upd u i x i = x := if_pos rfl
theorem upd_other (u : Nat → UInt8) {i j : Nat} (x : UInt8) (h : j ≠ i) : upd u i x j = u j := if_neg h
def BRow (w : World) (e g n : Nat) (u : Nat → UInt8) : Prop := ∃ cs, Row w g e cs ∧ n ≤ cs.size ∧ ∀ i, i < n → cs[i]? = some (.int .u8 ((u i).toNat : Int))
section
variable {w w' : World} {e g n : Nat} {u v : Nat → UInt8}
theorem BRow.lt (h : BRow w e g n u) : g < w.heap.size := by
  obtain ⟨cs, h, _⟩ := h
  exact h.lt
theorem BRow.cell (h : BRow w e g n u) {i : Nat} (hi : i < n) : w.cell? ⟨g, i, none⟩ = some (.int .u8 ((u i).toNat : Int)) := by
  obtain ⟨cs, h, hs, hc⟩ := h
  rw [h.cell]; exact hc i hi
theorem BRow.frozen (h : BRow w e g n u) {i : Nat} (hi : i < n) : w.frozen? ⟨g, i, none⟩ = false := by
  obtain ⟨cs, h, hs, hc⟩ := h
  exact h.frozen (by omega)
theorem BRow.keep (h : BRow w e g n u) (hk : w'.heap[g]? = w.heap[g]?) : BRow w' e g n u := by
  obtain ⟨cs, h, r⟩ := h
  exact ⟨cs, h.keep hk, r⟩
theorem BRow.alloc (h : BRow w e g n u) (o : Obj) : BRow (w.alloc o) e g n u := h.keep (Below.heap_alloc w o g h.lt)
theorem BRow.below {B : Nat} (h : BRow w e g n u) (hb : Below B w w') (hg : g < B) : BRow w' e g n u := h.keep (hb.block g hg)
theorem BRow.grown {row : Option Nat} (h : BRow w e g n u) (hb : w.grownBy w' row) (hg : some g ≠ row) : BRow w' e g n u := h.keep (hb.block g h.lt hg)
theorem BRow.drewN (h : BRow w e g n u) (k : Nat) : BRow (w.drewN k) e g n u := h
theorem BRow.drew (h : BRow w e g n u) : BRow w.drew e g n u := h
theorem BRow.far (h : BRow w e g n u) {p : Addr} (hp : g ≠ p.block) (x : Value) : BRow (w.setCell p x) e g n u := h.keep (Below.heap_setCell w p x g hp)
theorem BRow.set (h : BRow w e g n u) {i : Nat} (x : UInt8) {y : Int} (hy : y = (x.toNat : Int)) : BRow (w.setCell ⟨g, i, none⟩ (.int .u8 y)) e g n (upd u i x) := by
  obtain ⟨cs, h, hs, hc⟩ := h
  subst hy
  refine ⟨_, h.set i _, by simpa using hs, fun j hj => ?_⟩
  rw [Array.getElem?_setIfInBounds]
  by_cases he : i = j
  · subst he; rw [if_pos rfl, if_pos (by omega), upd_same]
  · rw [if_neg he, upd_other _ _ (Ne.symm he)]; exact hc j hj
theorem BRow.congr (h : BRow w e g n u) (he : ∀ i, i < n → u i = v i) : BRow w e g n v := by
  obtain ⟨cs, h, hs, hc⟩ := h
  exact ⟨cs, h, hs, fun i hi => by rw [hc i hi, he i hi]⟩
theorem BRow.sl (h : BRow w e g n u) : Sl w w.heap.size (some ⟨g, 0, none⟩) n (fun i => .int .u8 ((u i).toNat : Int)) := fun i hi => ⟨g, 0, rfl, h.lt, by rw [Nat.zero_add]; exact h.cell hi⟩
theorem BRow.made (w : World) (e n : Nat) : BRow (w.alloc (.cells (madeCells #[.int .u8 0] n) e)) e w.heap.size n (fun _ => 0) :=
  ⟨_, Row.new w e _, by rw [size_madeCells]; exact Nat.le_refl _, fun i hi => by simp [madeCells, hi, Nat.mod_one]⟩
end
def IsB (cs : Array Value) (n : Nat) (u : Nat → UInt8) : Prop := n ≤ cs.size ∧ ∀ i, i < n → cs[i]? = some (.int .u8 ((u i).toNat : Int))
theorem IsB.set {cs : Array Value} {n : Nat} {u : Nat → UInt8} (h : IsB cs n u) {i : Nat} (x : UInt8) {y : Int} (hy : y = (x.toNat : Int)) : IsB (cs.setIfInBounds i (.int .u8 y)) n (upd u i x) := by
  obtain ⟨hs, hc⟩ := h
  subst hy
  refine ⟨by simpa using hs, fun j hj => ?_⟩
  rw [Array.getElem?_setIfInBounds]
  by_cases he : i = j
  · subst he; rw [if_pos rfl, if_pos (by omega), upd_same]
  · rw [if_neg he, upd_other _ _ (Ne.symm he)]; exact hc j hj
theorem BRow.of {w : World} {e n : Nat} {cs : Array Value} {u : Nat → UInt8} (h : IsB cs n u) : BRow (w.alloc (.cells cs e)) e w.heap.size n u := ⟨cs, Row.new w e cs, h.1, h.2⟩
def sliceLen : Value → Nat | .slice _ n _ => n | _ => 0
/-- 'x := []T{u}' owns u -/
theorem own_one (w : World) (B e : Nat) (u : Value) (hB : B ≤ w.heap.size) : (w.alloc (.cells #[u] e)).ownsRow B e 1 (.slice (some ⟨w.heap.size, 0, none⟩) 1 1) 1 [u] :=
  ⟨rfl, .inr ⟨w.heap.size, 1, #[u], rfl, hB, heap_alloc_new w _, Nat.le_refl _, by simp [maxLen], rfl, rfl⟩⟩
/-- rows of two element types are two rows -/
theorem own_ne {w : World} {B e e' k n g : Nat} {v : Value} {xs : List Value} {cs : Array Value} (h : w.ownsRow B e k v n xs) (hr : Row w g e' cs) (hne : e ≠ e') : some g ≠ v.ownBlock := by
  rcases h.2 with ⟨rfl, _⟩ | ⟨g', cap, cur, rfl, _, hg, _⟩
  · simp [Value.ownBlock]
  · intro he
    have : g = g' := by simpa [Value.ownBlock] using he
    subst this
    exact Row.ne (Row.of hg) hr hne rfl
theorem own_neB {w : World} {B e e' k n g m : Nat} {v : Value} {xs : List Value} {u : Nat → UInt8} (h : w.ownsRow B e k v n xs) (hr : BRow w e' g m u) (hne : e ≠ e') : some g ≠ v.ownBlock := by
  obtain ⟨cs, hr, _⟩ := hr
  exact own_ne h hr hne
theorem BRow.neRow {w : World} {e e' g g' n : Nat} {u : Nat → UInt8} {cs : Array Value} (h : BRow w e g n u) (h' : Row w g' e' cs) (hne : e ≠ e') : g ≠ g' := by
  obtain ⟨_, h, _⟩ := h
  exact h.ne h' hne
theorem news2 (w : World) (o : Obj) (e : Nat) (u : Value) : ∀ (j : Nat) (q : Value), [u][j]? = some q → (((w.alloc o).alloc (.cells #[u] e)).drew).cell? ((⟨w.heap.size + 1, 0, none⟩ : Addr).add j) = some q := by
  intro j q hq
  match j, hq with
  | 0, hq =>
    simp at hq
    subst hq
    have h : ((w.alloc o).alloc (.cells #[u] e)).heap[w.heap.size + 1]? = some (.cells #[u] e) := by
      have := heap_alloc_new (w.alloc o) (.cells #[u] e)
      rwa [show (w.alloc o).heap.size = w.heap.size + 1 by simp] at this
    have h2 := cell_of_row ((w.alloc o).alloc (.cells #[u] e)) (w.heap.size + 1) 0 _ _ _ h
    simp only [Addr.add, if_true]
    exact h2
theorem own_slR {w : World} {B e n c : Nat} {A : Option Addr} {g : Nat → Value} (h : w.ownsRow B e 1 (.slice A n c) n ((List.range n).map g)) : Sl w w.heap.size A n g := by
  have h1 := own_sl h
  rw [Nat.mul_one] at h1
  exact h1.congr fun i hi => by simp [hi]
theorem below_grown {w w' : World} {B : Nat} {row : Option Nat} (h : w.grownBy w' row) (hr : ∀ k, row = some k → B ≤ k) (hB : B ≤ w.heap.size) : Below B w w' := (Below.refl _ _).grown h hB hr
/-- two rows, the second made later -/
theorem own_apart {w w1 : World} {B B' e e' k k' n n' : Nat} {v v' : Value} {xs xs' : List Value} (h : w.ownsRow B e k v n xs) (h' : w1.ownsRow B' e' k' v' n' xs') (hB : w.heap.size ≤ B') : v.ownBlock = none ∨ v.ownBlock ≠ v'.ownBlock := by
  by_cases hn : v.ownBlock = none
  · exact .inl hn
  · right
    intro he
    cases hb : v.ownBlock with
    | none => exact hn hb
    | some g =>
      have h1 := (h.lt g hb).2
      have h2 := (h'.lt g (by rw [← he]; exact hb)).1
      omega
/-- the sum of the first bytes, in one byte -/
def usum (u : Nat → UInt8) : Nat → UInt8
  | 0 => 0
  | k + 1 => usum u k + u k
theorem neg_u8 (x : UInt8) : -(x.toNat : Int) % 256 = ((0 - x).toNat : Int) := by
  have h := UInt8.toNat_lt x
  rw [UInt8.toNat_sub]
  simp
  omega
/-- 'make([]T, n)' -/
theorem run_mk {P : Program} (t e : TypeId) (z : Value) (sz bytes : Nat) (ht : P.underlying t = some (.slice e)) (hinfo : (P.info? e).map (fun i => (i.zero, i.size, i.bytes)) = some (some z, sz, bytes)) (hby : bytes ≤ 64) (n : Nat) (hn : n ≤ 1099511627776) (W : World) :
    (Instr.makeSlice t (.int .i64 (n : Int)) (.int .i64 (n : Int))).run P W = .ok (.slice (some ⟨W.heap.size, 0, none⟩) n n) (W.alloc (.cells (madeCells z.cells (n * sz)) e)) := by
  obtain ⟨i0, hi, hz0, hz1, hz2⟩ := info_parts hinfo
  have hb : (i0.bytes : Int) * (n : Int) ≤ 281474976710656 := by
    rw [hz2]
    have : bytes * n ≤ 64 * 1099511627776 := Nat.mul_le_mul hby hn
    have h2 : ((bytes * n : Nat) : Int) ≤ ((64 * 1099511627776 : Nat) : Int) := by omega
    rw [Int.natCast_mul] at h2
    omega
  have h := run_make (P := P) W t e i0 z ht hi hz0 .i64 .i64 (n : Int) (n : Int) (by omega) (Int.le_refl _) hb (by omega)
  simpa [hz1] using h
end Go.Proofs.Ytcbebhigbafigaa.lib
