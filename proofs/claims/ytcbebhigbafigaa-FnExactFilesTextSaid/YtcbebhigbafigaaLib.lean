/-
  General lemmas for the walks of this seat: integers and bits, slices that are read, slices that are made. No function of the program is named here.
-/
import Derived.WalkKit
import Derived.Outline
import Derived.Deep.RegionWith
import Derived.ProofKit
import Derived.OpenShut
import Derived.ShutString
import Derived.ChangeOld
import Derived.Below
import Derived.Deep.Draws
import Derived.Deep.Slices
import Derived.Deep.Fields
import Derived.Lib.Hide
import Derived.JoinedCond
import Derived.BigQuiet
import Derived.Deep.QuietTactic
import Derived.StillTailTactics
import Derived.Laws.MakeOwn
import Derived.WalkSmall
import Derived.IntWalk
namespace Go.RowKit
theorem Below.drewN {B : Nat} {a w : World} (h : Below B a w) (n : Nat) : Below B a (w.drewN n) := ⟨h.os, h.tape, h.output, h.size, h.block⟩
end Go.RowKit
namespace Go.Proofs.Ytcbebhigbafigaa.lib
open Go Go.ChangeShapes Go.WideShapes Go.ChangeAt Go.RowKit
set_option linter.unusedVariables false

theorem ofInt_i64 (a : Nat) (ha : a < 9223372036854775808) : (BitVec.ofInt 64 (a : Int)).toNat = a := by
  rw [BitVec.ofInt_natCast, BitVec.toNat_ofNat]; exact Nat.mod_eq_of_lt (by omega)
theorem i64_xor (a b : Nat) (ha : a < 9223372036854775808) (hb : b < 9223372036854775808) : bits .xor .i64 (a : Int) (b : Int) = ((a ^^^ b : Nat) : Int) := by
  have h : a ^^^ b < 2 ^ 63 := Nat.xor_lt_two_pow (n := 63) (by omega) (by omega)
  show IntKind.i64.wrap ((BitVec.ofInt 64 (a : Int) ^^^ BitVec.ofInt 64 (b : Int)).toNat : Int) = _
  rw [BitVec.toNat_xor, ofInt_i64 a ha, ofInt_i64 b hb, IntKind.wrap_i64]
  omega
theorem i64_and (a b : Nat) (ha : a < 9223372036854775808) (hb : b < 9223372036854775808) : bits .and .i64 (a : Int) (b : Int) = ((a &&& b : Nat) : Int) := by
  have h : a &&& b < 2 ^ 63 := Nat.and_lt_two_pow (n := 63) a (by omega)
  show IntKind.i64.wrap ((BitVec.ofInt 64 (a : Int) &&& BitVec.ofInt 64 (b : Int)).toNat : Int) = _
  rw [BitVec.toNat_and, ofInt_i64 a ha, ofInt_i64 b hb, IntKind.wrap_i64]
  omega
theorem i64_or (a b : Nat) (ha : a < 9223372036854775808) (hb : b < 9223372036854775808) : bits .or .i64 (a : Int) (b : Int) = ((a ||| b : Nat) : Int) := by
  have h : a ||| b < 2 ^ 63 := Nat.or_lt_two_pow (n := 63) (by omega) (by omega)
  show IntKind.i64.wrap ((BitVec.ofInt 64 (a : Int) ||| BitVec.ofInt 64 (b : Int)).toNat : Int) = _
  rw [BitVec.toNat_or, ofInt_i64 a ha, ofInt_i64 b hb, IntKind.wrap_i64]
  omega
theorem ret_int {k : IntKind} {a b : Int} (h : a = b) : Ending.returned (.int k a) = .returned (.int k b) := by rw [h]
theorem tmod_emod (x n : Int) : x.tmod n % n = x % n := by
  by_cases h : x < 0
  · obtain ⟨y, rfl⟩ : ∃ y, x = -y := ⟨-x, by omega⟩
    rw [Int.neg_tmod, Int.tmod_eq_emod_of_nonneg (by omega : (0:Int) ≤ y)]
    rw [Int.neg_emod_eq_sub_emod, Int.neg_emod_eq_sub_emod, Int.sub_emod n (y % n) n, Int.emod_emod, ← Int.sub_emod]
  · rw [Int.tmod_eq_emod_of_nonneg (by omega), Int.emod_emod]
section
variable {H : Type} {enc : TypeId × Value → H} {P : Program}
/-- below the old heap nothing has turned: all arguments read as they did -/
theorem trodAll_below (hl : laidOutB P = true) {W W' : World} (hb : Below W.heap.size W W') : ∀ (ts : List TypeId) (vs : List Value) (ds : List (DataW H)) (ps : List MemPlace),
    (ts.all fun t => P.readableRec t && decide (t < P.types.size)) = true → DataW.TrodAll enc P W 0 (fun _ => true) true ts vs ds ps →
    DataW.TrodAll enc P W' 0 (fun b => decide (b < W.heap.size)) true ts vs ds ps
  | [], _, _, _, _, h => by
    obtain ⟨rfl, rfl, rfl⟩ := trodAll_nil h
    exact trodAll_mk0
  | t :: ts, _, _, _, hr, h => by
    obtain ⟨v, vs, d, ds, p, q, rfl, rfl, rfl, h0, h1⟩ := trodAll_cons h
    simp only [List.all_cons, Bool.and_eq_true, decide_eq_true_eq] at hr
    refine trodAll_cons_mk (Below.trod hl hr.1.1 hr.1.2 h0 hb ?_) (trodAll_below hl hb ts vs ds q hr.2 h1)
    obtain ⟨m, hm⟩ := h0
    exact DataW.trod_lt m _ _ _ hm
/-- a law's post: true, and nothing that was there has turned -/
theorem law_post {fn : Func} {s : ChangeSpec} {W W' : World} {args : Array Value} {ds gs : List (DataW H)} {before : List MemPlace} {tb : TypeId}
    (hl : laidOutB P = true) (hr : (fn.params.toList.all fun t => P.readableRec t && decide (t < P.types.size)) = true) (hv : s.vars = []) (hres : fn.resultTypes = #[tb]) (ht : P.underlying tb = some .bool)
    (hs : ∀ xs : List (DataW H), xs.length = fn.params.toList.length → (s.fn H xs).results = [.lit (.bool true)] ∧ (s.fn H xs).args = xs ∧ (s.fn H xs).vars = [])
    (hW : DataW.Whole enc P fn.params.toList s.vars false W args.toList ds gs before) (hb : Below W.heap.size W W') :
    s.post enc P fn false true false false W args (.bool true) W' := by
  have hW' := hW
  obtain ⟨p, q, hA, hV, rfl, hfz, hnd⟩ := hW
  rw [hv] at hV
  obtain ⟨rfl, rfl⟩ := trodVars_none hV
  have hlen : ds.length = fn.params.toList.length := by
    clear hW' hfz hnd hs hr hres
    revert hA
    generalize fn.params.toList = ts
    generalize args.toList = vs
    intro hA
    induction ts generalizing vs ds p with
    | nil => obtain ⟨rfl, rfl, rfl⟩ := trodAll_nil hA; rfl
    | cons t ts ih =>
      obtain ⟨v, vs, d, ds, p, q, rfl, rfl, rfl, h0, h1⟩ := trodAll_cons hA
      simp [ih q vs h1]
  obtain ⟨s1, s2, s3⟩ := hs ds hlen
  refine ⟨ds, [], _, [], p, [], hW', ?_, ?_, ?_, hb.frame _, fun h => by cases h⟩
  · rw [List.append_nil, s1, hres]
    exact trodAll_mk1 (shut_bool ht _)
  · rw [List.append_nil, s2]
    exact trodAll_below hl hb _ _ _ _ hr hA
  · rw [List.append_nil, s3, hv]
    rfl
end
/-! ### slices that are read: the cell i of the slice with address A holds 'f i', for i < n; all below block B -/
def Sl (w : World) (B : Nat) (A : Option Addr) (n : Nat) (f : Nat → Value) : Prop :=
  ∀ i, i < n → ∃ b o, A = some ⟨b, o, none⟩ ∧ b < B ∧ w.cell? ⟨b, o + i, none⟩ = some (f i)
section
variable {w w' : World} {B B' n : Nat} {A : Option Addr} {f g : Nat → Value}
theorem Sl.keep (h : Sl w B A n f) (hk : ∀ b o, b < B → w'.cell? ⟨b, o, none⟩ = w.cell? ⟨b, o, none⟩) : Sl w' B A n f := fun i hi => by
  obtain ⟨b, o, hA, hb, hc⟩ := h i hi
  exact ⟨b, o, hA, hb, (hk b _ hb).trans hc⟩
theorem Sl.below (h : Sl w B A n f) (hb : Below B w w') : Sl w' B A n f := h.keep fun b o h => hb.cell (p := ⟨b, o, none⟩) h
theorem Sl.more (h : Sl w B A n f) (hB : B ≤ B') : Sl w B' A n f := fun i hi => by
  obtain ⟨b, o, hA, hb, hc⟩ := h i hi
  exact ⟨b, o, hA, by omega, hc⟩
theorem Sl.less {m : Nat} (h : Sl w B A n f) (hm : m ≤ n) : Sl w B A m f := fun i hi => h i (by omega)
theorem Sl.congr (h : Sl w B A n f) (he : ∀ i, i < n → f i = g i) : Sl w B A n g := fun i hi => by
  obtain ⟨b, o, hA, hb, hc⟩ := h i hi
  exact ⟨b, o, hA, hb, by rw [hc, he i hi]⟩
theorem Sl.nil : Sl w B A 0 f := fun i hi => absurd hi (by omega)
theorem Sl.drewN (h : Sl w B A n f) (k : Nat) : Sl (w.drewN k) B A n f := h
theorem Sl.drew (h : Sl w B A n f) : Sl w.drew B A n f := h
theorem Sl.alloc (h : Sl w B A n f) (hB : B ≤ w.heap.size) (o : Obj) : Sl (w.alloc o) B A n f := h.below ((Below.refl _ _).alloc hB o)
theorem Sl.setCell (h : Sl w B A n f) {p : Addr} (hB : B ≤ p.block) (u : Value) : Sl (w.setCell p u) B A n f := h.below ((Below.refl _ _).setCell hB u)
end
section
variable {H : Type} {enc : TypeId × Value → H} {P : Program} {w : World} {base : Nat}
/-- an argument that is a slice: its cells, and each element's own reading -/
theorem open_sl {t e k : Nat} {v : Value} {d : DataW H} {p : List MemPlace} (ht : P.underlying t = some (.slice e)) (hk : P.cellsOf e = k) (hv : Value.okWide P w .any base t v)
    (h : DataW.Trod enc P w 0 (fun _ => true) true t v d p) :
    ∃ (A : Option Addr) (n c : Nat) (f : Nat → Value) (fuel : Nat), v = .slice A n c ∧ n ≤ c ∧ c ≤ 9223372036854775807 ∧ Sl w w.heap.size A (n * k) f ∧
      ∀ i, i < n → ∃ x, DataW.trod enc P w 0 (fun _ => true) true fuel e ((List.range k).map fun j => f (i * k + j)) = some x := by
  subst hk
  obtain ⟨A, n, c, rfl⟩ := okWide_slice ht hv
  obtain ⟨fuel, hf⟩ := h
  rcases Deep.open_slice ht hf with ⟨hcs, _⟩ | ⟨a, len, cap, m, n', D, Pl, hcs, _, hl, hm, hmm, _, hi⟩
  · simp [Value.cells] at hcs
    obtain ⟨rfl, rfl, rfl⟩ := hcs
    exact ⟨none, 0, 0, fun _ => undef, 0, rfl, Nat.le_refl _, by omega, fun i hi => absurd hi (by omega), fun i hi => absurd hi (by omega)⟩
  · simp [Value.cells] at hcs
    obtain ⟨rfl, rfl, rfl⟩ := hcs
    simp only [if_true] at hmm
    have hm' : c ≤ 9223372036854775807 := by simpa [maxLen] using hm
    by_cases hpos : 0 < n ∧ 0 < P.cellsOf e
    · obtain ⟨cs0, hc0, _⟩ := hi 0 (by omega)
      obtain ⟨_, hlen0, hcell0⟩ := World.cells?_some hc0
      have h00 := hcell0 0 hpos.2
      rw [Deep.add_add, List.getElem?_eq_getElem (by omega)] at h00
      have hs : a.spot = none := by simpa [Addr.add] using World.cell?_spot h00
      obtain ⟨b, o, sp⟩ := a
      simp only at hs
      subst hs
      have key : ∀ i, i < n → ∀ j, j < P.cellsOf e → ∃ u, w.cell? ⟨b, o + (i * P.cellsOf e + j), none⟩ = some u := by
        intro i hin j hj
        obtain ⟨cs', hc, _⟩ := hi i (by omega)
        obtain ⟨_, hlen, hcell⟩ := World.cells?_some hc
        have := hcell j hj
        rw [Deep.add_add, Addr.add_lit, List.getElem?_eq_getElem (by omega)] at this
        exact ⟨_, this⟩
      refine ⟨some ⟨b, o, none⟩, n, c, fun i => (w.cell? ⟨b, o + i, none⟩).getD undef, n', rfl, hl, hm', fun i hin => ?_, fun i hin => ?_⟩
      · have hq : i / P.cellsOf e < n := Nat.div_lt_of_lt_mul (by rw [Nat.mul_comm]; exact hin)
        obtain ⟨u, hu⟩ := key (i / P.cellsOf e) hq (i % P.cellsOf e) (Nat.mod_lt _ hpos.2)
        rw [Nat.div_add_mod'] at hu
        refine ⟨b, o, rfl, World.block_lt_of_cell? w _ hu, ?_⟩
        simp only [hu, Option.getD_some]
      · obtain ⟨cs', hc, ht'⟩ := hi i (by omega)
        obtain ⟨_, hlen, hcell⟩ := World.cells?_some hc
        refine ⟨(D i, Pl i), ?_⟩
        rw [← ht']
        congr 1
        refine List.ext_getElem (by simp [hlen]) fun j h1 h2 => ?_
        have hj : j < P.cellsOf e := by simpa using h1
        have := hcell j hj
        rw [Deep.add_add, Addr.add_lit, List.getElem?_eq_getElem (by omega)] at this
        simp only [List.getElem_map, List.getElem_range, this, Option.getD_some]
    · have hz : n * P.cellsOf e = 0 := by
        rcases Nat.eq_zero_or_pos n with h0 | h0
        · rw [h0, Nat.zero_mul]
        · have : P.cellsOf e = 0 := by omega
          rw [this, Nat.mul_zero]
      refine ⟨some a, n, c, fun _ => undef, n', rfl, hl, hm', fun i hin => absurd hin (by omega), fun i hin => ?_⟩
      obtain ⟨cs', hc, ht'⟩ := hi i (by omega)
      obtain ⟨_, hlen, _⟩ := World.cells?_some hc
      have hk0 : P.cellsOf e = 0 := by
        rcases Nat.eq_zero_or_pos (P.cellsOf e) with h0 | h0
        · exact h0
        · exact absurd ⟨by omega, h0⟩ hpos
      refine ⟨(D i, Pl i), ?_⟩
      rw [← ht']
      congr 1
      rw [hk0] at hlen ⊢
      simp [List.eq_nil_of_length_eq_zero hlen]
def intV : Value → Int | .int _ z => z | _ => 0
def strV : Value → ByteArray | .string s => s | _ => ByteArray.empty
def boolV : Value → Bool | .bool b => b | _ => false
/-- a slice of integers -/
theorem open_sl_int {t e : Nat} {k : IntKind} {v : Value} {d : DataW H} {p : List MemPlace} (ht : P.underlying t = some (.slice e)) (he : P.underlying e = some (.int k)) (hk : P.cellsOf e = 1) (hv : Value.okWide P w .any base t v)
    (h : DataW.Trod enc P w 0 (fun _ => true) true t v d p) :
    ∃ (A : Option Addr) (n c : Nat) (z : Nat → Int), v = .slice A n c ∧ n ≤ c ∧ c ≤ 9223372036854775807 ∧ Sl w w.heap.size A n (fun i => .int k (z i)) ∧ ∀ i, i < n → (Lit.int k (z i)).wf = true := by
  obtain ⟨A, n, c, f, fuel, rfl, h1, h2, h3, h4⟩ := open_sl ht hk hv h
  rw [Nat.mul_one] at h3
  have hz : ∀ i, i < n → f i = .int k (intV (f i)) ∧ (Lit.int k (intV (f i))).wf = true := by
    intro i hi
    obtain ⟨x, hx⟩ := h4 i hi
    obtain ⟨m, hm, _, hw⟩ := DataW.trod_int he hx
    simp at hm
    rw [hm]; exact ⟨rfl, hw⟩
  exact ⟨A, n, c, fun i => intV (f i), rfl, h1, h2, h3.congr fun i hi => (hz i hi).1, fun i hi => (hz i hi).2⟩
/-- a slice of strings -/
theorem open_sl_str {t e : Nat} {v : Value} {d : DataW H} {p : List MemPlace} (ht : P.underlying t = some (.slice e)) (he : P.underlying e = some .string) (hk : P.cellsOf e = 1) (hv : Value.okWide P w .any base t v)
    (h : DataW.Trod enc P w 0 (fun _ => true) true t v d p) :
    ∃ (A : Option Addr) (n c : Nat) (z : Nat → ByteArray), v = .slice A n c ∧ n ≤ c ∧ c ≤ 9223372036854775807 ∧ Sl w w.heap.size A n (fun i => .string (z i)) ∧ ∀ i, i < n → (z i).size ≤ 9223372036854775807 := by
  obtain ⟨A, n, c, f, fuel, rfl, h1, h2, h3, h4⟩ := open_sl ht hk hv h
  rw [Nat.mul_one] at h3
  have hz : ∀ i, i < n → f i = .string (strV (f i)) ∧ (strV (f i)).size ≤ 9223372036854775807 := by
    intro i hi
    obtain ⟨x, hx⟩ := h4 i hi
    obtain ⟨m, hm, _, hw⟩ := DataW.trod_string he hx
    simp at hm
    rw [hm]; exact ⟨rfl, by simpa [maxLen, strV] using hw⟩
  exact ⟨A, n, c, fun i => strV (f i), rfl, h1, h2, h3.congr fun i hi => (hz i hi).1, fun i hi => (hz i hi).2⟩
end
section
variable {w w' : World} {B n : Nat} {A : Option Addr} {f : Nat → Value}
/-- element i of a slice of two-cell elements -/
theorem Sl.two (h : Sl w B A (n * 2) f) {i : Nat} (hi : i < n) : ∃ b o, A = some ⟨b, o, none⟩ ∧ b < B ∧ w.cell? ⟨b, o + i * 2, none⟩ = some (f (i * 2)) ∧ w.cell? ⟨b, o + i * 2 + 1, none⟩ = some (f (i * 2 + 1)) := by
  obtain ⟨b, o, rfl, hb, h0⟩ := h (i * 2) (by omega)
  obtain ⟨b', o', e, _, h1⟩ := h (i * 2 + 1) (by omega)
  simp only [Option.some.injEq, Addr.mk.injEq] at e
  obtain ⟨rfl, rfl, _⟩ := e
  exact ⟨b, o, rfl, hb, h0, h1⟩
end
/-! ### a row of the call's own, known by its cells -/
def Rw (w : World) (g e : Nat) (cs : Array Value) : Prop := w.heap[g]? = some (.cells cs e (0, 0))
section
variable {w w' : World} {g e : Nat} {cs : Array Value}
theorem Rw.lt (h : Rw w g e cs) : g < w.heap.size := by
  unfold Rw at h
  exact (Array.getElem?_eq_some_iff.1 h).1
theorem Rw.cell (h : Rw w g e cs) (i : Nat) : w.cell? ⟨g, i, none⟩ = cs[i]? := cell_of_row w g i cs e (0, 0) h
theorem Rw.frozen (h : Rw w g e cs) (i : Nat) : w.frozen? ⟨g, i, none⟩ = false := by
  unfold Rw at h; simp [World.frozen?, h]
theorem Rw.new (w : World) (e : Nat) (cs : Array Value) : Rw (w.alloc (.cells cs e)) w.heap.size e cs := heap_alloc_new w _
theorem Rw.alloc (h : Rw w g e cs) (o : Obj) : Rw (w.alloc o) g e cs := (Below.heap_alloc w o g h.lt).trans h
theorem Rw.drewN (h : Rw w g e cs) (k : Nat) : Rw (w.drewN k) g e cs := h
theorem Rw.drew (h : Rw w g e cs) : Rw w.drew g e cs := h
theorem Rw.set (h : Rw w g e cs) (i : Nat) (u : Value) : Rw (w.setCell ⟨g, i, none⟩ u) g e (cs.setIfInBounds i u) := by
  unfold Rw at h ⊢; simp [World.setCell, Array.getElem?_modify, h]
theorem Rw.far (h : Rw w g e cs) {p : Addr} (hp : g ≠ p.block) (u : Value) : Rw (w.setCell p u) g e cs := (Below.heap_setCell w p u g hp).trans h
theorem Rw.below {B : Nat} (h : Rw w g e cs) (hb : Below B w w') (hg : g < B) : Rw w' g e cs := (hb.block g hg).trans h
theorem Rw.sl (h : Rw w g e cs) {n : Nat} {f : Nat → Value} (hf : ∀ i, i < n → cs[i]? = some (f i)) : Sl w w.heap.size (some ⟨g, 0, none⟩) n f :=
  fun i hi => ⟨g, 0, rfl, h.lt, by rw [Nat.zero_add, h.cell i]; exact hf i hi⟩
end
theorem bcell {W w1 : World} (hb : Below W.heap.size W w1) : (∀ b o, b < W.heap.size → w1.cell? ⟨b, o, none⟩ = W.cell? ⟨b, o, none⟩) ∧ (∀ b o, b < W.heap.size → w1.frozen? ⟨b, o, none⟩ = W.frozen? ⟨b, o, none⟩) :=
  ⟨fun b o h => hb.cell (p := ⟨b, o, none⟩) h, fun b o h => hb.frozen (p := ⟨b, o, none⟩) h⟩
/-- all lengths of the first texts -/
def tot (s : Nat → ByteArray) : Nat → Nat
  | 0 => 0
  | m + 1 => tot s m + (s m).size
theorem tot_mono (s : Nat → ByteArray) {a b : Nat} (h : a ≤ b) : tot s a ≤ tot s b := by
  induction b with
  | zero => have : a = 0 := by omega
            subst this; exact Nat.le_refl _
  | succ b ih =>
    rcases Nat.lt_or_ge b a with h' | h'
    · have : a = b + 1 := by omega
      subst this; exact Nat.le_refl _
    · exact Nat.le_trans (ih h') (by simp only [tot]; omega)
theorem str_eq_true {x y : ByteArray} (h : x = y) : (x.toList == y.toList) = true := by subst h; simp
theorem str_eq_false {x y : ByteArray} (h : x ≠ y) : (x.toList == y.toList) = false := by
  rw [beq_eq_false_iff_ne]
  intro e
  rw [ByteArray.toList_eq, ByteArray.toList_eq] at e
  obtain ⟨⟨a⟩⟩ := x
  obtain ⟨⟨b⟩⟩ := y
  simp at e
  exact h (by rw [e])
/-- two cells more are as they should be -/
theorem two_more {cur : Array Value} {f : Nat → Value} {k : Nat} {x y : Value} (h : ∀ i, i < k * 2 → cur[i]? = some (f i)) (hs : k * 2 + 1 < cur.size) (hx : x = f (k * 2)) (hy : y = f (k * 2 + 1)) :
    ∀ i, i < (k + 1) * 2 → ((cur.setIfInBounds (k * 2) x).setIfInBounds (k * 2 + 1) y)[i]? = some (f i) := by
  intro i hi
  subst hx hy
  rw [Array.getElem?_setIfInBounds, Array.getElem?_setIfInBounds, Array.size_setIfInBounds]
  by_cases h1 : k * 2 + 1 = i
  · subst h1; rw [if_pos rfl, if_pos (by omega)]
  · rw [if_neg h1]
    by_cases h2 : k * 2 = i
    · subst h2; rw [if_pos rfl, if_pos (by omega)]
    · rw [if_neg h2]; exact h i (by omega)
/-- one cell more -/
theorem one_more {cur : Array Value} {f : Nat → Value} {k : Nat} {x : Value} (h : ∀ i, i < k → cur[i]? = some (f i)) (hs : k < cur.size) (hx : x = f k) :
    ∀ i, i < k + 1 → (cur.setIfInBounds k x)[i]? = some (f i) := by
  intro i hi
  subst hx
  rw [Array.getElem?_setIfInBounds]
  by_cases h1 : k = i
  · subst h1; rw [if_pos rfl, if_pos hs]
  · rw [if_neg h1]; exact h i (by omega)
theorem toList_iff (x y : ByteArray) : x.toList = y.toList ↔ x = y := by
  refine ⟨fun e => ?_, fun e => by rw [e]⟩
  rw [ByteArray.toList_eq, ByteArray.toList_eq] at e
  obtain ⟨⟨a⟩⟩ := x
  obtain ⟨⟨b⟩⟩ := y
  simp at e
  rw [e]
section
variable {H : Type} {enc : TypeId × Value → H} {P : Program} {w : World} {base : Nat}
/-- an argument that is a slice of structs of one-cell fields: each cell by its field's type -/
theorem open_sl_fields {t e k : Nat} {fs : Array Field} {v : Value} {d : DataW H} {p : List MemPlace} (ht : P.underlying t = some (.slice e)) (he : P.underlying e = some (.struct fs)) (hone : Deep.oneCellFields P fs = true)
    (hk : P.cellsOf e = k) (hks : fs.size = k) (hv : Value.okWide P w .any base t v) (h : DataW.Trod enc P w 0 (fun _ => true) true t v d p) :
    ∃ (A : Option Addr) (n c : Nat) (f : Nat → Value), v = .slice A n c ∧ n ≤ c ∧ c ≤ 9223372036854775807 ∧ Sl w w.heap.size A (n * k) f ∧
      ∀ i, i < n → ∀ (j : Nat) (fd : Field), fs[j]? = some fd → ∃ fuel x, DataW.trod enc P w 0 (fun _ => true) true fuel fd.type [f (i * k + j)] = some x := by
  obtain ⟨A, n, c, f, fuel, rfl, h1, h2, h3, h4⟩ := open_sl ht hk hv h
  refine ⟨A, n, c, f, rfl, h1, h2, h3, fun i hi j fd hj => ?_⟩
  obtain ⟨x, hx⟩ := h4 i hi
  obtain ⟨xs, n', _, _, hlen, hxl, hf⟩ := DataW.trod_struct he hx
  obtain ⟨ho, hc1⟩ := Deep.hone_of hone j fd hj
  have hjl : j < fs.size := (Array.getElem?_eq_some_iff.1 hj).1
  have := hf j fd hj
  rw [ho, hc1] at this
  have e1 : (((List.range k).map fun j => f (i * k + j)).drop j).take 1 = [f (i * k + j)] := by
    rw [List.drop_eq_getElem_cons (by simp; omega)]
    simp
  rw [e1, List.getElem?_eq_getElem (by omega)] at this
  exact ⟨n', _, this⟩
/-- a slice of structs of two texts -/
theorem open_sl_str2 {t e : Nat} {f0 f1 : Field} {v : Value} {d : DataW H} {p : List MemPlace} (ht : P.underlying t = some (.slice e)) (he : P.underlying e = some (.struct #[f0, f1])) (hone : Deep.oneCellFields P #[f0, f1] = true)
    (hk : P.cellsOf e = 2) (h0 : P.underlying f0.type = some .string) (h1 : P.underlying f1.type = some .string) (hv : Value.okWide P w .any base t v) (h : DataW.Trod enc P w 0 (fun _ => true) true t v d p) :
    ∃ (A : Option Addr) (n c : Nat) (s : Nat → ByteArray), v = .slice A n c ∧ n ≤ c ∧ c ≤ 9223372036854775807 ∧ Sl w w.heap.size A (n * 2) (fun i => .string (s i)) ∧ ∀ i, i < n * 2 → (s i).size ≤ 9223372036854775807 := by
  obtain ⟨A, n, c, f, rfl, g1, g2, g3, g4⟩ := open_sl_fields ht he hone hk rfl hv h
  have hz : ∀ i, i < n * 2 → f i = .string (strV (f i)) ∧ (strV (f i)).size ≤ 9223372036854775807 := by
    intro i hi
    have hq : i / 2 < n := by omega
    by_cases hp : i % 2 = 0
    · obtain ⟨fuel, x, hx⟩ := g4 (i / 2) hq 0 f0 rfl
      obtain ⟨m, hm, _, hw⟩ := DataW.trod_string h0 hx
      simp only [show i / 2 * 2 + 0 = i by omega, List.cons.injEq, and_true] at hm
      rw [hm]; exact ⟨rfl, by simpa [maxLen, strV] using hw⟩
    · obtain ⟨fuel, x, hx⟩ := g4 (i / 2) hq 1 f1 rfl
      obtain ⟨m, hm, _, hw⟩ := DataW.trod_string h1 hx
      simp only [show i / 2 * 2 + 1 = i by omega, List.cons.injEq, and_true] at hm
      rw [hm]; exact ⟨rfl, by simpa [maxLen, strV] using hw⟩
  exact ⟨A, n, c, fun i => strV (f i), rfl, g1, g2, g3.congr fun i hi => (hz i hi).1, fun i hi => (hz i hi).2⟩
end
end Go.Proofs.Ytcbebhigbafigaa.lib
