/-
  General lemmas for the walks of this seat: integers and bits, slices that are read, slices that are made. No function of the program is named here.
  Rows of the call's own (a frozen mark behind the end let in, as '[]byte(s)' lays it), what is appended one by one, bytes and texts. No function of the program is named here.
  GF(256), plain: the product 'gmul' on numbers below 256, its laws, its powers of 2, its inverses. No program is named here.
  The walks of the program's and the reference's functions of GF(256).
  The laws' own helpers on lists of texts: weighing, copying, comparing, marking.
  Slices of files (a name, a text): how the laws weigh, copy and compare them.
  An empty tree: the root and blocks of zeros.
  Check values of sixteen bits, words of two bytes.
  The laws' own helpers on lists of integers; copies of lists of texts.
-/
import Derived.WalkKit
import Derived.Outline
import Derived.Deep.RegionWith
import Derived.ProofKit
import Derived.OpenShut
import Derived.ShutString
import Derived.ChangeOld
import Derived.Below
import Derived.Deep.Draws
import Derived.Deep.Slices
import Derived.Deep.Fields
import Derived.Lib.Hide
import Derived.JoinedCond
import Derived.BigQuiet
import Derived.Deep.QuietTactic
import Derived.StillTailTactics
import Derived.Laws.MakeOwn
import Derived.WalkSmall
import Derived.IntWalk
import Derived.Deep.AppendLies
import Derived.Laws.BytesArg
import Derived.Laws.IdiomStrings
import Derived.Laws.Concat
import Derived.Deep.RegionHeld3
import Derived.Deep.RegionLaw
import Derived.Test.YtabmdbhbbmnkdaaDoorChecked
namespace Go.RowKit
theorem Below.drewN {B : Nat} {a w : World} (h : Below B a w) (n : Nat) : Below B a (w.drewN n) := ⟨h.os, h.tape, h.output, h.size, h.block⟩
end Go.RowKit
namespace Go.Proofs.YtabmdbhbbmnkdaaDoor.lib
open Go Go.ChangeShapes Go.WideShapes Go.ChangeAt Go.RowKit
set_option linter.unusedVariables false

theorem ofInt_i64 (a : Nat) (ha : a < 9223372036854775808) : (BitVec.ofInt 64 (a : Int)).toNat = a := by
  rw [BitVec.ofInt_natCast, BitVec.toNat_ofNat]; exact Nat.mod_eq_of_lt (by omega)
theorem i64_xor (a b : Nat) (ha : a < 9223372036854775808) (hb : b < 9223372036854775808) : bits .xor .i64 (a : Int) (b : Int) = ((a ^^^ b : Nat) : Int) := by
  have h : a ^^^ b < 2 ^ 63 := Nat.xor_lt_two_pow (n := 63) (by omega) (by omega)
  show IntKind.i64.wrap ((BitVec.ofInt 64 (a : Int) ^^^ BitVec.ofInt 64 (b : Int)).toNat : Int) = _
  rw [BitVec.toNat_xor, ofInt_i64 a ha, ofInt_i64 b hb, IntKind.wrap_i64]
  omega
theorem i64_and (a b : Nat) (ha : a < 9223372036854775808) (hb : b < 9223372036854775808) : bits .and .i64 (a : Int) (b : Int) = ((a &&& b : Nat) : Int) := by
  have h : a &&& b < 2 ^ 63 := Nat.and_lt_two_pow (n := 63) a (by omega)
  show IntKind.i64.wrap ((BitVec.ofInt 64 (a : Int) &&& BitVec.ofInt 64 (b : Int)).toNat : Int) = _
  rw [BitVec.toNat_and, ofInt_i64 a ha, ofInt_i64 b hb, IntKind.wrap_i64]
  omega
theorem i64_or (a b : Nat) (ha : a < 9223372036854775808) (hb : b < 9223372036854775808) : bits .or .i64 (a : Int) (b : Int) = ((a ||| b : Nat) : Int) := by
  have h : a ||| b < 2 ^ 63 := Nat.or_lt_two_pow (n := 63) (by omega) (by omega)
  show IntKind.i64.wrap ((BitVec.ofInt 64 (a : Int) ||| BitVec.ofInt 64 (b : Int)).toNat : Int) = _
  rw [BitVec.toNat_or, ofInt_i64 a ha, ofInt_i64 b hb, IntKind.wrap_i64]
  omega
theorem ret_int {k : IntKind} {a b : Int} (h : a = b) : Ending.returned (.int k a) = .returned (.int k b) := by rw [h]
theorem tmod_emod (x n : Int) : x.tmod n % n = x % n := by
  by_cases h : x < 0
  · obtain ⟨y, rfl⟩ : ∃ y, x = -y := ⟨-x, by omega⟩
    rw [Int.neg_tmod, Int.tmod_eq_emod_of_nonneg (by omega : (0:Int) ≤ y)]
    rw [Int.neg_emod_eq_sub_emod, Int.neg_emod_eq_sub_emod, Int.sub_emod n (y % n) n, Int.emod_emod, ← Int.sub_emod]
  · rw [Int.tmod_eq_emod_of_nonneg (by omega), Int.emod_emod]
section
variable {H : Type} {enc : TypeId × Value → H} {P : Program}
/-- below the old heap nothing has turned: all arguments read as they did -/
theorem trodAll_below (hl : laidOutB P = true) {W W' : World} (hb : Below W.heap.size W W') : ∀ (ts : List TypeId) (vs : List Value) (ds : List (DataW H)) (ps : List MemPlace),
    (ts.all fun t => P.readableRec t && decide (t < P.types.size)) = true → DataW.TrodAll enc P W 0 (fun _ => true) true ts vs ds ps →
    DataW.TrodAll enc P W' 0 (fun b => decide (b < W.heap.size)) true ts vs ds ps
  | [], _, _, _, _, h => by
    obtain ⟨rfl, rfl, rfl⟩ := trodAll_nil h
    exact trodAll_mk0
  | t :: ts, _, _, _, hr, h => by
    obtain ⟨v, vs, d, ds, p, q, rfl, rfl, rfl, h0, h1⟩ := trodAll_cons h
    simp only [List.all_cons, Bool.and_eq_true, decide_eq_true_eq] at hr
    refine trodAll_cons_mk (Below.trod hl hr.1.1 hr.1.2 h0 hb ?_) (trodAll_below hl hb ts vs ds q hr.2 h1)
    obtain ⟨m, hm⟩ := h0
    exact DataW.trod_lt m _ _ _ hm
/-- a law's post: true, and nothing that was there has turned -/
theorem law_post {fn : Func} {s : ChangeSpec} {W W' : World} {args : Array Value} {ds gs : List (DataW H)} {before : List MemPlace} {tb : TypeId}
    (hl : laidOutB P = true) (hr : (fn.params.toList.all fun t => P.readableRec t && decide (t < P.types.size)) = true) (hv : s.vars = []) (hres : fn.resultTypes = #[tb]) (ht : P.underlying tb = some .bool)
    (hs : ∀ xs : List (DataW H), xs.length = fn.params.toList.length → (s.fn H xs).results = [.lit (.bool true)] ∧ (s.fn H xs).args = xs ∧ (s.fn H xs).vars = [])
    (hW : DataW.Whole enc P fn.params.toList s.vars false W args.toList ds gs before) (hb : Below W.heap.size W W') :
    s.post enc P fn false true false false W args (.bool true) W' := by
  have hW' := hW
  obtain ⟨p, q, hA, hV, rfl, hfz, hnd⟩ := hW
  rw [hv] at hV
  obtain ⟨rfl, rfl⟩ := trodVars_none hV
  have hlen : ds.length = fn.params.toList.length := by
    clear hW' hfz hnd hs hr hres
    revert hA
    generalize fn.params.toList = ts
    generalize args.toList = vs
    intro hA
    induction ts generalizing vs ds p with
    | nil => obtain ⟨rfl, rfl, rfl⟩ := trodAll_nil hA; rfl
    | cons t ts ih =>
      obtain ⟨v, vs, d, ds, p, q, rfl, rfl, rfl, h0, h1⟩ := trodAll_cons hA
      simp [ih q vs h1]
  obtain ⟨s1, s2, s3⟩ := hs ds hlen
  refine ⟨ds, [], _, [], p, [], hW', ?_, ?_, ?_, hb.frame _, fun h => by cases h⟩
  · rw [List.append_nil, s1, hres]
    exact trodAll_mk1 (shut_bool ht _)
  · rw [List.append_nil, s2]
    exact trodAll_below hl hb _ _ _ _ hr hA
  · rw [List.append_nil, s3, hv]
    rfl
end
/-! ### slices that are read: the cell i of the slice with address A holds 'f i', for i < n; all below block B -/
def Sl (w : World) (B : Nat) (A : Option Addr) (n : Nat) (f : Nat → Value) : Prop :=
  ∀ i, i < n → ∃ b o, A = some ⟨b, o, none⟩ ∧ b < B ∧ w.cell? ⟨b, o + i, none⟩ = some (f i)
section
variable {w w' : World} {B B' n : Nat} {A : Option Addr} {f g : Nat → Value}
theorem Sl.keep (h : Sl w B A n f) (hk : ∀ b o, b < B → w'.cell? ⟨b, o, none⟩ = w.cell? ⟨b, o, none⟩) : Sl w' B A n f := fun i hi => by
  obtain ⟨b, o, hA, hb, hc⟩ := h i hi
  exact ⟨b, o, hA, hb, (hk b _ hb).trans hc⟩
theorem Sl.below (h : Sl w B A n f) (hb : Below B w w') : Sl w' B A n f := h.keep fun b o h => hb.cell (p := ⟨b, o, none⟩) h
theorem Sl.more (h : Sl w B A n f) (hB : B ≤ B') : Sl w B' A n f := fun i hi => by
  obtain ⟨b, o, hA, hb, hc⟩ := h i hi
  exact ⟨b, o, hA, by omega, hc⟩
theorem Sl.less {m : Nat} (h : Sl w B A n f) (hm : m ≤ n) : Sl w B A m f := fun i hi => h i (by omega)
theorem Sl.congr (h : Sl w B A n f) (he : ∀ i, i < n → f i = g i) : Sl w B A n g := fun i hi => by
  obtain ⟨b, o, hA, hb, hc⟩ := h i hi
  exact ⟨b, o, hA, hb, by rw [hc, he i hi]⟩
theorem Sl.nil : Sl w B A 0 f := fun i hi => absurd hi (by omega)
theorem Sl.drewN (h : Sl w B A n f) (k : Nat) : Sl (w.drewN k) B A n f := h
theorem Sl.drew (h : Sl w B A n f) : Sl w.drew B A n f := h
theorem Sl.alloc (h : Sl w B A n f) (hB : B ≤ w.heap.size) (o : Obj) : Sl (w.alloc o) B A n f := h.below ((Below.refl _ _).alloc hB o)
theorem Sl.setCell (h : Sl w B A n f) {p : Addr} (hB : B ≤ p.block) (u : Value) : Sl (w.setCell p u) B A n f := h.below ((Below.refl _ _).setCell hB u)
end
section
variable {H : Type} {enc : TypeId × Value → H} {P : Program} {w : World} {base : Nat}
/-- an argument that is a slice: its cells, and each element's own reading -/
theorem open_sl {t e k : Nat} {v : Value} {d : DataW H} {p : List MemPlace} (ht : P.underlying t = some (.slice e)) (hk : P.cellsOf e = k) (hv : Value.okWide P w .any base t v)
    (h : DataW.Trod enc P w 0 (fun _ => true) true t v d p) :
    ∃ (A : Option Addr) (n c : Nat) (f : Nat → Value) (fuel : Nat), v = .slice A n c ∧ n ≤ c ∧ c ≤ 9223372036854775807 ∧ Sl w w.heap.size A (n * k) f ∧
      ∀ i, i < n → ∃ x, DataW.trod enc P w 0 (fun _ => true) true fuel e ((List.range k).map fun j => f (i * k + j)) = some x := by
  subst hk
  obtain ⟨A, n, c, rfl⟩ := okWide_slice ht hv
  obtain ⟨fuel, hf⟩ := h
  rcases Deep.open_slice ht hf with ⟨hcs, _⟩ | ⟨a, len, cap, m, n', D, Pl, hcs, _, hl, hm, hmm, _, hi⟩
  · simp [Value.cells] at hcs
    obtain ⟨rfl, rfl, rfl⟩ := hcs
    exact ⟨none, 0, 0, fun _ => undef, 0, rfl, Nat.le_refl _, by omega, fun i hi => absurd hi (by omega), fun i hi => absurd hi (by omega)⟩
  · simp [Value.cells] at hcs
    obtain ⟨rfl, rfl, rfl⟩ := hcs
    simp only [if_true] at hmm
    have hm' : c ≤ 9223372036854775807 := by simpa [maxLen] using hm
    by_cases hpos : 0 < n ∧ 0 < P.cellsOf e
    · obtain ⟨cs0, hc0, _⟩ := hi 0 (by omega)
      obtain ⟨_, hlen0, hcell0⟩ := World.cells?_some hc0
      have h00 := hcell0 0 hpos.2
      rw [Deep.add_add, List.getElem?_eq_getElem (by omega)] at h00
      have hs : a.spot = none := by simpa [Addr.add] using World.cell?_spot h00
      obtain ⟨b, o, sp⟩ := a
      simp only at hs
      subst hs
      have key : ∀ i, i < n → ∀ j, j < P.cellsOf e → ∃ u, w.cell? ⟨b, o + (i * P.cellsOf e + j), none⟩ = some u := by
        intro i hin j hj
        obtain ⟨cs', hc, _⟩ := hi i (by omega)
        obtain ⟨_, hlen, hcell⟩ := World.cells?_some hc
        have := hcell j hj
        rw [Deep.add_add, Addr.add_lit, List.getElem?_eq_getElem (by omega)] at this
        exact ⟨_, this⟩
      refine ⟨some ⟨b, o, none⟩, n, c, fun i => (w.cell? ⟨b, o + i, none⟩).getD undef, n', rfl, hl, hm', fun i hin => ?_, fun i hin => ?_⟩
      · have hq : i / P.cellsOf e < n := Nat.div_lt_of_lt_mul (by rw [Nat.mul_comm]; exact hin)
        obtain ⟨u, hu⟩ := key (i / P.cellsOf e) hq (i % P.cellsOf e) (Nat.mod_lt _ hpos.2)
        rw [Nat.div_add_mod'] at hu
        refine ⟨b, o, rfl, World.block_lt_of_cell? w _ hu, ?_⟩
        simp only [hu, Option.getD_some]
      · obtain ⟨cs', hc, ht'⟩ := hi i (by omega)
        obtain ⟨_, hlen, hcell⟩ := World.cells?_some hc
        refine ⟨(D i, Pl i), ?_⟩
        rw [← ht']
        congr 1
        refine List.ext_getElem (by simp [hlen]) fun j h1 h2 => ?_
        have hj : j < P.cellsOf e := by simpa using h1
        have := hcell j hj
        rw [Deep.add_add, Addr.add_lit, List.getElem?_eq_getElem (by omega)] at this
        simp only [List.getElem_map, List.getElem_range, this, Option.getD_some]
    · have hz : n * P.cellsOf e = 0 := by
        rcases Nat.eq_zero_or_pos n with h0 | h0
        · rw [h0, Nat.zero_mul]
        · have : P.cellsOf e = 0 := by omega
          rw [this, Nat.mul_zero]
      refine ⟨some a, n, c, fun _ => undef, n', rfl, hl, hm', fun i hin => absurd hin (by omega), fun i hin => ?_⟩
      obtain ⟨cs', hc, ht'⟩ := hi i (by omega)
      obtain ⟨_, hlen, _⟩ := World.cells?_some hc
      have hk0 : P.cellsOf e = 0 := by
        rcases Nat.eq_zero_or_pos (P.cellsOf e) with h0 | h0
        · exact h0
        · exact absurd ⟨by omega, h0⟩ hpos
      refine ⟨(D i, Pl i), ?_⟩
      rw [← ht']
      congr 1
      rw [hk0] at hlen ⊢
      simp [List.eq_nil_of_length_eq_zero hlen]
def intV : Value → Int | .int _ z => z | _ => 0
def strV : Value → ByteArray | .string s => s | _ => ByteArray.empty
def boolV : Value → Bool | .bool b => b | _ => false
/-- a slice of integers -/
theorem open_sl_int {t e : Nat} {k : IntKind} {v : Value} {d : DataW H} {p : List MemPlace} (ht : P.underlying t = some (.slice e)) (he : P.underlying e = some (.int k)) (hk : P.cellsOf e = 1) (hv : Value.okWide P w .any base t v)
    (h : DataW.Trod enc P w 0 (fun _ => true) true t v d p) :
    ∃ (A : Option Addr) (n c : Nat) (z : Nat → Int), v = .slice A n c ∧ n ≤ c ∧ c ≤ 9223372036854775807 ∧ Sl w w.heap.size A n (fun i => .int k (z i)) ∧ ∀ i, i < n → (Lit.int k (z i)).wf = true := by
  obtain ⟨A, n, c, f, fuel, rfl, h1, h2, h3, h4⟩ := open_sl ht hk hv h
  rw [Nat.mul_one] at h3
  have hz : ∀ i, i < n → f i = .int k (intV (f i)) ∧ (Lit.int k (intV (f i))).wf = true := by
    intro i hi
    obtain ⟨x, hx⟩ := h4 i hi
    obtain ⟨m, hm, _, hw⟩ := DataW.trod_int he hx
    simp at hm
    rw [hm]; exact ⟨rfl, hw⟩
  exact ⟨A, n, c, fun i => intV (f i), rfl, h1, h2, h3.congr fun i hi => (hz i hi).1, fun i hi => (hz i hi).2⟩
/-- a slice of strings -/
theorem open_sl_str {t e : Nat} {v : Value} {d : DataW H} {p : List MemPlace} (ht : P.underlying t = some (.slice e)) (he : P.underlying e = some .string) (hk : P.cellsOf e = 1) (hv : Value.okWide P w .any base t v)
    (h : DataW.Trod enc P w 0 (fun _ => true) true t v d p) :
    ∃ (A : Option Addr) (n c : Nat) (z : Nat → ByteArray), v = .slice A n c ∧ n ≤ c ∧ c ≤ 9223372036854775807 ∧ Sl w w.heap.size A n (fun i => .string (z i)) ∧ ∀ i, i < n → (z i).size ≤ 9223372036854775807 := by
  obtain ⟨A, n, c, f, fuel, rfl, h1, h2, h3, h4⟩ := open_sl ht hk hv h
  rw [Nat.mul_one] at h3
  have hz : ∀ i, i < n → f i = .string (strV (f i)) ∧ (strV (f i)).size ≤ 9223372036854775807 := by
    intro i hi
    obtain ⟨x, hx⟩ := h4 i hi
    obtain ⟨m, hm, _, hw⟩ := DataW.trod_string he hx
    simp at hm
    rw [hm]; exact ⟨rfl, by simpa [maxLen, strV] using hw⟩
  exact ⟨A, n, c, fun i => strV (f i), rfl, h1, h2, h3.congr fun i hi => (hz i hi).1, fun i hi => (hz i hi).2⟩
end
section
variable {w w' : World} {B n : Nat} {A : Option Addr} {f : Nat → Value}
/-- element i of a slice of two-cell elements -/
theorem Sl.two (h : Sl w B A (n * 2) f) {i : Nat} (hi : i < n) : ∃ b o, A = some ⟨b, o, none⟩ ∧ b < B ∧ w.cell? ⟨b, o + i * 2, none⟩ = some (f (i * 2)) ∧ w.cell? ⟨b, o + i * 2 + 1, none⟩ = some (f (i * 2 + 1)) := by
  obtain ⟨b, o, rfl, hb, h0⟩ := h (i * 2) (by omega)
  obtain ⟨b', o', e, _, h1⟩ := h (i * 2 + 1) (by omega)
  simp only [Option.some.injEq, Addr.mk.injEq] at e
  obtain ⟨rfl, rfl, _⟩ := e
  exact ⟨b, o, rfl, hb, h0, h1⟩
end
/-! ### a row of the call's own, known by its cells -/
def Rw (w : World) (g e : Nat) (cs : Array Value) : Prop := w.heap[g]? = some (.cells cs e (0, 0))
section
variable {w w' : World} {g e : Nat} {cs : Array Value}
theorem Rw.lt (h : Rw w g e cs) : g < w.heap.size := by
  unfold Rw at h
  exact (Array.getElem?_eq_some_iff.1 h).1
theorem Rw.cell (h : Rw w g e cs) (i : Nat) : w.cell? ⟨g, i, none⟩ = cs[i]? := cell_of_row w g i cs e (0, 0) h
theorem Rw.frozen (h : Rw w g e cs) (i : Nat) : w.frozen? ⟨g, i, none⟩ = false := by
  unfold Rw at h; simp [World.frozen?, h]
theorem Rw.new (w : World) (e : Nat) (cs : Array Value) : Rw (w.alloc (.cells cs e)) w.heap.size e cs := heap_alloc_new w _
theorem Rw.alloc (h : Rw w g e cs) (o : Obj) : Rw (w.alloc o) g e cs := (Below.heap_alloc w o g h.lt).trans h
theorem Rw.drewN (h : Rw w g e cs) (k : Nat) : Rw (w.drewN k) g e cs := h
theorem Rw.drew (h : Rw w g e cs) : Rw w.drew g e cs := h
theorem Rw.set (h : Rw w g e cs) (i : Nat) (u : Value) : Rw (w.setCell ⟨g, i, none⟩ u) g e (cs.setIfInBounds i u) := by
  unfold Rw at h ⊢; simp [World.setCell, Array.getElem?_modify, h]
theorem Rw.far (h : Rw w g e cs) {p : Addr} (hp : g ≠ p.block) (u : Value) : Rw (w.setCell p u) g e cs := (Below.heap_setCell w p u g hp).trans h
theorem Rw.below {B : Nat} (h : Rw w g e cs) (hb : Below B w w') (hg : g < B) : Rw w' g e cs := (hb.block g hg).trans h
theorem Rw.sl (h : Rw w g e cs) {n : Nat} {f : Nat → Value} (hf : ∀ i, i < n → cs[i]? = some (f i)) : Sl w w.heap.size (some ⟨g, 0, none⟩) n f :=
  fun i hi => ⟨g, 0, rfl, h.lt, by rw [Nat.zero_add, h.cell i]; exact hf i hi⟩
end
theorem bcell {W w1 : World} (hb : Below W.heap.size W w1) : (∀ b o, b < W.heap.size → w1.cell? ⟨b, o, none⟩ = W.cell? ⟨b, o, none⟩) ∧ (∀ b o, b < W.heap.size → w1.frozen? ⟨b, o, none⟩ = W.frozen? ⟨b, o, none⟩) :=
  ⟨fun b o h => hb.cell (p := ⟨b, o, none⟩) h, fun b o h => hb.frozen (p := ⟨b, o, none⟩) h⟩
/-- all lengths of the first texts -/
def tot (s : Nat → ByteArray) : Nat → Nat
  | 0 => 0
  | m + 1 => tot s m + (s m).size
theorem tot_mono (s : Nat → ByteArray) {a b : Nat} (h : a ≤ b) : tot s a ≤ tot s b := by
  induction b with
  | zero => have : a = 0 := by omega
            subst this; exact Nat.le_refl _
  | succ b ih =>
    rcases Nat.lt_or_ge b a with h' | h'
    · have : a = b + 1 := by omega
      subst this; exact Nat.le_refl _
    · exact Nat.le_trans (ih h') (by simp only [tot]; omega)
theorem str_eq_true {x y : ByteArray} (h : x = y) : (x.toList == y.toList) = true := by subst h; simp
theorem str_eq_false {x y : ByteArray} (h : x ≠ y) : (x.toList == y.toList) = false := by
  rw [beq_eq_false_iff_ne]
  intro e
  rw [ByteArray.toList_eq, ByteArray.toList_eq] at e
  obtain ⟨⟨a⟩⟩ := x
  obtain ⟨⟨b⟩⟩ := y
  simp at e
  exact h (by rw [e])
/-- two cells more are as they should be -/
theorem two_more {cur : Array Value} {f : Nat → Value} {k : Nat} {x y : Value} (h : ∀ i, i < k * 2 → cur[i]? = some (f i)) (hs : k * 2 + 1 < cur.size) (hx : x = f (k * 2)) (hy : y = f (k * 2 + 1)) :
    ∀ i, i < (k + 1) * 2 → ((cur.setIfInBounds (k * 2) x).setIfInBounds (k * 2 + 1) y)[i]? = some (f i) := by
  intro i hi
  subst hx hy
  rw [Array.getElem?_setIfInBounds, Array.getElem?_setIfInBounds, Array.size_setIfInBounds]
  by_cases h1 : k * 2 + 1 = i
  · subst h1; rw [if_pos rfl, if_pos (by omega)]
  · rw [if_neg h1]
    by_cases h2 : k * 2 = i
    · subst h2; rw [if_pos rfl, if_pos (by omega)]
    · rw [if_neg h2]; exact h i (by omega)
/-- one cell more -/
theorem one_more {cur : Array Value} {f : Nat → Value} {k : Nat} {x : Value} (h : ∀ i, i < k → cur[i]? = some (f i)) (hs : k < cur.size) (hx : x = f k) :
    ∀ i, i < k + 1 → (cur.setIfInBounds k x)[i]? = some (f i) := by
  intro i hi
  subst hx
  rw [Array.getElem?_setIfInBounds]
  by_cases h1 : k = i
  · subst h1; rw [if_pos rfl, if_pos hs]
  · rw [if_neg h1]; exact h i (by omega)
theorem toList_iff (x y : ByteArray) : x.toList = y.toList ↔ x = y := by
  refine ⟨fun e => ?_, fun e => by rw [e]⟩
  rw [ByteArray.toList_eq, ByteArray.toList_eq] at e
  obtain ⟨⟨a⟩⟩ := x
  obtain ⟨⟨b⟩⟩ := y
  simp at e
  rw [e]
section
variable {H : Type} {enc : TypeId × Value → H} {P : Program} {w : World} {base : Nat}
/-- an argument that is a slice of structs of one-cell fields: each cell by its field's type -/
theorem open_sl_fields {t e k : Nat} {fs : Array Field} {v : Value} {d : DataW H} {p : List MemPlace} (ht : P.underlying t = some (.slice e)) (he : P.underlying e = some (.struct fs)) (hone : Deep.oneCellFields P fs = true)
    (hk : P.cellsOf e = k) (hks : fs.size = k) (hv : Value.okWide P w .any base t v) (h : DataW.Trod enc P w 0 (fun _ => true) true t v d p) :
    ∃ (A : Option Addr) (n c : Nat) (f : Nat → Value), v = .slice A n c ∧ n ≤ c ∧ c ≤ 9223372036854775807 ∧ Sl w w.heap.size A (n * k) f ∧
      ∀ i, i < n → ∀ (j : Nat) (fd : Field), fs[j]? = some fd → ∃ fuel x, DataW.trod enc P w 0 (fun _ => true) true fuel fd.type [f (i * k + j)] = some x := by
  obtain ⟨A, n, c, f, fuel, rfl, h1, h2, h3, h4⟩ := open_sl ht hk hv h
  refine ⟨A, n, c, f, rfl, h1, h2, h3, fun i hi j fd hj => ?_⟩
  obtain ⟨x, hx⟩ := h4 i hi
  obtain ⟨xs, n', _, _, hlen, hxl, hf⟩ := DataW.trod_struct he hx
  obtain ⟨ho, hc1⟩ := Deep.hone_of hone j fd hj
  have hjl : j < fs.size := (Array.getElem?_eq_some_iff.1 hj).1
  have := hf j fd hj
  rw [ho, hc1] at this
  have e1 : (((List.range k).map fun j => f (i * k + j)).drop j).take 1 = [f (i * k + j)] := by
    rw [List.drop_eq_getElem_cons (by simp; omega)]
    simp
  rw [e1, List.getElem?_eq_getElem (by omega)] at this
  exact ⟨n', _, this⟩
/-- a slice of structs of two texts -/
theorem open_sl_str2 {t e : Nat} {f0 f1 : Field} {v : Value} {d : DataW H} {p : List MemPlace} (ht : P.underlying t = some (.slice e)) (he : P.underlying e = some (.struct #[f0, f1])) (hone : Deep.oneCellFields P #[f0, f1] = true)
    (hk : P.cellsOf e = 2) (h0 : P.underlying f0.type = some .string) (h1 : P.underlying f1.type = some .string) (hv : Value.okWide P w .any base t v) (h : DataW.Trod enc P w 0 (fun _ => true) true t v d p) :
    ∃ (A : Option Addr) (n c : Nat) (s : Nat → ByteArray), v = .slice A n c ∧ n ≤ c ∧ c ≤ 9223372036854775807 ∧ Sl w w.heap.size A (n * 2) (fun i => .string (s i)) ∧ ∀ i, i < n * 2 → (s i).size ≤ 9223372036854775807 := by
  obtain ⟨A, n, c, f, rfl, g1, g2, g3, g4⟩ := open_sl_fields ht he hone hk rfl hv h
  have hz : ∀ i, i < n * 2 → f i = .string (strV (f i)) ∧ (strV (f i)).size ≤ 9223372036854775807 := by
    intro i hi
    have hq : i / 2 < n := by omega
    by_cases hp : i % 2 = 0
    · obtain ⟨fuel, x, hx⟩ := g4 (i / 2) hq 0 f0 rfl
      obtain ⟨m, hm, _, hw⟩ := DataW.trod_string h0 hx
      simp only [show i / 2 * 2 + 0 = i by omega, List.cons.injEq, and_true] at hm
      rw [hm]; exact ⟨rfl, by simpa [maxLen, strV] using hw⟩
    · obtain ⟨fuel, x, hx⟩ := g4 (i / 2) hq 1 f1 rfl
      obtain ⟨m, hm, _, hw⟩ := DataW.trod_string h1 hx
      simp only [show i / 2 * 2 + 1 = i by omega, List.cons.injEq, and_true] at hm
      rw [hm]; exact ⟨rfl, by simpa [maxLen, strV] using hw⟩
  exact ⟨A, n, c, fun i => strV (f i), rfl, g1, g2, g3.congr fun i hi => (hz i hi).1, fun i hi => (hz i hi).2⟩
end
end Go.Proofs.YtabmdbhbbmnkdaaDoor.lib
namespace Go.Proofs.YtabmdbhbbmnkdaaDoor.lib
open Go Go.ChangeShapes Go.WideShapes Go.ChangeAt Go.RowKit
set_option linter.unusedVariables false
/-! ### a row that can be written -/
def Row (w : World) (g e : Nat) (cs : Array Value) : Prop := ∃ fr : Nat × Nat, w.heap[g]? = some (.cells cs e fr) ∧ ∀ j, j < cs.size → ¬ (fr.1 ≤ j ∧ j < fr.2)
section
variable {w w' : World} {g e : Nat} {cs : Array Value}
theorem Row.lt (h : Row w g e cs) : g < w.heap.size := by
  obtain ⟨fr, h, _⟩ := h
  exact (Array.getElem?_eq_some_iff.1 h).1
theorem Row.cell (h : Row w g e cs) (i : Nat) : w.cell? ⟨g, i, none⟩ = cs[i]? := by
  obtain ⟨fr, h, _⟩ := h
  exact cell_of_row w g i cs e fr h
theorem Row.frozen (h : Row w g e cs) {i : Nat} (hi : i < cs.size) : w.frozen? ⟨g, i, none⟩ = false := by
  obtain ⟨fr, h, hf⟩ := h
  have := hf i hi
  simp only [World.frozen?, h, Bool.and_eq_false_iff, decide_eq_false_iff_not]
  omega
theorem Row.of (h : w.heap[g]? = some (.cells cs e (0, 0))) : Row w g e cs := ⟨(0, 0), h, fun j _ => by simp⟩
theorem Row.ofRw (h : Rw w g e cs) : Row w g e cs := Row.of h
theorem Row.new (w : World) (e : Nat) (cs : Array Value) : Row (w.alloc (.cells cs e)) w.heap.size e cs := Row.of (heap_alloc_new w _)
theorem Row.keep (h : Row w g e cs) (hk : w'.heap[g]? = w.heap[g]?) : Row w' g e cs := by
  obtain ⟨fr, h, hf⟩ := h
  exact ⟨fr, hk.trans h, hf⟩
theorem Row.alloc (h : Row w g e cs) (o : Obj) : Row (w.alloc o) g e cs := h.keep (Below.heap_alloc w o g h.lt)
theorem Row.drewN (h : Row w g e cs) (k : Nat) : Row (w.drewN k) g e cs := h
theorem Row.drew (h : Row w g e cs) : Row w.drew g e cs := h
theorem Row.set (h : Row w g e cs) (i : Nat) (u : Value) : Row (w.setCell ⟨g, i, none⟩ u) g e (cs.setIfInBounds i u) := by
  obtain ⟨fr, h, hf⟩ := h
  exact ⟨fr, by simp [World.setCell, Array.getElem?_modify, h], by simpa using hf⟩
theorem Row.far (h : Row w g e cs) {p : Addr} (hp : g ≠ p.block) (u : Value) : Row (w.setCell p u) g e cs := h.keep (Below.heap_setCell w p u g hp)
theorem Row.below {B : Nat} (h : Row w g e cs) (hb : Below B w w') (hg : g < B) : Row w' g e cs := h.keep (hb.block g hg)
theorem Row.grown {row : Option Nat} (h : Row w g e cs) (hb : w.grownBy w' row) (hg : some g ≠ row) : Row w' g e cs := h.keep (hb.block g h.lt hg)
theorem Row.sl (h : Row w g e cs) {n : Nat} {f : Nat → Value} (hf : ∀ i, i < n → cs[i]? = some (f i)) : Sl w w.heap.size (some ⟨g, 0, none⟩) n f :=
  fun i hi => ⟨g, 0, rfl, h.lt, by rw [Nat.zero_add, h.cell i]; exact hf i hi⟩
theorem Row.ne {g' e' : Nat} {cs' : Array Value} (h : Row w g e cs) (h' : Row w g' e' cs') (hne : e ≠ e') : g ≠ g' := by
  rintro rfl
  obtain ⟨fr, h, _⟩ := h
  obtain ⟨fr', h', _⟩ := h'
  rw [h] at h'
  injection h' with h'
  injection h' with _ h2 _
  exact hne h2
end
/-! ### 'grownBy': only one block, and what is new, has turned -/
section
variable {a b c w : World} {g : Nat} {row : Option Nat}
theorem only_refl (w : World) (row : Option Nat) : w.grownBy w row := ⟨rfl, rfl, rfl, Nat.le_refl _, fun _ _ _ => rfl⟩
theorem only_below {B : Nat} (h : Below B a b) (hB : a.heap.size ≤ B) (row : Option Nat) : a.grownBy b row := ⟨h.os, h.tape, h.output, h.size, fun i hi _ => h.block i (by omega)⟩
theorem only_trans (h : a.grownBy b row) (k : b.grownBy c row) : a.grownBy c row :=
  ⟨k.os.trans h.os, k.tape.trans h.tape, k.output.trans h.output, Nat.le_trans h.size k.size, fun i hi hn => (k.block i (Nat.lt_of_lt_of_le hi h.size) hn).trans (h.block i hi hn)⟩
theorem only_drewN (h : a.grownBy w row) (n : Nat) : a.grownBy (w.drewN n) row := ⟨h.os, h.tape, h.output, h.size, h.block⟩
theorem only_drew (h : a.grownBy w row) : a.grownBy w.drew row := ⟨h.os, h.tape, h.output, h.size, h.block⟩
theorem only_alloc (h : a.grownBy w row) (o : Obj) : a.grownBy (w.alloc o) row :=
  ⟨h.os, h.tape, h.output, Nat.le_trans h.size (by simp), fun i hi hn => (Below.heap_alloc w o i (Nat.lt_of_lt_of_le hi h.size)).trans (h.block i hi hn)⟩
theorem only_setCell (h : a.grownBy w (some g)) {p : Addr} (hp : p.block = g ∨ a.heap.size ≤ p.block) (u : Value) : a.grownBy (w.setCell p u) (some g) :=
  ⟨h.os, h.tape, h.output, by simpa [World.setCell] using h.size, fun i hi hn => (Below.heap_setCell w p u i (by
    rintro rfl
    rcases hp with hp | hp
    · exact hn (by rw [hp])
    · omega)).trans (h.block i hi hn)⟩
theorem below_only {B : Nat} (h : a.grownBy b (some g)) (hB : B ≤ g) (hs : B ≤ a.heap.size) : Below B a b :=
  ⟨h.os, h.tape, h.output, h.size, fun k hk => h.block k (by omega) (fun e => by injection e; omega)⟩
end
/-! ### what is appended one by one -/
theorem own_lt {w : World} {B e k n : Nat} {v : Value} {xs : List Value} (h : w.ownsRow B e k v n xs) : ∀ j, v.ownBlock = some j → B ≤ j := fun j hj => (h.lt j hj).1
theorem own_base {w : World} {B B' e k n : Nat} {v : Value} {xs : List Value} (h : w.ownsRow B e k v n xs) (hB : B' ≤ B) : w.ownsRow B' e k v n xs := by
  refine ⟨h.1, ?_⟩
  rcases h.2 with hn | ⟨g, cap, cur, hv, hb, r⟩
  · exact .inl hn
  · exact .inr ⟨g, cap, cur, hv, by omega, r⟩
theorem own_below {w w' : World} {B e k n : Nat} {v : Value} {xs : List Value} (h : w.ownsRow B e k v n xs) (hb : Below w.heap.size w w') : w'.ownsRow B e k v n xs :=
  h.kept (only_below hb (Nat.le_refl _) none) (by cases v.ownBlock <;> simp)
theorem own_sl {w : World} {B e k n c : Nat} {A : Option Addr} {xs : List Value} (h : w.ownsRow B e k (.slice A n c) n xs) : Sl w w.heap.size A (n * k) (fun i => xs.getD i undef) := by
  intro i hi
  have hn : 0 < n := by
    rcases Nat.eq_zero_or_pos n with h0 | h0
    · subst h0; omega
    · exact h0
  obtain ⟨g, cap, hv, hb, hlt⟩ := h.form hn
  injection hv with hA hn' hc
  subst hA
  have hl : i < xs.length := by have := h.1; omega
  have hc := h.cells (g := g) rfl i xs[i] (List.getElem?_eq_getElem hl)
  rw [Addr.add_lit, Nat.zero_add] at hc
  exact ⟨g, 0, rfl, hlt, by rw [Nat.zero_add, hc]; simp [hl]⟩
theorem own_row {w : World} {B e k n c : Nat} {A : Option Addr} {xs : List Value} (h : w.ownsRow B e k (.slice A n c) n xs) (hn : 0 < n) :
    ∃ g cs, A = some ⟨g, 0, none⟩ ∧ B ≤ g ∧ Row w g e cs ∧ n * k ≤ cs.size ∧ ∀ i, i < n * k → cs[i]? = xs[i]? := by
  rcases h.2 with ⟨_, h0⟩ | ⟨g, cap, cur, hv, hb, hg, hnc, _, hcs, ht⟩
  · omega
  · injection hv with hA _ _
    refine ⟨g, cur, hA, hb, Row.of hg, by rw [hcs]; exact Nat.mul_le_mul_right _ hnc, fun i hi => ?_⟩
    rw [← ht, List.getElem?_take, if_pos hi]
    simp
theorem own_set {w : World} {B e k n c g i : Nat} {xs : List Value} (h : w.ownsRow B e k (.slice (some ⟨g, 0, none⟩) n c) n xs) (hi : i < n * k) (u : Value) :
    (w.setCell ⟨g, i, none⟩ u).ownsRow B e k (.slice (some ⟨g, 0, none⟩) n c) n (xs.set i u) := by
  rcases h.2 with ⟨e0, _⟩ | ⟨g', cap, cur, hv, hb, hg, hnc, hm, hcs, ht⟩
  · cases e0
  · injection hv with hA _ hc
    injection hA with hA
    injection hA with hA _ _
    subst hA hc
    refine ⟨by rw [List.length_set]; exact h.1, .inr ⟨g, c, cur.setIfInBounds i u, rfl, hb, by simp [World.setCell, Array.getElem?_modify, hg], hnc, hm, by simpa using hcs, ?_⟩⟩
    rw [Array.toList_setIfInBounds, List.take_set, ht]
theorem own_cell {w : World} {B e k n c g i : Nat} {xs : List Value} (h : w.ownsRow B e k (.slice (some ⟨g, 0, none⟩) n c) n xs) (hi : i < n * k) :
    (∃ u, w.cell? ⟨g, i, none⟩ = some u) ∧ w.frozen? ⟨g, i, none⟩ = false := by
  rcases h.2 with ⟨e0, _⟩ | ⟨g', cap, cur, hv, hb, hg, hnc, hm, hcs, ht⟩
  · cases e0
  · injection hv with hA _ hc
    injection hA with hA
    injection hA with hA _ _
    subst hA
    have hr : Row w g e cur := Row.of hg
    have hlt : i < cur.size := by rw [hcs]; exact Nat.lt_of_lt_of_le hi (Nat.mul_le_mul_right _ hnc)
    exact ⟨⟨cur[i], by rw [hr.cell, Array.getElem?_eq_getElem hlt]⟩, hr.frozen hlt⟩
theorem set_next {α : Type} (l xs : List α) (u : α) (k : Nat) (hk : l.length = k) (hx : k < xs.length) : (l ++ xs.drop k).set k u = (l ++ [u]) ++ xs.drop (k + 1) := by
  subst hk
  rw [List.set_append_right _ _ (Nat.le_refl _), Nat.sub_self, List.drop_eq_getElem_cons hx, List.set_cons_zero, List.append_assoc]
  rfl
section
variable {P : Program} {w w0 : World}
/-- 'out = append(out, x)', x of one cell: x lies in a new block of its own -/
theorem wpList_push {ops : Array Oper} {rest : List Oper} {o : Oper} {a : Act} {Q : Exit → Act → World → Prop} (s x : Operand) (t : TypeId) (base e : Nat) (z u : Value) (bytes : Nat) (v : Value) (n : Nat) (xs : List Value)
    (hown : w0.ownsRow base e 1 v n xs) (hg : o.guard = none) (hop : o.op = .call { callee := .builtin .append, args := #[s, x], argTypes := #[t, t] })
    (h1 : P.underlying t = some (.slice e)) (hinfo : (P.info? e).map (fun i => (i.zero, i.size, i.bytes)) = some (some z, 1, bytes)) (hz : z.cells.size = 1)
    (hs : a.eval s = v) (hx : a.eval x = .slice (some ⟨w0.heap.size, 0, none⟩) 1 1) (hw : w = w0.alloc (.cells #[u] e)) (hu : u.oneCell' = true) (hn : n ≤ 1099511627776) (hby : bytes ≤ 64) (hbase : base ≤ w0.heap.size)
    (hK : ∀ A' c' w1, w1.ownsRow base e 1 (.slice (some A') (n + 1) c') (n + 1) (xs ++ [u]) → Below base w0 w1 → wpList P ops Q rest (a.put o.dst (.slice (some A') (n + 1) c')) w1) :
    wpList P ops Q (o :: rest) a w := by
  obtain ⟨i0, hi, hz0, hz1, hz2⟩ := info_parts hinfo
  subst hw
  have hb : (n + 1) * bytes ≤ 140737488355328 := by
    have := Nat.mul_le_mul (show n + 1 ≤ 1099511627777 by omega) hby
    omega
  refine wpList_append_own _ hg s x t hop base e i0 z 1 bytes h1 hi hz0 hz1 hz2 hz (by decide) v n xs hs (hown.alloc _) ⟨w0.heap.size, 0, none⟩ 1 1 [u] hx rfl ?_ ?_ (by simp only [maxLen]; omega) hb (by simp; omega) ?_
  · intro j q hq
    match j, hq with
    | 0, hq => simp at hq; subst hq; simp [Addr.add, World.cell?_alloc_new]
  · intro q hq; simp at hq; subst hq; exact hu
  · intro v' w1 hown1 hgrow _
    obtain ⟨g, cap, rfl, _, _⟩ := hown1.form (by omega)
    exact hK _ _ _ hown1 (((Below.refl _ _).alloc hbase _).grown hgrow (by simp; omega) (own_lt hown))
/-- a slice of bytes turned into a text -/
def bstr (n : Nat) (u : Nat → UInt8) : ByteArray := ⟨((List.range n).map u).toArray⟩
theorem run_bstr (src dst e : TypeId) (hs : P.underlying src = some (.slice e)) (he : P.underlying e = some (.int .u8)) (hd : P.underlying dst = some .string) {B n c : Nat} {A : Option Addr} {u : Nat → UInt8}
    (h : Sl w B A n (fun i => .int .u8 ((u i).toNat : Int))) (hA : A = none → n = 0) : (convert src dst (.slice A n c)).run P w = .ok (.string (bstr n u)) w := by
  cases A with
  | none =>
    have hn := hA rfl
    subst hn
    rw [run_convert_bytes_string w src dst e none 0 c hs he hd]
    simp [Conv.bytesToString, bstr]
    rfl
  | some ad =>
    obtain ⟨b, o, hao⟩ : ∃ b o, ad = ⟨b, o, none⟩ ∨ n = 0 := by
      rcases Nat.eq_zero_or_pos n with h0 | h0
      · exact ⟨0, 0, .inr h0⟩
      · obtain ⟨b, o, hA, _⟩ := h 0 h0
        injection hA with hA
        exact ⟨b, o, .inl hA⟩
    have key : (loadCells ad n).run P w = .ok (((List.range n).map fun i => ((u i).toNat : Int)).map (Value.int .u8)).toArray w := by
      have := run_loadCells_list (P := P) w ad (((List.range n).map fun i => ((u i).toNat : Int)).map (Value.int .u8)) (fun j v hj => by
        have hjn : j < n := by
          have := (List.getElem?_eq_some_iff.1 hj).1
          simpa using this
        rcases hao with hao | h0
        · obtain ⟨b', o', hA, _, hc⟩ := h j hjn
          injection hA with hA
          subst hA
          rw [Addr.add_lit, hc]
          rw [← hj]
          simp [hjn]
        · omega)
      simpa using this
    rw [run_convert_bytes_string w src dst e (some ad) n c hs he hd, run_bytesToString w ad n c _ key, foldl_push_bytes]
    have e : (((List.range n).map fun i => ((u i).toNat : Int)).map fun n => UInt8.ofNat n.toNat) = (List.range n).map u := by
      rw [List.map_map]
      exact List.map_congr_left fun i _ => by simp
    rw [e]
    simp [bstr, ByteArray.empty, ByteArray.emptyWithCapacity]
    rfl
/-- 'string([]byte{x})' -/
theorem run_bstr1 (src dst e : TypeId) (hs : P.underlying src = some (.slice e)) (he : P.underlying e = some (.int .u8)) (hd : P.underlying dst = some .string) (W : World) (x : Int) :
    (convert src dst (.slice (some ⟨W.heap.size, 0, none⟩) 1 1)).run P (W.alloc (.cells #[.int .u8 x] e)) = .ok (.string ⟨#[UInt8.ofNat x.toNat]⟩) (W.alloc (.cells #[.int .u8 x] e)) := by
  have h := run_convert_bytes_arg (P := P) (w := W.alloc (.cells #[.int .u8 x] e)) src e hs he W.heap.size 0 1 1 [x] rfl (fun i hi => by
    have : i = 0 := by omega
    subst this
    simp [World.cell?_alloc_new]) dst hd
  rw [h]; rfl
/-- 'string([]byte{x, y})' -/
theorem run_bstr2 (src dst e : TypeId) (hs : P.underlying src = some (.slice e)) (he : P.underlying e = some (.int .u8)) (hd : P.underlying dst = some .string) (W : World) (x y : Int) :
    (convert src dst (.slice (some ⟨W.heap.size, 0, none⟩) 2 2)).run P (W.alloc (.cells #[.int .u8 x, .int .u8 y] e)) = .ok (.string ⟨#[UInt8.ofNat x.toNat, UInt8.ofNat y.toNat]⟩) (W.alloc (.cells #[.int .u8 x, .int .u8 y] e)) := by
  have h := run_convert_bytes_arg (P := P) (w := W.alloc (.cells #[.int .u8 x, .int .u8 y] e)) src e hs he W.heap.size 0 2 2 [x, y] rfl (fun i hi => by
    have : i = 0 ∨ i = 1 := by omega
    rcases this with rfl | rfl
    · simp [World.cell?_alloc_new]
    · simp [World.cell?_alloc_new]) dst hd
  rw [h]; rfl
end
/-- the walk's step at 'string(b)', b a slice of bytes -/
theorem wpList_bstr {P : Program} {w : World} {ops : Array Oper} {rest : List Oper} {o : Oper} {a : Act} {Q : Exit → Act → World → Prop} (src dst e : TypeId) (x : Operand) (hop : o.op = .convert src dst x) (hg : o.guard = none)
    (hs : P.underlying src = some (.slice e)) (he : P.underlying e = some (.int .u8)) (hd : P.underlying dst = some .string) {B n c : Nat} {A : Option Addr} {u : Nat → UInt8} (hx : a.eval x = .slice A n c)
    (h : Sl w B A n (fun i => .int .u8 ((u i).toNat : Int))) (hA : A = none → n = 0) (hK : wpList P ops Q rest (a.put o.dst (.string (bstr n u))) w) : wpList P ops Q (o :: rest) a w := by
  refine wpList_plain hg fun K hK' => ?_
  have hrun := run_bstr (P := P) (w := w) src dst e hs he hd (c := c) h hA
  unfold Oper.wp
  simp [execOp, hop, hx, hrun, Result.andThen]
  exact hK' _ _ hK
/-! ### rows of bytes -/
def upd (u : Nat → UInt8) (i : Nat) (x : UInt8) : Nat → UInt8 := fun j => if j = i then x else u j
theorem upd_same (u : Nat → UInt8) (i : Nat) (x : UInt8) : upd u i x i = x := if_pos rfl
theorem upd_other (u : Nat → UInt8) {i j : Nat} (x : UInt8) (h : j ≠ i) : upd u i x j = u j := if_neg h
def BRow (w : World) (e g n : Nat) (u : Nat → UInt8) : Prop := ∃ cs, Row w g e cs ∧ n ≤ cs.size ∧ ∀ i, i < n → cs[i]? = some (.int .u8 ((u i).toNat : Int))
section
variable {w w' : World} {e g n : Nat} {u v : Nat → UInt8}
theorem BRow.lt (h : BRow w e g n u) : g < w.heap.size := by
  obtain ⟨cs, h, _⟩ := h
  exact h.lt
theorem BRow.cell (h : BRow w e g n u) {i : Nat} (hi : i < n) : w.cell? ⟨g, i, none⟩ = some (.int .u8 ((u i).toNat : Int)) := by
  obtain ⟨cs, h, hs, hc⟩ := h
  rw [h.cell]; exact hc i hi
theorem BRow.frozen (h : BRow w e g n u) {i : Nat} (hi : i < n) : w.frozen? ⟨g, i, none⟩ = false := by
  obtain ⟨cs, h, hs, hc⟩ := h
  exact h.frozen (by omega)
theorem BRow.keep (h : BRow w e g n u) (hk : w'.heap[g]? = w.heap[g]?) : BRow w' e g n u := by
  obtain ⟨cs, h, r⟩ := h
  exact ⟨cs, h.keep hk, r⟩
theorem BRow.alloc (h : BRow w e g n u) (o : Obj) : BRow (w.alloc o) e g n u := h.keep (Below.heap_alloc w o g h.lt)
theorem BRow.below {B : Nat} (h : BRow w e g n u) (hb : Below B w w') (hg : g < B) : BRow w' e g n u := h.keep (hb.block g hg)
theorem BRow.grown {row : Option Nat} (h : BRow w e g n u) (hb : w.grownBy w' row) (hg : some g ≠ row) : BRow w' e g n u := h.keep (hb.block g h.lt hg)
theorem BRow.drewN (h : BRow w e g n u) (k : Nat) : BRow (w.drewN k) e g n u := h
theorem BRow.drew (h : BRow w e g n u) : BRow w.drew e g n u := h
theorem BRow.far (h : BRow w e g n u) {p : Addr} (hp : g ≠ p.block) (x : Value) : BRow (w.setCell p x) e g n u := h.keep (Below.heap_setCell w p x g hp)
theorem BRow.set (h : BRow w e g n u) {i : Nat} (x : UInt8) {y : Int} (hy : y = (x.toNat : Int)) : BRow (w.setCell ⟨g, i, none⟩ (.int .u8 y)) e g n (upd u i x) := by
  obtain ⟨cs, h, hs, hc⟩ := h
  subst hy
  refine ⟨_, h.set i _, by simpa using hs, fun j hj => ?_⟩
  rw [Array.getElem?_setIfInBounds]
  by_cases he : i = j
  · subst he; rw [if_pos rfl, if_pos (by omega), upd_same]
  · rw [if_neg he, upd_other _ _ (Ne.symm he)]; exact hc j hj
theorem BRow.congr (h : BRow w e g n u) (he : ∀ i, i < n → u i = v i) : BRow w e g n v := by
  obtain ⟨cs, h, hs, hc⟩ := h
  exact ⟨cs, h, hs, fun i hi => by rw [hc i hi, he i hi]⟩
theorem BRow.sl (h : BRow w e g n u) : Sl w w.heap.size (some ⟨g, 0, none⟩) n (fun i => .int .u8 ((u i).toNat : Int)) := fun i hi => ⟨g, 0, rfl, h.lt, by rw [Nat.zero_add]; exact h.cell hi⟩
theorem BRow.made (w : World) (e n : Nat) : BRow (w.alloc (.cells (madeCells #[.int .u8 0] n) e)) e w.heap.size n (fun _ => 0) :=
  ⟨_, Row.new w e _, by rw [size_madeCells]; exact Nat.le_refl _, fun i hi => by simp [madeCells, hi, Nat.mod_one]⟩
end
def IsB (cs : Array Value) (n : Nat) (u : Nat → UInt8) : Prop := n ≤ cs.size ∧ ∀ i, i < n → cs[i]? = some (.int .u8 ((u i).toNat : Int))
theorem IsB.set {cs : Array Value} {n : Nat} {u : Nat → UInt8} (h : IsB cs n u) {i : Nat} (x : UInt8) {y : Int} (hy : y = (x.toNat : Int)) : IsB (cs.setIfInBounds i (.int .u8 y)) n (upd u i x) := by
  obtain ⟨hs, hc⟩ := h
  subst hy
  refine ⟨by simpa using hs, fun j hj => ?_⟩
  rw [Array.getElem?_setIfInBounds]
  by_cases he : i = j
  · subst he; rw [if_pos rfl, if_pos (by omega), upd_same]
  · rw [if_neg he, upd_other _ _ (Ne.symm he)]; exact hc j hj
theorem BRow.of {w : World} {e n : Nat} {cs : Array Value} {u : Nat → UInt8} (h : IsB cs n u) : BRow (w.alloc (.cells cs e)) e w.heap.size n u := ⟨cs, Row.new w e cs, h.1, h.2⟩
def sliceLen : Value → Nat | .slice _ n _ => n | _ => 0
/-- 'x := []T{u}' owns u -/
theorem own_one (w : World) (B e : Nat) (u : Value) (hB : B ≤ w.heap.size) : (w.alloc (.cells #[u] e)).ownsRow B e 1 (.slice (some ⟨w.heap.size, 0, none⟩) 1 1) 1 [u] :=
  ⟨rfl, .inr ⟨w.heap.size, 1, #[u], rfl, hB, heap_alloc_new w _, Nat.le_refl _, by simp [maxLen], rfl, rfl⟩⟩
/-- rows of two element types are two rows -/
theorem own_ne {w : World} {B e e' k n g : Nat} {v : Value} {xs : List Value} {cs : Array Value} (h : w.ownsRow B e k v n xs) (hr : Row w g e' cs) (hne : e ≠ e') : some g ≠ v.ownBlock := by
  rcases h.2 with ⟨rfl, _⟩ | ⟨g', cap, cur, rfl, _, hg, _⟩
  · simp [Value.ownBlock]
  · intro he
    have : g = g' := by simpa [Value.ownBlock] using he
    subst this
    exact Row.ne (Row.of hg) hr hne rfl
theorem own_neB {w : World} {B e e' k n g m : Nat} {v : Value} {xs : List Value} {u : Nat → UInt8} (h : w.ownsRow B e k v n xs) (hr : BRow w e' g m u) (hne : e ≠ e') : some g ≠ v.ownBlock := by
  obtain ⟨cs, hr, _⟩ := hr
  exact own_ne h hr hne
theorem BRow.neRow {w : World} {e e' g g' n : Nat} {u : Nat → UInt8} {cs : Array Value} (h : BRow w e g n u) (h' : Row w g' e' cs) (hne : e ≠ e') : g ≠ g' := by
  obtain ⟨_, h, _⟩ := h
  exact h.ne h' hne
theorem news2 (w : World) (o : Obj) (e : Nat) (u : Value) : ∀ (j : Nat) (q : Value), [u][j]? = some q → (((w.alloc o).alloc (.cells #[u] e)).drew).cell? ((⟨w.heap.size + 1, 0, none⟩ : Addr).add j) = some q := by
  intro j q hq
  match j, hq with
  | 0, hq =>
    simp at hq
    subst hq
    have h : ((w.alloc o).alloc (.cells #[u] e)).heap[w.heap.size + 1]? = some (.cells #[u] e) := by
      have := heap_alloc_new (w.alloc o) (.cells #[u] e)
      rwa [show (w.alloc o).heap.size = w.heap.size + 1 by simp] at this
    have h2 := cell_of_row ((w.alloc o).alloc (.cells #[u] e)) (w.heap.size + 1) 0 _ _ _ h
    simp only [Addr.add, if_true]
    exact h2
theorem own_slR {w : World} {B e n c : Nat} {A : Option Addr} {g : Nat → Value} (h : w.ownsRow B e 1 (.slice A n c) n ((List.range n).map g)) : Sl w w.heap.size A n g := by
  have h1 := own_sl h
  rw [Nat.mul_one] at h1
  exact h1.congr fun i hi => by simp [hi]
theorem below_grown {w w' : World} {B : Nat} {row : Option Nat} (h : w.grownBy w' row) (hr : ∀ k, row = some k → B ≤ k) (hB : B ≤ w.heap.size) : Below B w w' := (Below.refl _ _).grown h hB hr
/-- two rows, the second made later -/
theorem own_apart {w w1 : World} {B B' e e' k k' n n' : Nat} {v v' : Value} {xs xs' : List Value} (h : w.ownsRow B e k v n xs) (h' : w1.ownsRow B' e' k' v' n' xs') (hB : w.heap.size ≤ B') : v.ownBlock = none ∨ v.ownBlock ≠ v'.ownBlock := by
  by_cases hn : v.ownBlock = none
  · exact .inl hn
  · right
    intro he
    cases hb : v.ownBlock with
    | none => exact hn hb
    | some g =>
      have h1 := (h.lt g hb).2
      have h2 := (h'.lt g (by rw [← he]; exact hb)).1
      omega
/-- the sum of the first bytes, in one byte -/
def usum (u : Nat → UInt8) : Nat → UInt8
  | 0 => 0
  | k + 1 => usum u k + u k
theorem neg_u8 (x : UInt8) : -(x.toNat : Int) % 256 = ((0 - x).toNat : Int) := by
  have h := UInt8.toNat_lt x
  rw [UInt8.toNat_sub]
  simp
  omega
/-- 'make([]T, n)' -/
theorem run_mk {P : Program} (t e : TypeId) (z : Value) (sz bytes : Nat) (ht : P.underlying t = some (.slice e)) (hinfo : (P.info? e).map (fun i => (i.zero, i.size, i.bytes)) = some (some z, sz, bytes)) (hby : bytes ≤ 64) (n : Nat) (hn : n ≤ 1099511627776) (W : World) :
    (Instr.makeSlice t (.int .i64 (n : Int)) (.int .i64 (n : Int))).run P W = .ok (.slice (some ⟨W.heap.size, 0, none⟩) n n) (W.alloc (.cells (madeCells z.cells (n * sz)) e)) := by
  obtain ⟨i0, hi, hz0, hz1, hz2⟩ := info_parts hinfo
  have hb : (i0.bytes : Int) * (n : Int) ≤ 281474976710656 := by
    rw [hz2]
    have : bytes * n ≤ 64 * 1099511627776 := Nat.mul_le_mul hby hn
    have h2 : ((bytes * n : Nat) : Int) ≤ ((64 * 1099511627776 : Nat) : Int) := by omega
    rw [Int.natCast_mul] at h2
    omega
  have h := run_make (P := P) W t e i0 z ht hi hz0 .i64 .i64 (n : Int) (n : Int) (by omega) (Int.le_refl _) hb (by omega)
  simpa [hz1] using h
end Go.Proofs.YtabmdbhbbmnkdaaDoor.lib
namespace Go.Proofs.YtabmdbhbbmnkdaaDoor.gf
def x2 (a : Nat) : Nat := if 255 < 2 * a then (2 * a) ^^^ 285 else 2 * a
def mulF : Nat → Nat → Nat → Nat → Nat
  | 0, out, _, _ => out
  | n + 1, out, a, b => if b = 0 then out else mulF n (if b % 2 = 1 then out ^^^ a else out) (x2 a) (b / 2)
def gmul (a b : Nat) : Nat := mulF 8 0 a b
theorem x2_lt (a : Nat) (h : a < 256) : x2 a < 256 := by
  unfold x2
  split
  · have : ∀ k < 256, 255 < 2 * k → (2 * k) ^^^ 285 < 256 := by decide +kernel
    exact this a h ‹_›
  · omega
theorem xor_lt (a b : Nat) (ha : a < 256) (hb : b < 256) : a ^^^ b < 256 := Nat.xor_lt_two_pow (n := 8) (by omega) (by omega)
theorem mulF_zero (n out a : Nat) : mulF n out a 0 = out := by cases n <;> simp [mulF]
theorem mulF_lt (n : Nat) : ∀ out a b, out < 256 → a < 256 → mulF n out a b < 256 := by
  induction n with
  | zero => intro out a b h _; simpa [mulF] using h
  | succ n ih =>
    intro out a b ho ha
    simp only [mulF]
    split
    · exact ho
    · refine ih _ _ _ ?_ (x2_lt a ha)
      split
      · exact xor_lt _ _ ho ha
      · exact ho
theorem gmul_lt (a b : Nat) (h : a < 256) : gmul a b < 256 := mulF_lt 8 0 a b (by omega) h
/-- what holds at the head of a round -/
def Mid (a b n out x y : Nat) : Prop := out < 256 ∧ x < 256 ∧ y < 2 ^ n ∧ n ≤ 8 ∧ mulF n out x y = gmul a b
theorem mid_start (a b : Nat) (ha : a < 256) (hb : b < 256) : Mid a b 8 0 a b := ⟨by omega, ha, by omega, by omega, rfl⟩
theorem mid_y {a b n out x y : Nat} (h : Mid a b n out x y) : y < 256 := by
  obtain ⟨_, _, h3, h4, _⟩ := h
  have := Nat.pow_le_pow_right (n := 2) (by omega) h4
  omega
theorem mid_next {a b n out x y : Nat} (h : Mid a b n out x y) (hy : 0 < y) :
    ∃ m, Mid a b m (if y % 2 = 1 then out ^^^ x else out) (x2 x) (y / 2) := by
  obtain ⟨h1, h2, h3, h4, h5⟩ := h
  cases n with
  | zero => omega
  | succ n =>
    refine ⟨n, ?_, x2_lt x h2, ?_, by omega, ?_⟩
    · split
      · exact xor_lt _ _ h1 h2
      · exact h1
    · rw [Nat.pow_succ] at h3; omega
    · rw [← h5]; exact (if_neg (by omega)).symm
theorem mid_end {a b n out x : Nat} (h : Mid a b n out x 0) : out = gmul a b := by
  obtain ⟨_, _, _, _, h5⟩ := h
  rw [← h5, mulF_zero]

/-! the laws -/
theorem x2_bit (a : Nat) (h : a < 256) : x2 a = (2 * a) ^^^ (if a.testBit 7 then 285 else 0) := by
  have : ∀ k < 256, x2 k = (2 * k) ^^^ (if k.testBit 7 then 285 else 0) := by decide +kernel
  exact this a h
theorem two_xor (a b : Nat) : 2 * (a ^^^ b) = (2 * a) ^^^ (2 * b) := by
  have := Nat.shiftLeft_xor_distrib (a := a) (b := b) (i := 1)
  simp only [Nat.shiftLeft_eq, Nat.pow_one] at this
  rw [Nat.mul_comm 2, this, Nat.mul_comm 2 a, Nat.mul_comm 2 b]
theorem xor4 (a b c d : Nat) : (a ^^^ b) ^^^ (c ^^^ d) = (a ^^^ c) ^^^ (b ^^^ d) := by
  rw [Nat.xor_assoc, Nat.xor_assoc, ← Nat.xor_assoc b c d, Nat.xor_comm b c, Nat.xor_assoc]
theorem x2_xor (a b : Nat) (ha : a < 256) (hb : b < 256) : x2 (a ^^^ b) = x2 a ^^^ x2 b := by
  rw [x2_bit _ (xor_lt a b ha hb), x2_bit a ha, x2_bit b hb, two_xor, xor4, Nat.testBit_xor]
  congr 1
  cases a.testBit 7 <;> cases b.testBit 7 <;> rfl
def mulG : Nat → Nat → Nat → Nat → Nat
  | 0, out, _, _ => out
  | n + 1, out, a, b => mulG n (if b % 2 = 1 then out ^^^ a else out) (x2 a) (b / 2)
theorem mulG_zero (n : Nat) : ∀ out a, mulG n out a 0 = out := by
  induction n with
  | zero => intro out a; rfl
  | succ n ih => intro out a; simpa [mulG] using ih out (x2 a)
theorem mulF_eq (n : Nat) : ∀ out a b, mulF n out a b = mulG n out a b := by
  induction n with
  | zero => intro out a b; rfl
  | succ n ih =>
    intro out a b
    simp only [mulF]
    split
    · rename_i h; subst h; rw [mulG_zero]
    · exact ih _ _ _
theorem gmul_eq (a b : Nat) : gmul a b = mulG 8 0 a b := mulF_eq 8 0 a b
theorem mulG_left (n : Nat) : ∀ o1 o2 a c b, a < 256 → c < 256 → mulG n (o1 ^^^ o2) (a ^^^ c) b = mulG n o1 a b ^^^ mulG n o2 c b := by
  induction n with
  | zero => intros; rfl
  | succ n ih =>
    intro o1 o2 a c b ha hc
    simp only [mulG]
    rw [x2_xor a c ha hc, ← ih _ _ _ _ _ (x2_lt a ha) (x2_lt c hc)]
    congr 1
    split
    · exact xor4 _ _ _ _
    · rfl
theorem xor_mod2 (b c : Nat) : ((b ^^^ c) % 2 = 1) ↔ ¬ ((b % 2 = 1) ↔ (c % 2 = 1)) := by
  have h := Nat.testBit_xor b c 0
  simp only [Nat.testBit_zero] at h
  by_cases hb : b % 2 = 1 <;> by_cases hc : c % 2 = 1 <;> by_cases hx : (b ^^^ c) % 2 = 1 <;> simp_all
theorem xor_div2 (b c : Nat) : (b ^^^ c) / 2 = (b / 2) ^^^ (c / 2) := by
  have := Nat.shiftRight_xor_distrib (a := b) (b := c) (i := 1)
  simpa [Nat.shiftRight_eq_div_pow] using this
theorem mulG_right (n : Nat) : ∀ o1 o2 a b c, mulG n (o1 ^^^ o2) a (b ^^^ c) = mulG n o1 a b ^^^ mulG n o2 a c := by
  induction n with
  | zero => intros; rfl
  | succ n ih =>
    intro o1 o2 a b c
    simp only [mulG]
    rw [xor_div2, ← ih]
    congr 1
    have h := xor_mod2 b c
    by_cases hb : b % 2 = 1 <;> by_cases hc : c % 2 = 1
    · have hx : ¬ (b ^^^ c) % 2 = 1 := by rw [h]; simp [hb, hc]
      rw [if_neg hx, if_pos hb, if_pos hc, xor4, Nat.xor_self, Nat.xor_zero]
    · have hx : (b ^^^ c) % 2 = 1 := by rw [h]; simp [hb, hc]
      rw [if_pos hx, if_pos hb, if_neg hc, Nat.xor_assoc, Nat.xor_assoc, Nat.xor_comm o2 a]
    · have hx : (b ^^^ c) % 2 = 1 := by rw [h]; simp [hb, hc]
      rw [if_pos hx, if_neg hb, if_pos hc, Nat.xor_assoc]
    · have hx : ¬ (b ^^^ c) % 2 = 1 := by rw [h]; simp [hb, hc]
      rw [if_neg hx, if_neg hb, if_neg hc]
theorem gmul_xor_left (a c b : Nat) (ha : a < 256) (hc : c < 256) : gmul (a ^^^ c) b = gmul a b ^^^ gmul c b := by
  rw [gmul_eq, gmul_eq, gmul_eq]; exact mulG_left 8 0 0 a c b ha hc
theorem gmul_xor_right (a b c : Nat) : gmul a (b ^^^ c) = gmul a b ^^^ gmul a c := by
  rw [gmul_eq, gmul_eq, gmul_eq]; exact mulG_right 8 0 0 a b c
theorem mulG_lt (n out a b : Nat) (ho : out < 256) (ha : a < 256) : mulG n out a b < 256 := by
  rw [← mulF_eq]; exact mulF_lt n out a b ho ha
theorem mulG_x2 (n : Nat) : ∀ out a b, out < 256 → a < 256 → mulG n (x2 out) (x2 a) b = x2 (mulG n out a b) := by
  induction n with
  | zero => intros; rfl
  | succ n ih =>
    intro out a b ho ha
    simp only [mulG]
    split
    · rw [← x2_xor out a ho ha]; exact ih _ _ _ (xor_lt _ _ ho ha) (x2_lt a ha)
    · exact ih _ _ _ ho (x2_lt a ha)
theorem gmul_x2_left (a b : Nat) (ha : a < 256) : gmul (x2 a) b = x2 (gmul a b) := by
  rw [gmul_eq, gmul_eq]; exact mulG_x2 8 0 a b (by omega) ha
theorem mulG_more (n : Nat) : ∀ out a b, b < 2 ^ n → mulG (n + 1) out a b = mulG n out a b := by
  induction n with
  | zero => intro out a b h; have : b = 0 := by omega
            subst this; rw [mulG_zero, mulG_zero]
  | succ n ih =>
    intro out a b h
    rw [Nat.pow_succ] at h
    simp only [mulG]
    exact ih _ _ _ (by omega)
theorem g285 : ∀ a < 256, mulG 9 0 a 285 = 0 := by decide +kernel
theorem gmul_x2_right (a b : Nat) (ha : a < 256) (hb : b < 256) : gmul a (x2 b) = x2 (gmul a b) := by
  have h9 : mulG 9 0 a (2 * b) = x2 (gmul a b) := by
    have : mulG 9 0 a (2 * b) = mulG 8 0 (x2 a) b := by
      show mulG 8 (if 2 * b % 2 = 1 then 0 ^^^ a else 0) (x2 a) (2 * b / 2) = _
      rw [if_neg (by omega), Nat.mul_div_cancel_left b (by omega)]
    rw [this, ← gmul_eq, gmul_x2_left a b ha]
  rw [gmul_eq, ← mulG_more 8 0 a (x2 b) (x2_lt b hb), x2_bit b hb]
  have := mulG_right 9 0 0 a (2 * b) (if b.testBit 7 then 285 else 0)
  rw [Nat.xor_self] at this
  rw [this, h9]
  split
  · rw [g285 a ha, Nat.xor_zero]
  · rw [mulG_zero, Nat.xor_zero]
theorem ind (P : Nat → Prop) (h0 : P 0) (h1 : P 1) (hx : ∀ b, b < 256 → P b → P (x2 b)) (hxor : ∀ b c, b < 256 → c < 256 → P b → P c → P (b ^^^ c)) : ∀ b, b < 256 → P b := by
  intro b
  induction b using Nat.strongRecOn with
  | _ b ih =>
    intro hb
    rcases Nat.eq_zero_or_pos b with rfl | hp
    · exact h0
    · have h2 := ih (b / 2) (by omega) (by omega)
      have hd : x2 (b / 2) = 2 * (b / 2) := by unfold x2; rw [if_neg (by omega)]
      have hs := hx (b / 2) (by omega) h2
      rw [hd] at hs
      have hbit : P (b % 2) := by
        rcases Nat.mod_two_eq_zero_or_one b with h | h <;> rw [h] <;> assumption
      have := hxor _ _ (by omega) (by omega) hs hbit
      have e : (2 * (b / 2)) ^^^ (b % 2) = b := by
        have : ∀ k < 256, (2 * (k / 2)) ^^^ (k % 2) = k := by decide +kernel
        exact this b hb
      rwa [e] at this
theorem gmul_zero (a : Nat) : gmul a 0 = 0 := mulF_zero 8 0 a
theorem zero_gmul (a : Nat) (ha : a < 256) : gmul 0 a = 0 := by
  have : ∀ k < 256, gmul 0 k = 0 := by decide +kernel
  exact this a ha
theorem gmul_one (a : Nat) (ha : a < 256) : gmul a 1 = a := by
  have : ∀ k < 256, gmul k 1 = k := by decide +kernel
  exact this a ha
theorem one_gmul (a : Nat) (ha : a < 256) : gmul 1 a = a := by
  have : ∀ k < 256, gmul 1 k = k := by decide +kernel
  exact this a ha
theorem gmul_comm (a b : Nat) (ha : a < 256) (hb : b < 256) : gmul a b = gmul b a := by
  refine ind (fun b => ∀ a, a < 256 → gmul a b = gmul b a) ?_ ?_ ?_ ?_ b hb a ha
  · intro a ha; rw [gmul_zero, zero_gmul a ha]
  · intro a ha; rw [gmul_one a ha, one_gmul a ha]
  · intro b hb h a ha; rw [gmul_x2_right a b ha hb, gmul_x2_left b a hb, h a ha]
  · intro b c hb hc h1 h2 a ha; rw [gmul_xor_right, gmul_xor_left b c a hb hc, h1 a ha, h2 a ha]
theorem gmul_assoc (a b c : Nat) (ha : a < 256) (hb : b < 256) (hc : c < 256) : gmul (gmul a b) c = gmul a (gmul b c) := by
  refine ind (fun c => gmul (gmul a b) c = gmul a (gmul b c)) ?_ ?_ ?_ ?_ c hc
  · rw [gmul_zero, gmul_zero, gmul_zero]
  · rw [gmul_one _ (gmul_lt a b ha), gmul_one b hb]
  · intro c hc h
    rw [gmul_x2_right _ c (gmul_lt a b ha) hc, h, gmul_x2_right b c hb hc, gmul_x2_right a _ ha (gmul_lt b c hb)]
  · intro c d hc hd h1 h2
    rw [gmul_xor_right, h1, h2, gmul_xor_right, gmul_xor_right]
/-- the first number from 1 to 255 whose product is 1 -/
def ginvF (a : Nat) : Nat → Nat → Nat
  | 0, _ => 0
  | n + 1, b => if gmul a b = 1 then b else ginvF a n (b + 1)
def ginv (a : Nat) : Nat := ginvF a 255 1
def invTable : List Nat := [0, 1, 142, 244, 71, 167, 122, 186, 173, 157, 221, 152, 61, 170, 93, 150, 216, 114, 192, 88, 224, 62, 76, 102, 144, 222, 85, 128, 160, 131, 75, 42, 108, 237, 57, 81, 96, 86, 44, 138, 112, 208, 31, 74, 38, 139, 51, 110, 72, 137, 111, 46, 164, 195, 64, 94, 80, 34, 207, 169, 171, 12, 21, 225, 54, 95, 248, 213, 146, 78, 166, 4, 48, 136, 43, 30, 22, 103, 69, 147, 56, 35, 104, 140, 129, 26, 37, 97, 19, 193, 203, 99, 151, 14, 55, 65, 36, 87, 202, 91, 185, 196, 23, 77, 82, 141, 239, 179, 32, 236, 47, 50, 40, 209, 17, 217, 233, 251, 218, 121, 219, 119, 6, 187, 132, 205, 254, 252, 27, 84, 161, 29, 124, 204, 228, 176, 73, 49, 39, 45, 83, 105, 2, 245, 24, 223, 68, 79, 155, 188, 15, 92, 11, 220, 189, 148, 172, 9, 199, 162, 28, 130, 159, 198, 52, 194, 70, 5, 206, 59, 13, 60, 156, 8, 190, 183, 135, 229, 238, 107, 235, 242, 191, 175, 197, 100, 7, 123, 149, 154, 174, 182, 18, 89, 165, 53, 101, 184, 163, 158, 210, 247, 98, 90, 133, 125, 168, 58, 41, 113, 200, 246, 249, 67, 215, 214, 16, 115, 118, 120, 153, 10, 25, 145, 20, 63, 230, 240, 134, 177, 226, 241, 250, 116, 243, 180, 109, 33, 178, 106, 227, 231, 181, 234, 3, 143, 211, 201, 66, 212, 232, 117, 127, 255, 126, 253]
set_option maxRecDepth 10000 in
theorem inv_table : ∀ a < 256, a = 0 ∨ (gmul a (invTable.getD a 0) = 1 ∧ invTable.getD a 0 < 256 ∧ 0 < invTable.getD a 0) := by decide +kernel
theorem ginvF_spec (a : Nat) : ∀ n b y, b ≤ y → y < b + n → gmul a y = 1 → gmul a (ginvF a n b) = 1 := by
  intro n
  induction n with
  | zero => intro b y h1 h2; omega
  | succ n ih =>
    intro b y h1 h2 h
    simp only [ginvF]
    split
    · assumption
    · refine ih (b + 1) y ?_ (by omega) h
      rcases Nat.lt_or_ge b y with h3 | h3
      · omega
      · have : b = y := by omega
        subst this; contradiction
theorem ginv_spec (a : Nat) (ha : a < 256) (h0 : a ≠ 0) : gmul a (ginv a) = 1 := by
  rcases inv_table a ha with h | ⟨h, h1, h2⟩
  · exact absurd h h0
  · exact ginvF_spec a 255 1 _ h2 (by omega) h
theorem ginvF_lt (a : Nat) : ∀ n b, b + n ≤ 256 → ginvF a n b < 256 := by
  intro n
  induction n with
  | zero => intro b _; simp [ginvF]
  | succ n ih =>
    intro b h
    simp only [ginvF]
    split
    · omega
    · exact ih _ (by omega)
theorem ginv_lt (a : Nat) : ginv a < 256 := ginvF_lt a 255 1 (by omega)
def gpow : Nat → Nat
  | 0 => 1
  | n + 1 => gmul (gpow n) 2
theorem gpow_lt (n : Nat) : gpow n < 256 := by
  cases n with
  | zero => simp [gpow]
  | succ n => exact mulF_lt 8 0 _ 2 (by omega) (by induction n with
    | zero => simp [gpow]
    | succ n ih => exact mulF_lt 8 0 _ 2 (by omega) ih)
theorem gpow_add (i j : Nat) : gpow (i + j) = gmul (gpow i) (gpow j) := by
  induction j with
  | zero => rw [Nat.add_zero]; exact (gmul_one _ (gpow_lt i)).symm
  | succ j ih =>
    rw [← Nat.add_assoc]
    show gmul (gpow (i + j)) 2 = gmul (gpow i) (gmul (gpow j) 2)
    rw [ih, gmul_assoc _ _ _ (gpow_lt i) (gpow_lt j) (by omega)]
theorem gpow_255 : gpow 255 = 1 := by decide +kernel
theorem gpow_mod (n : Nat) : gpow (n % 255) = gpow n := by
  induction n using Nat.strongRecOn with
  | _ n ih =>
    by_cases h : n < 255
    · rw [Nat.mod_eq_of_lt h]
    · have e : gpow n = gpow (n - 255) := by
        have h1 := gpow_add (n - 255) 255
        rw [gpow_255, gmul_one _ (gpow_lt _)] at h1
        rw [← h1]
        exact congrArg gpow (by omega)
      rw [e, ← ih (n - 255) (by omega)]
      exact congrArg gpow (by omega)
def noOne : Nat → Nat → Bool
  | 0, _ => true
  | n + 1, x => (gmul x 2 != 1) && noOne n (gmul x 2)
theorem noOne_spec : ∀ n i, noOne n (gpow i) = true → ∀ k, k < n → gpow (i + k + 1) ≠ 1 := by
  intro n
  induction n with
  | zero => intro i _ k hk; omega
  | succ n ih =>
    intro i h k hk
    simp only [noOne, Bool.and_eq_true, bne_iff_ne] at h
    cases k with
    | zero => exact h.1
    | succ k =>
      have := ih (i + 1) h.2 k (by omega)
      rwa [show i + 1 + k + 1 = i + (k + 1) + 1 by omega] at this
theorem noOne_all : noOne 254 (gpow 0) = true := by decide +kernel
theorem gpow_ne_one (k : Nat) (h : k % 255 ≠ 0) : gpow k ≠ 1 := by
  rw [← gpow_mod]
  have := noOne_spec 254 0 noOne_all (k % 255 - 1) (by omega)
  rwa [show 0 + (k % 255 - 1) + 1 = k % 255 by omega] at this
end Go.Proofs.YtabmdbhbbmnkdaaDoor.gf
namespace Go.Proofs.YtabmdbhbbmnkdaaDoor
open Go Go.ChangeShapes Go.WideShapes Go.ChangeAt Go.RowKit lib
set_option linter.unusedVariables false
set_option maxRecDepth 100000
theorem x2_hi (x : Nat) (h : 255 < 2 * x) : gf.x2 x = (x * 2) ^^^ 285 := by unfold gf.x2; rw [if_pos h, Nat.mul_comm]
theorem x2_lo (x : Nat) (h : ¬ 255 < 2 * x) : gf.x2 x = x * 2 := by unfold gf.x2; rw [if_neg h, Nat.mul_comm]
/-- the product of two numbers, 0 outside -/
def gfMulI (a b : Int) : Int := if 0 ≤ a ∧ a ≤ 255 ∧ 0 ≤ b ∧ b ≤ 255 then (gf.gmul a.toNat b.toNat : Nat) else 0
theorem gfMulI_in (a b : Nat) (ha : a < 256) (hb : b < 256) : gfMulI a b = (gf.gmul a b : Nat) := by
  unfold gfMulI; rw [if_pos (by omega)]; rfl
/-- one round, as the walks end it -/
theorem gf_round {a b n out x y : Nat} (hm : gf.Mid a b n out x y) (hy : 0 < y) {o' x' : Nat} (ho : o' = if y % 2 = 1 then out ^^^ x else out) (hx : x' = gf.x2 x) :
    ∃ n o z : Nat, ∃ q : Nat, gf.Mid a b n o z q ∧ (x' : Int) = z ∧ (y : Int) / 2 = q ∧ (o' : Int) = o := by
  obtain ⟨m, h⟩ := gf.mid_next hm hy
  exact ⟨m, _, _, _, h, by rw [hx], by omega, by rw [ho]⟩
theorem l00In_any (a b c : Int) (w : World) : Calls Tryd.prog 45 #[.int .i64 a, .int .i64 b, .int .i64 c] w fun e w' => e = .returned (.bool (decide (b ≤ a) && decide (a ≤ c))) ∧ w = w' := by
  go_enter Tryd.func45, Tryd.ntmps45
  go_wp2
  all_goals go_ret
  all_goals simp_all
  all_goals omega
theorem within_any (a b c : Int) (w : World) : Calls Tryd.prog 55 #[.int .i64 a, .int .i64 b, .int .i64 c] w fun e w' => e = .returned (.bool (decide (b ≤ a) && decide (a ≤ c))) ∧ w = w' := by
  go_enter Tryd.func55, Tryd.ntmps55
  go_wp2
  all_goals go_ret
  all_goals simp_all
  all_goals omega
theorem isByte_any (a : Int) (w : World) : Calls Tryd.prog 70 #[.int .i64 a] w fun e w' => e = .returned (.bool (decide (0 ≤ a) && decide (a ≤ 255))) ∧ w = w' := by
  go_enter Tryd.func70, Tryd.ntmps70
  go_wp2_with (go_at_call 55; refine (within_any _ _ _ _).mono ?_; rintro e w' ⟨rfl, rfl⟩)
  all_goals go_ret
  all_goals simp_all
end Go.Proofs.YtabmdbhbbmnkdaaDoor
namespace Go.Proofs.YtabmdbhbbmnkdaaDoor
open Go Go.ChangeShapes Go.WideShapes Go.ChangeAt Go.RowKit lib
set_option linter.unusedVariables false
set_option maxRecDepth 100000
/-- the text of a mark: its digits -/
def mtF : Nat → Nat → List UInt8 → List UInt8
  | 0, _, out => out
  | f + 1, k, out => if k = 0 then out else mtF f (k / 10) ((48 + UInt8.ofNat (k % 10)) :: out)
def mt (k : Nat) : ByteArray := ⟨(109 :: mtF 20 k []).toArray⟩
theorem mtF_next {f k : Nat} {out : List UInt8} (h0 : 0 < k) (h : k < 10 ^ f) : ∃ g, f = g + 1 ∧ mtF f k out = mtF g (k / 10) ((48 + UInt8.ofNat (k % 10)) :: out) ∧ k / 10 < 10 ^ g := by
  cases f with
  | zero => simp at h; omega
  | succ g => exact ⟨g, rfl, by simp only [mtF]; rw [if_neg (by omega)], by rw [Nat.pow_succ] at h; omega⟩
theorem mtF_zero (f : Nat) (out : List UInt8) : mtF f 0 out = out := by cases f <;> simp [mtF]
end Go.Proofs.YtabmdbhbbmnkdaaDoor
namespace Go.Proofs.YtabmdbhbbmnkdaaDoor
open Go Go.ChangeShapes Go.WideShapes Go.ChangeAt Go.RowKit lib
set_option linter.unusedVariables false
set_option maxRecDepth 100000
/-- the first k files of two lists are the same -/
def sameTo (s t : Nat → ByteArray) (k : Nat) : Prop := ∀ i, i < k * 2 → s i = t i
theorem sameTo_next {s t : Nat → ByteArray} {k : Nat} (h : sameTo s t k) (h1 : s (k * 2) = t (k * 2)) (h2 : s (k * 2 + 1) = t (k * 2 + 1)) : sameTo s t (k + 1) := fun i hi => by
  by_cases e1 : i = k * 2
  · rw [e1, h1]
  · by_cases e2 : i = k * 2 + 1
    · rw [e2, h2]
    · exact h i (by omega)
def sameB (n m : Nat) (s t : Nat → ByteArray) : Bool := decide (n = m) && (List.range (n * 2)).all fun i => decide (s i = t i)
theorem sameB_true {n : Nat} {s t : Nat → ByteArray} (h : sameTo s t n) : sameB n n s t = true := by
  simp [sameB]; intro i hi; exact h i (by omega)
theorem sameB_len {n m : Nat} {s t : Nat → ByteArray} (h : n ≠ m) : sameB n m s t = false := by simp [sameB, h]
theorem sameB_off {n m k : Nat} {s t : Nat → ByteArray} (hk : k < n * 2) (h : s k ≠ t k) : sameB n m s t = false := by
  simp only [sameB, Bool.and_eq_false_iff]; right
  rw [List.all_eq_false]
  exact ⟨k, List.mem_range.2 hk, by simpa using h⟩
end Go.Proofs.YtabmdbhbbmnkdaaDoor
namespace Go.Proofs.YtabmdbhbbmnkdaaDoor
open Go Go.ChangeShapes Go.WideShapes Go.ChangeAt Go.RowKit lib
set_option linter.unusedVariables false
set_option maxRecDepth 100000
/-- byte 1 makes the sum of all bytes zero -/
def sealU (u : Nat → UInt8) : Nat → UInt8 := upd (upd u 1 0) 1 (0 - usum (upd u 1 0) 32)
def rootU (n : Nat) : Nat → UInt8 := upd (upd (upd (fun _ => 0) 0 1) 2 (UInt8.ofNat n)) 12 1
/-- what the bitmap's byte becomes -/
def bitU (k : Nat) : UInt8 := UInt8.ofNat (2 ^ (k % 8))
def markU (u : Nat → UInt8) (k : Nat) (used : Bool) : Nat → UInt8 := sealU (upd u (12 + k / 8) (if used then u (12 + k / 8) ||| bitU k else u (12 + k / 8) &&& (255 - bitU k)))
theorem bitU_nat (k : Nat) : (bitU k).toNat = 2 ^ (k % 8) ∧ 2 ^ (k % 8) ≤ 128 := by
  have h : 2 ^ (k % 8) ≤ 2 ^ 7 := Nat.pow_le_pow_right (by omega) (by omega)
  refine ⟨?_, by omega⟩
  rw [bitU, UInt8.toNat_ofNat']
  exact Nat.mod_eq_of_lt (Nat.lt_of_le_of_lt h (by decide))
theorem bit_int (k : Nat) : (2 : Int) ^ (k % 8) % 256 = ((bitU k).toNat : Int) := by
  obtain ⟨h1, h2⟩ := bitU_nat k
  rw [h1]
  have : ((2 ^ (k % 8) : Nat) : Int) = (2 : Int) ^ (k % 8) := by simp
  omega
theorem or_bit (x : UInt8) (k : Nat) : bits .or .u8 (x.toNat : Int) ((2 : Int) ^ (k % 8) % 256) = ((x ||| bitU k).toNat : Int) := by
  rw [bit_int, u8_or_nat _ _ (UInt8.toNat_lt _) (UInt8.toNat_lt _), UInt8.toNat_or]
theorem mark_root (k : Nat) : markU (upd (upd (fun _ => 0) 0 1) 2 (UInt8.ofNat k)) 0 true = sealU (rootU k) := by
  have x12 : (upd (upd (fun _ => 0) 0 1) 2 (UInt8.ofNat k)) 12 = 0 := by simp [upd]
  simp only [markU, if_true, Nat.zero_div, Nat.add_zero, x12]
  rw [show (0 : UInt8) ||| bitU 0 = 1 by decide]
  unfold rootU
  exact Eq.refl _
end Go.Proofs.YtabmdbhbbmnkdaaDoor
namespace Go.Proofs.YtabmdbhbbmnkdaaDoor
open Go Go.ChangeShapes Go.WideShapes Go.ChangeAt Go.RowKit lib
set_option linter.unusedVariables false
set_option maxRecDepth 100000
/-- one bit of a check value -/
def crcBit (b v : Nat) : Nat := if v / 32768 = b then v * 2 % 65536 else (v * 2 % 65536) ^^^ 4129
/-- k bits of a byte, the highest first -/
def crcB (c : Nat) : Nat → Nat → Nat
  | 0, v => v
  | k + 1, v => crcBit (c / 2 ^ (7 - k) % 2) (crcB c k v)
/-- the check value of n bytes -/
def crcN (u : Nat → UInt8) : Nat → Nat → Nat
  | 0, v => v
  | n + 1, v => crcB (u n).toNat 8 (crcN u n v)
theorem crcBit_lt (b v : Nat) : crcBit b v < 65536 := by
  unfold crcBit
  split
  · omega
  · exact Nat.xor_lt_two_pow (n := 16) (by omega) (by omega)
theorem crcB_lt (c : Nat) : ∀ (k v : Nat), v < 65536 → crcB c k v < 65536
  | 0, _, h => h
  | _ + 1, _, _ => crcBit_lt _ _
theorem crcN_lt (u : Nat → UInt8) : ∀ (n v : Nat), v < 65536 → crcN u n v < 65536
  | 0, _, h => h
  | n + 1, v, h => crcB_lt _ _ _ (crcN_lt u n v h)
/-- the byte i of a string -/
def byteAt (s : ByteArray) (i : Nat) : UInt8 := s.data.toList.getD i 0
theorem byteAt_get (s : ByteArray) (i : Nat) (h : i < s.size) : s[i]'h = byteAt s i := by
  unfold byteAt
  rw [List.getD_eq_getElem?_getD, List.getElem?_eq_getElem (h := by exact h)]
  rfl
theorem u8_low : ∀ c : Fin 256, bits .and .u8 ((c.val : Nat) : Int) 1 = ((c.val % 2 : Nat) : Int) := by decide +kernel
theorem crc_bit (u : UInt8) (k : Nat) : wrap64 (bits .and .u8 ((u.toNat : Int) / 2 ^ k) 1) = ((u.toNat / 2 ^ k % 2 : Nat) : Int) := by
  have h : u.toNat / 2 ^ k < 256 := Nat.lt_of_le_of_lt (Nat.div_le_self _ _) u.toNat_lt
  have e : (u.toNat : Int) / 2 ^ k = ((u.toNat / 2 ^ k : Nat) : Int) := by simp [Int.natCast_ediv]
  have := u8_low ⟨_, h⟩
  simp only at this
  rw [e, this]
  unfold wrap64
  omega
theorem crc_bit64 (u : UInt8) (k : Nat) : bits .and .i64 (wrap64 ((u.toNat : Int) / 2 ^ k)) 1 = ((u.toNat / 2 ^ k % 2 : Nat) : Int) := by
  have h : u.toNat / 2 ^ k < 256 := Nat.lt_of_le_of_lt (Nat.div_le_self _ _) u.toNat_lt
  have e : (u.toNat : Int) / 2 ^ k = ((u.toNat / 2 ^ k : Nat) : Int) := by simp [Int.natCast_ediv]
  rw [e]
  generalize u.toNat / 2 ^ k = z at h
  have e' : wrap64 ((z : Nat) : Int) = ((z : Nat) : Int) := by unfold wrap64; omega
  rw [e']
  refine (i64_and _ 1 (by omega) (by omega)).trans ?_
  rw [Nat.and_one_is_mod]
theorem crc_top (y : Nat) (h : y < 65536) : bits .and .i64 ((y : Int) / 32768) 1 = (y : Int) / 32768 := by
  have e : (y : Int) / 32768 = ((y / 32768 : Nat) : Int) := by omega
  rw [e]
  refine (i64_and _ 1 (by omega) (by omega)).trans ?_
  rw [Nat.and_one_is_mod]
  omega
theorem crc_dbl (y : Nat) (h : y < 65536) : bits .and .i64 ((y : Int) * 2) 65535 = ((y * 2 % 65536 : Nat) : Int) := by
  refine (i64_and (y * 2) 65535 (by omega) (by omega)).trans ?_
  rw [show 65535 = 2 ^ 16 - 1 from rfl, Nat.and_two_pow_sub_one_eq_mod]
theorem crc_same (y b : Nat) (h : y < 65536) (e : ((y : Int) / 32768 != (b : Int)) = false) : bits .and .i64 ((y : Int) * 2) 65535 = ((crcBit b y : Nat) : Int) := by
  have e' : (y : Int) / 32768 = (b : Int) := by simpa using e
  rw [crc_dbl y h]
  unfold crcBit
  rw [if_pos (by omega)]
theorem crc_other (y b : Nat) (h : y < 65536) (e : ((y : Int) / 32768 != (b : Int)) = true) : bits .xor .i64 (bits .and .i64 ((y : Int) * 2) 65535) 4129 = ((crcBit b y : Nat) : Int) := by
  have e' : (y : Int) / 32768 ≠ (b : Int) := by simpa using e
  rw [crc_dbl y h]
  refine (i64_xor (y * 2 % 65536) 4129 (by omega) (by omega)).trans ?_
  unfold crcBit
  rw [if_neg (by omega)]
set_option maxHeartbeats 1000000 in
theorem implCrc_any (s : ByteArray) (v : Nat) (w : World) (hv : v < 65536) (hs : s.size ≤ 1048576) :
    Calls Tryd.prog 73 #[.string s, .int .i64 v] w fun e w' => e = .returned (.int .i64 (crcN (byteAt s) s.size v)) ∧ w = w' := by
  go_enter Tryd.func73, Tryd.ntmps73
  go_wp2
  go_loop [1, 10] (fun s1 s10 => ∃ n : Nat, n ≤ s.size ∧ s10 = .int .i64 n ∧ ∃ x : Nat, x < 65536 ∧ x = crcN (byteAt s) n v ∧ s1 = .int .i64 x) (fun _ i => s.size - (intOf i).toNat)
  case atStart => exact ⟨0, by omega, rfl, v, hv, rfl, rfl⟩
  case round =>
    obtain ⟨n, hn, rfl, x, hx, ex, rfl⟩ := hrel
    by_cases hlt : n < s.size
    · have hb := byteAt_get s n hlt
      have EX := Lib.hid ex
      clear ex
      go_wp2
      go_loop [1, 6] (fun s1 s6 => ∃ k : Nat, k ≤ 8 ∧ s6 = .int .i64 (7 - (k : Int)) ∧ ∃ y : Nat, y < 65536 ∧ y = crcB (byteAt s n).toNat k x ∧ s1 = .int .i64 y) (fun _ i => ((intOf i) + 1).toNat)
      case atStart => exact ⟨0, by omega, rfl, x, hx, rfl, rfl⟩
      case round =>
        obtain ⟨k, hk, rfl, y, hy, ey, rfl⟩ := hrel
        have EY := Lib.hid ey
        clear ey
        by_cases hk8 : k < 8
        · go_wp2
          · rename_i h1
            rw [crc_bit] at h1
            exact ⟨⟨k + 1, by omega, congrArg (Value.int .i64) (by omega), crcBit ((byteAt s n).toNat / 2 ^ (7 - k) % 2) y, crcBit_lt _ _, congrArg (crcBit _) EY.out, congrArg (Value.int .i64) (crc_other y _ hy h1)⟩, by simp [intOf]; omega⟩
          · rename_i h1
            rw [crc_bit] at h1
            exact ⟨⟨k + 1, by omega, congrArg (Value.int .i64) (by omega), crcBit ((byteAt s n).toNat / 2 ^ (7 - k) % 2) y, crcBit_lt _ _, congrArg (crcBit _) EY.out, congrArg (Value.int .i64) (crc_same y _ hy h1)⟩, by simp [intOf]; omega⟩
        · obtain rfl : k = 8 := by omega
          go_wp2
          exact ⟨⟨n + 1, by omega, by go_num, y, hy, by rw [EY.out, EX.out]; rfl, rfl⟩, by simp [intOf]; omega⟩
    · go_wp2
      go_ret
      obtain rfl : n = s.size := by omega
      subst ex
      exact ⟨rfl, rfl⟩
set_option maxHeartbeats 1000000 in
theorem specCrc_any (s : ByteArray) (v : Nat) (w : World) (hv : v < 65536) (hs : s.size ≤ 1048576) :
    Calls Tryd.prog 117 #[.string s, .int .i64 v] w fun e w' => e = .returned (.int .i64 (crcN (byteAt s) s.size v)) ∧ w = w' := by
  go_enter Tryd.func117, Tryd.ntmps117
  go_wp2
  go_loop [5, 6] (fun s1 s10 => ∃ n : Nat, n ≤ s.size ∧ s10 = .int .i64 n ∧ ∃ x : Nat, x < 65536 ∧ x = crcN (byteAt s) n v ∧ s1 = .int .i64 x) (fun _ i => s.size - (intOf i).toNat)
  case atStart => exact ⟨0, by omega, rfl, v, hv, rfl, rfl⟩
  case round =>
    obtain ⟨n, hn, rfl, x, hx, ex, rfl⟩ := hrel
    by_cases hlt : n < s.size
    · have hb := byteAt_get s n hlt
      have EX := Lib.hid ex
      clear ex
      go_wp2
      go_loop [5, 7] (fun s1 s6 => ∃ k : Nat, k ≤ 8 ∧ s6 = .int .i64 (7 - (k : Int)) ∧ ∃ y : Nat, y < 65536 ∧ y = crcB (byteAt s n).toNat k x ∧ s1 = .int .i64 y) (fun _ i => ((intOf i) + 1).toNat)
      case atStart => exact ⟨0, by omega, rfl, x, hx, rfl, rfl⟩
      case round =>
        obtain ⟨k, hk, rfl, y, hy, ey, rfl⟩ := hrel
        have EY := Lib.hid ey
        clear ey
        by_cases hk8 : k < 8
        · go_wp2
          · rename_i h1
            rw [crc_bit64, crc_top y hy] at h1
            exact ⟨⟨k + 1, by omega, congrArg (Value.int .i64) (by omega), crcBit ((byteAt s n).toNat / 2 ^ (7 - k) % 2) y, crcBit_lt _ _, congrArg (crcBit _) EY.out, congrArg (Value.int .i64) (crc_other y _ hy h1)⟩, by simp [intOf]; omega⟩
          · rename_i h1
            rw [crc_bit64, crc_top y hy] at h1
            exact ⟨⟨k + 1, by omega, congrArg (Value.int .i64) (by omega), crcBit ((byteAt s n).toNat / 2 ^ (7 - k) % 2) y, crcBit_lt _ _, congrArg (crcBit _) EY.out, congrArg (Value.int .i64) (crc_same y _ hy h1)⟩, by simp [intOf]; omega⟩
        · obtain rfl : k = 8 := by omega
          go_wp2
          exact ⟨⟨n + 1, by omega, by go_num, y, hy, by rw [EY.out, EX.out]; rfl, rfl⟩, by simp [intOf]; omega⟩
    · go_wp2
      go_ret
      obtain rfl : n = s.size := by omega
      subst ex
      exact ⟨rfl, rfl⟩
theorem specCrc16_any (s : ByteArray) (v : Nat) (w : World) (hv : v < 65536) (hs : s.size ≤ 1048576) :
    Calls Tryd.prog 104 #[.string s, .int .i64 v] w fun e w' => e = .returned (.int .i64 (crcN (byteAt s) s.size v)) ∧ w = w' := by
  have d : (decide ((0:Int) ≤ (v : Int)) && decide ((v : Int) ≤ 65535)) = true := by simp; omega
  have d' : decide ((v : Int) ≤ 65535) = true := by simp; omega
  go_enter Tryd.func104, Tryd.ntmps104
  go_wp2_with (first | (go_at_call 45; refine (l00In_any _ _ _ _).mono ?_; rintro e w' ⟨rfl, rfl⟩) | (go_at_call 117; refine (specCrc_any s v _ hv hs).mono ?_; rintro e w' ⟨rfl, rfl⟩))
  go_ret
  exact ⟨rfl, rfl⟩
/-- a word of two bytes -/
def word2 (v : Nat) : ByteArray := ⟨#[UInt8.ofNat (v / 256), UInt8.ofNat (v % 256)]⟩
theorem specWord_any (v : Nat) (w : World) (hv : v < 65536) :
    Calls Tryd.prog 118 #[.int .i64 v] w fun e w' => e = .returned (.string (word2 v)) ∧ Below w.heap.size w w' := by
  have hcv := fun W x y => run_bstr2 (P := Tryd.prog) 22 9 5 Tryd.underlying22 Tryd.underlying5 Tryd.underlying9 W x y
  go_enter Tryd.func118, Tryd.ntmps118
  go_wp2
  go_ret
  exact ⟨congrArg (fun x => Ending.returned (Value.string x)) rfl, (Below.refl _ _).alloc (by simp <;> omega) _⟩
theorem specPutWord_any (v : Nat) (w : World) (hv : v < 65536) :
    Calls Tryd.prog 105 #[.int .i64 v] w fun e w' => e = .returned (.string (word2 v)) ∧ Below w.heap.size w w' := by
  have d : (decide ((0:Int) ≤ (v : Int)) && decide ((v : Int) ≤ 65535)) = true := by simp; omega
  have d' : decide ((v : Int) ≤ 65535) = true := by simp; omega
  go_enter Tryd.func105, Tryd.ntmps105
  go_wp2_with (first | (go_at_call 45; refine (l00In_any _ _ _ _).mono ?_; rintro e w' ⟨rfl, rfl⟩) | (go_at_call 118; refine (specWord_any v _ hv).mono ?_; rintro e w' ⟨rfl, hb⟩))
  go_ret
  exact ⟨rfl, hb⟩
theorem implPutWord_any (v : Nat) (w : World) (hv : v < 65536) :
    Calls Tryd.prog 74 #[.int .i64 v] w fun e w' => e = .returned (.string (word2 v)) ∧ Below w.heap.size w w' := by
  have d : (decide ((0:Int) ≤ (v : Int)) && decide ((v : Int) ≤ 65535)) = true := by simp; omega
  have d' : decide ((v : Int) ≤ 65535) = true := by simp; omega
  have hcv := fun W x y => run_bstr2 (P := Tryd.prog) 22 9 5 Tryd.underlying22 Tryd.underlying5 Tryd.underlying9 W x y
  go_enter Tryd.func74, Tryd.ntmps74
  go_wp2_with (first | (go_at_call 55; refine (within_any _ _ _ _).mono ?_; rintro e w' ⟨rfl, rfl⟩))
  go_ret
  exact ⟨congrArg (fun x => Ending.returned (Value.string x)) rfl, (Below.refl _ _).alloc (by simp <;> omega) _⟩
end Go.Proofs.YtabmdbhbbmnkdaaDoor
namespace Go.Proofs.YtabmdbhbbmnkdaaDoor
open Go Go.ChangeShapes Go.WideShapes Go.ChangeAt Go.RowKit lib
set_option linter.unusedVariables false
set_option maxRecDepth 100000
end Go.Proofs.YtabmdbhbbmnkdaaDoor
