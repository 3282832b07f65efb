/-
  A track's description among a law's arguments.
-/
import Derived.Test.YtabmdbhbbmnkdaaDoorBlT
import Derived.Test.YtabmdbhbbmnkdaaDoorPbP
namespace Go.Proofs.YtabmdbhbbmnkdaaDoor
open Go Go.ChangeShapes Go.WideShapes Go.ChangeAt Go.RowKit Go.Joins lib
set_option linter.unusedVariables false
set_option linter.unusedSimpArgs false
set_option maxRecDepth 100000
section
variable {H : Type} {enc : TypeId × Value → H} {P : Program} {w : World} {base : Nat}
/-- an argument that is a slice: its cells, and each element's own reading -/
theorem open_slT {t e k : Nat} {v : Value} {d : DataW H} {p : List MemPlace} (ht : P.underlying t = some (.slice e)) (hk : P.cellsOf e = k) (hv : ∃ a len cap, v = .slice a len cap)
    (h : DataW.Trod enc P w 0 (fun _ => true) true t v d p) :
    ∃ (A : Option Addr) (n c : Nat) (f : Nat → Value) (fuel : Nat), v = .slice A n c ∧ n ≤ c ∧ c ≤ 9223372036854775807 ∧ Sl w w.heap.size A (n * k) f ∧
      ∀ i, i < n → ∃ x, DataW.trod enc P w 0 (fun _ => true) true fuel e ((List.range k).map fun j => f (i * k + j)) = some x := by
  subst hk
  obtain ⟨A, n, c, rfl⟩ := hv
  obtain ⟨fuel, hf⟩ := h
  rcases Deep.open_slice ht hf with ⟨hcs, _⟩ | ⟨a, len, cap, m, n', D, Pl, hcs, _, hl, hm, hmm, _, hi⟩
  · simp [Value.cells] at hcs
    obtain ⟨rfl, rfl, rfl⟩ := hcs
    exact ⟨none, 0, 0, fun _ => undef, 0, rfl, Nat.le_refl _, by omega, fun i hi => absurd hi (by omega), fun i hi => absurd hi (by omega)⟩
  · simp [Value.cells] at hcs
    obtain ⟨rfl, rfl, rfl⟩ := hcs
    simp only [if_true] at hmm
    have hm' : c ≤ 9223372036854775807 := by simpa [maxLen] using hm
    by_cases hpos : 0 < n ∧ 0 < P.cellsOf e
    · obtain ⟨cs0, hc0, _⟩ := hi 0 (by omega)
      obtain ⟨_, hlen0, hcell0⟩ := World.cells?_some hc0
      have h00 := hcell0 0 hpos.2
      rw [Deep.add_add, List.getElem?_eq_getElem (by omega)] at h00
      have hs : a.spot = none := by simpa [Addr.add] using World.cell?_spot h00
      obtain ⟨b, o, sp⟩ := a
      simp only at hs
      subst hs
      have key : ∀ i, i < n → ∀ j, j < P.cellsOf e → ∃ u, w.cell? ⟨b, o + (i * P.cellsOf e + j), none⟩ = some u := by
        intro i hin j hj
        obtain ⟨cs', hc, _⟩ := hi i (by omega)
        obtain ⟨_, hlen, hcell⟩ := World.cells?_some hc
        have := hcell j hj
        rw [Deep.add_add, Addr.add_lit, List.getElem?_eq_getElem (by omega)] at this
        exact ⟨_, this⟩
      refine ⟨some ⟨b, o, none⟩, n, c, fun i => (w.cell? ⟨b, o + i, none⟩).getD undef, n', rfl, hl, hm', fun i hin => ?_, fun i hin => ?_⟩
      · have hq : i / P.cellsOf e < n := Nat.div_lt_of_lt_mul (by rw [Nat.mul_comm]; exact hin)
        obtain ⟨u, hu⟩ := key (i / P.cellsOf e) hq (i % P.cellsOf e) (Nat.mod_lt _ hpos.2)
        rw [Nat.div_add_mod'] at hu
        refine ⟨b, o, rfl, World.block_lt_of_cell? w _ hu, ?_⟩
        simp only [hu, Option.getD_some]
      · obtain ⟨cs', hc, ht'⟩ := hi i (by omega)
        obtain ⟨_, hlen, hcell⟩ := World.cells?_some hc
        refine ⟨(D i, Pl i), ?_⟩
        rw [← ht']
        congr 1
        refine List.ext_getElem (by simp [hlen]) fun j h1 h2 => ?_
        have hj : j < P.cellsOf e := by simpa using h1
        have := hcell j hj
        rw [Deep.add_add, Addr.add_lit, List.getElem?_eq_getElem (by omega)] at this
        simp only [List.getElem_map, List.getElem_range, this, Option.getD_some]
    · have hz : n * P.cellsOf e = 0 := by
        rcases Nat.eq_zero_or_pos n with h0 | h0
        · rw [h0, Nat.zero_mul]
        · have : P.cellsOf e = 0 := by omega
          rw [this, Nat.mul_zero]
      refine ⟨some a, n, c, fun _ => undef, n', rfl, hl, hm', fun i hin => absurd hin (by omega), fun i hin => ?_⟩
      obtain ⟨cs', hc, ht'⟩ := hi i (by omega)
      obtain ⟨_, hlen, _⟩ := World.cells?_some hc
      have hk0 : P.cellsOf e = 0 := by
        rcases Nat.eq_zero_or_pos (P.cellsOf e) with h0 | h0
        · exact h0
        · exact absurd ⟨by omega, h0⟩ hpos
      refine ⟨(D i, Pl i), ?_⟩
      rw [← ht']
      congr 1
      rw [hk0] at hlen ⊢
      simp [List.eq_nil_of_length_eq_zero hlen]
theorem open_trk {t e : Nat} {f0 f1 f2 g0 g1 g2 g3 g4 g5 g6 g7 : Field} {v : Value} {d : DataW H} {p : List MemPlace} (ht : P.underlying t = some (.struct #[f0, f1, f2])) (hone : Deep.oneCellFields P #[f0, f1, f2] = true) (hk : P.cellsOf t = 3)
    (h0 : P.underlying f0.type = some (.int .i64)) (h1 : P.underlying f1.type = some (.int .i64)) (h2 : P.underlying f2.type = some (.slice e)) (he : P.underlying e = some (.struct #[g0, g1, g2, g3, g4, g5, g6, g7])) (hone2 : Deep.oneCellFields P #[g0, g1, g2, g3, g4, g5, g6, g7] = true) (hke : P.cellsOf e = 8)
    (e0 : P.underlying g0.type = some (.int .i64)) (e1 : P.underlying g1.type = some (.int .i64)) (e2 : P.underlying g2.type = some (.int .i64)) (e3 : P.underlying g3.type = some (.int .i64)) (e4 : P.underlying g4.type = some .string) (e5 : P.underlying g5.type = some .bool) (e6 : P.underlying g6.type = some .bool) (e7 : P.underlying g7.type = some .bool)
    (hv : Value.okWide P w .any base t v) (h : DataW.Trod enc P w 0 (fun _ => true) true t v d p) :
    ∃ (f g : Int) (L : List SS) (A : Option Addr) (c : Nat), v = .agg (trkA f g A L.length c) ∧ L.length ≤ 9223372036854775807 ∧ (∀ k, k < L.length → (sAt L k).dt.size ≤ 9223372036854775807) ∧ SSl w w.heap.size A L := by
  obtain ⟨cs, rfl, hsz⟩ := okWide_struct ht hv
  obtain ⟨fuel, hf⟩ := h
  obtain ⟨xs, n', hfu, hd, hlen, hxl, hfd⟩ := DataW.trod_struct ht hf
  have key : ∀ (j : Nat) (fd : Field), (#[f0, f1, f2] : Array Field)[j]? = some fd → ∃ x, DataW.trod enc P w 0 (fun _ => true) true n' fd.type (((Value.agg cs).cells.toList.drop j).take 1) = some x := by
    intro j fd hj
    obtain ⟨ho, hc1⟩ := Deep.hone_of hone j fd hj
    have := hfd j fd hj
    rw [ho, hc1] at this
    have hjl : j < xs.length := by
      have := (Array.getElem?_eq_some_iff.1 hj).1
      simp at this hxl
      omega
    rw [List.getElem?_eq_getElem hjl] at this
    exact ⟨_, this⟩
  have hl : cs.toList.length = 3 := by rw [Array.length_toList, hsz, hk]
  obtain ⟨a, b, q, hcs⟩ : ∃ a b q, cs.toList = [a, b, q] := by
    match h : cs.toList, hl with
    | [a, b, c], _ => exact ⟨a, b, c, rfl⟩
  have hcc : (Value.agg cs).cells.toList = [a, b, q] := hcs
  rw [hcc] at key
  obtain ⟨x0, hx0⟩ := key 0 f0 rfl
  obtain ⟨x1, hx1⟩ := key 1 f1 rfl
  obtain ⟨x2, hx2⟩ := key 2 f2 rfl
  obtain ⟨m0, hm0, _⟩ := DataW.trod_int h0 hx0
  obtain ⟨m1, hm1, _⟩ := DataW.trod_int h1 hx1
  have hq : ∃ (A : Option Addr) (n c : Nat), q = .slice A n c := by
    rcases DataW.trod_slice h2 hx2 with ⟨h5, _⟩ | ⟨aa, len, cap, _, _, _, _, h5, _⟩
    · simp at h5; exact ⟨_, _, _, h5⟩
    · simp at h5; exact ⟨_, _, _, h5⟩
  obtain ⟨A, n, cap, rfl⟩ := hq
  have hT : DataW.Trod enc P w 0 (fun _ => true) true f2.type (.slice A n cap) x2.1 x2.2 := ⟨n', by simpa [Value.cells] using hx2⟩
  obtain ⟨A', k, c', f, fuel2, q1, hkc, hc63, hsl, hel⟩ := open_slT h2 hke ⟨_, _, _, rfl⟩ hT
  injection q1 with q1 q2 q3
  subst q1 q2 q3
  have fl : ∀ i, i < n → ∀ (j : Nat) (fd : Field), (#[g0, g1, g2, g3, g4, g5, g6, g7] : Array Field)[j]? = some fd → ∃ fuel x, DataW.trod enc P w 0 (fun _ => true) true fuel fd.type [f (i * 8 + j)] = some x := by
    intro i hi j fd hj
    obtain ⟨x, hx⟩ := hel i hi
    obtain ⟨xs, n', _, _, hlen, hxl, hf⟩ := DataW.trod_struct he hx
    obtain ⟨ho, hc1⟩ := Deep.hone_of hone2 j fd hj
    have hjl : j < (#[g0, g1, g2, g3, g4, g5, g6, g7] : Array Field).size := (Array.getElem?_eq_some_iff.1 hj).1
    have hj8 : j < 8 := hjl
    have := hf j fd hj
    rw [ho, hc1] at this
    have e1 : (((List.range 8).map fun j => f (i * 8 + j)).drop j).take 1 = [f (i * 8 + j)] := by
      rw [List.drop_eq_getElem_cons (by simp; omega)]
      simp
    rw [e1, List.getElem?_eq_getElem (by omega)] at this
    exact ⟨n', _, this⟩
  have ki : ∀ (u : TypeId) (z : Value), P.underlying u = some (.int .i64) → (∃ fuel x, DataW.trod enc P w 0 (fun _ => true) true fuel u [z] = some x) → z = .int .i64 (intV z) := fun u z hu hx => by
    obtain ⟨fuel, x, hx⟩ := hx
    obtain ⟨m, hm, _⟩ := DataW.trod_int hu hx
    simp at hm
    rw [hm]; rfl
  have kb : ∀ (u : TypeId) (z : Value), P.underlying u = some .bool → (∃ fuel x, DataW.trod enc P w 0 (fun _ => true) true fuel u [z] = some x) → z = .bool (boolV z) := fun u z hu hx => by
    obtain ⟨fuel, x, hx⟩ := hx
    obtain ⟨m, hm, _⟩ := DataW.trod_bool hu hx
    simp at hm
    rw [hm]; rfl
  have ks : ∀ (u : TypeId) (z : Value), P.underlying u = some .string → (∃ fuel x, DataW.trod enc P w 0 (fun _ => true) true fuel u [z] = some x) → z = .string (strV z) ∧ (strV z).size ≤ 9223372036854775807 := fun u z hu hx => by
    obtain ⟨fuel, x, hx⟩ := hx
    obtain ⟨m, hm, _, hw⟩ := DataW.trod_string hu hx
    simp at hm
    rw [hm]
    exact ⟨rfl, by simpa [maxLen, strV] using hw⟩
  obtain ⟨L, hL⟩ : ∃ L : List SS, L = (List.range n).map fun i => ⟨intV (f (i * 8)), intV (f (i * 8 + 1)), intV (f (i * 8 + 2)), intV (f (i * 8 + 3)), strV (f (i * 8 + 4)), boolV (f (i * 8 + 5)), boolV (f (i * 8 + 6)), boolV (f (i * 8 + 7))⟩ := ⟨_, rfl⟩
  have hll : L.length = n := by rw [hL]; simp
  have hat : ∀ k, k < n → sAt L k = ⟨intV (f (k * 8)), intV (f (k * 8 + 1)), intV (f (k * 8 + 2)), intV (f (k * 8 + 3)), strV (f (k * 8 + 4)), boolV (f (k * 8 + 5)), boolV (f (k * 8 + 6)), boolV (f (k * 8 + 7))⟩ := fun k hk => by
    unfold sAt
    rw [hL, List.getD_eq_getElem?_getD]
    simp [hk]
  simp at hm0 hm1
  subst hm0 hm1
  refine ⟨m0, m1, L, A, cap, ?_, by omega, ?_, ?_⟩
  · unfold trkA
    rw [hll]
    congr 1
    apply Array.ext'
    exact hcs
  · intro k hk
    rw [hat k (by omega)]
    exact (ks _ _ e4 (fl k (by omega) 4 g4 rfl)).2
  · intro i hi
    rw [hll] at hi
    obtain ⟨b, o, hA, hb, hc⟩ := hsl i hi
    refine ⟨b, o, hA, hb, ?_⟩
    rw [hc]
    congr 1
    show f i = (sAt L (i / 8)).cells.getD (i % 8) undef
    obtain ⟨z, r, hr, rfl⟩ : ∃ z r, r < 8 ∧ i = z * 8 + r := ⟨i / 8, i % 8, by omega, by omega⟩
    have hzn : z < n := by omega
    rw [show (z * 8 + r) / 8 = z by omega, show (z * 8 + r) % 8 = r by omega, hat z hzn]
    have hm8 : r = 0 ∨ r = 1 ∨ r = 2 ∨ r = 3 ∨ r = 4 ∨ r = 5 ∨ r = 6 ∨ r = 7 := by omega
    rcases hm8 with rfl | rfl | rfl | rfl | rfl | rfl | rfl | rfl
    · exact ki _ _ e0 (fl z hzn 0 g0 rfl)
    · exact ki _ _ e1 (fl z hzn 1 g1 rfl)
    · exact ki _ _ e2 (fl z hzn 2 g2 rfl)
    · exact ki _ _ e3 (fl z hzn 3 g3 rfl)
    · exact (ks _ _ e4 (fl z hzn 4 g4 rfl)).1
    · exact kb _ _ e5 (fl z hzn 5 g5 rfl)
    · exact kb _ _ e6 (fl z hzn 6 g6 rfl)
    · exact kb _ _ e7 (fl z hzn 7 g7 rfl)
end
end Go.Proofs.YtabmdbhbbmnkdaaDoor
