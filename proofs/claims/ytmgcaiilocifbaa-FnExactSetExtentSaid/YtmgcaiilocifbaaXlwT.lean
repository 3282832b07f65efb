/-
  The laws' own helpers on an entry of a disk of extents; an entry among the arguments.
-/
import Derived.Test.YtmgcaiilocifbaaXstT
import Derived.Test.YtmgcaiilocifbaaBase
namespace Go.Proofs.Ytmgcaiilocifbaa
open Go Go.ChangeShapes Go.WideShapes Go.ChangeAt Go.RowKit lib
set_option linter.unusedVariables false
set_option linter.unusedSimpArgs false
set_option maxRecDepth 100000
theorem szInt64S_any (A : Option Addr) (n c : Nat) (l : Int) (w : World) (hn : n ≤ 9223372036854775807) (h0 : 0 ≤ l) (h1 : l ≤ 1048576) (r : Int) (hr : r = if (n : Int) ≤ l then l - n else -1) :
    Calls Try.prog 15 #[.slice A n c, .int .i64 l] w fun e w' => e = .returned (.int .i64 r) ∧ w' = w := by
  by_cases h : (n : Int) ≤ l
  · rw [if_pos h] at hr
    subst hr
    go_enter Try.func15, Try.ntmps15
    go_wp2
    go_ret
    exact ⟨rfl, rfl⟩
  · rw [if_neg h] at hr
    subst hr
    go_enter Try.func15, Try.ntmps15
    go_wp2
    go_ret
    exact ⟨rfl, rfl⟩
theorem szXE_any (e : XE) (A : Option Addr) (c : Nat) (l : Int) (w : World) (hnm : e.nm.size ≤ 9223372036854775807) (hn : e.bl.length ≤ 9223372036854775807) (h0 : 0 ≤ l) (h1 : l ≤ 1048576) (r : Int) (hr : r = if (e.nm.size : Int) + e.bl.length ≤ l then l - e.nm.size - e.bl.length else -1) :
    Calls Try.prog 5 #[e.val A c, .int .i64 l] w fun e w' => e = .returned (.int .i64 r) ∧ Below w.heap.size w w' := by
  unfold XE.val
  generalize e.nm = nm at *
  generalize e.bl.length = m at *
  by_cases h2 : (nm.size : Int) ≤ l
  · have hc := fun W => szInt64S_any A m c (l - nm.size) W hn (by omega) (by omega) r (by rw [hr]; split <;> split <;> omega)
    have HC := Lib.hid hc
    by_cases h3 : (nm.size : Int) + m ≤ l
    · rw [if_pos h3] at hr
      have hr0 : 0 ≤ r := by omega
      clear hr hc
      go_enter Try.func5, Try.ntmps5
      go_wp2_with (go_at_call 15; refine (HC.out _).mono ?_; rintro e' w' ⟨rfl, hw'⟩; rw [hw']; clear hw' w')
      go_ret
      exact ⟨rfl, (Below.refl _ _).alloc (Nat.le_refl _) _⟩
    · rw [if_neg h3] at hr
      subst hr
      clear hc
      go_enter Try.func5, Try.ntmps5
      go_wp2_with (go_at_call 15; refine (HC.out _).mono ?_; rintro e' w' ⟨rfl, hw'⟩; rw [hw']; clear hw' w')
      go_ret
      exact ⟨rfl, (Below.refl _ _).alloc (Nat.le_refl _) _⟩
  · rw [if_neg (by omega)] at hr
    subst hr
    go_enter Try.func5, Try.ntmps5
    go_wp2
    go_ret
    exact ⟨rfl, (Below.refl _ _).alloc (Nat.le_refl _) _⟩
theorem toInt64S_any (A : Option Addr) (n c : Nat) (s : Nat → Int) (w : World) (hn : n ≤ 1048576) (hs : Sl w w.heap.size A n (fun i => .int .i64 (s i))) :
    Calls Try.prog 21 #[.slice A n c] w fun e w' => e = .returned (.slice (some ⟨w.heap.size, 0, none⟩) n n) ∧ w'.ownsRow w.heap.size 2 1 (.slice (some ⟨w.heap.size, 0, none⟩) n n) n ((List.range n).map fun (i : Nat) => Value.int .i64 (s i)) ∧ Below w.heap.size w w' := by
  have hmk : ∀ W : World, (Instr.makeSlice 23 (.int .i64 (n : Int)) (.int .i64 (n : Int))).run Try.prog W = .ok (.slice (some ⟨W.heap.size, 0, none⟩) n n) (W.alloc (.cells (madeCells #[.int .i64 0] n) 2)) := fun W => by
    have := run_mk (P := Try.prog) 23 2 (.int .i64 0) 1 8 Try.underlying23 (by kernel_rfl) (by omega) n (by omega) W
    rwa [Nat.mul_one] at this
  go_enter Try.func21, Try.ntmps21
  go_wp2
  go_loopw [4] (fun s4 wr => ∃ (k : Nat) (cur : Array Value), k ≤ n ∧ s4 = .int .i64 k ∧ Rw wr w.heap.size 2 cur ∧ cur.size = n ∧ (∀ i, i < k → cur[i]? = some (.int .i64 (s i))) ∧ Below w.heap.size w wr) (fun i _ => n - (intOf i).toNat)
  case atStart => exact ⟨0, _, by omega, rfl, Rw.new _ _ _, by rw [size_madeCells], fun i hi => by omega, (Below.refl _ _).alloc (Nat.le_refl _) _⟩
  case round =>
    obtain ⟨k, cur, hk, rfl, hrw, hsz, hcur, hb⟩ := hrel
    by_cases hlt : k < n
    · obtain ⟨b, o, rfl, hbb, h0⟩ := (hs.below hb) k hlt
      have hnext := one_more (x := .int .i64 (s k)) (f := fun i => .int .i64 (s i)) hcur (by omega) rfl
      have HN := Lib.hid hnext
      obtain ⟨x, hx⟩ : ∃ x, x = s k := ⟨_, rfl⟩
      have HX := Lib.hid hx
      simp only [← hx] at h0
      clear hx hs hmk hcur hnext
      obtain ⟨u0, hc0⟩ : ∃ u, wr.cell? ⟨w.heap.size, k, none⟩ = some u := ⟨_, (hrw.cell _).trans (Array.getElem?_eq_getElem (by omega))⟩
      have hf0 := hrw.frozen k
      go_wp2_with fail
      go_roundw
      case rel =>
        refine ⟨k + 1, _, by omega, by go_num, hrw.set _ _, by simpa using hsz, ?_, hb.setCell (Nat.le_refl _) _⟩
        have h := HN.out
        rw [← HX.out] at h
        exact h
      case measure => simp [intOf]; omega
    · obtain rfl : k = n := by omega
      go_wp2
      go_ret
      refine ⟨rfl, ⟨by simp, .inr ⟨w.heap.size, k, cur, rfl, Nat.le_refl _, hrw, Nat.le_refl _, by simp only [maxLen]; omega, by omega, ?_⟩⟩, hb⟩
      apply List.ext_getElem?
      intro i
      rw [List.getElem?_take]
      by_cases hi : i < k
      · rw [if_pos (by omega)]
        have := hcur i hi
        simp only [Array.getElem?_toList, this, List.getElem?_map, List.getElem?_range hi, Option.map_some]
      · rw [if_neg (by omega)]
        simp [hi]
theorem toXE_any (e : XE) (A : Option Addr) (c : Nat) (w : World) (hn : e.bl.length ≤ 1048576) (hs : Sl w w.heap.size A e.bl.length (fun i => .int .i64 (e.bl.getD i 0))) :
    Calls Try.prog 8 #[e.val A c] w fun r w' => ∃ A2 c2, r = .returned (e.val A2 c2) ∧ w'.ownsRow w.heap.size 2 1 (.slice A2 e.bl.length c2) e.bl.length ((List.range e.bl.length).map fun (i : Nat) => Value.int .i64 (e.bl.getD i 0)) ∧ Below w.heap.size w w' := by
  have HS := Lib.hid (fun (W : World) (hW : Below w.heap.size w W) => toInt64S_any A e.bl.length c (fun i => e.bl.getD i 0) W hn ((hs.below hW).more hW.size))
  unfold XE.val
  clear hs
  generalize e.bl.length = m at *
  go_enter Try.func8, Try.ntmps8
  go_upto_region 6 with fail
  obtain ⟨W, hW⟩ : ∃ W, (((w.alloc (.cells #[.int .i64 e.st, .string e.nm, .int .i64 e.no, .int .i64 e.tl, .slice A m c] 25)).alloc (.cells #[.int .i64 0, .string ⟨#[]⟩, .int .i64 0, .int .i64 0, .slice none 0 0] 31)).alloc (.cells #[.int .i64 e.st, .string e.nm, .int .i64 e.no, .int .i64 e.tl, .slice none 0 0] 31)) = W := ⟨_, rfl⟩
  have r0 : Rw W w.heap.size 25 #[.int .i64 e.st, .string e.nm, .int .i64 e.no, .int .i64 e.tl, .slice A m c] := by
    rw [← hW]
    exact ((Rw.new w _ _).alloc _).alloc _
  have r1 : Rw W (w.heap.size + 1) 31 #[.int .i64 0, .string ⟨#[]⟩, .int .i64 0, .int .i64 0, .slice none 0 0] := by
    rw [← hW]
    have := Rw.new (w.alloc (.cells #[.int .i64 e.st, .string e.nm, .int .i64 e.no, .int .i64 e.tl, .slice A m c] 25)) 31 #[.int .i64 0, .string ⟨#[]⟩, .int .i64 0, .int .i64 0, .slice none 0 0]
    rw [World.size_alloc] at this
    exact this.alloc _
  have r2 : Rw W (w.heap.size + 2) 31 #[.int .i64 e.st, .string e.nm, .int .i64 e.no, .int .i64 e.tl, .slice none 0 0] := by
    rw [← hW]
    have := Rw.new ((w.alloc (.cells #[.int .i64 e.st, .string e.nm, .int .i64 e.no, .int .i64 e.tl, .slice A m c] 25)).alloc (.cells #[.int .i64 0, .string ⟨#[]⟩, .int .i64 0, .int .i64 0, .slice none 0 0] 31)) 31 #[.int .i64 e.st, .string e.nm, .int .i64 e.no, .int .i64 e.tl, .slice none 0 0]
    rw [World.size_alloc, World.size_alloc] at this
    exact this
  have hb : Below w.heap.size w W := by
    rw [← hW]
    exact (((Below.refl _ _).alloc (Nat.le_refl _) _).alloc (by simp) _).alloc (by simp; omega) _
  have hz : W.heap.size = w.heap.size + 3 := by rw [← hW]; simp
  try rw [hW]
  clear hW
  have c4 := r0.cell 4
  have R1 := Lib.hid r1
  have R2 := Lib.hid r2
  have HB := Lib.hid hb
  have HZ := Lib.hid hz
  clear r0 r1 r2 hb hz
  go_upto_region 7 with (go_at_call 21; refine (HS.out _ HB.out).mono ?_; rintro r w1 ⟨rfl, ho, hb1⟩; have r1 := R1.out.below hb1 R1.out.lt; have r2 := R2.out.below hb1 R2.out.lt; have k0 := r2.cell 0; have k1 := r2.cell 1; have k2 := r2.cell 2; have k3 := r2.cell 3; have k4 := r2.cell 4; have kf := r2.frozen 4)
  obtain ⟨q, hq⟩ : ∃ q, w.heap.size + 1 = q := ⟨_, rfl⟩
  obtain ⟨g, hg⟩ : ∃ g, W.heap.size = g := ⟨_, rfl⟩
  rw [hq] at r1
  have hq2 : w.heap.size + 2 = q + 1 := by omega
  rw [hq2] at r2
  have hsz := HZ.out
  have r2' := r2.set 4 (.slice (some ⟨g, 0, none⟩) m m)
  have r1' := r1.far (p := ⟨q + 1, 4, none⟩) (by show q ≠ q + 1; omega) (.slice (some ⟨g, 0, none⟩) m m)
  have ho' : (w1.setCell ⟨q + 1, 4, none⟩ (.slice (some ⟨g, 0, none⟩) m m)).ownsRow W.heap.size 2 1 _ m _ := World.ownsRow.kept ho (only_setCell (g := q + 1) (only_refl w1 _) (.inl rfl) _) (own_neR ho r2 (by decide))
  have hb2 := (HB.out.trans (hb1.mono HB.out.size)).setCell (p := ⟨q + 1, 4, none⟩) (by show w.heap.size ≤ q + 1; omega) (.slice (some ⟨g, 0, none⟩) m m)
  rw [hg] at ho' ⊢
  rw [hq]
  clear k0 k1 k2 k3 k4 kf hb1 ho r1 r2
  generalize w1.setCell ⟨q + 1, 4, none⟩ (.slice (some ⟨g, 0, none⟩) m m) = W2 at *
  have k0 := r2'.cell 0
  have k1 := r2'.cell 1
  have k2 := r2'.cell 2
  have k3 := r2'.cell 3
  have k4 := r2'.cell 4
  have l0 := r1'.cell 0
  have l1 := r1'.cell 1
  have l2 := r1'.cell 2
  have l3 := r1'.cell 3
  have l4 := r1'.cell 4
  have m0 := r1'.frozen 0
  have m1 := r1'.frozen 1
  have m2 := r1'.frozen 2
  have m3 := r1'.frozen 3
  have m4 := r1'.frozen 4
  have rr := ((((r1'.set 0 (.int .i64 e.st)).set 1 (.string e.nm)).set 2 (.int .i64 e.no)).set 3 (.int .i64 e.tl)).set 4 (.slice (some ⟨g, 0, none⟩) m m)
  have RR := Lib.hid rr
  have R1' := Lib.hid r1'
  have HB2 := Lib.hid hb2
  have HO2 := Lib.hid ho'
  have hqw : w.heap.size ≤ q := by omega
  have hgw : w.heap.size ≤ g := by omega
  clear rr r1' r2' hb2 ho' hq hg hq2 hsz
  go_wp2
  have g0 := RR.out.cell 0
  have g1 := RR.out.cell 1
  have g2 := RR.out.cell 2
  have g3 := RR.out.cell 3
  have g4 := RR.out.cell 4
  have ho3 := World.ownsRow.kept HO2.out (only_setCell (g := q) (p := ⟨q, 4, none⟩) (only_setCell (g := q) (p := ⟨q, 3, none⟩) (only_setCell (g := q) (p := ⟨q, 2, none⟩) (only_setCell (g := q) (p := ⟨q, 1, none⟩) (only_setCell (g := q) (p := ⟨q, 0, none⟩) (only_refl W2 _) (.inl rfl) (.int .i64 e.st)) (.inl rfl) (.string e.nm)) (.inl rfl) (.int .i64 e.no)) (.inl rfl) (.int .i64 e.tl)) (.inl rfl) (.slice (some ⟨g, 0, none⟩) m m)) (own_neR HO2.out R1'.out (by decide))
  have hb3 := ((((HB2.out.setCell (p := ⟨q, 0, none⟩) hqw (.int .i64 e.st)).setCell (p := ⟨q, 1, none⟩) hqw (.string e.nm)).setCell (p := ⟨q, 2, none⟩) hqw (.int .i64 e.no)).setCell (p := ⟨q, 3, none⟩) hqw (.int .i64 e.tl)).setCell (p := ⟨q, 4, none⟩) hqw (.slice (some ⟨g, 0, none⟩) m m)
  exact bodyPost_ret (v := .agg #[.int .i64 e.st, .string e.nm, .int .i64 e.no, .int .i64 e.tl, .slice (some ⟨g, 0, none⟩) m m]) (by simp [results, Try.results8, go_sem, g0, g1, g2, g3, g4]) rfl ⟨_, _, rfl, own_base ho3 hgw, hb3⟩
theorem eqXE_same (e : XE) (A B : Option Addr) (c d : Nat) (w : World) (hn : e.bl.length ≤ 1048576) (hs : Sl w w.heap.size A e.bl.length (fun i => .int .i64 (e.bl.getD i 0))) (ht : Sl w w.heap.size B e.bl.length (fun i => .int .i64 (e.bl.getD i 0))) :
    Calls Try.prog 11 #[e.val A c, e.val B d] w fun r w' => r = .returned (.bool true) ∧ Below w.heap.size w w' := by
  unfold XE.val
  have hb : Below w.heap.size w ((w.alloc (.cells #[.int .i64 e.st, .string e.nm, .int .i64 e.no, .int .i64 e.tl, .slice A e.bl.length c] 31)).alloc (.cells #[.int .i64 e.st, .string e.nm, .int .i64 e.no, .int .i64 e.tl, .slice B e.bl.length d] 31)) := ((Below.refl _ _).alloc (Nat.le_refl _) _).alloc (by simp) _
  have HE := Lib.hid (eqInt64S_same A B e.bl.length c d (fun i => e.bl.getD i 0) (fun i => e.bl.getD i 0) _ hn ((hs.below hb).more hb.size) ((ht.below hb).more hb.size) (fun _ _ => rfl))
  have HB := Lib.hid hb
  clear hb hs ht
  generalize e.bl.length = m at *
  go_enter Try.func11, Try.ntmps11
  go_wp2_with (go_at_call 28; refine HE.out.mono ?_; rintro r w1 ⟨rfl, hb1⟩)
  go_ret
  exact ⟨rfl, HB.out.trans (hb1.mono HB.out.size)⟩
theorem markXE_any (e : XE) (A : Option Addr) (c B : Nat) (k0 : Int) (xs : List Value) (w : World) (hn : e.bl.length ≤ 1048576) (h0 : 1 ≤ k0) (h1 : k0 ≤ 1048577) (hown : w.ownsRow B 2 1 (.slice A e.bl.length c) e.bl.length xs) :
    Calls Try.prog 13 #[e.val A c, .int .i64 k0] w fun r w' => r = .returned (.int .i64 (k0 + e.bl.length)) ∧ w.grownBy w' (Value.slice A e.bl.length c).ownBlock := by
  unfold XE.val
  have HM := Lib.hid (markInt64S_any A e.bl.length c B k0 xs (w.alloc (.cells #[.int .i64 e.st, .string e.nm, .int .i64 e.no, .int .i64 e.tl, .slice A e.bl.length c] 31)) hn h0 h1 (hown.alloc _))
  have HG := Lib.hid (only_alloc (only_refl w (Value.slice A e.bl.length c).ownBlock) (.cells #[.int .i64 e.st, .string e.nm, .int .i64 e.no, .int .i64 e.tl, .slice A e.bl.length c] 31))
  clear hown
  generalize e.bl.length = m at *
  go_enter Try.func13, Try.ntmps13
  go_wp2_with (go_at_call 30; refine HM.out.mono ?_; rintro r w1 ⟨rfl, _, hg1⟩)
  go_ret
  exact ⟨rfl, only_trans HG.out hg1⟩
section
variable {H : Type} {enc : TypeId × Value → H} {P : Program} {w : World} {base : Nat}
/-- an argument that is a slice: its cells, and each element's own reading -/
theorem open_slT {t e k : Nat} {v : Value} {d : DataW H} {p : List MemPlace} (ht : P.underlying t = some (.slice e)) (hk : P.cellsOf e = k) (hv : ∃ a len cap, v = .slice a len cap)
    (h : DataW.Trod enc P w 0 (fun _ => true) true t v d p) :
    ∃ (A : Option Addr) (n c : Nat) (f : Nat → Value) (fuel : Nat), v = .slice A n c ∧ n ≤ c ∧ c ≤ 9223372036854775807 ∧ Sl w w.heap.size A (n * k) f ∧
      ∀ i, i < n → ∃ x, DataW.trod enc P w 0 (fun _ => true) true fuel e ((List.range k).map fun j => f (i * k + j)) = some x := by
  subst hk
  obtain ⟨A, n, c, rfl⟩ := hv
  obtain ⟨fuel, hf⟩ := h
  rcases Deep.open_slice ht hf with ⟨hcs, _⟩ | ⟨a, len, cap, m, n', D, Pl, hcs, _, hl, hm, hmm, _, hi⟩
  · simp [Value.cells] at hcs
    obtain ⟨rfl, rfl, rfl⟩ := hcs
    exact ⟨none, 0, 0, fun _ => undef, 0, rfl, Nat.le_refl _, by omega, fun i hi => absurd hi (by omega), fun i hi => absurd hi (by omega)⟩
  · simp [Value.cells] at hcs
    obtain ⟨rfl, rfl, rfl⟩ := hcs
    simp only [if_true] at hmm
    have hm' : c ≤ 9223372036854775807 := by simpa [maxLen] using hm
    by_cases hpos : 0 < n ∧ 0 < P.cellsOf e
    · obtain ⟨cs0, hc0, _⟩ := hi 0 (by omega)
      obtain ⟨_, hlen0, hcell0⟩ := World.cells?_some hc0
      have h00 := hcell0 0 hpos.2
      rw [Deep.add_add, List.getElem?_eq_getElem (by omega)] at h00
      have hs : a.spot = none := by simpa [Addr.add] using World.cell?_spot h00
      obtain ⟨b, o, sp⟩ := a
      simp only at hs
      subst hs
      have key : ∀ i, i < n → ∀ j, j < P.cellsOf e → ∃ u, w.cell? ⟨b, o + (i * P.cellsOf e + j), none⟩ = some u := by
        intro i hin j hj
        obtain ⟨cs', hc, _⟩ := hi i (by omega)
        obtain ⟨_, hlen, hcell⟩ := World.cells?_some hc
        have := hcell j hj
        rw [Deep.add_add, Addr.add_lit, List.getElem?_eq_getElem (by omega)] at this
        exact ⟨_, this⟩
      refine ⟨some ⟨b, o, none⟩, n, c, fun i => (w.cell? ⟨b, o + i, none⟩).getD undef, n', rfl, hl, hm', fun i hin => ?_, fun i hin => ?_⟩
      · have hq : i / P.cellsOf e < n := Nat.div_lt_of_lt_mul (by rw [Nat.mul_comm]; exact hin)
        obtain ⟨u, hu⟩ := key (i / P.cellsOf e) hq (i % P.cellsOf e) (Nat.mod_lt _ hpos.2)
        rw [Nat.div_add_mod'] at hu
        refine ⟨b, o, rfl, World.block_lt_of_cell? w _ hu, ?_⟩
        simp only [hu, Option.getD_some]
      · obtain ⟨cs', hc, ht'⟩ := hi i (by omega)
        obtain ⟨_, hlen, hcell⟩ := World.cells?_some hc
        refine ⟨(D i, Pl i), ?_⟩
        rw [← ht']
        congr 1
        refine List.ext_getElem (by simp [hlen]) fun j h1 h2 => ?_
        have hj : j < P.cellsOf e := by simpa using h1
        have := hcell j hj
        rw [Deep.add_add, Addr.add_lit, List.getElem?_eq_getElem (by omega)] at this
        simp only [List.getElem_map, List.getElem_range, this, Option.getD_some]
    · have hz : n * P.cellsOf e = 0 := by
        rcases Nat.eq_zero_or_pos n with h0 | h0
        · rw [h0, Nat.zero_mul]
        · have : P.cellsOf e = 0 := by omega
          rw [this, Nat.mul_zero]
      refine ⟨some a, n, c, fun _ => undef, n', rfl, hl, hm', fun i hin => absurd hin (by omega), fun i hin => ?_⟩
      obtain ⟨cs', hc, ht'⟩ := hi i (by omega)
      obtain ⟨_, hlen, _⟩ := World.cells?_some hc
      have hk0 : P.cellsOf e = 0 := by
        rcases Nat.eq_zero_or_pos (P.cellsOf e) with h0 | h0
        · exact h0
        · exact absurd ⟨by omega, h0⟩ hpos
      refine ⟨(D i, Pl i), ?_⟩
      rw [← ht']
      congr 1
      rw [hk0] at hlen ⊢
      simp [List.eq_nil_of_length_eq_zero hlen]
theorem open_xe {t e : Nat} {f0 f1 f2 f3 f4 : Field} {v : Value} {d : DataW H} {p : List MemPlace} (ht : P.underlying t = some (.struct #[f0, f1, f2, f3, f4])) (hone : Deep.oneCellFields P #[f0, f1, f2, f3, f4] = true) (hk : P.cellsOf t = 5)
    (h0 : P.underlying f0.type = some (.int .i64)) (h1 : P.underlying f1.type = some .string) (h2 : P.underlying f2.type = some (.int .i64)) (h3 : P.underlying f3.type = some (.int .i64)) (h4 : P.underlying f4.type = some (.slice e)) (he : P.underlying e = some (.int .i64)) (hke : P.cellsOf e = 1)
    (hv : Value.okWide P w .any base t v) (h : DataW.Trod enc P w 0 (fun _ => true) true t v d p) :
    ∃ (x : XE) (A : Option Addr) (c : Nat), v = x.val A c ∧ x.nm.size ≤ 9223372036854775807 ∧ x.bl.length ≤ 9223372036854775807 ∧ Sl w w.heap.size A x.bl.length (fun i => .int .i64 (x.bl.getD i 0)) := by
  obtain ⟨cs, rfl, hsz⟩ := okWide_struct ht hv
  obtain ⟨fuel, hf⟩ := h
  obtain ⟨xs, n', hfu, hd, hlen, hxl, hfd⟩ := DataW.trod_struct ht hf
  have key : ∀ (j : Nat) (fd : Field), (#[f0, f1, f2, f3, f4] : Array Field)[j]? = some fd → ∃ x, DataW.trod enc P w 0 (fun _ => true) true n' fd.type (((Value.agg cs).cells.toList.drop j).take 1) = some x := by
    intro j fd hj
    obtain ⟨ho, hc1⟩ := Deep.hone_of hone j fd hj
    have := hfd j fd hj
    rw [ho, hc1] at this
    have hjl : j < xs.length := by
      have := (Array.getElem?_eq_some_iff.1 hj).1
      simp at this hxl
      omega
    rw [List.getElem?_eq_getElem hjl] at this
    exact ⟨_, this⟩
  have hl : cs.toList.length = 5 := by rw [Array.length_toList, hsz, hk]
  obtain ⟨a, b, c, g, q, hcs⟩ : ∃ a b c g q, cs.toList = [a, b, c, g, q] := by
    match h : cs.toList, hl with
    | [a, b, c, e, g], _ => exact ⟨a, b, c, e, g, rfl⟩
  have hcc : (Value.agg cs).cells.toList = [a, b, c, g, q] := hcs
  rw [hcc] at key
  obtain ⟨x0, hx0⟩ := key 0 f0 rfl
  obtain ⟨x1, hx1⟩ := key 1 f1 rfl
  obtain ⟨x2, hx2⟩ := key 2 f2 rfl
  obtain ⟨x3, hx3⟩ := key 3 f3 rfl
  obtain ⟨x4, hx4⟩ := key 4 f4 rfl
  obtain ⟨nm, hm1, _, hw⟩ := DataW.trod_string h1 hx1
  obtain ⟨m0, hm0, _⟩ := DataW.trod_int h0 hx0
  obtain ⟨m2, hm2, _⟩ := DataW.trod_int h2 hx2
  obtain ⟨m3, hm3, _⟩ := DataW.trod_int h3 hx3
  have hq : ∃ (A : Option Addr) (n c : Nat), q = .slice A n c := by
    rcases DataW.trod_slice h4 hx4 with ⟨h5, _⟩ | ⟨aa, len, cap, _, _, _, _, h5, _⟩
    · simp at h5; exact ⟨_, _, _, h5⟩
    · simp at h5; exact ⟨_, _, _, h5⟩
  obtain ⟨A, n, cap, rfl⟩ := hq
  have hT : DataW.Trod enc P w 0 (fun _ => true) true f4.type (.slice A n cap) x4.1 x4.2 := ⟨n', by simpa [Value.cells] using hx4⟩
  obtain ⟨A', k, c', f, fuel2, e1, hkc, hc63, hsl, hel⟩ := open_slT h4 hke ⟨_, _, _, rfl⟩ hT
  injection e1 with e1 e2 e3
  subst e1 e2 e3
  rw [Nat.mul_one] at hsl
  obtain ⟨z, hz⟩ : ∃ z : Nat → Int, ∀ i, i < n → f i = .int .i64 (z i) := by
    refine ⟨fun i => intV (f i), fun i hi => ?_⟩
    obtain ⟨x, hx⟩ := hel i hi
    obtain ⟨m, hm, _, hw⟩ := DataW.trod_int he hx
    simp at hm
    dsimp only
    rw [hm]; rfl
  replace hsl := hsl.congr hz
  simp at hm0 hm1 hm2 hm3
  subst hm0 hm1 hm2 hm3
  have hll : ((List.range n).map z).length = n := by simp
  refine ⟨⟨m0, nm, m2, m3, (List.range n).map z⟩, A, cap, ?_, by simpa [maxLen] using hw, ?_, ?_⟩
  · unfold XE.val
    dsimp only
    rw [hll]
    congr 1
    apply Array.ext'
    exact hcs
  · dsimp only
    rw [hll]
    omega
  · dsimp only
    rw [hll]
    exact hsl.congr fun i hi => by simp [List.getD_eq_getElem?_getD, hi]
end
end Go.Proofs.Ytmgcaiilocifbaa
