/-
  Disks of chains: the walks of all entries: the program's side.
-/
import Derived.Test.YtapkckpjeoedaaaGreatDoorWalkS
import Derived.Test.YtapkckpjeoedaaaGreatDoorGoneP
namespace Go.Proofs.YtapkckpjeoedaaaGreatDoor
open Go Go.ChangeShapes Go.WideShapes Go.ChangeAt Go.RowKit lib
set_option linter.unusedVariables false
set_option maxRecDepth 100000
/-- the owners of blocks behind the first k entries' walks -/
noncomputable def ownsN (n z t : Nat) (U : Nat → UInt8) : Nat → (Nat → Int)
  | 0 => fun _ => -1
  | k + 1 => if (entK n z U k).us = true then setOwn (ownsN n z t U k) (walkOf t n (lkN z U) (ownsN n z t U k) (entK n z U k).f).1 (k : Int) else ownsN n z t U k
/-- the walk of entry k -/
noncomputable def walkN (n z t : Nat) (U : Nat → UInt8) (k : Nat) : List Nat × Nat × Nat := if (entK n z U k).us = true then walkOf t n (lkN z U) (ownsN n z t U k) (entK n z U k).f else ([], 0, 0)
theorem ownsN_lt (n z t : Nat) (U : Nat → UInt8) : ∀ k i, ownsN n z t U k i < (k : Int) ∧ -1 ≤ ownsN n z t U k i
  | 0, i => by simp [ownsN]
  | k + 1, i => by
    have := ownsN_lt n z t U k i
    unfold ownsN
    split
    · unfold setOwn
      split <;> omega
    · omega
theorem ownsN_used {n z t : Nat} {U : Nat → UInt8} {k : Nat} (h : (entK n z U k).us = true) : ownsN n z t U (k + 1) = setOwn (ownsN n z t U k) (walkOf t n (lkN z U) (ownsN n z t U k) (entK n z U k).f).1 (k : Int) := by rw [ownsN, if_pos h]
theorem ownsN_not {n z t : Nat} {U : Nat → UInt8} {k : Nat} (h : (entK n z U k).us = false) : ownsN n z t U (k + 1) = ownsN n z t U k := by rw [ownsN, if_neg (by simp [h])]
theorem walkN_used {n z t : Nat} {U : Nat → UInt8} {k : Nat} (h : (entK n z U k).us = true) : walkN n z t U k = walkOf t n (lkN z U) (ownsN n z t U k) (entK n z U k).f := by rw [walkN, if_pos h]
theorem walkN_not {n z t : Nat} {U : Nat → UInt8} {k : Nat} (h : (entK n z U k).us = false) : walkN n z t U k = ([], 0, 0) := by rw [walkN, if_neg (by simp [h])]
/-- a list of walks of the call's own -/
def WRow (B : Nat) (w : World) (q E : Nat) (f : Nat → List Nat × Nat × Nat) : Prop :=
  ∃ (cs : Array Value) (A : Nat → Option Addr) (c : Nat → Nat), Rw w q 103 cs ∧ cs.size = E * 3 ∧
    (∀ i, i < E → cs[i * 3]? = some (.slice (A i) (f i).1.length (c i)) ∧ cs[i * 3 + 1]? = some (.int .i64 ((f i).2.1 : Int)) ∧ cs[i * 3 + 2]? = some (.int .i64 ((f i).2.2 : Int))) ∧
    (∀ i, i < E → IntsR B w (A i) (c i) (f i).1) ∧ (∀ i j, i < E → j < E → i ≠ j → apart (.slice (A i) (f i).1.length (c i)) (.slice (A j) (f j).1.length (c j)))
theorem WRow.below {B : Nat} {w w' : World} {q E : Nat} {f : Nat → List Nat × Nat × Nat} (h : WRow B w q E f) (hb : Below w.heap.size w w') : WRow B w' q E f := by
  obtain ⟨cs, A, c, h1, h2, h3, h4, h5⟩ := h
  exact ⟨cs, A, c, h1.below hb h1.lt, h2, h3, fun i hi => (h4 i hi).below hb, h5⟩
theorem WRow.grown {B o : Nat} {w w' : World} {q E : Nat} {f : Nat → List Nat × Nat × Nat} (h : WRow B w q E f) (hb : w.grownBy w' (some o)) (hq : q ≠ o) (ho : o < B) : WRow B w' q E f := by
  obtain ⟨cs, A, c, h1, h2, h3, h4, h5⟩ := h
  exact ⟨cs, A, c, rw_grown h1 hb (.inr fun e => hq (by injection e with e; exact e.symm)), h2, h3, fun i hi => (h4 i hi).grown hb (own_not (h4 i hi) ho), h5⟩
theorem WRow.cell {B : Nat} {w : World} {q E : Nat} {f : Nat → List Nat × Nat × Nat} (h : WRow B w q E f) {i : Nat} (hi : i < E) :
    ∃ A c, w.cell? ⟨q, i * 3, none⟩ = some (.slice A (f i).1.length c) ∧ w.cell? ⟨q, i * 3 + 1, none⟩ = some (.int .i64 ((f i).2.1 : Int)) ∧ w.cell? ⟨q, i * 3 + 2, none⟩ = some (.int .i64 ((f i).2.2 : Int)) ∧ IntsR B w A c (f i).1 ∧ (∀ j, w.frozen? ⟨q, j, none⟩ = false) := by
  obtain ⟨cs, A, c, h1, h2, h3, h4, h5⟩ := h
  obtain ⟨a, b, d⟩ := h3 i hi
  exact ⟨A i, c i, by rw [h1.cell, a], by rw [h1.cell, b], by rw [h1.cell, d], h4 i hi, fun j => h1.frozen j⟩
/-- a walk is stored -/
theorem WRow.put {B o : Nat} {w0 w1 : World} {q E k c' : Nat} {f : Nat → List Nat × Nat × Nat} {r : List Nat × Nat × Nat} {A' : Option Addr} (h : WRow B w0 q E f) (hg : w0.grownBy w1 (some o)) (hq : q ≠ o) (ho : o < B) (hB : B ≤ w0.heap.size) (hk : k < E) (hr : IntsR w0.heap.size w1 A' c' r.1)
    (hT : 2 ≠ 103) :
    WRow B (((w1.setCell ⟨q, k * 3, none⟩ (.slice A' r.1.length c')).setCell ⟨q, k * 3 + 1, none⟩ (.int .i64 (r.2.1 : Int))).setCell ⟨q, k * 3 + 2, none⟩ (.int .i64 (r.2.2 : Int))) q E (fun i => if i = k then r else f i) := by
  obtain ⟨cs, A, c, h1, h2, h3, h4, h5⟩ := h
  have r1 := rw_grown h1 hg (.inr fun e => hq (by injection e with e; exact e.symm))
  have keep : ∀ {B' c : Nat} {A : Option Addr} {l : List Nat}, IntsR B' w1 A c l → IntsR B' (((w1.setCell ⟨q, k * 3, none⟩ (.slice A' r.1.length c')).setCell ⟨q, k * 3 + 1, none⟩ (.int .i64 (r.2.1 : Int))).setCell ⟨q, k * 3 + 2, none⟩ (.int .i64 (r.2.2 : Int))) A c l := fun hi =>
    own_farR (own_farR (own_farR hi r1 hT _ _) (r1.set _ _) hT _ _) ((r1.set _ _).set _ _) hT _ _
  refine ⟨_, fun i => if i = k then A' else A i, fun i => if i = k then c' else c i, ((r1.set (k * 3) _).set (k * 3 + 1) _).set (k * 3 + 2) _, by simpa using h2, fun i hi => ?_, fun i hi => ?_, fun i j hi hj hij => ?_⟩
  · simp only [Array.getElem?_setIfInBounds, Array.size_setIfInBounds]
    by_cases e : i = k
    · subst e
      have s0 : i * 3 < cs.size := by omega
      have s1 : i * 3 + 1 < cs.size := by omega
      have s2 : i * 3 + 2 < cs.size := by omega
      simp [s0, s1, s2]
    · obtain ⟨a, b, d⟩ := h3 i hi
      have n00 : ¬ k * 3 = i * 3 := by omega
      have n01 : ¬ k * 3 = i * 3 + 1 := by omega
      have n02 : ¬ k * 3 = i * 3 + 2 := by omega
      have n10 : ¬ k * 3 + 1 = i * 3 := by omega
      have n11 : ¬ k * 3 + 1 = i * 3 + 1 := by omega
      have n12 : ¬ k * 3 + 1 = i * 3 + 2 := by omega
      have n20 : ¬ k * 3 + 2 = i * 3 := by omega
      have n21 : ¬ k * 3 + 2 = i * 3 + 1 := by omega
      have n22 : ¬ k * 3 + 2 = i * 3 + 2 := by omega
      simp [e, a, b, d, n00, n01, n02, n10, n20, n21]
  · by_cases e : i = k
    · subst e
      simpa using keep (hr.base hB)
    · simpa [e] using keep ((h4 i hi).grown hg (own_not (h4 i hi) ho))
  · by_cases e : i = k
    · subst e
      have e' : j ≠ i := fun h => hij h.symm
      have := own_apart (h4 j hj) hr (Nat.le_refl _)
      simp only [e', if_true, if_false]
      unfold apart
      rcases this with h | h
      · cases hv : (Value.slice A' r.1.length c').ownBlock with
        | none => exact .inl rfl
        | some g => exact .inr (by rw [h]; simp)
      · exact .inr fun e => h e.symm
    · by_cases e2 : j = k
      · subst e2
        simp only [e, if_true, if_false]
        exact own_apart (h4 i hi) hr (Nat.le_refl _)
      · simp only [e, e2, if_false]
        exact h5 i j hi hj hij
theorem WRow.congr {B : Nat} {w : World} {q E : Nat} {f g : Nat → List Nat × Nat × Nat} (h : WRow B w q E f) (he : ∀ i, i < E → f i = g i) : WRow B w q E g := by
  obtain ⟨cs, A, c, h1, h2, h3, h4, h5⟩ := h
  refine ⟨cs, A, c, h1, h2, fun i hi => by rw [← he i hi]; exact h3 i hi, fun i hi => by rw [← he i hi]; exact h4 i hi, fun i j hi hj => by rw [← he i hi, ← he j hj]; exact h5 i j hi hj⟩
theorem WRow.made (B : Nat) (w w' : World) (E : Nat) (hr : Rw w' w.heap.size 103 (madeCells #[.slice none 0 0, .int .i64 0, .int .i64 0] (E * 3))) : WRow B w' w.heap.size E (fun _ => ([], 0, 0)) := by
  refine ⟨_, fun _ => none, fun _ => 0, hr, by simp [madeCells], fun i hi => ?_, fun i hi => World.ownsRow_nil _ _ _ _, fun i j _ _ _ => .inl rfl⟩
  have e0 : i * 3 % 3 = 0 := by omega
  have e1 : (i * 3 + 1) % 3 = 1 := by omega
  have e2 : (i * 3 + 2) % 3 = 2 := by omega
  have s0 : i * 3 < E * 3 := by omega
  have s1 : i * 3 + 1 < E * 3 := by omega
  have s2 : i * 3 + 2 < E * 3 := by omega
  simp [madeCells, e0, e1, e2, s0, s1, s2]
set_option maxHeartbeats 4000000 in
theorem implWalks_any {w : World} {p g n z E d t N c : Nat} {u : Nat → UInt8} (h : ChW w p g n z E d t N c u) (hn : n ≤ 128) (hNz : z + n ≤ N) (hN : N ≤ 4096) (hcN : N ≤ c) (hE : E ≤ 16) (hd : d = dirN n z) (hfit : ∀ k, k < E → d * z + k * 12 + 12 ≤ N) :
    Calls Tryz.prog 71 #[.pointer (some ⟨p, 0, none⟩)] w fun r w' => r = .returned (.tuple #[.slice (some ⟨w.heap.size, 0, none⟩) E E, .slice (some ⟨w.heap.size + 1, 0, none⟩) n n]) ∧ ORow w' 2 (w.heap.size + 1) n (ownsN n z t u E) ∧ WRow (w.heap.size + 2) w' w.heap.size E (walkN n z t u) ∧ Below w.heap.size w w' := by
  have mkW : ∀ W : World, (Instr.makeSlice 94 (.int .i64 (E : Int)) (.int .i64 (E : Int))).run Tryz.prog W = .ok (.slice (some ⟨W.heap.size, 0, none⟩) E E) (W.alloc (.cells (madeCells #[.slice none 0 0, .int .i64 0, .int .i64 0] (E * 3)) 103)) := fun W => run_mk (P := Tryz.prog) 94 103 (.agg #[.slice none 0 0, .int .i64 0, .int .i64 0]) 3 40 Tryz.underlying94 (by kernel_rfl) (by omega) E (by omega) W
  have mkO : ∀ W : World, (Instr.makeSlice 74 (.int .i64 (n : Int)) (.int .i64 (n : Int))).run Tryz.prog W = .ok (.slice (some ⟨W.heap.size, 0, none⟩) n n) (W.alloc (.cells (madeCells #[.int .i64 0] n) 2)) := fun W => by
    have := run_mk (P := Tryz.prog) 74 2 (.int .i64 0) 1 8 Tryz.underlying74 (by kernel_rfl) (by omega) n (by omega) W
    rw [Nat.mul_one] at this
    exact this
  have hTT : 2 ≠ 103 := by decide
  have hini : ORow ((w.alloc (.cells (madeCells #[.slice none 0 0, .int .i64 0, .int .i64 0] (E * 3)) 103)).alloc (.cells (madeCells #[.int .i64 0] n) 2)) 2 (w.heap.size + 1) n (fun _ => 0) ∧
      WRow (w.heap.size + 2) ((w.alloc (.cells (madeCells #[.slice none 0 0, .int .i64 0, .int .i64 0] (E * 3)) 103)).alloc (.cells (madeCells #[.int .i64 0] n) 2)) w.heap.size E (fun _ => ([], 0, 0)) ∧
      Below w.heap.size w ((w.alloc (.cells (madeCells #[.slice none 0 0, .int .i64 0, .int .i64 0] (E * 3)) 103)).alloc (.cells (madeCells #[.int .i64 0] n) 2)) ∧ w.heap.size + 2 ≤ ((w.alloc (.cells (madeCells #[.slice none 0 0, .int .i64 0, .int .i64 0] (E * 3)) 103)).alloc (.cells (madeCells #[.int .i64 0] n) 2)).heap.size := by
    refine ⟨?_, WRow.made _ _ _ _ ((Rw.new w _ _).alloc _), ((Below.refl _ _).alloc (Nat.le_refl _) _).alloc (by simp) _, by simp⟩
    have := ORow.made (w.alloc (.cells (madeCells #[.slice none 0 0, .int .i64 0, .int .i64 0] (E * 3)) 103)) 2 n
    rw [World.size_alloc] at this
    exact this
  have HINI := Lib.hid hini
  have HH := Lib.hid h
  have HFIT := Lib.hid hfit
  have HD := Lib.hid hd
  have h0 := (h.below ((Below.refl _ _).alloc (Nat.le_refl _) (.cells (madeCells #[.slice none 0 0, .int .i64 0, .int .i64 0] (E * 3)) 103))).c0
  have h2 := h.c2
  have hpl := h.plt
  have hgl := h.row.lt
  clear hini h hfit hd
  go_enter Tryz.func71, Tryz.ntmps71
  go_wp2_with fail
  go_loopw [24] (fun s24 wr => ∃ k : Nat, k ≤ n ∧ s24 = .int .i64 k ∧ ORow wr 2 (w.heap.size + 1) n (fun i => if i < k then -1 else 0) ∧ WRow (w.heap.size + 2) wr w.heap.size E (fun _ => ([], 0, 0)) ∧ Below w.heap.size w wr ∧ w.heap.size + 2 ≤ wr.heap.size) (fun s _ => n - (intOf s).toNat)
  case atStart => exact ⟨0, by omega, rfl, HINI.out.1.congr (fun i hi => by simp), HINI.out.2.1, HINI.out.2.2.1, HINI.out.2.2.2⟩
  case round =>
    obtain ⟨k, hk, rfl, ho, hw, hb, hsz⟩ := hrel
    have HO := Lib.hid ho
    have HW := Lib.hid hw
    have HB := Lib.hid hb
    have hC := HH.out.below hb
    clear hw hb
    by_cases hlt : k < n
    · have hoc := ho.cell hlt
      have hof := ho.frozen hlt
      clear ho
      go_wp2_with fail
      go_roundw
      case rel =>
        refine ⟨k + 1, by omega, by go_num, (HO.out.set k (-1)).congr (fun i hi => ?_), HW.out.grown (only_setCell (g := w.heap.size + 1) (only_refl _ _) (.inl rfl) _) (by omega) (by omega), HB.out.setCell (show w.heap.size ≤ w.heap.size + 1 by omega) _, by simpa using hsz⟩
        by_cases e : i = k
        · simp [e]
        · by_cases e2 : i < k
          · simp [e, e2, show i < k + 1 by omega]
          · simp [e, e2, show ¬ i < k + 1 by omega]
      case measure => simp [intOf]; omega
    · obtain rfl : k = n := by omega
      have c2 := hC.c2
      have HO1 : Hid (ORow wr 2 (w.heap.size + 1) k (fun _ => -1)) := ho.congr (fun i hi => by simp [hi])
      clear ho HO
      generalize hW0 : wr = W0 at *
      clear hW0
      go_wp2_with fail
      go_loopw [36] (fun s36 wr => ∃ m : Nat, m ≤ E ∧ s36 = .int .i64 m ∧ ORow wr 2 (w.heap.size + 1) k (ownsN k z t u m) ∧ WRow (w.heap.size + 2) wr w.heap.size E (fun i => if i < m then walkN k z t u i else ([], 0, 0)) ∧ Below w.heap.size w wr ∧ w.heap.size + 2 ≤ wr.heap.size) (fun s _ => E - (intOf s).toNat)
      case atStart => exact ⟨0, by omega, rfl, HO1, HW.out.congr (fun i hi => by simp), HB.out, hsz⟩
      case round =>
        obtain ⟨m, hm, rfl, ho, hw, hb, hsz1⟩ := hrel
        have HO2 := Lib.hid ho
        have HW2 := Lib.hid hw
        have HB2 := Lib.hid hb
        have hC2 := HH.out.below hb
        clear ho hw hb
        by_cases hlt2 : m < E
        · have t1 := HFIT.out m hlt2
          have HON := Lib.hid (fun i => (ownsN_lt k z t u m i).1)
          go_upto_region 12 with (first
            | (go_at_call 72; refine (implEntry_any m _ hC2 rfl t1 (by omega) hcN (by omega)).mono ?_; intro e2 w2 h2; obtain ⟨b, nm, f, l, us, de, hb0, he0, rfl, hb2, n8, f8, l8, hbf⟩ := entOut_parts h2))
          have HEK := Lib.hid (show (entK k z u m).us = us ∧ (entK k z u m).f = f by unfold entK; rw [← HD.out, he0]; exact ⟨rfl, rfl⟩)
          have hcase : (b = true ∧ us = true) ∨ (b = true ∧ us = false) ∨ (b = false ∧ us = false) := by
            cases b
            · exact .inr (.inr ⟨rfl, (hbf rfl).1⟩)
            · cases us <;> simp
          have hbz := HB2.out.size
          have hal0 := hb2.alloc hb2.size (.cells #[.string nm, .int .i64 f, .int .i64 l, .bool us, .bool de] 82)
          have HB3 := Lib.hid (HB2.out.trans (hal0.mono hbz))
          have HW3 := Lib.hid (HW2.out.below hal0)
          have HO3 := Lib.hid (HO2.out.below hal0 HO2.out.lt)
          have hC3 := hC2.below hal0
          have hr := Rw.new w2 82 #[.string nm, .int .i64 f, .int .i64 l, .bool us, .bool de]
          have r1 := hr.cell 1
          have r3 := hr.cell 3
          have hsz3 : w.heap.size + 2 ≤ (w2.alloc (.cells #[.string nm, .int .i64 f, .int .i64 l, .bool us, .bool de] 82)).heap.size := Nat.le_trans hsz1 hal0.size
          clear hbf he0 hb0 h2 hal0 hr
          generalize w2.alloc (.cells #[.string nm, .int .i64 f, .int .i64 l, .bool us, .bool de] 82) = W3 at *
          rcases hcase with ⟨rfl, rfl⟩ | ⟨rfl, rfl⟩ | ⟨rfl, rfl⟩
          · have HOU := Lib.hid (ownsN_used (t := t) HEK.out.1)
            have HWU := Lib.hid (walkN_used (t := t) HEK.out.1)
            obtain ⟨R, hR⟩ : ∃ R, walkOf t k (lkN z u) (ownsN k z t u m) f = R := ⟨_, rfl⟩
            have HRR := Lib.hid hR
            have HCF := Lib.hid (implWalkFrom_any f m (ownsN k z t u m) f8 hC3 hn hNz hN HO3.out HON.out (show p ≠ w.heap.size + 1 by omega) (show g ≠ w.heap.size + 1 by omega) (Nat.le_refl k))
            clear hR
            go_wp2_with (go_at_call 106; refine HCF.out.mono ?_; rw [HRR.out]; rintro e5 w5 ⟨A5, c5, rfl, hi5, ho5, hg5⟩; unfold walkV; obtain ⟨Aq, cq, y0, y1, y2, _, yf⟩ := (HW3.out.grown hg5 (show w.heap.size ≠ w.heap.size + 1 by omega) (show w.heap.size + 1 < w.heap.size + 2 by omega)).cell hlt2; have yf0 := yf (m * 3); have yf1 := yf (m * 3 + 1); have yf2 := yf (m * 3 + 2))
            go_roundw
            case rel =>
              refine ⟨m + 1, by omega, by go_num, ?_, (HW3.out.put hg5 (show w.heap.size ≠ w.heap.size + 1 by omega) (show w.heap.size + 1 < w.heap.size + 2 by omega) hsz3 hlt2 hi5 hTT).congr (fun i hi => ?_), ?_, ?_⟩
              · rw [HOU.out, HEK.out.2, HRR.out]
                exact ((ho5.far (show w.heap.size + 1 ≠ w.heap.size by omega) _).far (show w.heap.size + 1 ≠ w.heap.size by omega) _).far (show w.heap.size + 1 ≠ w.heap.size by omega) _
              · by_cases e : i = m
                · subst e
                  simp only [if_true, show i < i + 1 by omega]
                  rw [HWU.out, HEK.out.2, HRR.out]
                · by_cases e2 : i < m
                  · simp [e, e2, show i < m + 1 by omega]
                  · simp [e, e2, show ¬ i < m + 1 by omega]
              · have hB5 := HB3.out.grown hg5 HB3.out.size (fun j hj => by injection hj; omega)
                exact ((hB5.setCell (show w.heap.size ≤ w.heap.size by omega) _).setCell (show w.heap.size ≤ w.heap.size by omega) _).setCell (show w.heap.size ≤ w.heap.size by omega) _
              · simp
                exact Nat.le_trans hsz3 hg5.size
            case measure => simp [intOf]; omega
          · have HOU := Lib.hid (ownsN_not (t := t) HEK.out.1)
            have HWU := Lib.hid (walkN_not (t := t) HEK.out.1)
            go_wp2_with fail
            go_roundw
            case rel =>
              refine ⟨m + 1, by omega, by go_num, by rw [HOU.out]; exact HO3.out, HW3.out.congr (fun i hi => ?_), HB3.out, hsz3⟩
              by_cases e : i = m
              · subst e
                simp [show i < i + 1 by omega, HWU.out]
              · by_cases e2 : i < m
                · simp [e2, show i < m + 1 by omega]
                · simp [e2, show ¬ i < m + 1 by omega]
            case measure => simp [intOf]; omega
          · have HOU := Lib.hid (ownsN_not (t := t) HEK.out.1)
            have HWU := Lib.hid (walkN_not (t := t) HEK.out.1)
            go_wp2_with fail
            go_roundw
            case rel =>
              refine ⟨m + 1, by omega, by go_num, by rw [HOU.out]; exact HO3.out, HW3.out.congr (fun i hi => ?_), HB3.out, hsz3⟩
              by_cases e : i = m
              · subst e
                simp [show i < i + 1 by omega, HWU.out]
              · by_cases e2 : i < m
                · simp [e2, show i < m + 1 by omega]
                · simp [e2, show ¬ i < m + 1 by omega]
            case measure => simp [intOf]; omega
        · obtain rfl : m = E := by omega
          go_wp2_with fail
          go_ret2
          exact ⟨rfl, HO2.out, HW2.out.congr (fun i hi => by simp [hi]), HB2.out⟩
end Go.Proofs.YtapkckpjeoedaaaGreatDoor
