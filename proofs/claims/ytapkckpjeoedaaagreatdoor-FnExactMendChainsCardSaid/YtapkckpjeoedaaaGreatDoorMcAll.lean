/-
  Disks of chains: MendChains, both sides.
-/
import Derived.Test.YtapkckpjeoedaaaGreatDoorMlTopM
import Derived.Test.YtapkckpjeoedaaaGreatDoorMlTopSM
import Derived.Test.YtapkckpjeoedaaaGreatDoorLenTopS
import Derived.Test.YtapkckpjeoedaaaGreatDoorChainTop
namespace Go.Proofs.YtapkckpjeoedaaaGreatDoor
open Go Go.ChangeShapes Go.WideShapes Go.ChangeAt Go.RowKit lib
set_option linter.unusedVariables false
set_option maxRecDepth 100000
/-- the lost chains of some bytes made files -/
noncomputable def mlAt (n z E t : Nat) (u : Nat → UInt8) : (Nat → UInt8) × Nat × Nat × Bool := mlRun n z E (chainsC (lostN (ownsN n z t u E) u z t (n - t)) (lkN z u)) u 0 0
/-- what mending a disk brings: bytes, and six counts -/
structure Mcr where
  u : Nat → UInt8
  a0 : Nat
  a1 : Nat
  a2 : Nat
  a3 : Nat
  a4 : Nat
  a5 : Nat
noncomputable def mcR (n z E t : Nat) (u : Nat → UInt8) : Mcr :=
  ⟨(mlAt n z E t (lenGo n z t (mendLU n z E t (renGo n z E (clrGo n z u E).1 E).1).1 E).1).1, (clrGo n z u E).2, (renGo n z E (clrGo n z u E).1 E).2, (mendLU n z E t (renGo n z E (clrGo n z u E).1 E).1).2, (lenGo n z t (mendLU n z E t (renGo n z E (clrGo n z u E).1 E).1).1 E).2,
    (mlAt n z E t (lenGo n z t (mendLU n z E t (renGo n z E (clrGo n z u E).1 E).1).1 E).1).2.1, (mlAt n z E t (lenGo n z t (mendLU n z E t (renGo n z E (clrGo n z u E).1 E).1).1 E).1).2.2.1⟩
noncomputable def mcS (n : Nat) (s : Nat → ByteArray) : Mcr := mcR n (s 0).size (entsN n) (dataN n (s 0).size) (joinU (s 0).size s)
def mcV (r : Mcr) : Value := .agg #[.int .i64 (r.a0 : Int), .int .i64 (r.a1 : Int), .int .i64 (r.a2 : Int), .int .i64 (r.a3 : Int), .int .i64 (r.a4 : Int), .int .i64 (r.a5 : Int)]
theorem rw6 {w : World} {q e : Nat} {a0 a1 a2 a3 a4 a5 : Value} (h : Rw w q e #[a0, a1, a2, a3, a4, a5]) : w.cell? ⟨q, 0, none⟩ = some a0 ∧ w.cell? ⟨q, 1, none⟩ = some a1 ∧ w.cell? ⟨q, 2, none⟩ = some a2 ∧ w.cell? ⟨q, 3, none⟩ = some a3 ∧ w.cell? ⟨q, 4, none⟩ = some a4 ∧ w.cell? ⟨q, 5, none⟩ = some a5 :=
  ⟨h.cell 0, h.cell 1, h.cell 2, h.cell 3, h.cell 4, h.cell 5⟩
theorem fz6 {w : World} {q e : Nat} {a0 a1 a2 a3 a4 a5 : Value} (h : Rw w q e #[a0, a1, a2, a3, a4, a5]) : w.frozen? ⟨q, 0, none⟩ = false ∧ w.frozen? ⟨q, 1, none⟩ = false ∧ w.frozen? ⟨q, 2, none⟩ = false ∧ w.frozen? ⟨q, 3, none⟩ = false ∧ w.frozen? ⟨q, 4, none⟩ = false ∧ w.frozen? ⟨q, 5, none⟩ = false :=
  ⟨h.frozen 0, h.frozen 1, h.frozen 2, h.frozen 3, h.frozen 4, h.frozen 5⟩
/-- on the way: the disk at g, the counts at rm, the empty result at r0 -/
def McSt (w w' : World) (p g n z E d t N c : Nat) (u : Nat → UInt8) (r0 rm : Nat) (a0 a1 a2 a3 a4 a5 : Int) : Prop :=
  ChW w' p g n z E d t N c u ∧ Rw w' rm 37 #[.int .i64 a0, .int .i64 a1, .int .i64 a2, .int .i64 a3, .int .i64 a4, .int .i64 a5] ∧ Rw w' r0 37 #[.int .i64 0, .int .i64 0, .int .i64 0, .int .i64 0, .int .i64 0, .int .i64 0] ∧ Below w.heap.size w w' ∧ (w.heap.size ≤ g ∧ w.heap.size ≤ rm ∧ p ≠ rm ∧ g ≠ rm ∧ r0 ≠ rm ∧ r0 ≠ g ∧ w.heap.size ≤ r0)
section
variable {w W W' : World} {p g n z E d t N c r0 rm : Nat} {u u' : Nat → UInt8} {a0 a1 a2 a3 a4 a5 : Int}
theorem McSt.call (h : McSt w W p g n z E d t N c u r0 rm a0 a1 a2 a3 a4 a5) (hc : ChW W' p g n z E d t N c u') (hg : W.grownBy W' (some g)) : McSt w W' p g n z E d t N c u' r0 rm a0 a1 a2 a3 a4 a5 := by
  obtain ⟨h1, h2, h3, h4, h5⟩ := h
  exact ⟨hc, rw_grown h2 hg (.inr (fun e => by injection e with e; omega)), rw_grown h3 hg (.inr (fun e => by injection e with e; omega)), h4.grown hg h4.size (fun j hj => by injection hj; omega), h5⟩
theorem McSt.drew (h : McSt w W p g n z E d t N c u r0 rm a0 a1 a2 a3 a4 a5) : McSt w W.drew p g n z E d t N c u r0 rm a0 a1 a2 a3 a4 a5 := ⟨h.1.drew, h.2.1.drew, h.2.2.1.drew, h.2.2.2.1.drew, h.2.2.2.2⟩
theorem McSt.below (h : McSt w W p g n z E d t N c u r0 rm a0 a1 a2 a3 a4 a5) (hb : Below W.heap.size W W') : McSt w W' p g n z E d t N c u r0 rm a0 a1 a2 a3 a4 a5 := ⟨h.1.below hb, h.2.1.below hb h.2.1.lt, h.2.2.1.below hb h.2.2.1.lt, h.2.2.2.1.trans (hb.mono h.2.2.2.1.size), h.2.2.2.2⟩
theorem McSt.set0 (h : McSt w W p g n z E d t N c u r0 rm a0 a1 a2 a3 a4 a5) (x : Int) : McSt w (W.setCell ⟨rm, 0, none⟩ (.int .i64 x)) p g n z E d t N c u r0 rm x a1 a2 a3 a4 a5 := by
  obtain ⟨h1, h2, h3, h4, h5⟩ := h
  exact ⟨chw_far h1 (by omega) (by omega) _ _, by simpa using h2.set 0 (.int .i64 x), h3.far (by show r0 ≠ rm; omega) _, h4.grown (only_setCell (g := rm) (p := ⟨rm, 0, none⟩) (only_refl _ _) (.inl rfl) _) h4.size (fun j hj => by injection hj; omega), h5⟩
theorem McSt.set1 (h : McSt w W p g n z E d t N c u r0 rm a0 a1 a2 a3 a4 a5) (x : Int) : McSt w (W.setCell ⟨rm, 1, none⟩ (.int .i64 x)) p g n z E d t N c u r0 rm a0 x a2 a3 a4 a5 := by
  obtain ⟨h1, h2, h3, h4, h5⟩ := h
  exact ⟨chw_far h1 (by omega) (by omega) _ _, by simpa using h2.set 1 (.int .i64 x), h3.far (by show r0 ≠ rm; omega) _, h4.grown (only_setCell (g := rm) (p := ⟨rm, 1, none⟩) (only_refl _ _) (.inl rfl) _) h4.size (fun j hj => by injection hj; omega), h5⟩
theorem McSt.set2 (h : McSt w W p g n z E d t N c u r0 rm a0 a1 a2 a3 a4 a5) (x : Int) : McSt w (W.setCell ⟨rm, 2, none⟩ (.int .i64 x)) p g n z E d t N c u r0 rm a0 a1 x a3 a4 a5 := by
  obtain ⟨h1, h2, h3, h4, h5⟩ := h
  exact ⟨chw_far h1 (by omega) (by omega) _ _, by simpa using h2.set 2 (.int .i64 x), h3.far (by show r0 ≠ rm; omega) _, h4.grown (only_setCell (g := rm) (p := ⟨rm, 2, none⟩) (only_refl _ _) (.inl rfl) _) h4.size (fun j hj => by injection hj; omega), h5⟩
theorem McSt.set3 (h : McSt w W p g n z E d t N c u r0 rm a0 a1 a2 a3 a4 a5) (x : Int) : McSt w (W.setCell ⟨rm, 3, none⟩ (.int .i64 x)) p g n z E d t N c u r0 rm a0 a1 a2 x a4 a5 := by
  obtain ⟨h1, h2, h3, h4, h5⟩ := h
  exact ⟨chw_far h1 (by omega) (by omega) _ _, by simpa using h2.set 3 (.int .i64 x), h3.far (by show r0 ≠ rm; omega) _, h4.grown (only_setCell (g := rm) (p := ⟨rm, 3, none⟩) (only_refl _ _) (.inl rfl) _) h4.size (fun j hj => by injection hj; omega), h5⟩
theorem McSt.set4 (h : McSt w W p g n z E d t N c u r0 rm a0 a1 a2 a3 a4 a5) (x : Int) : McSt w (W.setCell ⟨rm, 4, none⟩ (.int .i64 x)) p g n z E d t N c u r0 rm a0 a1 a2 a3 x a5 := by
  obtain ⟨h1, h2, h3, h4, h5⟩ := h
  exact ⟨chw_far h1 (by omega) (by omega) _ _, by simpa using h2.set 4 (.int .i64 x), h3.far (by show r0 ≠ rm; omega) _, h4.grown (only_setCell (g := rm) (p := ⟨rm, 4, none⟩) (only_refl _ _) (.inl rfl) _) h4.size (fun j hj => by injection hj; omega), h5⟩
theorem McSt.set5 (h : McSt w W p g n z E d t N c u r0 rm a0 a1 a2 a3 a4 a5) (x : Int) : McSt w (W.setCell ⟨rm, 5, none⟩ (.int .i64 x)) p g n z E d t N c u r0 rm a0 a1 a2 a3 a4 x := by
  obtain ⟨h1, h2, h3, h4, h5⟩ := h
  exact ⟨chw_far h1 (by omega) (by omega) _ _, by simpa using h2.set 5 (.int .i64 x), h3.far (by show r0 ≠ rm; omega) _, h4.grown (only_setCell (g := rm) (p := ⟨rm, 5, none⟩) (only_refl _ _) (.inl rfl) _) h4.size (fun j hj => by injection hj; omega), h5⟩
end
theorem mc_end {w w9 : World} {p g n z E d t N c r0 rm B m c2 : Nat} {u : Nat → UInt8} {a0 a1 a2 a3 a4 a5 : Int} {A2 : Option Addr} {xs : List Value} (hS : McSt w w9 p g n z E d t N c u r0 rm a0 a1 a2 a3 a4 a5) (ho : w9.ownsRow B 9 1 (.slice A2 m c2) m xs) (hB : r0 < B) (hBw : w.heap.size ≤ B) (b0 b1 b2 b3 b4 b5 : Value) :
    Rw ((((((w9.setCell ⟨r0, 0, none⟩ b0).setCell ⟨r0, 1, none⟩ b1).setCell ⟨r0, 2, none⟩ b2).setCell ⟨r0, 3, none⟩ b3).setCell ⟨r0, 4, none⟩ b4).setCell ⟨r0, 5, none⟩ b5) r0 37 #[b0, b1, b2, b3, b4, b5] ∧
    ((((((w9.setCell ⟨r0, 0, none⟩ b0).setCell ⟨r0, 1, none⟩ b1).setCell ⟨r0, 2, none⟩ b2).setCell ⟨r0, 3, none⟩ b3).setCell ⟨r0, 4, none⟩ b4).setCell ⟨r0, 5, none⟩ b5).ownsRow w.heap.size 9 1 (.slice A2 m c2) m xs ∧
    Below w.heap.size w ((((((w9.setCell ⟨r0, 0, none⟩ b0).setCell ⟨r0, 1, none⟩ b1).setCell ⟨r0, 2, none⟩ b2).setCell ⟨r0, 3, none⟩ b3).setCell ⟨r0, 4, none⟩ b4).setCell ⟨r0, 5, none⟩ b5) := by
  obtain ⟨h1, h2, h3, h4, h5⟩ := hS
  have g0 := only_setCell (g := r0) (p := ⟨r0, 0, none⟩) (only_refl w9 (some r0)) (.inl rfl) b0
  have g1 := only_setCell (g := r0) (p := ⟨r0, 1, none⟩) g0 (.inl rfl) b1
  have g2 := only_setCell (g := r0) (p := ⟨r0, 2, none⟩) g1 (.inl rfl) b2
  have g3 := only_setCell (g := r0) (p := ⟨r0, 3, none⟩) g2 (.inl rfl) b3
  have g4 := only_setCell (g := r0) (p := ⟨r0, 4, none⟩) g3 (.inl rfl) b4
  have g5 := only_setCell (g := r0) (p := ⟨r0, 5, none⟩) g4 (.inl rfl) b5
  have hg := g5
  clear g0 g1 g2 g3 g4 g5
  refine ⟨?_, own_base (ho.kept hg ?_) hBw, h4.grown hg h4.size (fun j hj => by injection hj; omega)⟩
  · have := (((((h3.set 0 b0).set 1 b1).set 2 b2).set 3 b3).set 4 b4).set 5 b5
    simpa using this
  · cases hv : (Value.slice A2 m c2).ownBlock with
    | none => exact .inl rfl
    | some j => exact .inr (fun e => by have := own_lt ho j hv; injection e; omega)
set_option maxHeartbeats 4000000 in
theorem implMendChains_ok {w : World} {n c : Nat} {A : Option Addr} {s : Nat → ByteArray} (hs : Sl w w.heap.size A n (fun i => .string (s i))) (hsz : ∀ i, i < n → (s i).size ≤ 9223372036854775807) (hn : n ≤ c) (hn2 : n ≤ 9223372036854775807) (ho : opens n s) :
    Calls Tryz.prog 22 #[.slice A n c] w fun r w' => ∃ A c, r = .returned (.tuple #[.slice A n c, mcV (mcS n s), .int .i64 0]) ∧ w'.ownsRow w.heap.size 9 1 (.slice A n c) n ((List.range n).map fun (i : Nat) => Value.string (blkOf (s 0).size (mcS n s).u i)) ∧ Below w.heap.size w w' := by
  have HO0 := Lib.hid (fun (W : World) (hW : Below w.heap.size w W) => implOpen (w := W) (A := A) (s := s) ((hs.below hW).more hW.size) hsz hn hn2)
  obtain ⟨f1, f2, f3, f4, f5, f6⟩ := walk_fit ho.1
  have hf8 := shape_facts ho.1
  obtain ⟨R, hR⟩ : ∃ R, mcS n s = R := ⟨_, rfl⟩
  rw [hR]
  unfold mcS at hR
  obtain ⟨z, hz⟩ : ∃ z, (s 0).size = z := ⟨_, rfl⟩
  rw [hz] at f2 f3 f5 f6 hf8 hR ⊢
  obtain ⟨U, hU⟩ : ∃ U, joinU z s = U := ⟨_, rfl⟩
  rw [hU] at hR
  have HZ := Lib.hid hz
  have HU := Lib.hid hU
  have HL := Lib.hid ho
  have F6 := Lib.hid f6
  have hz8 : 8 ≤ z := by omega
  have hz64 : z ≤ 64 := by omega
  have hz0 : 0 < z := by omega
  unfold mcR mlAt at hR
  obtain ⟨S1, h1⟩ : ∃ S, clrGo n z U (entsN n) = S := ⟨_, rfl⟩
  rw [h1] at hR
  obtain ⟨u1, k1⟩ := S1
  dsimp only at hR
  obtain ⟨S2, h2⟩ : ∃ S, renGo n z (entsN n) u1 (entsN n) = S := ⟨_, rfl⟩
  rw [h2] at hR
  obtain ⟨u2, k2⟩ := S2
  dsimp only at hR
  obtain ⟨S3, h3⟩ : ∃ S, mendLU n z (entsN n) (dataN n z) u2 = S := ⟨_, rfl⟩
  rw [h3] at hR
  obtain ⟨u3, k3⟩ := S3
  dsimp only at hR
  obtain ⟨S4, h4⟩ : ∃ S, lenGo n z (dataN n z) u3 (entsN n) = S := ⟨_, rfl⟩
  rw [h4] at hR
  obtain ⟨u4, k4⟩ := S4
  dsimp only at hR
  obtain ⟨S5, h5⟩ : ∃ S, mlRun n z (entsN n) (chainsC (lostN (ownsN n z (dataN n z) u4 (entsN n)) u4 z (dataN n z) (n - dataN n z)) (lkN z u4)) u4 0 0 = S := ⟨_, rfl⟩
  rw [h5] at hR
  obtain ⟨u5, k5, k6, b5⟩ := S5
  dsimp only at hR
  subst hR
  have H1 := Lib.hid h1
  have H2 := Lib.hid h2
  have H3 := Lib.hid h3
  have H4 := Lib.hid h4
  have H5 := Lib.hid h5
  unfold mcV
  dsimp only
  clear ho hs hsz hz hU f6 h1 h2 h3 h4 h5
  go_enter Tryz.func22, Tryz.ntmps22
  have B0 := (Below.refl w.heap.size w).alloc (Nat.le_refl _) (.cells #[.int .i64 0, .int .i64 0, .int .i64 0, .int .i64 0, .int .i64 0, .int .i64 0] 37)
  have R0 := Rw.new w 37 #[.int .i64 0, .int .i64 0, .int .i64 0, .int .i64 0, .int .i64 0, .int .i64 0]
  have HO := Lib.hid (HO0.out _ B0)
  have BB0 := Lib.hid B0
  have RR0 := Lib.hid R0
  have hw0 : w.heap.size < (w.alloc (.cells #[.int .i64 0, .int .i64 0, .int .i64 0, .int .i64 0, .int .i64 0, .int .i64 0] 37)).heap.size := by simp
  obtain ⟨r0, hr0⟩ : ∃ r0, w.heap.size = r0 := ⟨_, rfl⟩
  have HR0 := Lib.hid hr0
  rw [hr0] at RR0 hw0
  clear B0 R0 HO0
  go_upto_region 1 with fail
  generalize w.alloc (.cells #[.int .i64 0, .int .i64 0, .int .i64 0, .int .i64 0, .int .i64 0, .int .i64 0] 37) = W0 at *
  clear hr0
  go_upto_region 2 with (go_at_call 27; refine HO.out.mono ?_; rintro r w1 ⟨h1, _⟩; obtain ⟨p, rfl, ow⟩ := h1 HL.out; rw [HZ.out] at ow; unfold OpenW at ow; rw [HU.out] at ow; obtain ⟨g, cc, hc, hcap, hb1, hp, hg⟩ := ow)
  have HC1 := Lib.hid hc
  have hgw := hc.row.lt
  have hpw := hc.plt
  have RR1 := Lib.hid (RR0.out.below hb1 RR0.out.lt)
  have BB1 := Lib.hid (BB0.out.trans (hb1.mono BB0.out.size))
  have hgr : r0 < g := by omega
  have hwr : W0.heap.size ≤ w1.heap.size := hb1.size
  clear hc h1 hb1
  obtain ⟨rm, hrm⟩ : ∃ rm, w1.heap.size = rm := ⟨_, rfl⟩
  have BA := (Below.refl w1.heap.size w1).alloc (Nat.le_refl _) (.cells #[.int .i64 0, .int .i64 0, .int .i64 0, .int .i64 0, .int .i64 0, .int .i64 0] 37)
  have hS : McSt w (w1.alloc (.cells #[.int .i64 0, .int .i64 0, .int .i64 0, .int .i64 0, .int .i64 0, .int .i64 0] 37)) p g n z (entsN n) (dirN n z) (dataN n z) (n * z) cc U r0 rm 0 0 0 0 0 0 :=
    ⟨HC1.out.below BA, by rw [← hrm]; exact Rw.new w1 37 #[.int .i64 0, .int .i64 0, .int .i64 0, .int .i64 0, .int .i64 0, .int .i64 0], RR1.out.below BA RR1.out.lt, BB1.out.trans (BA.mono BB1.out.size), by have := HR0.out; omega⟩
  have HRM := Lib.hid hrm
  clear BA hrm
  go_upto_region 5 with fail
  try rw [HRM.out]
  generalize w1.alloc (.cells #[.int .i64 0, .int .i64 0, .int .i64 0, .int .i64 0, .int .i64 0, .int .i64 0] 37) = W2 at *
  have hm := implMendE_any hS.1 f3 hcap f4 rfl F6.out
  rw [H1.out] at hm; dsimp only at hm; rw [H2.out] at hm; dsimp only at hm
  have HM := Lib.hid hm
  have HS0 := Lib.hid hS
  clear hm hS
  go_upto_region 6 with (go_at_call 40; refine HM.out.mono ?_; rintro r wa ⟨rfl, hca, hga⟩; have hS := HS0.out.call hca hga; obtain ⟨y0, y1, y2, y3, y4, y5⟩ := fz6 hS.2.1; obtain ⟨x0, x1, x2, x3, x4, x5⟩ := rw6 hS.2.1)
  have hS := ((hS.set0 (k1 : Nat)).set1 (k2 : Nat))
  clear hca hga y0 y1 y2 y3 y4 y5 x0 x1 x2 x3 x4 x5 HM
  generalize World.setCell (World.setCell wa ⟨rm, 0, none⟩ (.int .i64 ((k1 : Nat) : Int))) ⟨rm, 1, none⟩ (.int .i64 ((k2 : Nat) : Int)) = W3 at *
  have hm := implMendLinks_any hS.1 hz0 f1 f5 f2 f3 hcap f4 rfl F6.out
  rw [H3.out] at hm; dsimp only at hm
  have HM := Lib.hid hm
  have HS1 := Lib.hid hS
  clear hm hS
  go_upto_region 7 with (go_at_call 41; refine HM.out.mono ?_; rintro r wa ⟨rfl, hca, hga⟩; have hS := HS1.out.call hca hga; obtain ⟨y0, y1, y2, y3, y4, y5⟩ := fz6 hS.2.1; obtain ⟨x0, x1, x2, x3, x4, x5⟩ := rw6 hS.2.1)
  have hS := (hS.set2 (k3 : Nat))
  clear hca hga y0 y1 y2 y3 y4 y5 x0 x1 x2 x3 x4 x5 HM
  generalize World.setCell wa ⟨rm, 2, none⟩ (.int .i64 ((k3 : Nat) : Int)) = W4 at *
  have hm := implMendLengths_any hS.1 hz0 hz64 f1 f5 f2 f3 hcap f4 rfl F6.out
  rw [H4.out] at hm; dsimp only at hm
  have HM := Lib.hid hm
  have HS2 := Lib.hid hS
  clear hm hS
  go_upto_region 8 with (go_at_call 42; refine HM.out.mono ?_; rintro r wa ⟨rfl, hca, hga⟩; have hS := HS2.out.call hca hga; obtain ⟨y0, y1, y2, y3, y4, y5⟩ := fz6 hS.2.1; obtain ⟨x0, x1, x2, x3, x4, x5⟩ := rw6 hS.2.1)
  have hS := (hS.set3 (k4 : Nat))
  clear hca hga y0 y1 y2 y3 y4 y5 x0 x1 x2 x3 x4 x5 HM
  generalize World.setCell wa ⟨rm, 3, none⟩ (.int .i64 ((k4 : Nat) : Int)) = W5 at *
  have hm := implMendLost_any hS.1 f1 hz8 hz64 f2 f3 hcap f4 rfl f5 F6.out
  rw [H5.out] at hm; dsimp only at hm
  have HM := Lib.hid hm
  have HS3 := Lib.hid hS
  clear hm hS
  go_upto_region 9 with (go_at_call 28; refine HM.out.mono ?_; rintro r wa ⟨rfl, hca, hga⟩; have hS := HS3.out.call hca hga; obtain ⟨y0, y1, y2, y3, y4, y5⟩ := fz6 hS.2.1; obtain ⟨x0, x1, x2, x3, x4, x5⟩ := rw6 hS.2.1)
  have hS := ((hS.set4 (k5 : Nat)).set5 (k6 : Nat))
  clear hca hga y0 y1 y2 y3 y4 y5 x0 x1 x2 x3 x4 x5 HM
  generalize World.setCell (World.setCell wa ⟨rm, 4, none⟩ (.int .i64 ((k5 : Nat) : Int))) ⟨rm, 5, none⟩ (.int .i64 ((k6 : Nat) : Int)) = W6 at *
  have HSX := Lib.hid hS.drew
  have hd8 := implDisk_any hS.1.drew rfl hf8.2.1 hf8.2.2.2.2.2 (by omega) hcap
  have HD := Lib.hid hd8
  obtain ⟨x0, x1, x2, x3, x4, x5⟩ := rw6 hS.2.1
  have HRZ := Lib.hid hS.2.2.1.lt
  have HBZ := Lib.hid hS.2.2.2.1.size
  clear hd8 hS
  go_region_law (go_simp; go_at_call 29; refine HD.out.mono ?_; rintro r w9 ⟨A2, c2, rfl, ho2, hb9⟩; have hS9 := HSX.out.below hb9; obtain ⟨v0, v1, v2, v3, v4, v5⟩ := rw6 hS9.2.1; obtain ⟨q0, q1, q2, q3, q4, q5⟩ := fz6 hS9.2.2.1; obtain ⟨t0, t1, t2, t3, t4, t5⟩ := rw6 hS9.2.2.1)
  all_goals
    obtain ⟨hR9, hO9, hB9⟩ := mc_end hS9 ho2 (by have := HRZ.out; show r0 < W6.heap.size; omega) (by have := HBZ.out; show w.heap.size ≤ W6.heap.size; omega) (.int .i64 (k1 : Int)) (.int .i64 (k2 : Int)) (.int .i64 (k3 : Int)) (.int .i64 (k4 : Int)) (.int .i64 (k5 : Int)) (.int .i64 (k6 : Int))
    clear x0 x1 x2 x3 x4 x5 v0 v1 v2 v3 v4 v5 q0 q1 q2 q3 q4 q5 t0 t1 t2 t3 t4 t5 hS9 ho2 hb9
    generalize World.setCell (World.setCell (World.setCell (World.setCell (World.setCell (World.setCell w9 ⟨r0, 0, none⟩ (.int .i64 (k1 : Int))) ⟨r0, 1, none⟩ (.int .i64 (k2 : Int))) ⟨r0, 2, none⟩ (.int .i64 (k3 : Int))) ⟨r0, 3, none⟩ (.int .i64 (k4 : Int))) ⟨r0, 4, none⟩ (.int .i64 (k5 : Int))) ⟨r0, 5, none⟩ (.int .i64 (k6 : Int)) = W9 at *
    obtain ⟨c0, c1, c3, c4, c5, c6⟩ := rw6 hR9
    go_wp2_with fail
    exact bodyPost_ret (v := .tuple #[.slice A2 n c2, .agg #[.int .i64 (k1 : Int), .int .i64 (k2 : Int), .int .i64 (k3 : Int), .int .i64 (k4 : Int), .int .i64 (k5 : Int), .int .i64 (k6 : Int)], .int .i64 0]) (by simp [results, Tryz.results22, go_sem, c0, c1, c3, c4, c5, c6]) rfl ⟨A2, c2, rfl, hO9, hB9⟩
set_option maxHeartbeats 4000000 in
theorem specMendChains_ok {w : World} {n c : Nat} {A : Option Addr} {s : Nat → ByteArray} (hs : Sl w w.heap.size A n (fun i => .string (s i))) (hsz : ∀ i, i < n → (s i).size ≤ 9223372036854775807) (hn : n ≤ c) (hn2 : n ≤ 9223372036854775807) (ho : opens n s) :
    Calls Tryz.prog 21 #[.slice A n c] w fun r w' => ∃ A c, r = .returned (.tuple #[.slice A n c, mcV (mcS n s), .int .i64 0]) ∧ w'.ownsRow w.heap.size 9 1 (.slice A n c) n ((List.range n).map fun (i : Nat) => Value.string (blkOf (s 0).size (mcS n s).u i)) ∧ Below w.heap.size w w' := by
  have HO0 := Lib.hid (fun (W : World) (hW : Below w.heap.size w W) => specOpen (w := W) (A := A) (s := s) ((hs.below hW).more hW.size) hsz hn hn2)
  obtain ⟨f1, f2, f3, f4, f5, f6⟩ := walk_fit ho.1
  have hf8 := shape_facts ho.1
  obtain ⟨R, hR⟩ : ∃ R, mcS n s = R := ⟨_, rfl⟩
  rw [hR]
  unfold mcS at hR
  obtain ⟨z, hz⟩ : ∃ z, (s 0).size = z := ⟨_, rfl⟩
  rw [hz] at f2 f3 f5 f6 hf8 hR ⊢
  obtain ⟨U, hU⟩ : ∃ U, joinU z s = U := ⟨_, rfl⟩
  rw [hU] at hR
  have HZ := Lib.hid hz
  have HU := Lib.hid hU
  have HL := Lib.hid ho
  have F6 := Lib.hid f6
  have hz8 : 8 ≤ z := by omega
  have hz64 : z ≤ 64 := by omega
  have hz0 : 0 < z := by omega
  unfold mcR mlAt at hR
  obtain ⟨S1, h1⟩ : ∃ S, clrGo n z U (entsN n) = S := ⟨_, rfl⟩
  rw [h1] at hR
  obtain ⟨u1, k1⟩ := S1
  dsimp only at hR
  obtain ⟨S2, h2⟩ : ∃ S, renGo n z (entsN n) u1 (entsN n) = S := ⟨_, rfl⟩
  rw [h2] at hR
  obtain ⟨u2, k2⟩ := S2
  dsimp only at hR
  obtain ⟨S3, h3⟩ : ∃ S, mendLU n z (entsN n) (dataN n z) u2 = S := ⟨_, rfl⟩
  rw [h3] at hR
  obtain ⟨u3, k3⟩ := S3
  dsimp only at hR
  obtain ⟨S4, h4⟩ : ∃ S, lenGo n z (dataN n z) u3 (entsN n) = S := ⟨_, rfl⟩
  rw [h4] at hR
  obtain ⟨u4, k4⟩ := S4
  dsimp only at hR
  obtain ⟨S5, h5⟩ : ∃ S, mlRun n z (entsN n) (chainsC (lostN (ownsN n z (dataN n z) u4 (entsN n)) u4 z (dataN n z) (n - dataN n z)) (lkN z u4)) u4 0 0 = S := ⟨_, rfl⟩
  rw [h5] at hR
  obtain ⟨u5, k5, k6, b5⟩ := S5
  dsimp only at hR
  subst hR
  have H1 := Lib.hid h1
  have H2 := Lib.hid h2
  have H3 := Lib.hid h3
  have H4 := Lib.hid h4
  have H5 := Lib.hid h5
  unfold mcV
  dsimp only
  clear ho hs hsz hz hU f6 h1 h2 h3 h4 h5
  go_enter Tryz.func21, Tryz.ntmps21
  have B0 := (Below.refl w.heap.size w).alloc (Nat.le_refl _) (.cells #[.int .i64 0, .int .i64 0, .int .i64 0, .int .i64 0, .int .i64 0, .int .i64 0] 37)
  have R0 := Rw.new w 37 #[.int .i64 0, .int .i64 0, .int .i64 0, .int .i64 0, .int .i64 0, .int .i64 0]
  have HO := Lib.hid (HO0.out _ B0)
  have BB0 := Lib.hid B0
  have RR0 := Lib.hid R0
  have hw0 : w.heap.size < (w.alloc (.cells #[.int .i64 0, .int .i64 0, .int .i64 0, .int .i64 0, .int .i64 0, .int .i64 0] 37)).heap.size := by simp
  obtain ⟨r0, hr0⟩ : ∃ r0, w.heap.size = r0 := ⟨_, rfl⟩
  have HR0 := Lib.hid hr0
  rw [hr0] at RR0 hw0
  clear B0 R0 HO0
  go_upto_region 1 with fail
  generalize w.alloc (.cells #[.int .i64 0, .int .i64 0, .int .i64 0, .int .i64 0, .int .i64 0, .int .i64 0] 37) = W0 at *
  clear hr0
  go_upto_region 2 with (go_at_call 24; refine HO.out.mono ?_; rintro r w1 ⟨h1, _⟩; obtain ⟨p, rfl, ow⟩ := h1 HL.out; rw [HZ.out] at ow; unfold OpenW at ow; rw [HU.out] at ow; obtain ⟨g, cc, hc, hcap, hb1, hp, hg⟩ := ow)
  have HC1 := Lib.hid hc
  have hgw := hc.row.lt
  have hpw := hc.plt
  have RR1 := Lib.hid (RR0.out.below hb1 RR0.out.lt)
  have BB1 := Lib.hid (BB0.out.trans (hb1.mono BB0.out.size))
  have hgr : r0 < g := by omega
  have hwr : W0.heap.size ≤ w1.heap.size := hb1.size
  clear hc h1 hb1
  obtain ⟨rm, hrm⟩ : ∃ rm, w1.heap.size = rm := ⟨_, rfl⟩
  have BA := (Below.refl w1.heap.size w1).alloc (Nat.le_refl _) (.cells #[.int .i64 0, .int .i64 0, .int .i64 0, .int .i64 0, .int .i64 0, .int .i64 0] 37)
  have hS : McSt w (w1.alloc (.cells #[.int .i64 0, .int .i64 0, .int .i64 0, .int .i64 0, .int .i64 0, .int .i64 0] 37)) p g n z (entsN n) (dirN n z) (dataN n z) (n * z) cc U r0 rm 0 0 0 0 0 0 :=
    ⟨HC1.out.below BA, by rw [← hrm]; exact Rw.new w1 37 #[.int .i64 0, .int .i64 0, .int .i64 0, .int .i64 0, .int .i64 0, .int .i64 0], RR1.out.below BA RR1.out.lt, BB1.out.trans (BA.mono BB1.out.size), by have := HR0.out; omega⟩
  have HRM := Lib.hid hrm
  clear BA hrm
  go_upto_region 5 with fail
  try rw [HRM.out]
  generalize w1.alloc (.cells #[.int .i64 0, .int .i64 0, .int .i64 0, .int .i64 0, .int .i64 0, .int .i64 0] 37) = W2 at *
  have hm := specMendE_any hS.1 f3 hcap f4 rfl F6.out
  rw [H1.out] at hm; dsimp only at hm; rw [H2.out] at hm; dsimp only at hm
  have HM := Lib.hid hm
  have HS0 := Lib.hid hS
  clear hm hS
  go_upto_region 8 with (go_at_call 37; refine HM.out.mono ?_; rintro r wa ⟨rfl, hca, hga⟩; have hS := HS0.out.call hca hga; obtain ⟨y0, y1, y2, y3, y4, y5⟩ := fz6 hS.2.1; obtain ⟨x0, x1, x2, x3, x4, x5⟩ := rw6 hS.2.1)
  have hS := ((hS.set0 (k1 : Nat)).set1 (k2 : Nat))
  clear hca hga y0 y1 y2 y3 y4 y5 x0 x1 x2 x3 x4 x5 HM
  generalize World.setCell (World.setCell wa ⟨rm, 0, none⟩ (.int .i64 ((k1 : Nat) : Int))) ⟨rm, 1, none⟩ (.int .i64 ((k2 : Nat) : Int)) = W3 at *
  have hm := specMendLinks_any hS.1 hz0 f1 f5 f2 f3 hcap f4 rfl F6.out
  rw [H3.out] at hm; dsimp only at hm
  have HM := Lib.hid hm
  have HS1 := Lib.hid hS
  clear hm hS
  go_upto_region 9 with (go_at_call 38; refine HM.out.mono ?_; rintro r wa ⟨rfl, hca, hga⟩; have hS := HS1.out.call hca hga; obtain ⟨y0, y1, y2, y3, y4, y5⟩ := fz6 hS.2.1; obtain ⟨x0, x1, x2, x3, x4, x5⟩ := rw6 hS.2.1)
  have hS := (hS.set2 (k3 : Nat))
  clear hca hga y0 y1 y2 y3 y4 y5 x0 x1 x2 x3 x4 x5 HM
  generalize World.setCell wa ⟨rm, 2, none⟩ (.int .i64 ((k3 : Nat) : Int)) = W4 at *
  have hm := specMendLengths_any hS.1 hz0 hz64 f1 f5 f2 f3 hcap f4 rfl F6.out
  rw [H4.out] at hm; dsimp only at hm
  have HM := Lib.hid hm
  have HS2 := Lib.hid hS
  clear hm hS
  go_upto_region 10 with (go_at_call 39; refine HM.out.mono ?_; rintro r wa ⟨rfl, hca, hga⟩; have hS := HS2.out.call hca hga; obtain ⟨y0, y1, y2, y3, y4, y5⟩ := fz6 hS.2.1; obtain ⟨x0, x1, x2, x3, x4, x5⟩ := rw6 hS.2.1)
  have hS := (hS.set3 (k4 : Nat))
  clear hca hga y0 y1 y2 y3 y4 y5 x0 x1 x2 x3 x4 x5 HM
  generalize World.setCell wa ⟨rm, 3, none⟩ (.int .i64 ((k4 : Nat) : Int)) = W5 at *
  have hm := specMendLost_any hS.1 f1 hz8 hz64 f2 f3 hcap f4 rfl f5 F6.out
  rw [H5.out] at hm; dsimp only at hm
  have HM := Lib.hid hm
  have HS3 := Lib.hid hS
  clear hm hS
  go_upto_region 13 with (go_at_call 25; refine HM.out.mono ?_; rintro r wa ⟨rfl, hca, hga⟩; have hS := HS3.out.call hca hga; obtain ⟨y0, y1, y2, y3, y4, y5⟩ := fz6 hS.2.1; obtain ⟨x0, x1, x2, x3, x4, x5⟩ := rw6 hS.2.1)
  have hS := ((hS.set4 (k5 : Nat)).set5 (k6 : Nat))
  clear hca hga y0 y1 y2 y3 y4 y5 x0 x1 x2 x3 x4 x5 HM
  generalize World.setCell (World.setCell wa ⟨rm, 4, none⟩ (.int .i64 ((k5 : Nat) : Int))) ⟨rm, 5, none⟩ (.int .i64 ((k6 : Nat) : Int)) = W6 at *
  have HSX := Lib.hid hS.drew
  have hd8 := specDisk_any hS.1.drew rfl hf8.2.1 hf8.2.2.2.2.2 (by omega) hcap
  have HD := Lib.hid hd8
  obtain ⟨x0, x1, x2, x3, x4, x5⟩ := rw6 hS.2.1
  have HRZ := Lib.hid hS.2.2.1.lt
  have HBZ := Lib.hid hS.2.2.2.1.size
  clear hd8 hS
  go_region_law (go_simp; go_at_call 26; refine HD.out.mono ?_; rintro r w9 ⟨A2, c2, rfl, ho2, hb9⟩; have hS9 := HSX.out.below hb9; obtain ⟨v0, v1, v2, v3, v4, v5⟩ := rw6 hS9.2.1; obtain ⟨q0, q1, q2, q3, q4, q5⟩ := fz6 hS9.2.2.1; obtain ⟨t0, t1, t2, t3, t4, t5⟩ := rw6 hS9.2.2.1)
  all_goals
    obtain ⟨hR9, hO9, hB9⟩ := mc_end hS9 ho2 (by have := HRZ.out; show r0 < W6.heap.size; omega) (by have := HBZ.out; show w.heap.size ≤ W6.heap.size; omega) (.int .i64 (k1 : Int)) (.int .i64 (k2 : Int)) (.int .i64 (k3 : Int)) (.int .i64 (k4 : Int)) (.int .i64 (k5 : Int)) (.int .i64 (k6 : Int))
    clear x0 x1 x2 x3 x4 x5 v0 v1 v2 v3 v4 v5 q0 q1 q2 q3 q4 q5 t0 t1 t2 t3 t4 t5 hS9 ho2 hb9
    generalize World.setCell (World.setCell (World.setCell (World.setCell (World.setCell (World.setCell w9 ⟨r0, 0, none⟩ (.int .i64 (k1 : Int))) ⟨r0, 1, none⟩ (.int .i64 (k2 : Int))) ⟨r0, 2, none⟩ (.int .i64 (k3 : Int))) ⟨r0, 3, none⟩ (.int .i64 (k4 : Int))) ⟨r0, 4, none⟩ (.int .i64 (k5 : Int))) ⟨r0, 5, none⟩ (.int .i64 (k6 : Int)) = W9 at *
    obtain ⟨c0, c1, c3, c4, c5, c6⟩ := rw6 hR9
    go_wp2_with fail
    exact bodyPost_ret (v := .tuple #[.slice A2 n c2, .agg #[.int .i64 (k1 : Int), .int .i64 (k2 : Int), .int .i64 (k3 : Int), .int .i64 (k4 : Int), .int .i64 (k5 : Int), .int .i64 (k6 : Int)], .int .i64 0]) (by simp [results, Tryz.results21, go_sem, c0, c1, c3, c4, c5, c6]) rfl ⟨A2, c2, rfl, hO9, hB9⟩
theorem implMendChains_bad {w : World} {n c : Nat} {A : Option Addr} {s : Nat → ByteArray} (hs : Sl w w.heap.size A n (fun i => .string (s i))) (hsz : ∀ i, i < n → (s i).size ≤ 9223372036854775807) (hn : n ≤ c) (hn2 : n ≤ 9223372036854775807) (ho : ¬ opens n s) :
    Calls Tryz.prog 22 #[.slice A n c] w fun r w' => r = .returned (.tuple #[.slice none 0 0, .agg #[.int .i64 0, .int .i64 0, .int .i64 0, .int .i64 0, .int .i64 0, .int .i64 0], .int .i64 (openCode n s)]) ∧ Below w.heap.size w w' := by
  have B0 := (Below.refl w.heap.size w).alloc (Nat.le_refl _) (.cells #[.int .i64 0, .int .i64 0, .int .i64 0, .int .i64 0, .int .i64 0, .int .i64 0] 37)
  have RR := Lib.hid (Rw.new w 37 #[.int .i64 0, .int .i64 0, .int .i64 0, .int .i64 0, .int .i64 0, .int .i64 0])
  have HO := Lib.hid (implOpen ((hs.below B0).more B0.size) hsz hn hn2)
  have BB := Lib.hid B0
  have hne := openCode_ne n s
  have HL := Lib.hid ho
  obtain ⟨code, hcode⟩ : ∃ code, openCode n s = code := ⟨_, rfl⟩
  rw [hcode] at hne ⊢
  have HCD := Lib.hid hcode
  have hz0 : w.heap.size < (w.alloc (.cells #[.int .i64 0, .int .i64 0, .int .i64 0, .int .i64 0, .int .i64 0, .int .i64 0] 37)).heap.size := by simp
  clear ho hs hsz hcode B0
  rcases hne with rfl | rfl
  all_goals
    go_enter Tryz.func22, Tryz.ntmps22
    go_upto_region 1 with fail
    obtain ⟨q, hq⟩ : ∃ q, w.heap.size = q := ⟨_, rfl⟩
    rw [hq] at hz0 RR ⊢
    have HQ := Lib.hid hq
    generalize w.alloc (.cells #[.int .i64 0, .int .i64 0, .int .i64 0, .int .i64 0, .int .i64 0, .int .i64 0] 37) = W0 at *
    clear hq
    go_wp2_with (go_at_call 27; refine HO.out.mono ?_; rintro r w1 ⟨_, h1⟩; have h2 := h1 HL.out; rw [HCD.out] at h2; obtain ⟨rfl, hb1⟩ := h2; obtain ⟨x0, x1, x2, x3, x4, x5⟩ := rw6 (RR.out.below hb1 RR.out.lt); obtain ⟨y0, y1, y2, y3, y4, y5⟩ := fz6 (RR.out.below hb1 RR.out.lt))
    have hR := RR.out.below hb1 RR.out.lt
    have hR6 := (((((hR.set 0 (.int .i64 0)).set 1 (.int .i64 0)).set 2 (.int .i64 0)).set 3 (.int .i64 0)).set 4 (.int .i64 0)).set 5 (.int .i64 0)
    have hg0 := only_setCell (g := q) (p := ⟨q, 0, none⟩) (only_refl w1 (some q)) (.inl rfl) (.int .i64 0)
    have hg1 := only_setCell (g := q) (p := ⟨q, 1, none⟩) hg0 (.inl rfl) (.int .i64 0)
    have hg2 := only_setCell (g := q) (p := ⟨q, 2, none⟩) hg1 (.inl rfl) (.int .i64 0)
    have hg3 := only_setCell (g := q) (p := ⟨q, 3, none⟩) hg2 (.inl rfl) (.int .i64 0)
    have hg4 := only_setCell (g := q) (p := ⟨q, 4, none⟩) hg3 (.inl rfl) (.int .i64 0)
    have hg5 := only_setCell (g := q) (p := ⟨q, 5, none⟩) hg4 (.inl rfl) (.int .i64 0)
    have hB := (BB.out.trans (hb1.mono BB.out.size)).grown hg5 (by have := hb1.size; have := BB.out.size; omega) (fun j hj => by injection hj with hj; have := HQ.out; omega)
    simp only [List.setIfInBounds_toArray, List.set_cons_zero, List.set_cons_succ] at hR6
    clear hg0 hg1 hg2 hg3 hg4 hg5 hR x0 x1 x2 x3 x4 x5 y0 y1 y2 y3 y4 y5
    generalize World.setCell (World.setCell (World.setCell (World.setCell (World.setCell (World.setCell w1 ⟨q, 0, none⟩ (.int .i64 0)) ⟨q, 1, none⟩ (.int .i64 0)) ⟨q, 2, none⟩ (.int .i64 0)) ⟨q, 3, none⟩ (.int .i64 0)) ⟨q, 4, none⟩ (.int .i64 0)) ⟨q, 5, none⟩ (.int .i64 0) = W9 at *
    obtain ⟨c0, c1, c3, c4, c5, c6⟩ := rw6 hR6
    first
    | exact bodyPost_ret (v := .tuple #[.slice none 0 0, .agg #[.int .i64 0, .int .i64 0, .int .i64 0, .int .i64 0, .int .i64 0, .int .i64 0], .int .i64 1]) (by simp [results, Tryz.results22, go_sem, c0, c1, c3, c4, c5, c6]) rfl ⟨rfl, hB⟩
    | exact bodyPost_ret (v := .tuple #[.slice none 0 0, .agg #[.int .i64 0, .int .i64 0, .int .i64 0, .int .i64 0, .int .i64 0, .int .i64 0], .int .i64 7]) (by simp [results, Tryz.results22, go_sem, c0, c1, c3, c4, c5, c6]) rfl ⟨rfl, hB⟩
theorem specMendChains_bad {w : World} {n c : Nat} {A : Option Addr} {s : Nat → ByteArray} (hs : Sl w w.heap.size A n (fun i => .string (s i))) (hsz : ∀ i, i < n → (s i).size ≤ 9223372036854775807) (hn : n ≤ c) (hn2 : n ≤ 9223372036854775807) (ho : ¬ opens n s) :
    Calls Tryz.prog 21 #[.slice A n c] w fun r w' => r = .returned (.tuple #[.slice none 0 0, .agg #[.int .i64 0, .int .i64 0, .int .i64 0, .int .i64 0, .int .i64 0, .int .i64 0], .int .i64 (openCode n s)]) ∧ Below w.heap.size w w' := by
  have B0 := (Below.refl w.heap.size w).alloc (Nat.le_refl _) (.cells #[.int .i64 0, .int .i64 0, .int .i64 0, .int .i64 0, .int .i64 0, .int .i64 0] 37)
  have RR := Lib.hid (Rw.new w 37 #[.int .i64 0, .int .i64 0, .int .i64 0, .int .i64 0, .int .i64 0, .int .i64 0])
  have HO := Lib.hid (specOpen ((hs.below B0).more B0.size) hsz hn hn2)
  have BB := Lib.hid B0
  have hne := openCode_ne n s
  have HL := Lib.hid ho
  obtain ⟨code, hcode⟩ : ∃ code, openCode n s = code := ⟨_, rfl⟩
  rw [hcode] at hne ⊢
  have HCD := Lib.hid hcode
  have hz0 : w.heap.size < (w.alloc (.cells #[.int .i64 0, .int .i64 0, .int .i64 0, .int .i64 0, .int .i64 0, .int .i64 0] 37)).heap.size := by simp
  clear ho hs hsz hcode B0
  rcases hne with rfl | rfl
  all_goals
    go_enter Tryz.func21, Tryz.ntmps21
    go_upto_region 1 with fail
    obtain ⟨q, hq⟩ : ∃ q, w.heap.size = q := ⟨_, rfl⟩
    rw [hq] at hz0 RR ⊢
    have HQ := Lib.hid hq
    generalize w.alloc (.cells #[.int .i64 0, .int .i64 0, .int .i64 0, .int .i64 0, .int .i64 0, .int .i64 0] 37) = W0 at *
    clear hq
    go_wp2_with (go_at_call 24; refine HO.out.mono ?_; rintro r w1 ⟨_, h1⟩; have h2 := h1 HL.out; rw [HCD.out] at h2; obtain ⟨rfl, hb1⟩ := h2; obtain ⟨x0, x1, x2, x3, x4, x5⟩ := rw6 (RR.out.below hb1 RR.out.lt); obtain ⟨y0, y1, y2, y3, y4, y5⟩ := fz6 (RR.out.below hb1 RR.out.lt))
    have hR := RR.out.below hb1 RR.out.lt
    have hR6 := (((((hR.set 0 (.int .i64 0)).set 1 (.int .i64 0)).set 2 (.int .i64 0)).set 3 (.int .i64 0)).set 4 (.int .i64 0)).set 5 (.int .i64 0)
    have hg0 := only_setCell (g := q) (p := ⟨q, 0, none⟩) (only_refl w1 (some q)) (.inl rfl) (.int .i64 0)
    have hg1 := only_setCell (g := q) (p := ⟨q, 1, none⟩) hg0 (.inl rfl) (.int .i64 0)
    have hg2 := only_setCell (g := q) (p := ⟨q, 2, none⟩) hg1 (.inl rfl) (.int .i64 0)
    have hg3 := only_setCell (g := q) (p := ⟨q, 3, none⟩) hg2 (.inl rfl) (.int .i64 0)
    have hg4 := only_setCell (g := q) (p := ⟨q, 4, none⟩) hg3 (.inl rfl) (.int .i64 0)
    have hg5 := only_setCell (g := q) (p := ⟨q, 5, none⟩) hg4 (.inl rfl) (.int .i64 0)
    have hB := (BB.out.trans (hb1.mono BB.out.size)).grown hg5 (by have := hb1.size; have := BB.out.size; omega) (fun j hj => by injection hj with hj; have := HQ.out; omega)
    simp only [List.setIfInBounds_toArray, List.set_cons_zero, List.set_cons_succ] at hR6
    clear hg0 hg1 hg2 hg3 hg4 hg5 hR x0 x1 x2 x3 x4 x5 y0 y1 y2 y3 y4 y5
    generalize World.setCell (World.setCell (World.setCell (World.setCell (World.setCell (World.setCell w1 ⟨q, 0, none⟩ (.int .i64 0)) ⟨q, 1, none⟩ (.int .i64 0)) ⟨q, 2, none⟩ (.int .i64 0)) ⟨q, 3, none⟩ (.int .i64 0)) ⟨q, 4, none⟩ (.int .i64 0)) ⟨q, 5, none⟩ (.int .i64 0) = W9 at *
    obtain ⟨c0, c1, c3, c4, c5, c6⟩ := rw6 hR6
    first
    | exact bodyPost_ret (v := .tuple #[.slice none 0 0, .agg #[.int .i64 0, .int .i64 0, .int .i64 0, .int .i64 0, .int .i64 0, .int .i64 0], .int .i64 1]) (by simp [results, Tryz.results21, go_sem, c0, c1, c3, c4, c5, c6]) rfl ⟨rfl, hB⟩
    | exact bodyPost_ret (v := .tuple #[.slice none 0 0, .agg #[.int .i64 0, .int .i64 0, .int .i64 0, .int .i64 0, .int .i64 0, .int .i64 0], .int .i64 7]) (by simp [results, Tryz.results21, go_sem, c0, c1, c3, c4, c5, c6]) rfl ⟨rfl, hB⟩
theorem eqMended_same (x0 x1 x2 x3 x4 x5 : Int) (w : World) : Calls Tryz.prog 23 #[.agg #[.int .i64 x0, .int .i64 x1, .int .i64 x2, .int .i64 x3, .int .i64 x4, .int .i64 x5], .agg #[.int .i64 x0, .int .i64 x1, .int .i64 x2, .int .i64 x3, .int .i64 x4, .int .i64 x5]] w fun e w' => e = .returned (.bool true) ∧ Below w.heap.size w w' := by
  go_enter Tryz.func23, Tryz.ntmps23
  go_wp2
  go_ret
  exact ⟨rfl, ((Below.refl _ _).alloc (Nat.le_refl _) _).alloc (by simp) _⟩
end Go.Proofs.YtapkckpjeoedaaaGreatDoor
