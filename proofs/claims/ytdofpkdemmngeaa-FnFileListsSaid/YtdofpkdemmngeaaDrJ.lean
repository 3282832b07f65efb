/-
  The reference's source of choices: two lists of files.
-/
import Derived.Test.YtdofpkdemmngeaaDrF
namespace Go.Proofs.Ytdofpkdemmngeaa
open Go Go.ChangeShapes Go.WideShapes Go.ChangeAt Go.RowKit lib
set_option linter.unusedVariables false
set_option linter.unusedSimpArgs false
set_option maxRecDepth 100000
theorem from_any {w : World} {n c : Nat} {A : Option Addr} (u : Nat → UInt8) (hu : Sl w w.heap.size A n (fun i => .int .u8 ((u i).toNat : Int))) (hn : n ≤ 1048576) :
    Calls Try.prog 14 #[.slice A n c] w fun e w' => e = .returned (.pointer (some ⟨w.heap.size, 0, none⟩)) ∧ SrcOK w' w.heap.size A n c 0 ∧ Below w.heap.size w w' := by
  have HB := Lib.hid ((Below.refl w.heap.size w).alloc (Nat.le_refl _) (.cells #[.slice A n c, .int .i64 0, .int .u64 0] 70))
  have HR := Lib.hid (Rw.new w 70 #[.slice A n c, .int .i64 0, .int .u64 0])
  have HU := Lib.hid hu
  clear hu
  go_enter Try.func14, Try.ntmps14
  go_wp2_with fail
  go_ret
  exact ⟨rfl, ⟨⟨0, 0, by omega, by omega, by omega, HR.out⟩, u, HU.out.below HB.out⟩, HB.out⟩
/-- a list of files with small texts, in a block of its own -/
def LF (w : World) (B T : Nat) (A : Option Addr) (n : Nat) : Prop := n = 0 ∨ ∃ (g : Nat) (cs : Array Value), A = some ⟨g, 0, none⟩ ∧ (B ≤ g ∧ g < T) ∧ Rw w g 43 cs ∧ ∀ j, j < n * 2 → ∃ x : ByteArray, cs[j]? = some (.string x) ∧ x.size ≤ 1000
theorem LF.of {w : World} {B c : Nat} {A : Option Addr} {L : List (ByteArray × ByteArray)} (h : FileR B w A c L) (hs : smallF L) : LF w B w.heap.size A L.length := by
  by_cases hL : L.length = 0
  · exact .inl hL
  · right
    have hsl := own_sl h
    rcases h.2 with ⟨hv, h0⟩ | ⟨g, cap, cur, hv, hb, hg, _⟩
    · omega
    · simp only [Value.slice.injEq] at hv
      obtain ⟨rfl, _, _⟩ := hv
      refine ⟨g, cur, rfl, ⟨hb, Rw.lt hg⟩, hg, fun j hj => ?_⟩
      obtain ⟨b', o', e, _, hc⟩ := hsl j hj
      simp only [Option.some.injEq, Addr.mk.injEq] at e
      obtain ⟨rfl, rfl, _⟩ := e
      rw [Nat.zero_add, Rw.cell hg] at hc
      have e2 := encF_get L j hj
      dsimp only at hc
      rw [List.getD_eq_getElem?_getD, e2] at hc
      refine ⟨fAt L j, hc, ?_⟩
      have hi : j / 2 < L.length := by omega
      have := hs _ (List.getElem_mem hi)
      unfold fAt
      rw [List.getD_eq_getElem?_getD, List.getElem?_eq_getElem hi]
      split
      · exact this.1
      · exact this.2
theorem LF.grown {w w' : World} {B T n : Nat} {A : Option Addr} {row : Option Nat} (h : LF w B T A n) (hg : w.grownBy w' row) (hr : ∀ g, A = some ⟨g, 0, none⟩ → B ≤ g → g < T → row ≠ some g) : LF w' B T A n := by
  rcases h with h | ⟨g, cs, rfl, hb, hr2, hc⟩
  · exact .inl h
  · exact .inr ⟨g, cs, rfl, hb, (hg.block g hr2.lt (fun e => hr g rfl hb.1 hb.2 e.symm)).trans hr2, hc⟩
theorem LF.top {w : World} {B T n : Nat} {A : Option Addr} (h : LF w B T A n) : LF w B w.heap.size A n := by
  rcases h with h | ⟨g, cs, e, hb, hr, hc⟩
  · exact .inl h
  · exact .inr ⟨g, cs, e, ⟨hb.1, hr.lt⟩, hr, hc⟩
theorem LF.set {w : World} {B T n g j : Nat} {v : ByteArray} (h : LF w B T (some ⟨g, 0, none⟩) n) (hv : v.size ≤ 1000) : LF (w.setCell ⟨g, j, none⟩ (.string v)) B T (some ⟨g, 0, none⟩) n := by
  rcases h with h | ⟨g', cs, e, hb, hr, hc⟩
  · exact .inl h
  · cases e
    refine .inr ⟨g, _, rfl, hb, hr.set j (.string v), fun i hi => ?_⟩
    obtain ⟨x, h1, h2⟩ := hc i hi
    by_cases hij : j = i
    · subst hij
      have hlt : j < cs.size := by
        rcases Nat.lt_or_ge j cs.size with h | h
        · exact h
        · rw [Array.getElem?_eq_none h] at h1; cases h1
      exact ⟨v, by rw [Array.getElem?_setIfInBounds]; simp [hlt], hv⟩
    · exact ⟨x, by rw [Array.getElem?_setIfInBounds, if_neg hij]; exact h1, h2⟩
theorem LF.sl {w : World} {B T n : Nat} {A : Option Addr} (h : LF w B T A n) : ∃ s : Nat → ByteArray, (∀ i, i < n * 2 → (s i).size ≤ 1000) ∧ Sl w w.heap.size A (n * 2) (fun i => .string (s i)) := by
  rcases h with rfl | ⟨g, cs, rfl, hb, hr, hc⟩
  · exact ⟨fun _ => ⟨#[]⟩, fun i hi => absurd hi (by omega), fun i hi => absurd hi (by omega)⟩
  · refine ⟨fun i => match cs[i]? with | some (.string x) => x | _ => ⟨#[]⟩, fun i hi => ?_, fun i hi => ⟨g, 0, rfl, hr.lt, ?_⟩⟩
    · obtain ⟨x, h1, h2⟩ := hc i hi
      simp only [h1]
      exact h2
    · obtain ⟨x, h1, h2⟩ := hc i hi
      rw [Nat.zero_add, hr.cell, h1]
      simp only [h1]
/-- two lists drawn -/
def TwoF (e : Ending) (w w' : World) : Prop := ∃ (n m c d : Nat) (A B : Option Addr) (s t : Nat → ByteArray), n ≤ 16 ∧ m ≤ 16 ∧ (∀ i, i < n * 2 → (s i).size ≤ 1000) ∧ (∀ i, i < m * 2 → (t i).size ≤ 1000) ∧ e = .returned (.tuple #[.slice A n c, .slice B m d]) ∧ Sl w' w'.heap.size A (n * 2) (fun i => .string (s i)) ∧ Sl w' w'.heap.size B (m * 2) (fun i => .string (t i)) ∧ Below w.heap.size w w'
theorem below_src {w w1 w2 : World} {p : Nat} (hb : Below w.heap.size w w1) (hg : w1.grownBy w2 (some p)) (hp : w.heap.size ≤ p) : Below w.heap.size w w2 := hb.grown hg hb.size (fun k e => by cases e; omega)
set_option maxHeartbeats 8000000 in
theorem drawChanged_any {w : World} {n c : Nat} {A : Option Addr} (u : Nat → UInt8) (hu : Sl w w.heap.size A n (fun i => .int .u8 ((u i).toNat : Int))) (hn : n ≤ 1048576) :
    Calls Try.prog 10 #[.slice A n c] w fun e w' => TwoF e w w' := by
  have HF := Lib.hid (from_any (w := w) (c := c) u hu hn)
  go_enter Try.func10, Try.ntmps10
  go_upto_region 4 with (first
    | (go_at_call 14; refine HF.out.mono ?_; rintro e w1 ⟨rfl, hs1, hb1⟩; have HB1 := Lib.hid hb1; have hlt1 := hs1.lt)
    | (go_at_call 15; refine (drawFiles_any 9 hs1 (by omega) hn (by omega) (by omega)).mono ?_; rintro e w2 ⟨La, Aa, ca, hla, hsa, rfl, hra, hs2, hg2⟩; have ha2 := LF.of hra hsa; have hB2 := below_src HB1.out hg2 (Nat.le_refl _); clear hs1)
    | (go_at_call 15; refine (drawFiles_any 9 hs2 (by omega) hn (by omega) (by omega)).mono ?_; rintro e w3 ⟨Lb, Ab, cb, hlb, hsb, rfl, hrb, hs3, hg3⟩; have hb3 := LF.of hrb hsb; have ha3 := ha2.grown hg3 (fun g hA hBg hgT e => by cases e; omega); have hB3 := below_src hB2 hg3 (Nat.le_refl _)))
  have hz12 : w1.heap.size ≤ w2.heap.size := hg2.size
  have hz23 : w2.heap.size ≤ w3.heap.size := hg3.size
  clear hra hrb hsa hsb hs2 ha2 hg2 hg3
  generalize La.length = na at *
  generalize Lb.length = nb at *
  generalize w1.heap.size = P1 at *
  generalize w2.heap.size = P2 at *
  obtain ⟨P3, hP3⟩ : ∃ P3, w3.heap.size = P3 := ⟨_, rfl⟩
  rw [hP3] at hb3
  have HA3 := Lib.hid ha3
  have HBB3 := Lib.hid hb3
  have HS3 := Lib.hid (hs3.more (show _ ≤ 80000 by omega))
  have HW3 := Lib.hid hB3
  clear ha3 hb3 hs3 hB3 hP3
  go_wp2_with fail
  go_loopw [7] (fun s7 wr => ∃ i : Nat, i ≤ nb ∧ s7 = .int .i64 (i : Int) ∧ LF wr P1 P2 Aa na ∧ LF wr P2 P3 Ab nb ∧ SrcOK wr w.heap.size A n c (80000 + 40 * i) ∧ Below w.heap.size w wr) (fun s7 _ => nb - (intOf s7).toNat)
  case atStart => exact ⟨0, by omega, rfl, HA3.out, HBB3.out, HS3.out, HW3.out⟩
  case round =>
    obtain ⟨i, hi, rfl, hra, hrb, hs, hB⟩ := hrel
    have HRA := Lib.hid hra
    have HRB := Lib.hid hrb
    have HS := Lib.hid hs
    have HB := Lib.hid hB
    by_cases hlt : i < nb
    · have hki : (i : Int) < (nb : Int) := by omega
      clear hra hrb hs hB
      go_wp2_with fail
      go_loopw [8] (fun s8 wr => ∃ k : Nat, k ≤ na ∧ s8 = .int .i64 (k : Int) ∧ LF wr P1 P2 Aa na ∧ LF wr P2 P3 Ab nb ∧ SrcOK wr w.heap.size A n c (80000 + 40 * i + 2 * k) ∧ Below w.heap.size w wr) (fun s8 _ => na - (intOf s8).toNat)
      case atStart => exact ⟨0, by omega, rfl, HRA.out, HRB.out, HS.out, HB.out⟩
      case round =>
        obtain ⟨k, hk, rfl, hra, hrb, hs, hB⟩ := hrel
        have HRA := Lib.hid hra
        have HRB := Lib.hid hrb
        have HS := Lib.hid hs
        have HB := Lib.hid hB
        have hzr : w.heap.size ≤ wr.heap.size := hB.size
        by_cases hltk : k < na
        · have hkk : (k : Int) < (na : Int) := by omega
          have HO := Lib.hid (one_any 2 hs (by omega) hn (by omega) (by omega))
          clear hra hrb hs hB
          go_wp2_with (go_at_call 16; refine HO.out.mono ?_; rintro e w4 ⟨b, rfl, hs4, hg4⟩; have ha4 := HRA.out.grown hg4 (fun g hA hBg hgT e => by cases e; omega); have hb4 := HRB.out.grown hg4 (fun g hA hBg hgT e => by cases e; omega); have hB4 := below_src HB.out hg4 (Nat.le_refl _))
          all_goals first
            | exact ⟨⟨i + 1, by omega, by go_num, ha4, hb4, hs4.more (by omega), hB4⟩, by simp [intOf]; omega⟩
            | skip
          have HA4 := Lib.hid ha4
          have HB4 := Lib.hid hb4
          rcases ha4 with h0 | ⟨ga, csa, rfl, hga, hra, hca⟩
          · exact absurd h0 (by omega)
          rcases hb4 with h0 | ⟨gb, csb, rfl, hgb, hrb, hcb⟩
          · exact absurd h0 (by omega)
          obtain ⟨x0, hx0, _⟩ := hca (k * 2) (by omega)
          obtain ⟨x1, hx1, hx1z⟩ := hca (k * 2 + 1) (by omega)
          obtain ⟨y0, hy0, _⟩ := hcb (i * 2) (by omega)
          obtain ⟨y1, hy1, _⟩ := hcb (i * 2 + 1) (by omega)
          have q0 := (hra.cell (k * 2)).trans hx0
          have q1 := (hra.cell (k * 2 + 1)).trans hx1
          have p0 := (hrb.cell (i * 2)).trans hy0
          have p1 := (hrb.cell (i * 2 + 1)).trans hy1
          have f1 := hrb.frozen (i * 2 + 1)
          clear hra hrb hca hcb hx0 hx1 hy0 hy1
          go_quiet (fail)
          go_wp2_with fail
          · have d0 := only_drewN (only_refl w4 none) nq
            have d1 := only_setCell (g := gb) (p := ⟨gb, i * 2 + 1, none⟩) (only_refl (w4.drewN nq) (some gb)) (.inl rfl) (.string x1)
            exact ⟨⟨k + 1, by omega, by go_num, (HA4.out.grown d0 (fun _ _ _ _ e => by cases e)).grown d1 (fun g hA h1 h2 e => by cases e; cases hA; omega), (HB4.out.grown d0 (fun _ _ _ _ e => by cases e)).set hx1z, ((hs4.grown d0 (by simp) (fun _ e => by cases e)).grown d1 (fun e => by cases e; omega) (fun q e => by cases e; omega)).more (by omega), (hB4.drewN nq).setCell (p := ⟨gb, i * 2 + 1, none⟩) (by show _ ≤ gb; omega) _⟩, by simp [intOf]; omega⟩
          · have d0 := only_drewN (only_refl w4 none) nq
            exact ⟨⟨k + 1, by omega, by go_num, HA4.out.grown d0 (fun _ _ _ _ e => by cases e), HB4.out.grown d0 (fun _ _ _ _ e => by cases e), (hs4.grown d0 (by simp) (fun _ e => by cases e)).more (by omega), hB4.drewN nq⟩, by simp [intOf]; omega⟩
        · have hkk : ((k : Int) < (na : Int)) = False := by simp; omega
          clear hra hrb hs hB
          go_wp2_with fail
          exact ⟨⟨i + 1, by omega, by go_num, HRA.out, HRB.out, HS.out.more (by omega), HB.out⟩, by simp [intOf]; omega⟩
    · have hki : ((i : Int) < (nb : Int)) = False := by simp; omega
      go_wp2_with fail
      go_ret2
      obtain ⟨s, hs1, hs2⟩ := HRA.out.sl
      obtain ⟨t, ht1, ht2⟩ := HRB.out.sl
      exact ⟨na, nb, ca, cb, Aa, Ab, s, t, by omega, by omega, hs1, ht1, rfl, hs2, ht2, HB.out⟩
set_option maxHeartbeats 8000000 in
theorem drawJoin_any {w : World} {n c : Nat} {A : Option Addr} (u : Nat → UInt8) (hu : Sl w w.heap.size A n (fun i => .int .u8 ((u i).toNat : Int))) (hn : n ≤ 1048576) :
    Calls Try.prog 5 #[.slice A n c] w fun e w' => TwoF e w w' := by
  have HF := Lib.hid (from_any (w := w) (c := c) u hu hn)
  go_enter Try.func5, Try.ntmps5
  go_upto_region 4 with (first
    | (go_at_call 14; refine HF.out.mono ?_; rintro e w1 ⟨rfl, hs1, hb1⟩; have HB1 := Lib.hid hb1; have hlt1 := hs1.lt)
    | (go_at_call 15; refine (drawFiles_any 9 hs1 (by omega) hn (by omega) (by omega)).mono ?_; rintro e w2 ⟨La, Aa, ca, hla, hsa, rfl, hra, hs2, hg2⟩; have ha2 := LF.of hra hsa; have hB2 := below_src HB1.out hg2 (Nat.le_refl _); clear hs1)
    | (go_at_call 15; refine (drawFiles_any 9 hs2 (by omega) hn (by omega) (by omega)).mono ?_; rintro e w3 ⟨Lb, Ab, cb, hlb, hsb, rfl, hrb, hs3, hg3⟩; have hb3 := LF.of hrb hsb; have ha3 := ha2.grown hg3 (fun g hA hBg hgT e => by cases e; omega); have hB3 := below_src hB2 hg3 (Nat.le_refl _)))
  have hz12 : w1.heap.size ≤ w2.heap.size := hg2.size
  have hz23 : w2.heap.size ≤ w3.heap.size := hg3.size
  clear hra hrb hsa hsb hs2 ha2 hg2 hg3
  generalize La.length = na at *
  generalize Lb.length = nb at *
  generalize w1.heap.size = P1 at *
  generalize w2.heap.size = P2 at *
  obtain ⟨P3, hP3⟩ : ∃ P3, w3.heap.size = P3 := ⟨_, rfl⟩
  rw [hP3] at hb3
  have HA3 := Lib.hid ha3
  have HBB3 := Lib.hid hb3
  have HS3 := Lib.hid (hs3.more (show _ ≤ 80000 by omega))
  have HW3 := Lib.hid hB3
  clear ha3 hb3 hs3 hB3 hP3
  go_wp2_with fail
  go_loopw [7] (fun s7 wr => ∃ i : Nat, i ≤ nb ∧ s7 = .int .i64 (i : Int) ∧ LF wr P1 P2 Aa na ∧ LF wr P2 P3 Ab nb ∧ SrcOK wr w.heap.size A n c (80000 + 40 * i) ∧ Below w.heap.size w wr) (fun s7 _ => nb - (intOf s7).toNat)
  case atStart => exact ⟨0, by omega, rfl, HA3.out, HBB3.out, HS3.out, HW3.out⟩
  case round =>
    obtain ⟨i, hi, rfl, hra, hrb, hs, hB⟩ := hrel
    have HRA := Lib.hid hra
    have HRB := Lib.hid hrb
    have HS := Lib.hid hs
    have HB := Lib.hid hB
    by_cases hlt : i < nb
    · have hki : (i : Int) < (nb : Int) := by omega
      clear hra hrb hs hB
      go_wp2_with fail
      go_loopw [8] (fun s8 wr => ∃ k : Nat, k ≤ na ∧ s8 = .int .i64 (k : Int) ∧ LF wr P1 P2 Aa na ∧ LF wr P2 P3 Ab nb ∧ SrcOK wr w.heap.size A n c (80000 + 40 * i + 2 * k) ∧ Below w.heap.size w wr) (fun s8 _ => na - (intOf s8).toNat)
      case atStart => exact ⟨0, by omega, rfl, HRA.out, HRB.out, HS.out, HB.out⟩
      case round =>
        obtain ⟨k, hk, rfl, hra, hrb, hs, hB⟩ := hrel
        have HRA := Lib.hid hra
        have HRB := Lib.hid hrb
        have HS := Lib.hid hs
        have HB := Lib.hid hB
        have hzr : w.heap.size ≤ wr.heap.size := hB.size
        by_cases hltk : k < na
        · have hkk : (k : Int) < (na : Int) := by omega
          have HO := Lib.hid (one_any 6 hs (by omega) hn (by omega) (by omega))
          clear hra hrb hs hB
          go_wp2_with (go_at_call 16; refine HO.out.mono ?_; rintro e w4 ⟨b, rfl, hs4, hg4⟩; have ha4 := HRA.out.grown hg4 (fun g hA hBg hgT e => by cases e; omega); have hb4 := HRB.out.grown hg4 (fun g hA hBg hgT e => by cases e; omega); have hB4 := below_src HB.out hg4 (Nat.le_refl _))
          all_goals first
            | exact ⟨⟨i + 1, by omega, by go_num, ha4, hb4, hs4.more (by omega), hB4⟩, by simp [intOf]; omega⟩
            | skip
          have HA4 := Lib.hid ha4
          have HB4 := Lib.hid hb4
          rcases ha4 with h0 | ⟨ga, csa, rfl, hga, hra, hca⟩
          · exact absurd h0 (by omega)
          rcases hb4 with h0 | ⟨gb, csb, rfl, hgb, hrb, hcb⟩
          · exact absurd h0 (by omega)
          obtain ⟨x0, hx0, _⟩ := hca (k * 2) (by omega)
          obtain ⟨x1, hx1, hx1z⟩ := hca (k * 2 + 1) (by omega)
          obtain ⟨y0, hy0, _⟩ := hcb (i * 2) (by omega)
          obtain ⟨y1, hy1, _⟩ := hcb (i * 2 + 1) (by omega)
          have q0 := (hra.cell (k * 2)).trans hx0
          have q1 := (hra.cell (k * 2 + 1)).trans hx1
          have p0 := (hrb.cell (i * 2)).trans hy0
          have p1 := (hrb.cell (i * 2 + 1)).trans hy1
          have f1 := hrb.frozen (i * 2 + 1)
          clear hra hrb hca hcb hx0 hx1 hy0 hy1
          go_quiet (fail)
          go_wp2_with fail
          · have d0 := only_drewN (only_refl w4 none) nq
            have d1 := only_setCell (g := gb) (p := ⟨gb, i * 2 + 1, none⟩) (only_refl (w4.drewN nq) (some gb)) (.inl rfl) (.string x1)
            exact ⟨⟨k + 1, by omega, by go_num, (HA4.out.grown d0 (fun _ _ _ _ e => by cases e)).grown d1 (fun g hA h1 h2 e => by cases e; cases hA; omega), (HB4.out.grown d0 (fun _ _ _ _ e => by cases e)).set hx1z, ((hs4.grown d0 (by simp) (fun _ e => by cases e)).grown d1 (fun e => by cases e; omega) (fun q e => by cases e; omega)).more (by omega), (hB4.drewN nq).setCell (p := ⟨gb, i * 2 + 1, none⟩) (by show _ ≤ gb; omega) _⟩, by simp [intOf]; omega⟩
          · have d0 := only_drewN (only_refl w4 none) nq
            exact ⟨⟨k + 1, by omega, by go_num, HA4.out.grown d0 (fun _ _ _ _ e => by cases e), HB4.out.grown d0 (fun _ _ _ _ e => by cases e), (hs4.grown d0 (by simp) (fun _ e => by cases e)).more (by omega), hB4.drewN nq⟩, by simp [intOf]; omega⟩
        · have hkk : ((k : Int) < (na : Int)) = False := by simp; omega
          clear hra hrb hs hB
          go_wp2_with fail
          exact ⟨⟨i + 1, by omega, by go_num, HRA.out, HRB.out, HS.out.more (by omega), HB.out⟩, by simp [intOf]; omega⟩
    · have hki : ((i : Int) < (nb : Int)) = False := by simp; omega
      have HO := Lib.hid (one_any 12 hs (by omega) hn (by omega) (by omega))
      clear hra hrb hs hB
      go_wp2_with (go_at_call 16; refine HO.out.mono ?_; rintro e w4 ⟨b, rfl, hs4, hg4⟩; have ha4 := HRA.out.grown hg4 (fun g hA hBg hgT e => by cases e; omega); have hb4 := HRB.out.grown hg4 (fun g hA hBg hgT e => by cases e; omega); have hB4 := below_src HB.out hg4 (Nat.le_refl _))
      · obtain rfl : b = true := by assumption
        have hbz := (Below.refl w4.heap.size w4).alloc (Nat.le_refl _) (.cells #[] 43)
        have HO5 := Lib.hid (own_nilE w4 43 2 w4.heap.size (Nat.le_refl _))
        have HA5 := Lib.hid (ha4.top.grown (only_below hbz (Nat.le_refl _) none) (fun _ _ _ _ e => by cases e))
        have HB5 := Lib.hid (hB4.trans (hbz.mono hB4.size))
        have HZ5 := Lib.hid hbz.size
        have hw4 := hB4.size
        clear hs4 hg4 ha4 hb4 hB4 hbz
        go_loopw [6, 9] (fun s6 s9 wr => ∃ (k : Nat) (L : List (ByteArray × ByteArray)) (A2 : Option Addr) (c2 : Nat), k ≤ 14 ∧ L.length = k ∧ smallF L ∧ s9 = .int .i64 (k : Int) ∧ s6 = .slice A2 k c2 ∧ wr.ownsRow w4.heap.size 43 2 (.slice A2 k c2) k (L.flatMap encF) ∧ LF wr P1 w4.heap.size Aa na ∧ Below w.heap.size w wr ∧ w4.heap.size ≤ wr.heap.size) (fun _ s9 _ => 14 - (intOf s9).toNat)
        case atStart => exact ⟨0, [], _, 0, by omega, rfl, fun f hf => (by cases hf), rfl, rfl, HO5.out, HA5.out, HB5.out, HZ5.out⟩
        case round =>
          obtain ⟨k, L, A2, c2, hk, hL, hsm, rfl, rfl, ho, ha, hB, hz⟩ := hrel
          have HO6 := Lib.hid ho
          have HA6 := Lib.hid ha
          have HB6 := Lib.hid hB
          have HL := Lib.hid hL
          have HSM := Lib.hid hsm
          clear ho ha hB hL hsm
          by_cases hltk : k < 14
          · have hkk : (k : Int) < 14 := by omega
            have hw1 : IntKind.i64.wrap (65 + (k : Int)) = ((65 + k : Nat) : Int) := by rw [IntKind.wrap_i64]; omega
            have hw2 : IntKind.u8.wrap ((65 + k : Nat) : Int) = ((65 + k : Nat) : Int) := by rw [IntKind.wrap_u8]; omega
            obtain ⟨y, hy⟩ : ∃ y, 65 + k = y := ⟨_, rfl⟩
            rw [hy] at hw1 hw2
            have hw3 : (65 + (k : Int)) % 256 = (y : Int) := by omega
            have hw4' : (y : Int) % 256 = (y : Int) := by omega
            have hcv := run_bstr1 (P := Try.prog) 22 9 5 Try.underlying22 Try.underlying5 Try.underlying9 wr (y : Int)
            obtain ⟨X, hX⟩ : ∃ X : ByteArray, ⟨#[UInt8.ofNat (y : Int).toNat]⟩ = X := ⟨_, rfl⟩
            have hXz : X.size = 1 := by rw [← hX]; rfl
            rw [hX] at hcv
            have s1 : (⟨#[78]⟩ : ByteArray).size = 1 := rfl
            have had : ∀ W : World, (Op.stringOp .add ⟨#[78]⟩ X).run Try.prog W = .ok (.string (⟨#[78]⟩ ++ X)) W := fun W => run_string_add_sum _ _ _ (by omega)
            have hYz : ((⟨#[78]⟩ : ByteArray) ++ X).size ≤ 1000 := by rw [ByteArray.size_append]; omega
            obtain ⟨Y, hY⟩ : ∃ Y, (⟨#[78]⟩ : ByteArray) ++ X = Y := ⟨_, rfl⟩
            rw [hY] at had hYz
            have hb7 := (Below.refl wr.heap.size wr).alloc (Nat.le_refl _) (.cells #[.int .u8 (y : Int)] 5)
            have HO7 := Lib.hid (own_below HO6.out hb7)
            have hz7 : w4.heap.size ≤ (wr.alloc (.cells #[.int .u8 (y : Int)] 5)).heap.size := Nat.le_trans hz hb7.size
            have HB7 := Lib.hid hb7
            clear hX hY hb7 hy
            go_wp2_with (at_builtin; refine wpList_pushT (.tmp 60) (.tmp 68) 24 w4.heap.size 43 (.agg #[.string ⟨#[]⟩, .string ⟨#[]⟩]) [.string Y, .string ⟨#[]⟩] 2 32 _ k _ HO7.out rfl rfl Try.underlying24 infoFD rfl (by omega) rfl rfl (congrArg (fun g => Value.slice (some ⟨g, 0, none⟩) 1 1) (World.size_alloc wr _).symm) rfl (by intro u hu; simp at hu; rcases hu with rfl | rfl <;> rfl) (by omega) (by omega) hz7 ?_; intro A8 c8 w8 ho8 hg8)
            go_roundw
            case rel =>
              have hwr := HB6.out.size
              exact ⟨k + 1, L ++ [(Y, ⟨#[]⟩)], some A8, c8, by omega, by rw [List.length_append, HL.out]; rfl, HSM.out.snoc hYz (by decide), by go_num, rfl, by rw [List.flatMap_append]; exact ho8, (HA6.out.grown (only_below HB7.out (Nat.le_refl _) none) (fun _ _ _ _ e => by cases e)).grown hg8 (fun g hA h1 h2 e => by have := (HO7.out.lt _ e).1; omega), (HB6.out.trans (HB7.out.mono hwr)).trans (below_grown hg8 (fun q e => by have := (HO7.out.lt _ e).1; omega) (by omega)), Nat.le_trans hz7 hg8.size⟩
            case measure => simp [intOf]; omega
          · obtain rfl : k = 14 := by omega
            go_wp2_with fail
            go_ret2
            have hl := HL.out
            have hr : FileR w4.heap.size wr A2 c2 L := by
              unfold FileR
              rw [hl]
              exact HO6.out
            have hlf := LF.of hr HSM.out
            rw [hl] at hlf
            obtain ⟨s, hs1, hs2⟩ := HA6.out.sl
            obtain ⟨t, ht1, ht2⟩ := hlf.sl
            exact ⟨na, 14, ca, c2, Aa, A2, s, t, by omega, by omega, hs1, ht1, rfl, hs2, ht2, HB6.out⟩
      · go_ret2
        obtain ⟨s, hs1, hs2⟩ := ha4.sl
        obtain ⟨t, ht1, ht2⟩ := hb4.sl
        exact ⟨na, nb, ca, cb, Aa, Ab, s, t, by omega, by omega, hs1, ht1, rfl, hs2, ht2, hB4⟩
end Go.Proofs.Ytdofpkdemmngeaa
