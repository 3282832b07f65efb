/-
  slices.Compact of a list of files: the program's side.
-/
import Derived.Test.YtdofpkdemmngeaaFCmp
import Derived.Test.YtdofpkdemmngeaaJnP
import Derived.Lib.SliceRun
import Derived.Deep.DeepCutAuto
import Derived.Deep.Draws
import Derived.BigQuiet
namespace Go.Proofs.Ytdofpkdemmngeaa
open Go Go.ChangeShapes Go.WideShapes Go.ChangeAt Go.RowKit lib
set_option linter.unusedVariables false
set_option linter.unusedSimpArgs false
set_option maxRecDepth 100000
section
variable {P : Program}
/-- 'clear(s)' on elements of two texts -/
theorem run_clear_two (w : World) (t e ty : TypeId) (z y : Value) (ht : P.underlying t = some (.slice e)) (hv : ∀ w, (zeroValue e).run P w = .ok z w) (hz : z.cells = #[y, y]) (h1 : y.oneCell' = true) (b o n c : Nat) (hn : 0 < n)
    (hc : ∀ j, j < n * 2 → (w.cell? ⟨b, o + j, none⟩).isSome = true) (hf : ∀ j, j < n * 2 → w.frozen? ⟨b, o + j, none⟩ = false) :
    (Builtin.clear_ #[t] ty #[.slice (some ⟨b, o, none⟩) n c]).run P w = .ok (.tuple #[]) (w.setCells b o (List.replicate (n * 2) y)) := by
  have hzc : (Builtin.zeroCells z.cells n).toList = List.replicate (n * 2) y := by
    rw [hz]
    simp [Builtin.zeroCells]
    apply List.ext_getElem
    · simp
    · intro i h1 h2
      have : i % 2 = 0 ∨ i % 2 = 1 := by omega
      rcases this with h | h <;> simp [h]
  have hst := run_storeCells_cells (P := P) b o (List.replicate (n * 2) y) 0 w (by simpa using hc) (by simpa using hf) (by intro v hv'; rw [List.eq_of_mem_replicate hv']; exact h1)
  simp only [Nat.add_zero] at hst
  obtain ⟨m, rfl⟩ : ∃ m, n = m + 1 := ⟨n - 1, by omega⟩
  simp [Builtin.clear_, run_underlying ht, hv, hzc, hst]
end
theorem own_cut {w : World} {B e k n i g c : Nat} {xs : List Value} (h : w.ownsRow B e k (.slice (some ⟨g, 0, none⟩) n c) n xs) (hi : i ≤ n) : w.ownsRow B e k (.slice (some ⟨g, 0, none⟩) i c) i (xs.take (i * k)) := by
  obtain ⟨h1, h2⟩ := h
  have hik : i * k ≤ n * k := Nat.mul_le_mul_right k hi
  refine ⟨by rw [List.length_take, h1]; omega, ?_⟩
  rcases h2 with ⟨h', _⟩ | ⟨g', cap', cur, h', hb, hg, hnc, hcm, hcs, htake⟩
  · simp at h'
  · simp only [Value.slice.injEq, Option.some.injEq, Addr.mk.injEq, and_true, true_and] at h'
    obtain ⟨rfl, rfl⟩ := h'
    refine .inr ⟨_, _, cur, rfl, hb, hg, by omega, hcm, hcs, ?_⟩
    rw [← htake, List.take_take, Nat.min_eq_left hik]
theorem own_setCells {B e k n g c : Nat} {xs : List Value} : ∀ (vs : List Value) (o : Nat) (w : World), w.ownsRow B e k (.slice (some ⟨g, 0, none⟩) n c) n xs → n * k ≤ o → (w.setCells g o vs).ownsRow B e k (.slice (some ⟨g, 0, none⟩) n c) n xs ∧ w.grownBy (w.setCells g o vs) (some g)
  | [], o, w, h, ho => ⟨h, only_refl _ _⟩
  | v :: r, o, w, h, ho => by
    obtain ⟨h1, h2⟩ := World.ownsRow.stored h o v
    rw [List.set_eq_of_length_le (by rw [h.1]; exact ho)] at h1
    obtain ⟨h3, h4⟩ := own_setCells r (o + 1) _ h1 (by omega)
    exact ⟨h3, only_trans h2 h4⟩
theorem encF_set (L : List FL2) (i : Nat) (x : FL2) (hi : i < L.length) : ((L.flatMap encF).set (i * 2) (.string x.1)).set (i * 2 + 1) (.string x.2) = (L.set i x).flatMap encF := by
  induction L generalizing i with
  | nil => simp at hi
  | cons a r ih =>
    cases i with
    | zero => rfl
    | succ i =>
      rw [List.set_cons_succ, List.flatMap_cons, List.flatMap_cons, ← ih i (by simpa using hi)]
      rw [show (i + 1) * 2 = i * 2 + 1 + 1 by omega]
      rfl
theorem encF_take (L : List FL2) (i : Nat) : (L.flatMap encF).take (i * 2) = (L.take i).flatMap encF := by
  induction L generalizing i with
  | nil => simp
  | cons a r ih =>
    cases i with
    | zero => rfl
    | succ i =>
      rw [List.take_succ_cons, List.flatMap_cons, List.flatMap_cons, ← ih i]
      rw [show (i + 1) * 2 = i * 2 + 1 + 1 by omega]
      rfl
/-- a row's two cells -/
theorem row_two {w : World} {B g n c : Nat} {D : List FL2} (h : w.ownsRow B 43 2 (.slice (some ⟨g, 0, none⟩) n c) n (D.flatMap encF)) (hD : D.length = n) {i : Nat} (hi : i < n) : w.cell? ⟨g, i * 2, none⟩ = some (.string (D.getD i f0).1) ∧ w.cell? ⟨g, i * 2 + 1, none⟩ = some (.string (D.getD i f0).2) := by
  constructor
  · rw [World.ownsRow.cellAt h _ (by omega), encF_get D _ (by omega), fAt_name]; rfl
  · rw [World.ownsRow.cellAt h _ (by omega), encF_get D _ (by omega), fAt_data]; rfl
theorem pair_eq {x y : FL2} : fileEqB x.1 x.2 y.1 y.2 = true ↔ x = y := by
  obtain ⟨a, b⟩ := x
  obtain ⟨c, d⟩ := y
  simp [fileEqB]
/-- what the list holds when i of its elements are laid behind the p first -/
structure Cmp (L D : List FL2) (p i : Nat) : Prop where
  len : D.length = L.length
  lt : i ≤ p
  tk : D.take i = ddU L (p + 1)
  rest : ∀ j, p ≤ j → j < L.length → D.getD j f0 = L.getD j f0
theorem Cmp.skip {L D : List FL2} {p i : Nat} (h : Cmp L D p i) (he : L.getD (p + 1) f0 = L.getD p f0) : Cmp L D (p + 1) i := ⟨h.len, by have := h.lt; omega, by rw [ddU_skip he]; exact h.tk, fun j h1 h2 => h.rest j (by omega) h2⟩
theorem Cmp.keep {L D : List FL2} {p i : Nat} (h : Cmp L D p i) (hp : p + 1 < L.length) (he : L.getD (p + 1) f0 ≠ L.getD p f0) : Cmp L (D.set i (L.getD (p + 1) f0)) (p + 1) (i + 1) := by
  have hl := h.len
  have hi := h.lt
  refine ⟨by rw [List.length_set]; exact hl, by omega, ?_, fun j h1 h2 => ?_⟩
  · rw [ddU_keep he, ← h.tk, List.take_add_one]
    rw [List.take_set_of_le (Nat.le_refl _), List.getElem?_set_self (by omega)]
    rfl
  · rw [← h.rest j (by omega) h2, List.getD_eq_getElem?_getD, List.getElem?_set_ne (by omega), ← List.getD_eq_getElem?_getD]
theorem zeroFL (W : World) : (zeroValue 43).run Try.prog W = .ok (.agg #[.string ⟨#[]⟩, .string ⟨#[]⟩]) W := by rfl
set_option maxHeartbeats 4000000 in
theorem compactF_any {w : World} {B c : Nat} {A : Option Addr} {L : List FL2} (h : FileR B w A c L) (hB : B ≤ w.heap.size) (hn : L.length ≤ 1024) :
    Calls Try.prog 21 #[.slice A L.length c] w fun e w' => e = .returned (.slice A (ddU L L.length).length c) ∧ FileR B w' A c (ddU L L.length) ∧ w.grownBy w' (Value.slice A L.length c).ownBlock := by
  obtain ⟨n, hL⟩ : ∃ n, L.length = n := ⟨_, rfl⟩
  have HL := Lib.hid hL
  unfold FileR at h ⊢
  rw [hL] at h hn ⊢
  by_cases hn2 : n < 2
  · have hdd : ddU L n = L := by
      have h01 : n = 0 ∨ n = 1 := by omega
      rcases h01 with rfl | rfl
      · rw [List.eq_nil_of_length_eq_zero hL]; rfl
      · obtain ⟨a, rfl⟩ := List.length_eq_one_iff.1 hL
        rfl
    rw [hdd, hL]
    have H := Lib.hid h
    clear h hdd hL
    go_enter Try.func21, Try.ntmps21
    go_wp2_with fail
    go_ret
    exact ⟨rfl, H.out, only_refl _ _⟩
  · obtain ⟨g, cap, e1, hBg, hgl⟩ := h.form (by omega)
    simp only [Value.slice.injEq] at e1
    obtain ⟨rfl, _, rfl⟩ := e1
    have hcap : n ≤ c ∧ c ≤ maxLen := by
      rcases h.2 with ⟨h', _⟩ | ⟨g', cap', cur, h', _, _, q1, q2, _, _⟩
      · simp at h'
      · simp only [Value.slice.injEq, Option.some.injEq, Addr.mk.injEq, and_true, true_and] at h'
        obtain ⟨rfl, rfl⟩ := h'
        exact ⟨q1, q2⟩
    obtain ⟨hnc, hcm⟩ := hcap
    unfold maxLen at hcm
    have H := Lib.hid h
    clear h hL
    go_enter Try.func21, Try.ntmps21
    go_wp2_with fail
    go_loopw [3] (fun s3 wr => ∃ m q : Nat, m + 1 ≤ n ∧ s3 = .int .i64 ((m : Int) + 1) ∧ ddU L (m + 1) = L.take (m + 1) ∧ wr = w.drewN q) (fun i _ => n - (intOf i).toNat)
    case atStart => exact ⟨0, 0, by omega, rfl, by rw [ddU_one, gF_take (by rw [HL.out]; omega)]; rfl, rfl⟩
    case round =>
      obtain ⟨m, q, hm, rfl, hdd, hw⟩ := hrel
      have HDD := Lib.hid hdd
      have hR : wr.ownsRow B 43 2 (.slice (some ⟨g, 0, none⟩) n c) n (L.flatMap encF) := by rw [hw]; exact H.out
      have HR := Lib.hid hR
      have HW := Lib.hid hw
      clear hdd hw
      by_cases hlt : m + 1 < n
      · obtain ⟨k0, k1⟩ := row_two hR HL.out (i := m + 1) hlt
        obtain ⟨l0, l1⟩ := row_two hR HL.out (i := m) (by omega)
        obtain ⟨x, hx⟩ : ∃ x, L.getD (m + 1) f0 = x := ⟨_, rfl⟩
        obtain ⟨y, hy⟩ : ∃ y, L.getD m f0 = y := ⟨_, rfl⟩
        rw [hx] at k0 k1
        rw [hy] at l0 l1
        obtain ⟨x1, x2⟩ := x
        obtain ⟨y1, y2⟩ := y
        dsimp only at k0 k1 l0 l1
        have HX := Lib.hid hx
        have HY := Lib.hid hy
        clear hx hy hR
        have hli : (m : Int) + 1 < (n : Int) := by omega
        by_cases he : x1 = y1 ∧ x2 = y2
        · have hf : fileEqB x1 x2 y1 y2 = true := by simp [fileEqB, he.1, he.2]
          have HE : Hid (L.getD (m + 1) f0 = L.getD m f0) := by show _ = _; rw [HX.out, HY.out, he.1, he.2]
          clear he
          go_wp2_with fail
          go_quiet (fail)
          rename_i nq
          have hR0 : (wr.drewN nq).ownsRow B 43 2 (.slice (some ⟨g, 0, none⟩) n c) n (L.flatMap encF) := HR.out
          have hW0 : w.grownBy (wr.drewN nq) (some g) := by rw [HW.out]; exact only_drewN (only_drewN (only_refl _ _) _) _
          generalize wr.drewN nq = W0 at *
          have HR0 := Lib.hid hR0
          have HW0 := Lib.hid hW0
          clear hR0 hW0 k0 k1 l0 l1
          go_upto_region 8 with fail
          obtain ⟨r, hr⟩ : ∃ r, n - (m + 1) = r := ⟨_, rfl⟩
          have hr1 : m + 1 + r = n := by omega
          rw [hr]
          clear hr
          go_wp2_with fail
          go_loopw [3, 5] (fun s3 s5 wr => ∃ (e kk : Nat) (D : List FL2), e + 1 ≤ r ∧ s5 = .int .i64 ((e : Int) + 1) ∧ s3 = .int .i64 (kk : Int) ∧ Cmp L D (m + 1 + e) kk ∧ wr.ownsRow B 43 2 (.slice (some ⟨g, 0, none⟩) n c) n (D.flatMap encF) ∧ w.grownBy wr (some g)) (fun _ i _ => r - (intOf i).toNat)
          case atStart => exact ⟨0, m + 1, L, by omega, rfl, by push_cast; rfl, ⟨rfl, Nat.le_refl _, by rw [ddU_skip HE.out, HDD.out], fun _ _ _ => rfl⟩, HR0.out, HW0.out⟩
          case round =>
            obtain ⟨e, kk, D, her, rfl, rfl, hcmp, hrow, hgr⟩ := hrel
            have hkp := hcmp.lt
            have hDl : D.length = n := hcmp.len.trans HL.out
            have HC := Lib.hid hcmp
            have HRW := Lib.hid hrow
            have HGR := Lib.hid hgr
            clear hcmp hgr
            by_cases hlt2 : e + 1 < r
            · obtain ⟨k0, k1⟩ := row_two hrow hDl (i := m + 1 + (e + 1)) (by omega)
              obtain ⟨l0, l1⟩ := row_two hrow hDl (i := m + 1 + e) (by omega)
              obtain ⟨d0, d1⟩ := row_two hrow hDl (i := kk) (by omega)
              have q0 := World.ownsRow.frozenAt hrow (kk * 2)
              have q1 := World.ownsRow.frozenAt hrow (kk * 2 + 1)
              rw [HC.out.rest _ (by omega) (by rw [HL.out]; omega)] at k0 k1 l0 l1
              obtain ⟨x, hx⟩ : ∃ x, L.getD (m + 1 + (e + 1)) f0 = x := ⟨_, rfl⟩
              obtain ⟨y, hy⟩ : ∃ y, L.getD (m + 1 + e) f0 = y := ⟨_, rfl⟩
              rw [hx, show (m + 1 + (e + 1)) * 2 = (m + 1) * 2 + (e + 1) * 2 by omega] at k0 k1
              rw [hy, show (m + 1 + e) * 2 = (m + 1) * 2 + e * 2 by omega] at l0 l1
              obtain ⟨u1, u2⟩ := x
              obtain ⟨v1, v2⟩ := y
              dsimp only at k0 k1 l0 l1
              have HX2 := Lib.hid hx
              have HY2 := Lib.hid hy
              clear hx hy hrow
              have hli2 : (e : Int) + 1 < (r : Int) := by omega
              by_cases he2 : u1 = v1 ∧ u2 = v2
              · have hf2 : fileEqB u1 u2 v1 v2 = true := by simp [fileEqB, he2.1, he2.2]
                have HE2 : Hid (L.getD (m + 1 + e + 1) f0 = L.getD (m + 1 + e) f0) := Lib.hid (by rw [show m + 1 + e + 1 = m + 1 + (e + 1) by omega, HX2.out, HY2.out, he2.1, he2.2])
                clear he2
                go_upto_region 11 with fail
                go_quiet (fail)
                rename_i nq2
                go_wp2_with fail
                go_roundw
                case rel => exact ⟨e + 1, kk, D, by omega, by go_num, rfl, HC.out.skip HE2.out, HRW.out, only_drewN HGR.out _⟩
                case measure => simp [intOf]; omega
              · have hf2 : fileEqB u1 u2 v1 v2 = false := by simpa [fileEqB] using he2
                have HE2 : Hid (L.getD (m + 1 + e + 1) f0 ≠ L.getD (m + 1 + e) f0) := Lib.hid (by rw [show m + 1 + e + 1 = m + 1 + (e + 1) by omega, HX2.out, HY2.out]; exact fun q => he2 (by injection q with q1 q2; exact ⟨q1, q2⟩))
                clear he2
                go_upto_region 11 with fail
                go_quiet (fail)
                have HR2 : Hid ((wr.drewN nq).ownsRow B 43 2 (.slice (some ⟨g, 0, none⟩) n c) n (D.flatMap encF)) := HRW
                have HG2 := Lib.hid (only_drewN HGR.out nq)
                have k0' : (wr.drewN nq).cell? ⟨g, (m + 1) * 2 + (e + 1) * 2, none⟩ = _ := k0
                have k1' : (wr.drewN nq).cell? ⟨g, (m + 1) * 2 + (e + 1) * 2 + 1, none⟩ = _ := k1
                have d0' : (wr.drewN nq).cell? ⟨g, kk * 2, none⟩ = _ := d0
                have d1' : (wr.drewN nq).cell? ⟨g, kk * 2 + 1, none⟩ = _ := d1
                have q0' : (wr.drewN nq).frozen? ⟨g, kk * 2, none⟩ = _ := q0
                have q1' : (wr.drewN nq).frozen? ⟨g, kk * 2 + 1, none⟩ = _ := q1
                clear k0 k1 l0 l1 d0 d1 q0 q1
                generalize wr.drewN nq = W2 at *
                have hkn : (kk : Int) < (n : Int) := by omega
                have hkn2 : kk < n := by omega
                go_wp2_with fail
                go_roundw
                case rel =>
                  obtain ⟨s1, s2⟩ := World.ownsRow.stored HR2.out (kk * 2) (.string u1)
                  obtain ⟨s3, s4⟩ := World.ownsRow.stored s1 (kk * 2 + 1) (.string u2)
                  have hset := encF_set D kk (u1, u2) (by omega)
                  dsimp only at hset
                  rw [hset] at s3
                  have hkp2 := HC.out.keep (by rw [HL.out]; omega) HE2.out
                  rw [show m + 1 + e + 1 = m + 1 + (e + 1) by omega, HX2.out] at hkp2
                  exact ⟨e + 1, kk + 1, _, by omega, by go_num, by go_num, hkp2, s3, only_trans (only_trans HG2.out s2) s4⟩
                case measure => simp [intOf]; omega
            · have hend : m + 1 + e + 1 = n := by omega
              have hkn2 : kk < n := by omega
              have hkn : (kk : Int) ≤ (n : Int) := by omega
              have hkc : (kk : Int) ≤ (c : Int) := by omega
              have hcl : ∀ ty, (Builtin.clear_ #[24] ty #[.slice (some ⟨g, kk * 2, none⟩) (n - kk) (c - kk)]).run Try.prog wr = .ok (.tuple #[]) (wr.setCells g (kk * 2) (List.replicate ((n - kk) * 2) (.string ⟨#[]⟩))) := fun ty =>
                run_clear_two wr _ 43 ty _ _ Try.underlying24 zeroFL rfl rfl g (kk * 2) (n - kk) (c - kk) (by omega) (fun j hj => by rw [World.ownsRow.cellAt HRW.out _ (by omega), encF_get D _ (by omega)]; rfl) (fun j hj => World.ownsRow.frozenAt HRW.out _)
              obtain ⟨s1, s2⟩ := own_setCells (List.replicate ((n - kk) * 2) (.string ⟨#[]⟩)) (kk * 2) wr (own_cut HRW.out (Nat.le_of_lt hkn2)) (Nat.le_refl _)
              have htk := HC.out.tk
              rw [hend] at htk
              rw [encF_take, htk] at s1
              have hlen : (ddU L n).length = kk := by rw [← htk, List.length_take]; omega
              have HS1 := Lib.hid s1
              have HS2 := Lib.hid (only_trans HGR.out s2)
              have HLE := Lib.hid hlen
              clear s1 s2 htk hlen hrow
              go_wp2_with fail
              go_ret
              rw [HLE.out]
              exact ⟨rfl, HS1.out, HS2.out⟩
        · have hf : fileEqB x1 x2 y1 y2 = false := by simpa [fileEqB] using he
          have HE : Hid (L.getD (m + 1) f0 ≠ L.getD m f0) := Lib.hid (by rw [HX.out, HY.out]; exact fun q => he (by injection q with q1 q2; exact ⟨q1, q2⟩))
          clear he
          go_wp2_with fail
          go_quiet (fail)
          rename_i nq
          go_wp2_with fail
          go_roundw
          case rel => exact ⟨m + 1, q + nq, by omega, by go_num, by rw [ddU_keep HE.out, HDD.out, ← gF_take (by rw [HL.out]; omega)], by rw [HW.out, World.drewN_drewN]⟩
          case measure => simp [intOf]; omega
      · have hm1 : m + 1 = n := by omega
        have hddn : ddU L n = L := by rw [← hm1, HDD.out, List.take_of_length_le (by rw [HL.out]; omega)]
        have HDN := Lib.hid hddn
        clear hddn
        go_wp2_with fail
        go_ret
        rw [HDN.out, HL.out]
        exact ⟨rfl, HR.out, by rw [HW.out]; exact only_drewN (only_refl _ _) _⟩
end Go.Proofs.Ytdofpkdemmngeaa
