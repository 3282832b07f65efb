/-
  JoinFiles: the reference's side, whole.
-/
import Derived.Test.YtpklhedcjpfgdaaJnT
import Derived.Deep.DeepCutAuto
namespace Go.Proofs.Ytpklhedcjpfgdaa
open Go Go.ChangeShapes Go.WideShapes Go.ChangeAt Go.RowKit lib
set_option linter.unusedVariables false
set_option linter.unusedSimpArgs false
set_option maxRecDepth 100000
theorem filS_getD {s : Nat → ByteArray} {n i : Nat} (h : i < n) : (filS s n).getD i f0 = (s (i * 2), s (i * 2 + 1)) := by
  rw [List.getD_eq_getElem?_getD, List.getElem?_eq_getElem (by rw [filS_len]; exact h)]
  simp [filS]
/-- what the round knows of a world -/
def JW (w W : World) (v : Nat) (A1 : Option Addr) (c1 : Nat) (O : List FL2) (ba oa i : Nat) (x1 x2 : ByteArray) : Prop :=
  W.ownsRow w.heap.size 46 2 (.slice A1 v c1) v (O.flatMap encF) ∧ Below w.heap.size w W ∧ W.cell? ⟨ba, oa + i * 2, none⟩ = some (.string x1) ∧ W.cell? ⟨ba, oa + i * 2 + 1, none⟩ = some (.string x2)
theorem JW.drewN {w W : World} {v : Nat} {A1 : Option Addr} {c1 : Nat} {O : List FL2} {ba oa i : Nat} {x1 x2 : ByteArray} (h : JW w W v A1 c1 O ba oa i x1 x2) (n : Nat) : JW w (W.drewN n) v A1 c1 O ba oa i x1 x2 := ⟨h.1, h.2.1.drewN n, h.2.2.1, h.2.2.2⟩
def JB (W : World) (bb ob j : Nat) (y1 y2 : ByteArray) : Prop := W.cell? ⟨bb, ob + j * 2, none⟩ = some (.string y1) ∧ W.cell? ⟨bb, ob + j * 2 + 1, none⟩ = some (.string y2)
theorem JB.drewN {W : World} {bb ob j : Nat} {y1 y2 : ByteArray} (h : JB W bb ob j y1 y2) (n : Nat) : JB (W.drewN n) bb ob j y1 y2 := h
theorem jLen_le (n m : Nat) (s t : Nat → ByteArray) : jLen n m s t ≤ 16 := by
  unfold jLen
  split
  · rename_i h
    refine Classical.byContradiction fun h16 => ?_
    have h16 : 16 < (joinL (filS s n) (filS t m)).length := by omega
    unfold jCode at h
    by_cases h1 : VF n s ∧ VF m t
    · rw [if_pos h1] at h
      by_cases h2 : ConfF (filS s n) (filS t m)
      · rw [if_pos h2] at h; exact absurd h (by decide)
      · rw [if_neg h2, if_pos h16] at h; exact absurd h (by decide)
    · rw [if_neg h1] at h; exact absurd h (by decide)
  · omega
theorem filS_dropS (t : Nat → ByteArray) {m j : Nat} (hj : j ≤ m) : (filS t m).drop j = filS (fun k => t (j * 2 + k)) (m - j) := by
  apply List.ext_getElem?
  intro i
  rw [List.getElem?_drop]
  by_cases h : i < m - j
  · simp only [filS, List.getElem?_map, List.getElem?_range (show j + i < m by omega), List.getElem?_range h, Option.map_some]
    rw [Nat.add_mul, Nat.add_assoc]
  · rw [List.getElem?_eq_none (by rw [filS_len]; omega), List.getElem?_eq_none (by rw [filS_len]; omega)]
theorem fileR_app {B c v r j m : Nat} {w : World} {A : Option Addr} {O : List FL2} {f : Nat → Value} {t : Nat → ByteArray} (hO : O.length = v) (hr : r = m - j) (hj : j ≤ m) (hf : ∀ k, k < r * 2 → f k = .string (t (j * 2 + k)))
    (ho : w.ownsRow B 46 2 (.slice A (v + r) c) (v + r) (O.flatMap encF ++ (List.range (r * 2)).map f)) : FileR B w A c (O ++ (filS t m).drop j) ∧ (O ++ (filS t m).drop j).length = v + r := by
  have hl : (O ++ (filS t m).drop j).length = v + r := by rw [List.length_append, filS_dropS t hj, filS_len, hO, hr]
  refine ⟨?_, hl⟩
  unfold FileR
  rw [hl, List.flatMap_append, filS_dropS t hj, filS_flat, ← hr]
  have e : (List.range (r * 2)).map f = (List.range (r * 2)).map fun i => Value.string (t (j * 2 + i)) := List.map_congr_left fun k hk => hf k (List.mem_range.1 hk)
  rw [e] at ho
  exact ho
section
variable {P : Program} {w w0 : World}
/-- 'out = append(out, x)', x of k cells: x lies in a new block of its own -/
theorem wpList_pushN {ops : Array Oper} {rest : List Oper} {o : Oper} {a : Act} {Q : Exit → Act → World → Prop} (s x : Operand) (t : TypeId) (base e : Nat) (z : Value) (us : List Value) (k bytes : Nat) (v : Value) (n : Nat) (xs : List Value)
    (hown : w0.ownsRow base e k v n xs) (hg : o.guard = none) (hop : o.op = .call { callee := .builtin .append, args := #[s, x], argTypes := #[t, t] })
    (h1 : P.underlying t = some (.slice e)) (hinfo : (P.info? e).map (fun i => (i.zero, i.size, i.bytes)) = some (some z, k, bytes)) (hz : z.cells.size = k) (hk : 0 < k) (hus : us.length = k)
    (hs : a.eval s = v) (hx : a.eval x = .slice (some ⟨w0.heap.size, 0, none⟩) 1 1) (hw : w = w0.alloc (.cells us.toArray e)) (hu : ∀ u, u ∈ us → u.oneCell' = true) (hn : n ≤ 1099511627776) (hby : bytes ≤ 64) (hbase : base ≤ w0.heap.size)
    (hK : ∀ A' c' w1, w1.ownsRow base e k (.slice (some A') (n + 1) c') (n + 1) (xs ++ us) → w0.grownBy w1 v.ownBlock → wpList P ops Q rest (a.put o.dst (.slice (some A') (n + 1) c')) w1) :
    wpList P ops Q (o :: rest) a w := by
  obtain ⟨i0, hi, hz0, hz1, hz2⟩ := info_parts hinfo
  subst hw
  have hb : (n + 1) * bytes ≤ 140737488355328 := by
    have := Nat.mul_le_mul (show n + 1 ≤ 1099511627777 by omega) hby
    omega
  refine wpList_append_own _ hg s x t hop base e i0 z k bytes h1 hi hz0 hz1 hz2 hz hk v n xs hs (hown.alloc _) ⟨w0.heap.size, 0, none⟩ 1 1 us hx (by rw [hus, Nat.one_mul]) ?_ hu (by simp only [maxLen]; omega) hb (by simp; omega) ?_
  · intro j q hq
    rw [Addr.add_lit, Nat.zero_add, World.cell?_alloc_new]
    simpa using hq
  · intro v' w1 hown1 hgrow _
    obtain ⟨g, cap, rfl, _, _⟩ := hown1.form (by omega)
    exact hK _ _ _ hown1 (only_trans (only_alloc (only_refl _ _) _) hgrow)
end
set_option maxHeartbeats 8000000 in
theorem specJoin_any (A B : Option Addr) (n m c d : Nat) (s t : Nat → ByteArray) (w : World) (hn : n ≤ 1048576) (hm : m ≤ 1048576) (hsz : ∀ i, i < n * 2 → (s i).size ≤ 1048576) (htz : ∀ i, i < m * 2 → (t i).size ≤ 1048576)
    (hs : Sl w w.heap.size A (n * 2) (fun i => .string (s i))) (ht : Sl w w.heap.size B (m * 2) (fun i => .string (t i))) (hmd : m ≤ d) :
    Calls Try.prog 12 #[.slice A n c, .slice B m d] w fun r w' => JOut n m s t r w w' := by
  have HV1 := Lib.hid (show ∀ (X : Value) (W : World), X = .slice A n c → W = w → Calls Try.prog 25 #[X] W fun e w' => VfOut (VF n s) e W w' from fun X W e eW => by rw [e, eW]; exact specValid_any A n c s w hn hsz hs)
  have HV3 := Lib.hid (show ∀ (X : Value) (W : World), X = .slice B m d → Below w.heap.size w W → Calls Try.prog 25 #[X] W fun e w' => VfOut (VF m t) e W w' from fun X W e hb => by rw [e]; exact specValid_any B m d t W hm htz ((ht.below hb).more hb.size))
  by_cases hv1 : VF n s
  · by_cases hv2 : VF m t
    · have hn16 := hv1.1
      have hm16 := hv2.1
      have HV := Lib.hid (show VF n s ∧ VF m t from ⟨hv1, hv2⟩)
      have HI1 := Lib.hid (vf_inc hv1)
      have HI2 := Lib.hid (vf_inc hv2)
      have HS := Lib.hid hs
      have HT := Lib.hid ht
      obtain ⟨i0, hi0, hi1, hi2, hi3⟩ := info_parts infoFL
      have I0 := Lib.hid hi0
      have I1 := Lib.hid hi1
      have I2 := Lib.hid hi2
      have I3 := Lib.hid hi3
      clear hs ht hsz htz hi0 hi1 hi2 hi3
      go_enter Try.func12, Try.ntmps12
      go_upto_region 3 with (first
        | (go_at_call 25; refine (HV1.out _ _ (by rfl) (by rfl)).mono ?_; rintro r w1 ⟨b1, hb1', rfl, hb1⟩; obtain rfl : b1 = true := hb1'.2 hv1)
        | (go_at_call 25; refine (HV3.out _ _ (by rfl) hb1).mono ?_; rintro r w2 ⟨b2, hb2', rfl, hb2⟩; obtain rfl : b2 = true := hb2'.2 hv2))
      have hB2 := hb1.trans (hb2.mono hb1.size)
      have HB2 := Lib.hid hB2
      have HN0 := Lib.hid (own_base (own_nilE w2 46 2 w2.heap.size (Nat.le_refl _)) hB2.size)
      have HA0 := Lib.hid (hB2.alloc hB2.size (.cells #[] 46))
      clear hb1 hb2 hb1' hb2' hv1 hv2 hB2 HV1 HV3
      go_upto_region 4 with fail
      generalize w2.alloc (.cells #[] 46) = W0 at *
      go_wp2_with fail
      go_loopw [6, 7, 8] (fun s6 s7 s8 wr => ∃ (i j v c1 : Nat) (A1 : Option Addr) (O : List FL2), i ≤ n ∧ j ≤ m ∧ s8 = .int .i64 i ∧ s7 = .int .i64 j ∧ s6 = .slice A1 v c1 ∧ O.length = v ∧ v ≤ i + j ∧ wr.ownsRow w.heap.size 46 2 (.slice A1 v c1) v (O.flatMap encF) ∧ MrgF (filS s n) (filS t m) i j O ∧ Below w.heap.size w wr) (fun _ _ i _ => n - (intOf i).toNat)
      case atStart => exact ⟨0, 0, 0, 0, _, [], by omega, by omega, rfl, rfl, rfl, rfl, by omega, HN0.out, MrgF.start _ _, HA0.out⟩
      case round =>
        obtain ⟨i, j, v, c1, A1, O, hi, hj, rfl, rfl, rfl, hO, hv, ho, hmg, hb⟩ := hrel
        have HO := Lib.hid ho
        have HOL := Lib.hid hO
        have HMG := Lib.hid hmg
        have HB := Lib.hid hb
        have hzr := hb.size
        clear ho hO hmg hb
        by_cases hlt : i < n
        · obtain ⟨ba, oa, hA, _, _, _⟩ := (HS.out.below HB.out).two hlt
          subst hA
          obtain ⟨x1, hx1⟩ : ∃ x, s (i * 2) = x := ⟨_, rfl⟩
          obtain ⟨x2, hx2⟩ : ∃ x, s (i * 2 + 1) = x := ⟨_, rfl⟩
          have HX1 := Lib.hid hx1
          have HX2 := Lib.hid hx2
          have HGA : Hid ((filS s n).getD i f0 = (x1, x2)) := Lib.hid (by rw [filS_getD hlt, HX1.out, HX2.out])
          clear hx1 hx2
          have hilt : (i : Int) < (n : Int) := by omega
          go_wp2_with fail
          go_loopw [6, 7] (fun s6 s7 wr => ∃ (j v c1 : Nat) (A1 : Option Addr) (O : List FL2), j ≤ m ∧ s7 = .int .i64 j ∧ s6 = .slice A1 v c1 ∧ O.length = v ∧ v ≤ i + j ∧ wr.ownsRow w.heap.size 46 2 (.slice A1 v c1) v (O.flatMap encF) ∧ MrgF (filS s n) (filS t m) i j O ∧ Below w.heap.size w wr) (fun _ j _ => m - (intOf j).toNat)
          case atStart => exact ⟨j, v, c1, A1, O, hj, rfl, rfl, HOL.out, hv, HO.out, HMG.out, HB.out⟩
          case round =>
            clear HO HOL HMG HB hzr hv hj
            obtain ⟨j, v, c1, A1, O, hj, rfl, rfl, hO, hv, ho, hmg, hb⟩ := hrel
            have HO := Lib.hid ho
            have HOL := Lib.hid hO
            have HMG := Lib.hid hmg
            have HB := Lib.hid hb
            have hzr := hb.size
            obtain ⟨_, _, e1, _, g0, g1⟩ := (HS.out.below hb).two hlt
            simp only [Option.some.injEq, Addr.mk.injEq, and_true] at e1
            obtain ⟨rfl, rfl⟩ := e1
            rw [HX1.out] at g0
            rw [HX2.out] at g1
            clear ho hO hmg hb
            by_cases hjm : j < m
            · obtain ⟨bb, ob, hBe, _, t0, t1⟩ := (HT.out.below HB.out).two hjm
              subst hBe
              obtain ⟨y1, hy1⟩ : ∃ x, t (j * 2) = x := ⟨_, rfl⟩
              obtain ⟨y2, hy2⟩ : ∃ x, t (j * 2 + 1) = x := ⟨_, rfl⟩
              rw [hy1] at t0
              rw [hy2] at t1
              have HGB : Hid ((filS t m).getD j f0 = (y1, y2)) := Lib.hid (by rw [filS_getD hjm, hy1, hy2])
              clear hy1 hy2
              have hjlt : (j : Int) < (m : Int) := by omega
              have HW := Lib.hid (show JW w wr v A1 c1 O ba oa i x1 x2 from ⟨HO.out, HB.out, g0, g1⟩)
              have HBW := Lib.hid (show JB wr bb ob j y1 y2 from ⟨t0, t1⟩)
              clear HO HB
              by_cases hl : ltB y1 x1 = true
              · have hl2 : Op.bytesLess y1.toList x1.toList = true := hl
                have hmg2 := HMG.out.other HI1.out HI2.out (by rw [filS_len]; exact hlt) (by rw [filS_len]; exact hjm) (by rw [HGA.out, HGB.out]; exact (ltB_iff _ _).1 hl)
                rw [HGB.out] at hmg2
                have HM2 := Lib.hid hmg2
                clear hl hmg2
                go_upto_region 8 with fail
                go_quiet (fail)
                have HW2 := Lib.hid (HW.out.drewN nq)
                have HBW2 := Lib.hid (HBW.out.drewN nq)
                clear g0 g1 t0 t1 HW HBW hzr
                generalize wr.drewN nq = W2 at *
                obtain ⟨t0, t1⟩ := HBW2.out
                have hzr2 := HW2.out.2.1.size
                go_wp2_with (at_builtin; refine wpList_pushN (.tmp 42) (.tmp 47) 22 w.heap.size 46 (.agg #[.string ⟨#[]⟩, .string ⟨#[]⟩]) [.string y1, .string y2] 2 32 _ v _ HW2.out.1 rfl rfl Try.underlying22 infoFL rfl (by omega) rfl rfl rfl rfl (by intro u hu; simp at hu; rcases hu with rfl | rfl <;> rfl) (by omega) (by omega) hzr2 ?_; intro A4 c4 w4 ho4 hg4)
                go_roundw
                case rel => exact ⟨j + 1, v + 1, c4, some A4, O ++ [(y1, y2)], by omega, by go_num, rfl, by rw [List.length_append, HOL.out]; rfl, by omega, by rw [List.flatMap_append]; exact ho4, HM2.out, HW2.out.2.1.grown hg4 hzr2 (fun q hq => own_lt HW2.out.1 q hq)⟩
                case measure => simp [intOf]; omega
              · have hl2 : Op.bytesLess y1.toList x1.toList = false := by simpa [ltB] using hl
                have hle := (ltB_ff y1 x1).1 (by simpa using hl)
                have HLE := Lib.hid hle
                clear hl hle
                by_cases he : y1 = x1
                · have e1 : (y1.toList == x1.toList) = true := str_eq_true he
                  by_cases hd : y2 = x2
                  · have hf : fileEqB y1 y2 x1 x2 = true := by simp [fileEqB, he, hd]
                    have hmg2 := HMG.out.both HI1.out HI2.out (by rw [filS_len]; exact hlt) (by rw [filS_len]; exact hjm) (by rw [HGA.out, HGB.out, he, hd])
                    rw [HGA.out] at hmg2
                    have HM2 := Lib.hid hmg2
                    clear he hd hmg2 hzr
                    go_upto_region 8 with fail
                    go_quiet (fail)
                    have HW2 := Lib.hid (HW.out.drewN nq)
                    have HBW2 := Lib.hid (HBW.out.drewN nq)
                    clear g0 g1 t0 t1 HW HBW
                    generalize wr.drewN nq = W2 at *
                    obtain ⟨t0, t1⟩ := HBW2.out
                    obtain ⟨_, _, g0, g1⟩ := HW2.out
                    go_upto_region 11 with fail
                    go_quiet (fail)
                    have HW3 := Lib.hid (HW2.out.drewN nq)
                    have HBW3 := Lib.hid (HBW2.out.drewN nq)
                    clear g0 g1 t0 t1 HW2 HBW2
                    generalize W2.drewN nq = W3 at *
                    obtain ⟨t0, t1⟩ := HBW3.out
                    obtain ⟨_, _, g0, g1⟩ := HW3.out
                    go_upto_region 12 with fail
                    go_quiet (fail)
                    have HW4 := Lib.hid (HW3.out.drewN nq)
                    have HBW4 := Lib.hid (HBW3.out.drewN nq)
                    clear g0 g1 t0 t1 HW3 HBW3
                    generalize W3.drewN nq = W4 at *
                    obtain ⟨t0, t1⟩ := HBW4.out
                    obtain ⟨_, _, g0, g1⟩ := HW4.out
                    have hzr2 := HW4.out.2.1.size
                    go_wp2_with (at_builtin; refine wpList_pushN (.tmp 80) (.tmp 85) 22 w.heap.size 46 (.agg #[.string ⟨#[]⟩, .string ⟨#[]⟩]) [.string x1, .string x2] 2 32 _ v _ HW4.out.1 rfl rfl Try.underlying22 infoFL rfl (by omega) rfl rfl rfl rfl (by intro u hu; simp at hu; rcases hu with rfl | rfl <;> rfl) (by omega) (by omega) hzr2 ?_; intro A4 c4 w4 ho4 hg4)
                    go_roundw
                    case rel => exact ⟨i + 1, j + 1, v + 1, c4, some A4, O ++ [(x1, x2)], by omega, by omega, by go_num, by go_num, rfl, by rw [List.length_append, HOL.out]; rfl, by omega, by rw [List.flatMap_append]; exact ho4, HM2.out, HW4.out.2.1.grown hg4 hzr2 (fun q hq => own_lt HW4.out.1 q hq)⟩
                    case measure => simp [intOf]; omega
                  · have hf : fileEqB y1 y2 x1 x2 = false := by simp [fileEqB, hd]
                    have HJ := Lib.hid (jCode_conf HV.out (MrgF.conf (FA := filS s n) (FB := filS t m) (by rw [filS_len]; exact hlt) (by rw [filS_len]; exact hjm) (by rw [HGA.out, HGB.out]; exact he) (by rw [HGA.out, HGB.out]; exact fun q => hd (by injection q))))
                    clear he hd hzr
                    go_upto_region 8 with fail
                    go_quiet (fail)
                    have HW2 := Lib.hid (HW.out.drewN nq)
                    have HBW2 := Lib.hid (HBW.out.drewN nq)
                    clear g0 g1 t0 t1 HW HBW
                    generalize wr.drewN nq = W2 at *
                    obtain ⟨t0, t1⟩ := HBW2.out
                    obtain ⟨_, _, g0, g1⟩ := HW2.out
                    go_upto_region 11 with fail
                    go_quiet (fail)
                    have HW3 := Lib.hid (HW2.out.drewN nq)
                    have HBW3 := Lib.hid (HBW2.out.drewN nq)
                    clear g0 g1 t0 t1 HW2 HBW2
                    generalize W2.drewN nq = W3 at *
                    obtain ⟨t0, t1⟩ := HBW3.out
                    obtain ⟨_, _, g0, g1⟩ := HW3.out
                    go_upto_region 12 with fail
                    go_quiet (fail)
                    have HW4 := Lib.hid (HW3.out.drewN nq)
                    have HBW4 := Lib.hid (HBW3.out.drewN nq)
                    clear g0 g1 t0 t1 HW3 HBW3
                    generalize W3.drewN nq = W4 at *
                    obtain ⟨t0, t1⟩ := HBW4.out
                    obtain ⟨_, _, g0, g1⟩ := HW4.out
                    have hB2 := HW4.out.2.1
                    have HB2 := Lib.hid hB2
                    clear hB2
                    go_wp2_with fail
                    go_ret2
                    exact jOut_err HJ.out (by decide) rfl (own_base (own_nilE _ 46 2 _ (Nat.le_refl _)) HB2.out.size) (HB2.out.alloc HB2.out.size _)
                · have e1 : (y1.toList == x1.toList) = false := str_eq_false he
                  have hmg2 := HMG.out.alone HI1.out HI2.out (by rw [filS_len]; exact hlt) (fun _ => by rw [HGA.out, HGB.out]; exact Std.lt_of_le_of_ne HLE.out (fun q => he (kB_inj q).symm))
                  rw [HGA.out] at hmg2
                  have HM2 := Lib.hid hmg2
                  clear he hmg2 hzr
                  go_upto_region 8 with fail
                  go_quiet (fail)
                  have HW2 := Lib.hid (HW.out.drewN nq)
                  have HBW2 := Lib.hid (HBW.out.drewN nq)
                  clear g0 g1 t0 t1 HW HBW
                  generalize wr.drewN nq = W2 at *
                  obtain ⟨t0, t1⟩ := HBW2.out
                  obtain ⟨_, _, g0, g1⟩ := HW2.out
                  go_upto_region 11 with fail
                  go_quiet (fail)
                  have HW3 := Lib.hid (HW2.out.drewN nq)
                  have HBW3 := Lib.hid (HBW2.out.drewN nq)
                  clear g0 g1 t0 t1 HW2 HBW2
                  generalize W2.drewN nq = W3 at *
                  obtain ⟨t0, t1⟩ := HBW3.out
                  obtain ⟨_, _, g0, g1⟩ := HW3.out
                  have hzr2 := HW3.out.2.1.size
                  go_wp2_with (at_builtin; refine wpList_pushN (.tmp 80) (.tmp 85) 22 w.heap.size 46 (.agg #[.string ⟨#[]⟩, .string ⟨#[]⟩]) [.string x1, .string x2] 2 32 _ v _ HW3.out.1 rfl rfl Try.underlying22 infoFL rfl (by omega) rfl rfl rfl rfl (by intro u hu; simp at hu; rcases hu with rfl | rfl <;> rfl) (by omega) (by omega) hzr2 ?_; intro A4 c4 w4 ho4 hg4)
                  go_roundw
                  case rel => exact ⟨i + 1, j, v + 1, c4, some A4, O ++ [(x1, x2)], by omega, by omega, by go_num, rfl, rfl, by rw [List.length_append, HOL.out]; rfl, by omega, by rw [List.flatMap_append]; exact ho4, HM2.out, HW3.out.2.1.grown hg4 hzr2 (fun q hq => own_lt HW3.out.1 q hq)⟩
                  case measure => simp [intOf]; omega
            · have HW := Lib.hid (show JW w wr v A1 c1 O ba oa i x1 x2 from ⟨HO.out, HB.out, g0, g1⟩)
              have hmg2 := HMG.out.alone HI1.out HI2.out (by rw [filS_len]; exact hlt) (fun q => absurd (by rw [filS_len] at q; exact q) hjm)
              rw [HGA.out] at hmg2
              have HM2 := Lib.hid hmg2
              have d1 : decide ((j : Int) < (m : Int)) = false := by simp; omega
              have d2 : decide (j < m) = false := by simp; omega
              clear hmg2 hzr HO HB
              go_upto_region 8 with fail
              go_quiet (fail)
              have HW2 := Lib.hid (HW.out.drewN nq)
              clear g0 g1 HW
              generalize wr.drewN nq = W2 at *
              obtain ⟨_, _, g0, g1⟩ := HW2.out
              go_upto_region 11 with fail
              go_quiet (fail)
              have HW3 := Lib.hid (HW2.out.drewN nq)
              clear g0 g1 HW2
              generalize W2.drewN nq = W3 at *
              obtain ⟨_, _, g0, g1⟩ := HW3.out
              have hzr2 := HW3.out.2.1.size
              go_wp2_with (at_builtin; refine wpList_pushN (.tmp 80) (.tmp 85) 22 w.heap.size 46 (.agg #[.string ⟨#[]⟩, .string ⟨#[]⟩]) [.string x1, .string x2] 2 32 _ v _ HW3.out.1 rfl rfl Try.underlying22 infoFL rfl (by omega) rfl rfl rfl rfl (by intro u hu; simp at hu; rcases hu with rfl | rfl <;> rfl) (by omega) (by omega) hzr2 ?_; intro A4 c4 w4 ho4 hg4)
              go_roundw
              case rel => exact ⟨i + 1, j, v + 1, c4, some A4, O ++ [(x1, x2)], by omega, by omega, by go_num, rfl, rfl, by rw [List.length_append, HOL.out]; rfl, by omega, by rw [List.flatMap_append]; exact ho4, HM2.out, HW3.out.2.1.grown hg4 hzr2 (fun q hq => own_lt HW3.out.1 q hq)⟩
              case measure => simp [intOf]; omega
        · obtain rfl : i = n := by omega
          have hmd2 : (m : Int) ≤ (d : Int) := by omega
          have hjd : (j : Int) ≤ (d : Int) := by omega
          have hj0 : (0 : Int) ≤ (j : Int) := by omega
          have hdn : MrgF (filS s i) (filS t m) (filS s i).length j O := by rw [filS_len]; exact HMG.out
          have hji := hdn.done HI2.out (by rw [filS_len]; exact hj)
          have HJI := Lib.hid hji
          have HSL := Lib.hid ((HT.out.below HB.out).more hzr)
          clear hdn hji
          rcases Nat.eq_zero_or_pos m with hm0 | hm0
          · subst hm0
            obtain rfl : j = 0 := by omega
            cases B with
            | none =>
              go_upto_region 17 with (at_builtin; refine wpList_appR rfl (.tmp 87) (.tmp 90) 22 rfl w.heap.size 46 i0 (.agg #[.string ⟨#[]⟩, .string ⟨#[]⟩]) 2 32 Try.underlying22 I0.out I1.out I2.out I3.out rfl (by omega) _ v _ rfl HO.out _ 0 _ wr.heap.size (fun _ => .string ⟨#[]⟩) rfl Sl.nil (fun _ => rfl) (by simp only [maxLen]; omega) (by omega) hzr ?_; intro A4 c4 w4 ho4 hg4 hown4)
              all_goals
                have hb4 := HB.out.grown hg4 hzr (own_lt HO.out)
                obtain ⟨hfr, hfl⟩ := fileR_app (t := t) (m := 0) (j := 0) HOL.out (by omega) hj (fun k hk => by omega) ho4
                obtain ⟨K, hK⟩ : ∃ K, v = K := ⟨_, rfl⟩
                simp only [Nat.add_zero] at hfl
                rw [hK] at hfl ⊢
                have HFR := Lib.hid hfr
                have HFL := Lib.hid hfl
                have HB4 := Lib.hid hb4
                clear hfr hfl hb4 ho4 hg4 hown4 hK
                by_cases h16 : 16 < K
                · have HJ := Lib.hid (jCode_full HV.out HJI.out (by rw [HFL.out]; exact h16))
                  have d0 : (16 : Int) < (K : Int) := by omega
                  go_wp2_with fail
                  go_ret2
                  exact jOut_err HJ.out (by decide) rfl (own_base (own_nilE _ 46 2 _ (Nat.le_refl _)) HB4.out.size) (HB4.out.alloc HB4.out.size _)
                · have HJ := Lib.hid (jCode_ok HV.out HJI.out (by rw [HFL.out]; exact h16))
                  have d0 : ¬ (16 : Int) < (K : Int) := by omega
                  go_wp2_with fail
                  go_ret2
                  exact jOut_ok HJ.out HJI.out (by rw [HFL.out]; rfl) HFR.out HB4.out
            | some p =>
              go_upto_region 17 with (at_builtin; refine wpList_appR rfl (.tmp 87) (.tmp 90) 22 rfl w.heap.size 46 i0 (.agg #[.string ⟨#[]⟩, .string ⟨#[]⟩]) 2 32 Try.underlying22 I0.out I1.out I2.out I3.out rfl (by omega) _ v _ rfl HO.out _ 0 _ wr.heap.size (fun _ => .string ⟨#[]⟩) rfl Sl.nil (fun _ => rfl) (by simp only [maxLen]; omega) (by omega) hzr ?_; intro A4 c4 w4 ho4 hg4 hown4)
              all_goals
                have hb4 := HB.out.grown hg4 hzr (own_lt HO.out)
                obtain ⟨hfr, hfl⟩ := fileR_app (t := t) (m := 0) (j := 0) HOL.out (by omega) hj (fun k hk => by omega) ho4
                obtain ⟨K, hK⟩ : ∃ K, v = K := ⟨_, rfl⟩
                simp only [Nat.add_zero] at hfl
                rw [hK] at hfl ⊢
                have HFR := Lib.hid hfr
                have HFL := Lib.hid hfl
                have HB4 := Lib.hid hb4
                clear hfr hfl hb4 ho4 hg4 hown4 hK
                by_cases h16 : 16 < K
                · have HJ := Lib.hid (jCode_full HV.out HJI.out (by rw [HFL.out]; exact h16))
                  have d0 : (16 : Int) < (K : Int) := by omega
                  go_wp2_with fail
                  go_ret2
                  exact jOut_err HJ.out (by decide) rfl (own_base (own_nilE _ 46 2 _ (Nat.le_refl _)) HB4.out.size) (HB4.out.alloc HB4.out.size _)
                · have HJ := Lib.hid (jCode_ok HV.out HJI.out (by rw [HFL.out]; exact h16))
                  have d0 : ¬ (16 : Int) < (K : Int) := by omega
                  go_wp2_with fail
                  go_ret2
                  exact jOut_ok HJ.out HJI.out (by rw [HFL.out]; rfl) HFR.out HB4.out
          · obtain ⟨bb, ob, hBe, _, _, _⟩ := HSL.out.two (i := 0) hm0
            subst hBe
            by_cases hdj : d = j
            · obtain rfl : j = m := by omega
              subst hdj
              go_upto_region 17 with (at_builtin; refine wpList_appR rfl (.tmp 87) (.tmp 90) 22 rfl w.heap.size 46 i0 (.agg #[.string ⟨#[]⟩, .string ⟨#[]⟩]) 2 32 Try.underlying22 I0.out I1.out I2.out I3.out rfl (by omega) _ v _ rfl HO.out _ 0 _ wr.heap.size (fun _ => .string ⟨#[]⟩) rfl Sl.nil (fun _ => rfl) (by simp only [maxLen]; omega) (by omega) hzr ?_; intro A4 c4 w4 ho4 hg4 hown4)
              all_goals
                have hb4 := HB.out.grown hg4 hzr (own_lt HO.out)
                obtain ⟨hfr, hfl⟩ := fileR_app (t := t) (m := d) (j := d) HOL.out (by omega) hj (fun k hk => by omega) ho4
                obtain ⟨K, hK⟩ : ∃ K, v = K := ⟨_, rfl⟩
                simp only [Nat.add_zero] at hfl
                rw [hK] at hfl ⊢
                have HFR := Lib.hid hfr
                have HFL := Lib.hid hfl
                have HB4 := Lib.hid hb4
                clear hfr hfl hb4 ho4 hg4 hown4 hK
                by_cases h16 : 16 < K
                · have HJ := Lib.hid (jCode_full HV.out HJI.out (by rw [HFL.out]; exact h16))
                  have d0 : (16 : Int) < (K : Int) := by omega
                  go_wp2_with fail
                  go_ret2
                  exact jOut_err HJ.out (by decide) rfl (own_base (own_nilE _ 46 2 _ (Nat.le_refl _)) HB4.out.size) (HB4.out.alloc HB4.out.size _)
                · have HJ := Lib.hid (jCode_ok HV.out HJI.out (by rw [HFL.out]; exact h16))
                  have d0 : ¬ (16 : Int) < (K : Int) := by omega
                  go_wp2_with fail
                  go_ret2
                  exact jOut_ok HJ.out HJI.out (by rw [HFL.out]; rfl) HFR.out HB4.out
            · have e11 : (d = j) = False := by simp [hdj]
              have HSD := Lib.hid (Sl.drop HSL.out (k := j * 2))
              go_upto_region 17 with (at_builtin; refine wpList_appR rfl (.tmp 87) (.tmp 90) 22 rfl w.heap.size 46 i0 (.agg #[.string ⟨#[]⟩, .string ⟨#[]⟩]) 2 32 Try.underlying22 I0.out I1.out I2.out I3.out rfl (by omega) _ v _ rfl HO.out _ (m - j) _ wr.heap.size (fun k => .string (t (j * 2 + k))) rfl (by have := HSD.out; rw [show m * 2 - j * 2 = (m - j) * 2 by omega] at this; exact this) (fun _ => rfl) (by simp only [maxLen]; omega) (by omega) hzr ?_; intro A4 c4 w4 ho4 hg4 hown4)
              all_goals
                have hb4 := HB.out.grown hg4 hzr (own_lt HO.out)
                obtain ⟨hfr, hfl⟩ := fileR_app (t := t) (m := m) (j := j) HOL.out (by omega) hj (fun k hk => rfl) ho4
                obtain ⟨K, hK⟩ : ∃ K, v + (m - j) = K := ⟨_, rfl⟩
                rw [hK] at hfl ⊢
                have HFR := Lib.hid hfr
                have HFL := Lib.hid hfl
                have HB4 := Lib.hid hb4
                clear hfr hfl hb4 ho4 hg4 hown4 hK
                by_cases h16 : 16 < K
                · have HJ := Lib.hid (jCode_full HV.out HJI.out (by rw [HFL.out]; exact h16))
                  have d0 : (16 : Int) < (K : Int) := by omega
                  go_wp2_with fail
                  go_ret2
                  exact jOut_err HJ.out (by decide) rfl (own_base (own_nilE _ 46 2 _ (Nat.le_refl _)) HB4.out.size) (HB4.out.alloc HB4.out.size _)
                · have HJ := Lib.hid (jCode_ok HV.out HJI.out (by rw [HFL.out]; exact h16))
                  have d0 : ¬ (16 : Int) < (K : Int) := by omega
                  go_wp2_with fail
                  go_ret2
                  exact jOut_ok HJ.out HJI.out (by rw [HFL.out]; rfl) HFR.out HB4.out
    · have HJ := Lib.hid (jCode_bad (fun q => hv2 q.2) : jCode n m s t = 1)
      clear hs ht hsz htz
      go_enter Try.func12, Try.ntmps12
      go_upto_region 2 with (first
        | (go_at_call 25; refine (HV1.out _ _ (by rfl) (by rfl)).mono ?_; rintro r w1 ⟨b1, hb1', rfl, hb1⟩; obtain rfl : b1 = true := hb1'.2 hv1)
        | (go_at_call 25; refine (HV3.out _ _ (by rfl) hb1).mono ?_; rintro r w2 ⟨b2, hb2', rfl, hb2⟩; obtain rfl : b2 = false := by cases b2 with | false => rfl | true => exact absurd (hb2'.1 rfl) hv2))
      have hB2 := hb1.trans (hb2.mono hb1.size)
      have HB2 := Lib.hid hB2
      clear hv1 hv2 hb1' hb2' hb1 hb2 hB2
      go_wp2_with fail
      go_ret2
      have hB2 := HB2.out
      exact jOut_err HJ.out (by decide) rfl (own_base (own_nilE _ 46 2 _ (Nat.le_refl _)) hB2.size) (hB2.alloc hB2.size _)
  · have HJ := Lib.hid (jCode_bad (fun q => hv1 q.1) : jCode n m s t = 1)
    clear hs ht hsz htz
    go_enter Try.func12, Try.ntmps12
    go_wp2_with (go_at_call 25; refine (HV1.out _ _ (by rfl) (by rfl)).mono ?_; rintro r w1 ⟨b1, hb1', rfl, hb1⟩; obtain rfl : b1 = false := by cases b1 with | false => rfl | true => exact absurd (hb1'.1 rfl) hv1)
    go_ret2
    exact jOut_err HJ.out (by decide) rfl (own_base (own_nilE _ 46 2 _ (Nat.le_refl _)) hb1.size) (hb1.alloc hb1.size _)
end Go.Proofs.Ytpklhedcjpfgdaa
