/-
  Disks of extents: the problems of an entry: the reference's side. (Printed by mkxpb.py.)
-/
import Derived.Test.YtmgcaiilocifbaaDoorXpbE
import Derived.Deep.DeepCutAuto
namespace Go.Proofs.YtmgcaiilocifbaaDoor
open Go Go.ChangeShapes Go.WideShapes Go.ChangeAt Go.RowKit lib
set_option linter.unusedVariables false
set_option linter.unusedSimpArgs false
set_option maxRecDepth 100000
theorem q2_tl0 {Q2 : Prop} {m : Nat} {no tl z : Int} (h : Q2 ↔ ((m = 0 ∧ (no ≠ 0 ∨ tl ≠ 0)) ∨ (0 < m ∧ tl = 0) ∨ (¬ (m = 4 ∧ tl = z) ∧ (false = true)))) (h0 : ¬ m = 0) (ht : tl = 0) : Q2 := h.2 (.inr (.inl ⟨Nat.pos_of_ne_zero h0, ht⟩))
theorem q2_none {Q2 : Prop} {m : Nat} {no tl z : Int} (h : Q2 ↔ ((m = 0 ∧ (no ≠ 0 ∨ tl ≠ 0)) ∨ (0 < m ∧ tl = 0) ∨ (¬ (m = 4 ∧ tl = z) ∧ (false = true)))) (h0 : ¬ m = 0) (ht : ¬ tl = 0) : ¬ Q2 := fun q => by
  rcases h.1 q with ⟨a, _⟩ | ⟨_, b⟩ | ⟨_, c⟩
  · exact h0 a
  · exact ht b
  · cases c
theorem l00Has_is {w : World} {B n c : Nat} {A : Option Addr} (z : Nat → Int) (v : Int) (h : Sl w B A n (fun i => .int .i64 (z i))) (hn : n ≤ 1048576) (b : Bool) (hb : hasZ z n v = b) : Calls Tryd.prog 61 #[.slice A n c, .int .i64 v] w fun e w' => e = .returned (.bool b) ∧ w = w' := by
  subst hb
  exact l00Has_any z v h hn
set_option maxHeartbeats 40000000 in
theorem specPbX_any {w : World} {n c q z E t k c3 : Nat} {A A3 : Option Addr} {s : Nat → ByteArray} {T : List Int} (hs : Sl w w.heap.size A n (fun i => .string (s i))) (hsz : ∀ i, i < n → (s i).size = z) (hr : Rw w q 44 #[.int .i64 n, .int .i64 z, .int .i64 E, .int .i64 t]) (hz8 : 8 ≤ z) (hz32 : z ≤ 32) (hn : n ≤ 128) (hE : E ≤ 32) (hfit : ∀ k, k < E → z + k * 16 + 16 ≤ n * z)
    (hT : Sl w w.heap.size A3 T.length (fun i => .int .i64 (T.getD i 0))) (hTl : T.length ≤ 1000) (hk : k < E) (hst : (xen z (joinU z s) k).st = 1) :
    Calls Tryd.prog 41 #[.slice A n c, .pointer (some ⟨q, 0, none⟩), .int .i64 k, .slice A3 T.length c3] w fun r w' => ∃ A2 c2, r = .returned (.slice A2 (eProbs n t z (joinU z s) E T k).length c2) ∧ PRX w.heap.size w' A2 c2 (eProbs n t z (joinU z s) E T k) ∧ Below w.heap.size w w' := by
  have hql := hr.lt
  have HS := Lib.hid hs
  have HR := Lib.hid hr
  have HSZ := Lib.hid hsz
  have HF := Lib.hid hfit
  have HT := Lib.hid hT
  have hgd : xGood z (xby z (joinU z s) k) := xen_used (by rw [hst]; decide)
  have HEG := Lib.hid ((specEntryX_any (c := c) hs hsz hr hz8 hz32 hn (hfit k hk)).mono fun r w' q => xEnt_good (v := xby z (joinU z s) k) q hgd)
  have heok := xen_ok z (joinU z s) k
  have hnm : (xen z (joinU z s) k).nm ≠ ⟨#[]⟩ := names_ne (xen_name (by rw [hst]; decide))
  obtain ⟨PR, hPR⟩ : ∃ PR, eProbs n t z (joinU z s) E T k = PR := ⟨_, rfl⟩
  unfold eProbs at hPR
  obtain ⟨e, he⟩ : ∃ e, e = xen z (joinU z s) k := ⟨_, rfl⟩
  have hgx : xent z (xby z (joinU z s) k) = e := he.symm
  rw [hgx] at HEG
  rw [← he] at hPR heok hnm
  unfold XE.val at HEG
  have hPRE : eProbs n t z (joinU z s) E T k = PR := by unfold eProbs; rw [← he]; exact hPR
  rw [hPRE]
  have HUS := Lib.hid (fun (W : World) (hW : Below w.heap.size w W) => (show Calls Tryd.prog 34 #[.slice A n c, .pointer (some ⟨q, 0, none⟩), .string e.nm] W fun r w' => ∃ A2 c2, r = .returned (.slice A2 (picks (usedBy z (joinU z s) e.nm) E).length c2) ∧ NatR W.heap.size w' A2 c2 (picks (usedBy z (joinU z s) e.nm) E) ∧ Below W.heap.size W w' by
    rw [← usedAs_by hnm]
    exact specUsedX_any e.nm ((hs.below hW).more hW.size) hsz (hr.below hW hql) hz8 hz32 hn hE hfit))
  obtain ⟨l, hl⟩ : ∃ l, l = picks (usedBy z (joinU z s) e.nm) E := ⟨_, rfl⟩
  have hlen : l.length ≤ 32 := by rw [hl]; exact Nat.le_trans (picks_len _ _) hE
  have hmem : ∀ j, j < l.length → l.getD j 0 < E ∧ (xen z (joinU z s) (l.getD j 0)).st = 1 := fun j hj => by
    have := getD_mem hj
    rw [hl] at this
    have h2 := mem_picks.1 (by rwa [← hl] at this ⊢)
    exact ⟨h2.1, h2.2.1⟩
  rw [← hl] at HUS hPR
  have hbl4 := XE.ok_len heok
  have hno : 0 ≤ e.no ∧ e.no ≤ 31 := by
    rcases heok with ⟨_, _, h, _⟩ | ⟨_, _, h, _⟩
    · omega
    · exact h
  have HOK := Lib.hid (fun i (hi : i < e.bl.length) => bl_nat heok hi)
  have HME := Lib.hid hmem
  have HL := Lib.hid hl
  have HE := Lib.hid he
  have HPR := Lib.hid hPR
  have hw1 : IntKind.i64.wrap ((n : Int) - 1) = (n : Int) - 1 := by rw [IntKind.wrap_i64]; omega
  obtain ⟨i0, hi0, hi1, hi2, hi3⟩ := info_parts infoXP
  have I0 := Lib.hid hi0
  have I1 := Lib.hid hi1
  have I2 := Lib.hid hi2
  have I3 := Lib.hid hi3
  clear hs hr hsz hfit hT hgd hst heok hnm hPR he hgx hPRE hl hmem hi0 hi1 hi2 hi3
  go_enter Tryd.func41, Tryd.ntmps41
  go_upto_region 2 with (go_at_call 36; refine HEG.out.mono ?_; rintro r w1 ⟨A5, c5, rfl, hi5, hb5⟩)
  have hal := (Below.refl w1.heap.size w1).alloc (Nat.le_refl _) (.cells #[.int .i64 e.st, .string e.nm, .int .i64 e.no, .int .i64 e.tl, .slice A5 e.bl.length c5] 56)
  have hB2 := hb5.alloc hb5.size (.cells #[.int .i64 e.st, .string e.nm, .int .i64 e.no, .int .i64 e.tl, .slice A5 e.bl.length c5] 56)
  have hE2 := Rw.new w1 56 #[.int .i64 e.st, .string e.nm, .int .i64 e.no, .int .i64 e.tl, .slice A5 e.bl.length c5]
  have hI2 := hi5.below hal
  have hqe : w1.heap.size < (w1.alloc (.cells #[.int .i64 e.st, .string e.nm, .int .i64 e.no, .int .i64 e.tl, .slice A5 e.bl.length c5] 56)).heap.size := by simp
  generalize w1.alloc (.cells #[.int .i64 e.st, .string e.nm, .int .i64 e.no, .int .i64 e.tl, .slice A5 e.bl.length c5] 56) = W2 at *
  obtain ⟨qe, hqe2⟩ : ∃ qe, w1.heap.size = qe := ⟨_, rfl⟩
  have hcap : e.bl.length ≤ c5 := by
    rcases hI2.2 with ⟨hv, _⟩ | ⟨g, cap, cur, hv, _, _, h1, _⟩
    · injection hv with _ e1 _; omega
    · injection hv with _ _ e1; omega
  rw [hqe2] at hE2 hqe ⊢
  have HB2 := Lib.hid hB2
  have HE2 := Lib.hid hE2
  have HI2 := Lib.hid hI2.sl
  have hN1 := own_nilE W2 68 3 W2.heap.size (Nat.le_refl _)
  have hB3 := (Below.refl W2.heap.size W2).alloc (Nat.le_refl _) (.cells #[] 68)
  have hs3 : (W2.alloc (.cells #[] 68)).heap.size = W2.heap.size + 1 := World.size_alloc _ _
  clear hal hB2 hE2 hI2 hi5 hb5 hqe2
  go_upto_region 3 with fail
  generalize W2.alloc (.cells #[] 68) = W3 at *
  have hN2 := own_nilE W3 68 3 W2.heap.size hB3.size
  have hB4 := hB3.alloc hB3.size (.cells #[] 68)
  have hN3 := own_below hN1 ((Below.refl W3.heap.size W3).alloc (Nat.le_refl _) (.cells #[] 68))
  go_upto_region 4 with fail
  generalize W3.alloc (.cells #[] 68) = W4 at *
  rw [hs3] at hN2
  have HN2 := Lib.hid hN2
  have HN3 := Lib.hid hN3
  have HB4 := Lib.hid hB4
  have HG3 := Lib.hid hs3
  clear hN1 hN2 hN3 hB3 hB4 hs3
  have y4 := (HE2.out.below HB4.out hqe).cell 4
  go_wp2_with fail
  go_loopw [11, 12, 13, 14] (fun s11 s12 s13 s14 wr => ∃ (i c1 c2 : Nat) (A1 A2 : Option Addr), i ≤ e.bl.length ∧ s13 = .int .i64 i ∧ s11 = .slice A1 (oX n t e.bl k i).length c1 ∧ s12 = .slice A2 (cX n t T e.bl k i).length c2 ∧ PRX W2.heap.size wr A1 c1 (oX n t e.bl k i) ∧ PRX W2.heap.size wr A2 c2 (cX n t T e.bl k i) ∧ Apart (.slice A1 (oX n t e.bl k i).length c1) (.slice A2 (cX n t T e.bl k i).length c2) ∧ Below W2.heap.size W2 wr) (fun _ _ i _ _ => e.bl.length - (intOf i).toNat)
  case atStart =>
    exact ⟨0, 0, 0, _, _, Nat.zero_le _, rfl, rfl, rfl, HN3.out, HN2.out, fun o h1 h2 => by
      simp [Value.ownBlock] at h1 h2
      omega, HB4.out⟩
  case round =>
    obtain ⟨i, c1, c2, A1, A2, hi, rfl, rfl, rfl, ho, hc, hap, hb⟩ := hrel
    have hol := oX_len (n := n) (t := t) (l := e.bl) (k := (k : Int)) (i := i)
    have hcl := cX_len (n := n) (t := t) (T := T) (l := e.bl) (k := (k : Int)) (i := i)
    have hwr := hb.size
    have hbw := HB2.out.trans (hb.mono HB2.out.size)
    have y4 := (HE2.out.below hb hqe).cell 4
    by_cases hlt : i < e.bl.length
    · as_aux_lemma =>
      obtain ⟨hxv, hx255⟩ := HOK.out i hlt
      have hsl := (HI2.out.below hb).more hwr
      obtain ⟨b2, o2, rfl, hb2l, hcj⟩ := hsl i hlt
      dsimp only at hcj
      have ho1 := oX_hit (n := n) (t := t) (l := e.bl) (k := (k : Int)) (i := i)
      have ho2 := oX_miss (n := n) (t := t) (l := e.bl) (k := (k : Int)) (i := i)
      have hc1 := cX_hit (n := n) (t := t) (T := T) (l := e.bl) (k := (k : Int)) (i := i)
      have hc2 := cX_miss (n := n) (t := t) (T := T) (l := e.bl) (k := (k : Int)) (i := i)
      unfold oQ at ho1 ho2
      unfold cQ at hc1 hc2
      obtain ⟨xb, hxb⟩ : ∃ xb, (e.bl.getD i 0).toNat = xb := ⟨_, rfl⟩
      rw [hxb] at hxv hx255
      rw [hxv] at hcj ho1 ho2 hc1 hc2
      have hx0 := (HR.out.below hbw hql).cell 0
      have hx3 := (HR.out.below hbw hql).cell 3
      have HHT : Hid (∀ (b : Bool) (hb : hasZ (fun i => T.getD i 0) T.length (xb : Int) = b) (X : Value), X = .slice A3 T.length c3 → Calls Tryd.prog 61 #[X, .int .i64 (xb : Int)] wr.drew fun e w' => e = .returned (.bool b) ∧ wr.drew = w') := Lib.hid (fun b hb X hX => by subst hX; exact l00Has_is (c := c3) (w := wr.drew) (fun i => T.getD i 0) (xb : Int) (HT.out.below (hbw.drew)) (by omega) b hb)
      have HHB : Hid (∀ (b : Bool) (hb : hasZ (fun i => e.bl.getD i 0) i (xb : Int) = b) (X : Value), X = .slice (some ⟨b2, o2, none⟩) i c5 → Calls Tryd.prog 61 #[X, .int .i64 (xb : Int)] wr.drew fun e w' => e = .returned (.bool b) ∧ wr.drew = w') := Lib.hid (fun b hb X hX => by subst hX; exact l00Has_is (c := c5) (w := wr.drew) (fun i => e.bl.getD i 0) (xb : Int) (n := i) (fun j hj => hsl.below (Below.refl _ wr).drew j (by omega)) (by omega) b hb)
      have hod : PRX W2.heap.size wr.drew A1 c1 (oX n t e.bl k i) := ho
      have hcd : PRX W2.heap.size wr.drew A2 c2 (cX n t T e.bl k i) := hc
      have HOD := Lib.hid hod
      have HCD := Lib.hid hcd
      have HAP := Lib.hid hap
      have HB := Lib.hid hb
      have y4d := (HE2.out.below hb.drew hqe).cell 4
      have HTM := Lib.hid (hasZ_mem T (xb : Int))
      have HBM := Lib.hid (hasZ_take e.bl i hi (xb : Int))
      have hci : i ≤ c5 := by omega
      clear hxb hxv hod hcd ho hc hap hsl hb hbw
      by_cases hin : inX n t (xb : Int)
      · have HIN := Lib.hid (show (decide ((t : Int) ≤ (xb : Int)) && decide ((xb : Int) ≤ (n : Int) - 1)) = true by unfold inX at hin; simp; omega)
        have HO := Lib.hid (ho2 (fun q => q hin))
        by_cases hqT : (xb : Int) ∈ T
        · have HC := Lib.hid (hc1 ⟨hin, List.mem_append.2 (.inl hqT)⟩)
          have HHT2 := Lib.hid (HHT.out true (HTM.out.2 hqT))
          have hcd := HCD.out
          unfold PRX at hcd
          have HCX := Lib.hid hcd
          clear ho1 ho2 hc1 hc2 hin hqT hcd
          go_wp2_with fail
          go_region_law (go_simp; go_at_call 57; refine (l00In_any _ _ _ _).mono ?_; rw [HIN.out]; rintro e w' ⟨rfl, rfl⟩)
          all_goals
            go_wp2_with (first
              | (go_at_call 61; refine (HHT2.out _ (by with_reducible rfl)).mono ?_; rintro r w5 ⟨rfl, hw5⟩; rw [← hw5]; clear hw5 w5)
              | (at_builtin; refine wpList_pushO (.tmp 73) (.tmp 77) 35 W2.heap.size 68 (.agg #[.int .i64 0, .int .i64 0, .int .i64 0]) [.int .i64 3, .int .i64 (k : Int), .int .i64 (xb : Int)] 3 24 _ (cX n t T e.bl k i).length _ HCX.out rfl rfl Tryd.underlying35 infoXP rfl (by omega) rfl rfl rfl rfl (by intro u hu; simp at hu; rcases hu with rfl | rfl | rfl <;> rfl) (by omega) (by omega) hwr ?_; intro A4 c4 w4 ho4 hg4 hf4))
            go_roundw
            case rel =>
              have h1 : PRX W2.heap.size w4 A1 c1 (oX n t e.bl k i) := World.ownsRow.kept HOD.out hg4 HAP.out.kept
              exact ⟨i + 1, c1, c4, A1, some A4, by omega, by go_num, by rw [HO.out], by rw [HC.out, List.length_append]; rfl, by rw [HO.out]; exact h1, by rw [HC.out]; exact pRX_snoc ho4, by rw [HO.out, HC.out, List.length_append]; exact (HAP.out.symm.fresh hf4 (own_hi HOD.out)).symm, HB.out.drew.grown hg4 hwr (fun j hj => own_lt HCX.out j hj)⟩
            case measure => simp [intOf]; omega
        · have HHT2 := Lib.hid (HHT.out false (by
            cases hh : hasZ (fun i => T.getD i 0) T.length (xb : Int) with
            | false => rfl
            | true => exact absurd (HTM.out.1 hh) hqT))
          by_cases hqB : (xb : Int) ∈ e.bl.take i
          · have HC := Lib.hid (hc1 ⟨hin, List.mem_append.2 (.inr hqB)⟩)
            have HHB2 := Lib.hid (HHB.out true (HBM.out.2 hqB))
            have hcd := HCD.out
            unfold PRX at hcd
            have HCX := Lib.hid hcd
            clear ho1 ho2 hc1 hc2 hin hqT hqB hcd
            go_wp2_with fail
            go_region_law (go_simp; go_at_call 57; refine (l00In_any _ _ _ _).mono ?_; rw [HIN.out]; rintro e w' ⟨rfl, rfl⟩)
            all_goals
              go_wp2_with (first
                | (go_at_call 61; refine (HHT2.out _ (by with_reducible rfl)).mono ?_; rintro r w5 ⟨rfl, hw5⟩; rw [← hw5]; clear hw5 w5)
                | (go_at_call 61; refine (HHB2.out _ (by with_reducible rfl)).mono ?_; rintro r w5 ⟨rfl, hw5⟩; rw [← hw5]; clear hw5 w5)
                | (at_builtin; refine wpList_pushO (.tmp 73) (.tmp 77) 35 W2.heap.size 68 (.agg #[.int .i64 0, .int .i64 0, .int .i64 0]) [.int .i64 3, .int .i64 (k : Int), .int .i64 (xb : Int)] 3 24 _ (cX n t T e.bl k i).length _ HCX.out rfl rfl Tryd.underlying35 infoXP rfl (by omega) rfl rfl rfl rfl (by intro u hu; simp at hu; rcases hu with rfl | rfl | rfl <;> rfl) (by omega) (by omega) hwr ?_; intro A4 c4 w4 ho4 hg4 hf4))
              go_roundw
              case rel =>
                have h1 : PRX W2.heap.size w4 A1 c1 (oX n t e.bl k i) := World.ownsRow.kept HOD.out hg4 HAP.out.kept
                exact ⟨i + 1, c1, c4, A1, some A4, by omega, by go_num, by rw [HO.out], by rw [HC.out, List.length_append]; rfl, by rw [HO.out]; exact h1, by rw [HC.out]; exact pRX_snoc ho4, by rw [HO.out, HC.out, List.length_append]; exact (HAP.out.symm.fresh hf4 (own_hi HOD.out)).symm, HB.out.drew.grown hg4 hwr (fun j hj => own_lt HCX.out j hj)⟩
              case measure => simp [intOf]; omega
          · have HC := Lib.hid (hc2 (fun h => (List.mem_append.1 h.2).elim hqT hqB))
            have HHB2 := Lib.hid (HHB.out false (by
              cases hh : hasZ (fun i => e.bl.getD i 0) i (xb : Int) with
              | false => rfl
              | true => exact absurd (HBM.out.1 hh) hqB))
            clear ho1 ho2 hc1 hc2 hin hqT hqB
            go_wp2_with fail
            go_region_law (go_simp; go_at_call 57; refine (l00In_any _ _ _ _).mono ?_; rw [HIN.out]; rintro e w' ⟨rfl, rfl⟩)
            all_goals
              go_wp2_with (first
                | (go_at_call 61; refine (HHT2.out _ (by with_reducible rfl)).mono ?_; rintro r w5 ⟨rfl, hw5⟩; rw [← hw5]; clear hw5 w5)
                | (go_at_call 61; refine (HHB2.out _ (by with_reducible rfl)).mono ?_; rintro r w5 ⟨rfl, hw5⟩; rw [← hw5]; clear hw5 w5))
              go_roundw
              case rel => exact ⟨i + 1, c1, c2, A1, A2, by omega, by go_num, by rw [HO.out], by rw [HC.out], by rw [HO.out]; exact HOD.out, by rw [HC.out]; exact HCD.out, by rw [HO.out, HC.out]; exact HAP.out, HB.out.drew⟩
              case measure => simp [intOf]; omega
      · have HIN := Lib.hid (show (decide ((t : Int) ≤ (xb : Int)) && decide ((xb : Int) ≤ (n : Int) - 1)) = false by
          rw [Bool.eq_false_iff]
          intro h
          apply hin
          unfold inX
          simpa using h)
        have HO := Lib.hid (ho1 hin)
        have HC := Lib.hid (hc2 (fun h => hin h.1))
        have hod := HOD.out
        unfold PRX at hod
        have HOX := Lib.hid hod
        clear ho1 ho2 hc1 hc2 hin hod
        go_wp2_with fail
        go_region_law (go_simp; go_at_call 57; refine (l00In_any _ _ _ _).mono ?_; rw [HIN.out]; rintro e w' ⟨rfl, rfl⟩)
        all_goals
          go_wp2_with (first
            | (at_builtin; refine wpList_pushO (.tmp 56) (.tmp 60) 35 W2.heap.size 68 (.agg #[.int .i64 0, .int .i64 0, .int .i64 0]) [.int .i64 2, .int .i64 (k : Int), .int .i64 (xb : Int)] 3 24 _ (oX n t e.bl k i).length _ HOX.out rfl rfl Tryd.underlying35 infoXP rfl (by omega) rfl rfl rfl rfl (by intro u hu; simp at hu; rcases hu with rfl | rfl | rfl <;> rfl) (by omega) (by omega) hwr ?_; intro A4 c4 w4 ho4 hg4 hf4))
          go_roundw
          case rel =>
            have h1 : PRX W2.heap.size w4 A2 c2 (cX n t T e.bl k i) := World.ownsRow.kept HCD.out hg4 HAP.out.symm.kept
            exact ⟨i + 1, c4, c2, some A4, A2, by omega, by go_num, by rw [HO.out, List.length_append]; rfl, by rw [HC.out], by rw [HO.out]; exact pRX_snoc ho4, by rw [HC.out]; exact h1, by rw [HO.out, HC.out, List.length_append]; exact HAP.out.fresh hf4 (own_hi HCD.out), HB.out.drew.grown hg4 hwr (fun j hj => own_lt HOX.out j hj)⟩
          case measure => simp [intOf]; omega
    · obtain rfl : i = e.bl.length := by omega
      have ho' := ho
      unfold PRX at ho'
      have HOX := Lib.hid ho'
      have HCS := Lib.hid hc.sl
      have HB := Lib.hid hb
      obtain ⟨L1, hL1⟩ : ∃ L1, bProbs n t T e.bl k = L1 := ⟨_, rfl⟩
      have hl8 : L1.length ≤ 8 := by have := bProbs_len (n := n) (t := t) (T := T) (l := e.bl) (k := (k : Int)); rw [hL1] at this; omega
      rw [hL1] at HPR
      have hL2 : oX n t e.bl k e.bl.length ++ cX n t T e.bl k e.bl.length = L1 := hL1
      have HL2 := Lib.hid hL2
      clear ho ho' hc hap hb hbw hL1 hL2
      go_upto_region 13 with (at_builtin; refine wpList_appR rfl (.tmp 79) (.tmp 80) 35 rfl W2.heap.size 68 i0 (.agg #[.int .i64 0, .int .i64 0, .int .i64 0]) 3 24 Tryd.underlying35 I0.out I1.out I2.out I3.out rfl (by omega) _ (oX n t e.bl k e.bl.length).length _ (by rfl) HOX.out A2 (cX n t T e.bl k e.bl.length).length c2 wr.heap.size _ (by rfl) HCS.out (fun _ => rfl) (by simp only [maxLen]; omega) (by omega) hwr ?_; intro A7 c7 w7 ho7 hg7 hown7)
      have h7 := pRX_app ho7
      have hb7 := HB.out.grown hg7 hwr (fun j hj => own_lt HOX.out j hj)
      have hll : (oX n t e.bl k e.bl.length).length + (cX n t T e.bl k e.bl.length).length = L1.length := by rw [← HL2.out, List.length_append]
      rw [HL2.out] at h7
      rw [hll]
      have HP7 := Lib.hid h7
      have HB7 := Lib.hid hb7
      have hbw7 := HB2.out.trans (hb7.mono HB2.out.size)
      have HBW7 := Lib.hid hbw7
      have y1 := (HE2.out.below hb7 hqe).cell 1
      clear h7 hb7 ho7 hg7 hown7 hll hbw7 hol hcl y4
      go_upto_region 14 with (go_at_call 34; refine (HUS.out _ HBW7.out).mono ?_; rintro r w8 ⟨A8, c8, rfl, hna, hb8⟩)
      have hb28 := HB7.out.trans (hb8.mono HB7.out.size)
      have hP8 := HP7.out.below hb8
      have hbw8 := HBW7.out.trans (hb8.mono HBW7.out.size)
      have HNA := Lib.hid hna
      have HP8 := Lib.hid hP8
      have HB28 := Lib.hid hb28
      have HBW8 := Lib.hid hbw8
      have hz8' := hb28.size
      have y2 := (HE2.out.below hb28 hqe).cell 2
      clear hna hP8 hbw8 hb8 y1 hb28
      go_wp2_with fail
      go_loopw [16, 17, 18, 19, 20, 21] (fun s16 s17 s18 s19 s20 s21 wr => ∃ (i : Nat) (v1 v2 v3 : Bool), i ≤ l.length ∧ s19 = .int .i64 i ∧ s16 = .bool v1 ∧ s17 = .bool v2 ∧ s18 = .bool v3 ∧ (v1 = true ↔ ∃ i', i' < i ∧ l.getD i' 0 < k ∧ (xen z (joinU z s) (l.getD i' 0)).no = e.no) ∧ (v2 = true ↔ e.no = 0 ∨ ∃ i', i' < i ∧ (xen z (joinU z s) (l.getD i' 0)).no = e.no - 1) ∧ (v3 = true ↔ ∃ i', i' < i ∧ e.no < (xen z (joinU z s) (l.getD i' 0)).no) ∧ Below w8.heap.size w8 wr) (fun _ _ _ i _ _ _ => l.length - (intOf i).toNat)
      case atStart => exact ⟨0, false, (e.no == 0), false, Nat.zero_le _, rfl, rfl, rfl, rfl, ⟨fun h => by (cases h), fun ⟨i', h, _⟩ => absurd h (by omega)⟩, by simp, ⟨fun h => by (cases h), fun ⟨i', h, _⟩ => absurd h (by omega)⟩, Below.refl _ _⟩
      case round =>
        obtain ⟨i, v1, v2, v3, hi, rfl, rfl, rfl, rfl, hv1, hv2, hv3, hb⟩ := hrel
        have hwr9 := hb.size
        have hbw9 := HBW8.out.trans (hb.mono HBW8.out.size)
        have hqe8 : qe < w8.heap.size := by omega
        have HV1 := Lib.hid hv1
        have HV2 := Lib.hid hv2
        have HV3 := Lib.hid hv3
        have HB := Lib.hid hb
        clear hv1 hv2 hv3
        by_cases hlt : i < l.length
        · as_aux_lemma =>
          obtain ⟨hkE, hsto⟩ := HME.out i hlt
          have hfit := HF.out _ hkE
          obtain ⟨b2, o2, rfl, hb2l, hcj⟩ := (HNA.out.below hb).sl i hlt
          dsimp only at hcj
          obtain ⟨j, hj⟩ : ∃ j, l.getD i 0 = j := ⟨_, rfl⟩
          rw [hj] at hcj hkE hfit hsto
          have hgd : xGood z (xby z (joinU z s) j) := xen_used (by rw [hsto]; decide)
          have HEG2 := Lib.hid ((specEntryX_any (c := c) ((HS.out.below hbw9).more hbw9.size) HSZ.out (HR.out.below hbw9 hql) hz8 hz32 hn hfit).mono fun r w' q => xEnt_good (v := xby z (joinU z s) j) q hgd)
          have hook := xen_ok z (joinU z s) j
          obtain ⟨o, ho⟩ : ∃ o, o = xen z (joinU z s) j := ⟨_, rfl⟩
          have hgx : xent z (xby z (joinU z s) j) = o := ho.symm
          rw [hgx] at HEG2
          unfold XE.val at HEG2
          have HJ := Lib.hid hj
          have HOE := Lib.hid ho
          have hw2 : IntKind.i64.wrap (e.no - 1) = e.no - 1 := by rw [IntKind.wrap_i64]; omega
          have hN1 : ∀ v : Bool, (v = true ↔ (v1 = true ∨ (j < k ∧ o.no = e.no))) → (v = true ↔ ∃ i', i' < i + 1 ∧ l.getD i' 0 < k ∧ (xen z (joinU z s) (l.getD i' 0)).no = e.no) := fun v h => by
            rw [h, HV1.out]
            constructor
            · rintro (⟨i', h1, h2⟩ | h1)
              · exact ⟨i', by omega, h2⟩
              · exact ⟨i, by omega, by rw [HJ.out, ← HOE.out]; exact h1⟩
            · rintro ⟨i', h1, h2⟩
              rcases Nat.lt_succ_iff_lt_or_eq.1 h1 with h3 | rfl
              · exact .inl ⟨i', h3, h2⟩
              · rw [HJ.out, ← HOE.out] at h2; exact .inr h2
          have hN2 : ∀ v : Bool, (v = true ↔ (v2 = true ∨ o.no = e.no - 1)) → (v = true ↔ e.no = 0 ∨ ∃ i', i' < i + 1 ∧ (xen z (joinU z s) (l.getD i' 0)).no = e.no - 1) := fun v h => by
            rw [h, HV2.out]
            constructor
            · rintro ((h0 | ⟨i', h1, h2⟩) | h1)
              · exact .inl h0
              · exact .inr ⟨i', by omega, h2⟩
              · exact .inr ⟨i, by omega, by rw [HJ.out, ← HOE.out]; exact h1⟩
            · rintro (h0 | ⟨i', h1, h2⟩)
              · exact .inl (.inl h0)
              · rcases Nat.lt_succ_iff_lt_or_eq.1 h1 with h3 | rfl
                · exact .inl (.inr ⟨i', h3, h2⟩)
                · rw [HJ.out, ← HOE.out] at h2; exact .inr h2
          have hN3 : ∀ v : Bool, (v = true ↔ (v3 = true ∨ e.no < o.no)) → (v = true ↔ ∃ i', i' < i + 1 ∧ e.no < (xen z (joinU z s) (l.getD i' 0)).no) := fun v h => by
            rw [h, HV3.out]
            constructor
            · rintro (⟨i', h1, h2⟩ | h1)
              · exact ⟨i', by omega, h2⟩
              · exact ⟨i, by omega, by rw [HJ.out, ← HOE.out]; exact h1⟩
            · rintro ⟨i', h1, h2⟩
              rcases Nat.lt_succ_iff_lt_or_eq.1 h1 with h3 | rfl
              · exact .inl ⟨i', h3, h2⟩
              · rw [HJ.out, ← HOE.out] at h2; exact .inr h2
          have HN1 := Lib.hid hN1
          have HN2 := Lib.hid hN2
          have HN3 := Lib.hid hN3
          clear hN1 hN2 hN3 hj ho hgx hgd hsto hook hfit
          go_upto_region 21 with (go_at_call 36; refine HEG2.out.mono ?_; rintro r w5 ⟨A6, c6, rfl, hi6, hb6⟩)
          have hal := hb6.alloc hb6.size (.cells #[.int .i64 o.st, .string o.nm, .int .i64 o.no, .int .i64 o.tl, .slice A6 o.bl.length c6] 56)
          have hbn := hb.trans (hal.mono hwr9)
          have ho2 := (Rw.new w5 56 #[.int .i64 o.st, .string o.nm, .int .i64 o.no, .int .i64 o.tl, .slice A6 o.bl.length c6]).cell 2
          have hcj5 := (hal.cell (p := ⟨b2, o2 + i, none⟩) hb2l).trans hcj
          have he2' := ((HE2.out.below HB28.out hqe).below hbn hqe8).cell 2
          generalize w5.alloc (.cells #[.int .i64 o.st, .string o.nm, .int .i64 o.no, .int .i64 o.tl, .slice A6 o.bl.length c6] 56) = W6 at *
          have HBN := Lib.hid hbn
          clear hal hbn hi6 hb6 hcj hb
          have hcase1 : ∃ u1 : Bool, (u1 = true ↔ (v1 = true ∨ (j < k ∧ o.no = e.no))) ∧ ((v1 = true ∧ u1 = true) ∨ (v1 = false ∧ decide ((j : Int) < (k : Int)) = true ∧ ((j : Int) < (k : Int)) ∧ (o.no == e.no) = u1) ∨ (v1 = false ∧ decide ((j : Int) < (k : Int)) = false ∧ (k : Int) ≤ (j : Int) ∧ u1 = false)) := by
            cases v1 with
            | true => exact ⟨true, by simp, .inl ⟨rfl, rfl⟩⟩
            | false =>
              by_cases h : j < k
              · exact ⟨(o.no == e.no), by simp [h], .inr (.inl ⟨rfl, by simp; omega, by omega, rfl⟩)⟩
              · exact ⟨false, by simp [h], .inr (.inr ⟨rfl, by simp; omega, by omega, rfl⟩)⟩
          have hcase2 : ∃ u2 : Bool, (u2 = true ↔ (v2 = true ∨ o.no = e.no - 1)) ∧ ((v2 = true ∧ u2 = true) ∨ (v2 = false ∧ (o.no == e.no - 1) = u2)) := by
            cases v2 with
            | true => exact ⟨true, by simp, .inl ⟨rfl, rfl⟩⟩
            | false => exact ⟨(o.no == e.no - 1), by simp, .inr ⟨rfl, rfl⟩⟩
          have hcase3 : ∃ u3 : Bool, (u3 = true ↔ (v3 = true ∨ e.no < o.no)) ∧ ((v3 = true ∧ u3 = true) ∨ (v3 = false ∧ decide (e.no < o.no) = u3)) := by
            cases v3 with
            | true => exact ⟨true, by simp, .inl ⟨rfl, rfl⟩⟩
            | false => exact ⟨decide (e.no < o.no), by simp, .inr ⟨rfl, rfl⟩⟩
          obtain ⟨u1, hu1, hc1⟩ := hcase1
          obtain ⟨u2, hu2, hc2⟩ := hcase2
          obtain ⟨u3, hu3, hc3⟩ := hcase3
          have HU1 := Lib.hid (HN1.out u1 hu1)
          have HU2 := Lib.hid (HN2.out u2 hu2)
          have HU3 := Lib.hid (HN3.out u3 hu3)
          clear hu1 hu2 hu3 HN1 HN2 HN3 HV1 HV2 HV3
          rcases hc1 with ⟨rfl, rfl⟩ | ⟨rfl, d1, d1', d2⟩ | ⟨rfl, d1, d1', rfl⟩ <;> rcases hc2 with ⟨rfl, rfl⟩ | ⟨rfl, d3⟩ <;> rcases hc3 with ⟨rfl, rfl⟩ | ⟨rfl, d4⟩
          all_goals
            go_wp2_with fail
            go_roundw
            case rel => exact ⟨i + 1, _, _, _, by omega, by go_num, rfl, rfl, rfl, HU1.out, HU2.out, HU3.out, HBN.out⟩
            case measure => simp [intOf]; omega
        · obtain rfl : i = l.length := by omega
          have hQ1 : badNoX e.no k (fun j => (xen z (joinU z s) j).no) l ↔ (v1 = true ∨ v2 = false) := by
            unfold badNoX
            rw [HV1.out, ← Bool.not_eq_true, HV2.out]
          have hmo : moreX e.no (fun j => (xen z (joinU z s) j).no) l ↔ v3 = true := HV3.out.symm
          have hQ2 : badLenX e.bl.length e.no e.tl z (moreX e.no (fun j => (xen z (joinU z s) j).no) l) ↔ ((e.bl.length = 0 ∧ (e.no ≠ 0 ∨ e.tl ≠ 0)) ∨ (0 < e.bl.length ∧ e.tl = 0) ∨ (¬ (e.bl.length = 4 ∧ e.tl = z) ∧ v3 = true)) := by
            unfold badLenX
            rw [hmo]
          have hbr := HB28.out.trans (hb.mono hz8')
          have hPr : PRX W2.heap.size wr A7 c7 L1 := HP8.out.below hb
          generalize badNoX e.no k (fun j => (xen z (joinU z s) j).no) l = Q1 at *
          generalize badLenX e.bl.length e.no e.tl z (moreX e.no (fun j => (xen z (joinU z s) j).no) l) = Q2 at *
          have HQ1 := Lib.hid hQ1
          have HQ2 := Lib.hid hQ2
          have HBR := Lib.hid hbr
          have HPK := Lib.hid hPr
          unfold PRX at hPr
          have HPr := Lib.hid hPr
          have hzr := hbr.size
          clear hQ1 hQ2 hmo hbr hPr hb hbw9 HV1 HV2 HV3 HI2 HOK HUS HNA HB HP8
          go_upto_region 24 with fail
          go_cut [143] (fun s143 wx => ∃ vb : Bool, s143 = .bool vb ∧ (vb = true ↔ (v1 = true ∨ v2 = false)) ∧ wx = wr)
          case first =>
            have hc : v1 = true ∨ (v1 = false ∧ v2 = false) ∨ (v1 = false ∧ v2 = true) := by cases v1 <;> cases v2 <;> simp
            rcases hc with rfl | ⟨rfl, rfl⟩ | ⟨rfl, rfl⟩
            · go_wp2_with fail
              go_meet
              exact ⟨true, rfl, by simp, rfl⟩
            · go_wp2_with fail
              go_meet
              exact ⟨true, rfl, by simp, rfl⟩
            · go_wp2_with fail
              go_meet
              exact ⟨false, rfl, by simp, rfl⟩
          case rest =>
          as_aux_lemma =>
          obtain ⟨vb, rfl, hvb, hwc⟩ := hcut
          subst hwc
          have HQB := Lib.hid (hvb.trans HQ1.out.symm)
          clear hvb
          go_upto_if 143 with fail
          go_cut [11] (fun s11 wx => ∃ A c, s11 = .slice A (L1 ++ nProb Q1 4 k).length c ∧ PRX W2.heap.size wx A c (L1 ++ nProb Q1 4 k) ∧ Below W2.heap.size W2 wx)
          case first =>
            cases vb with
            | true =>
              have HQ := Lib.hid (nProb_yes (x := 4) (k := (k : Int)) (HQB.out.1 rfl))
              go_wp2_with (at_builtin; refine wpList_pushO (.tmp 144) (.tmp 147) 35 W2.heap.size 68 (.agg #[.int .i64 0, .int .i64 0, .int .i64 0]) [.int .i64 4, .int .i64 (k : Int), .int .i64 0] 3 24 _ L1.length _ HPr.out rfl rfl Tryd.underlying35 infoXP rfl (by omega) rfl rfl rfl rfl (by intro u hu; simp at hu; rcases hu with rfl | rfl | rfl <;> rfl) (by omega) (by omega) hzr ?_; intro A4 c4 w4 ho4 hg4 hf4)
              go_meet
              rw [HQ.out]
              exact ⟨some A4, c4, by rw [List.length_append]; rfl, pRX_snoc ho4, HBR.out.grown hg4 hzr (fun j hj => own_lt HPr.out j hj)⟩
            | false =>
              have HQ := Lib.hid (nProb_no (x := 4) (k := (k : Int)) (fun h => by have := HQB.out.2 h; cases this))
              go_wp2_with fail
              go_meet
              rw [HQ.out, List.append_nil]
              exact ⟨A7, c7, rfl, HPK.out, HBR.out⟩
          case rest =>
          as_aux_lemma =>
            obtain ⟨A9, c9, rfl, hp9, hb9⟩ := hcut
            have hl2 : (L1 ++ nProb Q1 4 (k : Int)).length ≤ 9 := by
              rw [List.length_append]
              have := nProb_len (Q := Q1) (x := 4) (k := (k : Int))
              omega
            have hz9q := hb9.size
            have HRE9 := HE2.out.below hb9 hqe
            have y2 := HRE9.cell 2
            have y3 := HRE9.cell 3
            have y4 := HRE9.cell 4
            have x1 := (HR.out.below (HB2.out.trans (hb9.mono HB2.out.size)) hql).cell 1
            have hb9d := fun nq => hb9.drewN nq
            generalize L1 ++ nProb Q1 4 (k : Int) = L2 at *
            have HP9' : Hid (∀ nq, (wc.drewN nq).ownsRow W2.heap.size 68 3 (.slice A9 L2.length c9) L2.length (cellsP L2)) := Lib.hid (fun nq => hp9)
            clear hp9 hb9 HRE9
            obtain ⟨m, hm⟩ : ∃ m, m = e.bl.length := ⟨_, rfl⟩
            rw [← hm] at y4 HQ2 hbl4
            have HM := Lib.hid hm
            clear hm
            cases v3 with
            | true =>
              by_cases h4 : m = 4
              · subst h4
                by_cases ht : e.tl = (z : Int)
                · have e1 : (e.tl != (z : Int)) = false := by simp [ht]
                  have e1' : (e.tl = (z : Int)) = True := by simp [ht]
                  have e2 : (e.tl == 0) = false := by simp; omega
                  have e2' : (e.tl = 0) = False := by simp; omega
                  have HQ := Lib.hid (nProb_no (x := 5) (k := (k : Int)) (fun h => by have := HQ2.out.1 h; simp at this; omega))
                  clear ht
                  go_wp2_with fail
                  go_quiet ((fail))
                  rename_i nq
                  go_wp2_with fail
                  go_ret
                  rw [← HPR.out, HQ.out, List.append_nil]
                  exact ⟨A9, c9, rfl, PRX.base (HP9'.out nq) HB2.out.size, HB2.out.trans ((hb9d nq).mono HB2.out.size)⟩
                · have e1 : (e.tl != (z : Int)) = true := by simp [ht]
                  have e1' : (e.tl = (z : Int)) = False := by simp [ht]
                  have HQ := Lib.hid (nProb_yes (x := 5) (k := (k : Int)) (HQ2.out.2 (by simp [ht])))
                  clear ht
                  go_wp2_with fail
                  go_quiet ((fail))
                  rename_i nq
                  have hz9n : W2.heap.size ≤ (wc.drewN nq).heap.size := hz9q
                  have HP9 := Lib.hid (HP9'.out nq)
                  go_wp2_with (at_builtin; refine wpList_pushO (.tmp 189) (.tmp 192) 35 W2.heap.size 68 (.agg #[.int .i64 0, .int .i64 0, .int .i64 0]) [.int .i64 5, .int .i64 (k : Int), .int .i64 0] 3 24 _ L2.length _ HP9.out rfl rfl Tryd.underlying35 infoXP rfl (by omega) rfl rfl rfl rfl (by intro u hu; simp at hu; rcases hu with rfl | rfl | rfl <;> rfl) (by omega) (by omega) hz9n ?_; intro A4 c4 w4 ho4 hg4 hf4)
                  go_ret
                  have h5 := pRX_snoc ho4
                  rw [← HPR.out, HQ.out]
                  exact ⟨some A4, c4, by rw [List.length_append]; rfl, h5.base HB2.out.size, HB2.out.trans (((hb9d nq).grown hg4 hz9n (fun j hj => own_lt HP9.out j hj)).mono HB2.out.size)⟩
              · have d1 : decide ((m : Int) < 4) = true := by simp; omega
                have d1' : (m : Int) < 4 := by omega
                have HQ := Lib.hid (nProb_yes (x := 5) (k := (k : Int)) (HQ2.out.2 (by simp [h4])))
                clear h4
                go_wp2_with fail
                go_quiet ((fail))
                rename_i nq
                have hz9n : W2.heap.size ≤ (wc.drewN nq).heap.size := hz9q
                have HP9 := Lib.hid (HP9'.out nq)
                go_wp2_with (at_builtin; refine wpList_pushO (.tmp 189) (.tmp 192) 35 W2.heap.size 68 (.agg #[.int .i64 0, .int .i64 0, .int .i64 0]) [.int .i64 5, .int .i64 (k : Int), .int .i64 0] 3 24 _ L2.length _ HP9.out rfl rfl Tryd.underlying35 infoXP rfl (by omega) rfl rfl rfl rfl (by intro u hu; simp at hu; rcases hu with rfl | rfl | rfl <;> rfl) (by omega) (by omega) hz9n ?_; intro A4 c4 w4 ho4 hg4 hf4)
                go_ret
                have h5 := pRX_snoc ho4
                rw [← HPR.out, HQ.out]
                exact ⟨some A4, c4, by rw [List.length_append]; rfl, h5.base HB2.out.size, HB2.out.trans (((hb9d nq).grown hg4 hz9n (fun j hj => own_lt HP9.out j hj)).mono HB2.out.size)⟩
            | false =>
              by_cases h0 : m = 0
              · subst h0
                by_cases hn0 : e.no = 0
                · have e1 : (e.no != 0) = false := by simp [hn0]
                  have e1' : (e.no = 0) = True := by simp [hn0]
                  by_cases ht : e.tl = 0
                  · have e2 : (e.tl != 0) = false := by simp [ht]
                    have e2' : (e.tl = 0) = True := by simp [ht]
                    have HQ := Lib.hid (nProb_no (x := 5) (k := (k : Int)) (fun h => by have := HQ2.out.1 h; simp [hn0, ht] at this))
                    clear hn0 ht
                    go_wp2_with fail
                    go_quiet ((fail))
                    rename_i nq
                    go_wp2_with fail
                    go_ret
                    rw [← HPR.out, HQ.out, List.append_nil]
                    exact ⟨A9, c9, rfl, PRX.base (HP9'.out nq) HB2.out.size, HB2.out.trans ((hb9d nq).mono HB2.out.size)⟩
                  · have e2 : (e.tl != 0) = true := by simp [ht]
                    have e2' : (e.tl = 0) = False := by simp [ht]
                    have HQ := Lib.hid (nProb_yes (x := 5) (k := (k : Int)) (HQ2.out.2 (by simp [ht])))
                    clear hn0 ht
                    go_wp2_with fail
                    go_quiet ((fail))
                    rename_i nq
                    have hz9n : W2.heap.size ≤ (wc.drewN nq).heap.size := hz9q
                    have HP9 := Lib.hid (HP9'.out nq)
                    go_wp2_with (at_builtin; refine wpList_pushO (.tmp 189) (.tmp 192) 35 W2.heap.size 68 (.agg #[.int .i64 0, .int .i64 0, .int .i64 0]) [.int .i64 5, .int .i64 (k : Int), .int .i64 0] 3 24 _ L2.length _ HP9.out rfl rfl Tryd.underlying35 infoXP rfl (by omega) rfl rfl rfl rfl (by intro u hu; simp at hu; rcases hu with rfl | rfl | rfl <;> rfl) (by omega) (by omega) hz9n ?_; intro A4 c4 w4 ho4 hg4 hf4)
                    go_ret
                    have h5 := pRX_snoc ho4
                    rw [← HPR.out, HQ.out]
                    exact ⟨some A4, c4, by rw [List.length_append]; rfl, h5.base HB2.out.size, HB2.out.trans (((hb9d nq).grown hg4 hz9n (fun j hj => own_lt HP9.out j hj)).mono HB2.out.size)⟩
                · have e1 : (e.no != 0) = true := by simp [hn0]
                  have e1' : (e.no = 0) = False := by simp [hn0]
                  have HQ := Lib.hid (nProb_yes (x := 5) (k := (k : Int)) (HQ2.out.2 (by simp [hn0])))
                  clear hn0
                  go_wp2_with fail
                  go_quiet ((fail))
                  rename_i nq
                  have hz9n : W2.heap.size ≤ (wc.drewN nq).heap.size := hz9q
                  have HP9 := Lib.hid (HP9'.out nq)
                  go_wp2_with (at_builtin; refine wpList_pushO (.tmp 189) (.tmp 192) 35 W2.heap.size 68 (.agg #[.int .i64 0, .int .i64 0, .int .i64 0]) [.int .i64 5, .int .i64 (k : Int), .int .i64 0] 3 24 _ L2.length _ HP9.out rfl rfl Tryd.underlying35 infoXP rfl (by omega) rfl rfl rfl rfl (by intro u hu; simp at hu; rcases hu with rfl | rfl | rfl <;> rfl) (by omega) (by omega) hz9n ?_; intro A4 c4 w4 ho4 hg4 hf4)
                  go_ret
                  have h5 := pRX_snoc ho4
                  rw [← HPR.out, HQ.out]
                  exact ⟨some A4, c4, by rw [List.length_append]; rfl, h5.base HB2.out.size, HB2.out.trans (((hb9d nq).grown hg4 hz9n (fun j hj => own_lt HP9.out j hj)).mono HB2.out.size)⟩
              · have m1 := nz1 h0
                have m1' := nz2 h0
                have m2 := nz3 h0
                have m3 := nz4 h0
                have k1 : 0 < m := Nat.pos_of_ne_zero h0
                have k2 : (m == 0) = false := beq_false_of_ne h0
                have k3 : decide (0 < m) = true := decide_eq_true k1
                by_cases ht : e.tl = 0
                · rw [ht] at y3
                  have HQ := Lib.hid (nProb_yes (x := 5) (k := (k : Int)) (q2_tl0 HQ2.out h0 ht))
                  clear ht
                  go_wp2_with fail
                  go_quiet ((fail))
                  rename_i nq
                  have hz9n : W2.heap.size ≤ (wc.drewN nq).heap.size := hz9q
                  have HP9 := Lib.hid (HP9'.out nq)
                  go_wp2_with (at_builtin; refine wpList_pushO (.tmp 189) (.tmp 192) 35 W2.heap.size 68 (.agg #[.int .i64 0, .int .i64 0, .int .i64 0]) [.int .i64 5, .int .i64 (k : Int), .int .i64 0] 3 24 _ L2.length _ HP9.out rfl rfl Tryd.underlying35 infoXP rfl (by omega) rfl rfl rfl rfl (by intro u hu; simp at hu; rcases hu with rfl | rfl | rfl <;> rfl) (by omega) (by omega) hz9n ?_; intro A4 c4 w4 ho4 hg4 hf4)
                  go_ret
                  have h5 := pRX_snoc ho4
                  rw [← HPR.out, HQ.out]
                  exact ⟨some A4, c4, by rw [List.length_append]; rfl, h5.base HB2.out.size, HB2.out.trans (((hb9d nq).grown hg4 hz9n (fun j hj => own_lt HP9.out j hj)).mono HB2.out.size)⟩
                · have e2 : (e.tl == 0) = false := by simp [ht]
                  have e2' : (e.tl = 0) = False := by simp [ht]
                  have HQ := Lib.hid (nProb_no (x := 5) (k := (k : Int)) (q2_none HQ2.out h0 ht))
                  clear ht
                  go_wp2_with fail
                  go_quiet ((fail))
                  rename_i nq
                  go_wp2_with fail
                  go_ret
                  rw [← HPR.out, HQ.out, List.append_nil]
                  exact ⟨A9, c9, rfl, PRX.base (HP9'.out nq) HB2.out.size, HB2.out.trans ((hb9d nq).mono HB2.out.size)⟩
end Go.Proofs.YtmgcaiilocifbaaDoor
