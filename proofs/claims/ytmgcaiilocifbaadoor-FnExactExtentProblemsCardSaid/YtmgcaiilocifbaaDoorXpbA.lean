/-
  ExtentProblems: both sides.
-/
import Derived.Test.YtmgcaiilocifbaaDoorXpbI
import Derived.Test.YtmgcaiilocifbaaDoorXpbS
import Derived.Deep.DeepCutAuto
namespace Go.Proofs.YtmgcaiilocifbaaDoor
open Go Go.ChangeShapes Go.WideShapes Go.ChangeAt Go.RowKit lib
set_option linter.unusedVariables false
set_option linter.unusedSimpArgs false
set_option maxRecDepth 100000
theorem implPbTop_bad {w : World} {n c : Nat} {A : Option Addr} {s : Nat → ByteArray} (hs : Sl w w.heap.size A n (fun i => .string (s i))) (hsz : ∀ i, i < n → (s i).size ≤ 9223372036854775807) (hn : n ≤ c) (hn2 : n ≤ 9223372036854775807) (ho : ¬ opensX n s) :
    Calls Tryd.prog 21 #[.slice A n c] w fun r w' => r = .returned (.tuple #[.slice none 0 0, .int .i64 7]) ∧ Below w.heap.size w w' := by
  have HO := Lib.hid (implOpenX hs hsz hn hn2)
  have HOP := Lib.hid ho
  clear ho hs hsz
  go_enter Tryd.func21, Tryd.ntmps21
  go_wp2_with (go_at_call 31; refine HO.out.mono ?_; rintro r w1 ⟨_, h1⟩; obtain ⟨rfl, hb1⟩ := h1 HOP.out)
  go_ret2
  exact ⟨rfl, hb1⟩
theorem specPbTop_bad {w : World} {n c : Nat} {A : Option Addr} {s : Nat → ByteArray} (hs : Sl w w.heap.size A n (fun i => .string (s i))) (hsz : ∀ i, i < n → (s i).size ≤ 9223372036854775807) (hn : n ≤ c) (hn2 : n ≤ 9223372036854775807) (ho : ¬ opensX n s) :
    Calls Tryd.prog 20 #[.slice A n c] w fun r w' => r = .returned (.tuple #[.slice none 0 0, .int .i64 7]) ∧ Below w.heap.size w w' := by
  have HO := Lib.hid (specOpenX (c := c) hs hsz)
  have HOP := Lib.hid ho
  clear ho hs hsz
  go_enter Tryd.func20, Tryd.ntmps20
  go_wp2_with (go_at_call 29; refine HO.out.mono ?_; rintro r w1 ⟨_, h1⟩; obtain ⟨rfl, hb1⟩ := h1 HOP.out; unfold layX)
  go_ret2
  exact ⟨rfl, hb1.alloc hb1.size _⟩
set_option maxHeartbeats 8000000 in
theorem specPbTop_ok {w : World} {n c : Nat} {A : Option Addr} {s : Nat → ByteArray} (hs : Sl w w.heap.size A n (fun i => .string (s i))) (hsz : ∀ i, i < n → (s i).size ≤ 9223372036854775807) (hn : n ≤ c) (hn2 : n ≤ 9223372036854775807) (ho : opensX n s) :
    Calls Tryd.prog 20 #[.slice A n c] w fun r w' => ∃ A2 c2, r = .returned (.tuple #[.slice A2 (probsX n s).length c2, .int .i64 0]) ∧ PRX w.heap.size w' A2 c2 (probsX n s) ∧ Below w.heap.size w w' := by
  have HO := Lib.hid (specOpenX (c := c) hs hsz)
  obtain ⟨f1, f2, f3, f4, f5, f6, f7, f8, f9⟩ := shapeX ho
  have hd := (layX_data f1).1
  unfold probsX
  obtain ⟨z, hz⟩ : ∃ z, (s 0).size = z := ⟨_, rfl⟩
  rw [hz] at f2 f3 f6 f8 f9 hd ⊢
  obtain ⟨t, ht⟩ : ∃ t, dataX n z = t := ⟨_, rfl⟩
  obtain ⟨E, hE⟩ : ∃ E, entsX n = E := ⟨_, rfl⟩
  rw [hE] at f7 f8
  rw [ht] at hd
  rw [ht, hE]
  have HZ := Lib.hid hz
  have HTT := Lib.hid ht
  have HEE := Lib.hid hE
  have HOP := Lib.hid ho
  have HF8 := Lib.hid f8
  have HF9 := Lib.hid f9
  have HS := Lib.hid hs
  obtain ⟨i0, hi0, hi1, hi2, hi3⟩ := info_parts infoXP
  have I0 := Lib.hid hi0
  have I1 := Lib.hid hi1
  have I2 := Lib.hid hi2
  have I3 := Lib.hid hi3
  obtain ⟨j0, hj0, hj1, hj2, hj3⟩ := info_parts infoIX
  have J0 := Lib.hid hj0
  have J1 := Lib.hid hj1
  have J2 := Lib.hid hj2
  have J3 := Lib.hid hj3
  clear ho hs hsz hz ht hE f1 f8 f9 hi0 hi1 hi2 hi3 hj0 hj1 hj2 hj3
  go_enter Tryd.func20, Tryd.ntmps20
  go_upto_region 4 with (go_at_call 29; refine HO.out.mono ?_; rintro r w1 ⟨h1, _⟩; obtain ⟨rfl, hb1⟩ := h1 HOP.out; rw [HZ.out]; unfold layX; rw [HTT.out, HEE.out])
  have hR2 := Rw.new w1 44 #[.int .i64 n, .int .i64 z, .int .i64 E, .int .i64 t]
  have hB2 := hb1.alloc hb1.size (.cells #[.int .i64 n, .int .i64 z, .int .i64 E, .int .i64 t] 44)
  obtain ⟨q, hq⟩ : ∃ q, w1.heap.size = q := ⟨_, rfl⟩
  rw [hq] at hR2 ⊢
  generalize w1.alloc (.cells #[.int .i64 n, .int .i64 z, .int .i64 E, .int .i64 t] 44) = w2 at *
  have hqw : w.heap.size ≤ q := by have := hb1.size; omega
  have hql2 := hR2.lt
  have HR2 := Lib.hid hR2
  have HB2 := Lib.hid hB2
  clear hR2 hB2 hb1 hq
  have hB3 := (Below.refl w2.heap.size w2).alloc (Nat.le_refl _) (.cells #[] 68)
  have hN1 := own_nilE w2 68 3 w2.heap.size (Nat.le_refl _)
  have hs3 : (w2.alloc (.cells #[] 68)).heap.size = w2.heap.size + 1 := World.size_alloc _ _
  go_upto_region 5 with fail
  generalize w2.alloc (.cells #[] 68) = w3 at *
  have hN2 := own_nilE w3 2 1 w2.heap.size hB3.size
  have hB4 := hB3.alloc hB3.size (.cells #[] 2)
  have hN3 := own_below hN1 ((Below.refl w3.heap.size w3).alloc (Nat.le_refl _) (.cells #[] 2))
  go_upto_region 6 with fail
  generalize w3.alloc (.cells #[] 2) = w4 at *
  rw [hs3] at hN2
  have HN2 := Lib.hid hN2
  have HN3 := Lib.hid hN3
  have HB4 := Lib.hid hB4
  clear hN1 hN2 hN3 hB3 hB4 hs3
  go_wp2_with fail
  go_loopw [6, 7, 8, 9, 10] (fun s6 s7 s8 s9 s10 wr => ∃ (k c1 c2 : Nat) (A1 A2 : Option Addr), k ≤ E ∧ s8 = .int .i64 k ∧ s6 = .slice A1 (allP n t z (joinU z s) E k).length c1 ∧ s7 = .slice A2 (blsX z (joinU z s) (picks (isUsed z (joinU z s)) k)).length c2 ∧ PRX w2.heap.size wr A1 c1 (allP n t z (joinU z s) E k) ∧ IntR w2.heap.size wr A2 c2 (blsX z (joinU z s) (picks (isUsed z (joinU z s)) k)) ∧ Below w2.heap.size w2 wr) (fun _ _ i _ _ _ => E - (intOf i).toNat)
  case atStart => exact ⟨0, 0, 0, _, _, Nat.zero_le _, rfl, rfl, rfl, HN3.out, HN2.out, HB4.out⟩
  case round =>
    obtain ⟨k, c1, c2, A1, A2, hk, rfl, rfl, rfl, hpr, hir, hb⟩ := hrel
    have hwr := hb.size
    have hal := allP_len (n := n) (t := t) (z := z) (E := E) (U := joinU z s) k
    have hbl := blsX_len z (joinU z s) (picks (isUsed z (joinU z s)) k)
    have hpk := picks_len (isUsed z (joinU z s)) k
    have hbw := HB2.out.trans (hb.mono HB2.out.size)
    have hRr := HR2.out.below hb hql2
    have x2 := hRr.cell 2
    by_cases hlt : k < E
    · have HSr := Lib.hid ((HS.out.below hbw).more hbw.size)
      have HRr := Lib.hid hRr
      have HEN := Lib.hid (specEntryX_any (c := c) HSr.out HF9.out hRr f2 f3 f4 (HF8.out k hlt))
      have HSN : Hid (allP n t z (joinU z s) E (k + 1) = allP n t z (joinU z s) E k ++ entP n t z (joinU z s) E k) := Lib.hid rfl
      have hpr' := hpr
      unfold PRX at hpr'
      have hir' := hir
      unfold IntR at hir'
      have HPR := Lib.hid hpr
      have HPX := Lib.hid hpr'
      have HIR := Lib.hid hir
      have HIX := Lib.hid hir'
      have HB := Lib.hid hb
      clear hpr hpr' hir hir' hb hbw hRr
      by_cases hg : xGood z (xby z (joinU z s) k)
      · have HEG := Lib.hid (HEN.out.mono fun r w' q => xEnt_good (v := xby z (joinU z s) k) q hg)
        obtain ⟨e, he⟩ : ∃ e, e = xen z (joinU z s) k := ⟨_, rfl⟩
        have hgx : xent z (xby z (joinU z s) k) = e := he.symm
        rw [hgx] at HEG
        unfold XE.val at HEG
        have HE := Lib.hid he
        clear HEN hgx
        by_cases hu : isUsed z (joinU z s) k
        · have hst : e.st = 1 := by rw [he]; exact hu
          have hl4 := XE.ok_len (xen_ok z (joinU z s) k)
          rw [← he] at hl4
          have hsn2 : allP n t z (joinU z s) E (k + 1) = allP n t z (joinU z s) E k ++ eProbs n t z (joinU z s) E (blsX z (joinU z s) (picks (isUsed z (joinU z s)) k)) k := by rw [HSN.out, entP_used hu]
          have hbls := bls_used hu
          rw [← he] at hbls
          have hepl := eProbs_len (n := n) (t := t) (z := z) (U := joinU z s) (E := E) (T := blsX z (joinU z s) (picks (isUsed z (joinU z s)) k)) (k := k)
          have hxst : (xen z (joinU z s) k).st = 1 := hu
          have HPB := Lib.hid (fun (W : World) (hW : Below wr.heap.size wr W) => specPbX_any (c := c) (k := k) (c3 := c2) (A3 := A2) ((HSr.out.below hW).more hW.size) HF9.out (HRr.out.below hW HRr.out.lt) f2 f3 f4 f7 HF8.out ((HIR.out.below hW).sl) (by omega) hlt hxst)
          generalize allP n t z (joinU z s) E k = P0 at *
          generalize eProbs n t z (joinU z s) E (blsX z (joinU z s) (picks (isUsed z (joinU z s)) k)) k = P1 at *
          generalize blsX z (joinU z s) (picks (isUsed z (joinU z s)) k) = T at *
          have HSN2 := Lib.hid hsn2
          have HBLS := Lib.hid hbls
          have e1 : (e.st == 1) = true := by simp [hst]
          have e1' : (e.st = 1) = True := by simp [hst]
          clear he hg hu hst hsn2 hbls HSN hxst
          go_upto_region 10 with (go_at_call 36; refine HEG.out.mono ?_; rintro r w5 ⟨A5, c5, rfl, hi5, hb5⟩)
          have hb6 := hb5.alloc hb5.size (.cells #[.int .i64 e.st, .string e.nm, .int .i64 e.no, .int .i64 e.tl, .slice A5 e.bl.length c5] 56)
          have hr6 := Rw.new w5 56 #[.int .i64 e.st, .string e.nm, .int .i64 e.no, .int .i64 e.tl, .slice A5 e.bl.length c5]
          have hi6 := hi5.below ((Below.refl w5.heap.size w5).alloc (Nat.le_refl _) (.cells #[.int .i64 e.st, .string e.nm, .int .i64 e.no, .int .i64 e.tl, .slice A5 e.bl.length c5] 56))
          obtain ⟨qe, hqe⟩ : ∃ qe, w5.heap.size = qe := ⟨_, rfl⟩
          rw [hqe] at hr6 ⊢
          generalize w5.alloc (.cells #[.int .i64 e.st, .string e.nm, .int .i64 e.no, .int .i64 e.tl, .slice A5 e.bl.length c5] 56) = W6 at *
          have y0 := hr6.cell 0
          have hz6 := hb6.size
          have HR6 := Lib.hid hr6
          have HI6 := Lib.hid hi6
          have HB6 := Lib.hid hb6
          have hiw : qe < W6.heap.size := hr6.lt
          clear hr6 hi6 hb5 hqe
          go_upto_region 14 with (first
            | (go_at_call 41; refine (HPB.out _ HB6.out).mono ?_; rintro r w8 ⟨A8, c8, rfl, hp8, hb8⟩; have hX8 := own_below (own_below HPX.out HB6.out) hb8; have hz8 := hb8.size; have HX8 := Lib.hid hX8; clear hX8; have hpl8 := hp8.sl; have HS8 := Lib.hid hpl8; have HP8 := Lib.hid hp8; clear hpl8 hp8; have hz82 : w2.heap.size ≤ w8.heap.size := by omega)
            | (at_builtin; refine wpList_appR rfl (.tmp 42) (.tmp 46) 35 rfl w2.heap.size 68 i0 (.agg #[.int .i64 0, .int .i64 0, .int .i64 0]) 3 24 Tryd.underlying35 I0.out I1.out I2.out I3.out rfl (by omega) _ P0.length _ (by rfl) HX8.out A8 P1.length c8 w8.heap.size _ (by rfl) HS8.out (fun _ => rfl) (by simp only [maxLen]; omega) (by omega) (by omega) ?_; intro A9 c9 w9 ho9 hg9 hown9))
          have hr8 := HR6.out.below hb8 hiw
          have hr9 := rwGrown hr8 hg9 (own_neRw HX8.out hr8 (fun e => tEP e.symm))
          have y4 := hr9.cell 4
          have hi8 := (HIR.out.below HB6.out).below hb8
          have hi9 : IntR w2.heap.size w9 A2 c2 T := World.ownsRow.kept hi8 hg9 (own_neX hi8 HX8.out tIP)
          unfold IntR at hi9
          have HI9 := Lib.hid hi9
          have he8 := HI6.out.below hb8
          have he9 : IntR wr.heap.size w9 A5 c5 e.bl := World.ownsRow.kept he8 hg9 (own_neX he8 HX8.out tIP)
          have HE9 := Lib.hid he9.sl
          have h9 := pRX_app ho9
          have HP9 := Lib.hid h9
          have hb9 := (HB.out.trans ((HB6.out.trans (hb8.mono hz6)).mono hwr)).grown hg9 hz82 (fun j hj => own_lt HX8.out j hj)
          have HB9 := Lib.hid hb9
          have hz9 : w2.heap.size ≤ w9.heap.size := hb9.size
          clear hr8 hr9 hi8 hi9 he8 he9 h9 ho9 hg9 hown9 hb9 hb8
          go_wp2_with (at_builtin; refine wpList_appR rfl (.tmp 48) (.tmp 50) 24 rfl w2.heap.size 2 j0 (.int .i64 0) 1 8 Tryd.underlying24 J0.out J1.out J2.out J3.out rfl (by omega) _ T.length _ (by rfl) HI9.out A5 e.bl.length c5 w9.heap.size (fun i => .int .i64 (e.bl.getD i 0)) (by rfl) (by rw [Nat.mul_one]; exact HE9.out) (fun _ => rfl) (by simp only [maxLen]; omega) (by omega) hz9 ?_; intro A7 c7 w7 ho7 hg7 hown7)
          go_roundw
          case rel =>
            have hp7 := World.ownsRow.kept HP9.out hg7 (own_neX HP9.out HI9.out (fun e => tIP e.symm))
            refine ⟨k + 1, c9, c7, A9, A7, by omega, by go_num, by rw [HSN2.out, List.length_append], by rw [HBLS.out, List.length_append], by rw [HSN2.out]; exact hp7, ?_, HB9.out.grown hg7 hz9 (fun j hj => own_lt HI9.out j hj)⟩
            unfold IntR
            rw [HBLS.out, List.map_append, List.length_append, ← range_int e.bl]
            exact ho7
          case measure => simp [intOf]; omega
        · have hst : ¬ e.st = 1 := fun q => hu (by unfold isUsed; rw [← he]; exact q)
          have HSN2 := Lib.hid (show allP n t z (joinU z s) E (k + 1) = allP n t z (joinU z s) E k by rw [HSN.out, entP_other hg hu, List.append_nil])
          have HBL2 := Lib.hid (bls_other hu)
          have e1 : (e.st == 1) = false := by simp [hst]
          have e1' : (e.st = 1) = False := by simp [hst]
          clear he hg hu hst
          go_wp2_with (go_at_call 36; refine HEG.out.mono ?_; rintro r w5 ⟨A5, c5, rfl, hi5, hb5⟩; have hb6 := hb5.alloc hb5.size (.cells #[.int .i64 e.st, .string e.nm, .int .i64 e.no, .int .i64 e.tl, .slice A5 e.bl.length c5] 56))
          go_roundw
          case rel => exact ⟨k + 1, c1, c2, A1, A2, by omega, by go_num, by rw [HSN2.out], by rw [HBL2.out], by rw [HSN2.out]; exact HPR.out.below hb6, by rw [HBL2.out]; exact HIR.out.below hb6, HB.out.trans (hb6.mono hwr)⟩
          case measure => simp [intOf]; omega
      · have HEG := Lib.hid (HEN.out.mono fun r w' q => xEnt_bad (v := xby z (joinU z s) k) q hg)
        have hu : ¬ isUsed z (joinU z s) k := fun q => by unfold isUsed at q; rw [xen_bad hg] at q; exact absurd q (by decide)
        have HSN2 := Lib.hid (show allP n t z (joinU z s) E (k + 1) = allP n t z (joinU z s) E k ++ [((1 : Int), (k : Int), (0 : Int))] by rw [HSN.out, entP_bad hg])
        have HBL2 := Lib.hid (bls_other hu)
        unfold XE.val xe0 at HEG
        clear HEN hg hu
        go_upto_region 10 with (go_at_call 36; refine HEG.out.mono ?_; rintro r w5 ⟨A5, c5, rfl, hb5⟩)
        have hb6 := hb5.alloc hb5.size (.cells #[.int .i64 0, .string ⟨#[]⟩, .int .i64 0, .int .i64 0, .slice A5 0 c5] 56)
        generalize w5.alloc (.cells #[.int .i64 0, .string ⟨#[]⟩, .int .i64 0, .int .i64 0, .slice A5 0 c5] 56) = W6 at *
        have hz6 : w2.heap.size ≤ W6.heap.size := Nat.le_trans hwr hb6.size
        have HX6 := Lib.hid (own_below HPX.out hb6)
        have HI6 := Lib.hid (own_below HIX.out hb6)
        have HB6 := Lib.hid hb6
        clear hb6 hb5
        go_wp2_with (at_builtin; refine wpList_pushO (.tmp 34) (.tmp 37) 35 w2.heap.size 68 (.agg #[.int .i64 0, .int .i64 0, .int .i64 0]) [.int .i64 1, .int .i64 (k : Int), .int .i64 0] 3 24 _ (allP n t z (joinU z s) E k).length _ HX6.out rfl rfl Tryd.underlying35 infoXP rfl (by omega) rfl rfl rfl rfl (by intro u hu; simp at hu; rcases hu with rfl | rfl | rfl <;> rfl) (by omega) (by omega) hz6 ?_; intro A4 c4 w4' ho4 hg4 hf4)
        go_roundw
        case rel => exact ⟨k + 1, c4, c2, some A4, A2, by omega, by go_num, by rw [HSN2.out, List.length_append]; rfl, by rw [HBL2.out], by rw [HSN2.out]; exact pRX_snoc ho4, by rw [HBL2.out]; exact World.ownsRow.kept HI6.out hg4 (own_neX HI6.out HX6.out tIP), (HB.out.trans (HB6.out.mono hwr)).grown hg4 hz6 (fun j hj => own_lt HX6.out j hj)⟩
        case measure => simp [intOf]; omega
    · obtain rfl : k = E := by omega
      have hsz2 := HB2.out.size
      go_wp2_with fail
      go_ret2
      exact ⟨A1, c1, rfl, hpr.base hsz2, hbw⟩
end Go.Proofs.YtmgcaiilocifbaaDoor
