/-
  ExtentProblems: the program's side.
-/
import Derived.Test.YtmgcaiilocifbaaDoorXpbE
import Derived.Deep.DeepCutAuto
namespace Go.Proofs.YtmgcaiilocifbaaDoor
open Go Go.ChangeShapes Go.WideShapes Go.ChangeAt Go.RowKit lib
set_option linter.unusedVariables false
set_option linter.unusedSimpArgs false
set_option maxRecDepth 100000
theorem own_neRw {w : World} {B e e' k n g : Nat} {v : Value} {xs : List Value} {cs : Array Value} (h : w.ownsRow B e k v n xs) (hr : Rw w g e' cs) (hne : e ≠ e') : some g ≠ v.ownBlock := by
  rcases h.2 with ⟨hv, _⟩ | ⟨o, cap, cur, hv, _, hg, _⟩
  · rw [hv]; simp [Value.ownBlock]
  · rw [hv]
    simp only [Value.ownBlock]
    intro e
    injection e with e
    subst e
    unfold Rw at hr
    rw [hr] at hg
    injection hg with hg
    injection hg with _ h2 _
    exact hne h2.symm
theorem XW.keptG {w w' : World} {p g n z E t N c : Nat} {u : Nat → UInt8} {row : Option Nat} (h : XW w p g n z E t N c u) (hg : w.grownBy w' row) (hp : some p ≠ row) (hq : some g ≠ row) : XW w' p g n z E t N c u := by
  have hlt := h.row.lt
  obtain ⟨cs, ⟨fr, hr, hf⟩, h2⟩ := h.row
  exact ⟨rwGrown h.lay hg hp, ⟨cs, ⟨fr, (hg.block g hlt hq).trans hr, hf⟩, h2⟩, h.ne⟩
theorem tEP : 56 ≠ 68 := by decide
theorem tIP : 2 ≠ 68 := by decide
/-- what the round of a used entry needs of the memory -/
structure PSt (B : Nat) (w2 W : World) (p g n z E t N c mb cnt qe : Nat) (u : Nat → UInt8) (T : List Int) (ec : Array Value) (A1 A2 : Option Addr) (c1 c2 : Nat) (l : List Nat) (L : List (XE × Option Addr × Nat)) : Prop where
  xw : XW W p g n z E t N c u
  er : ERow B W A1 l.length c1 L
  na : NatR B W A2 c2 l
  re : Rw W qe 56 ec
  bs : BSet Tryd.prog 2 4 W mb cnt (fun x => (x : Int) ∈ T)
  gr : w2.grownBy W (some mb)
section
variable {B : Nat} {w2 W W' : World} {p g n z E t N c mb cnt qe : Nat} {u : Nat → UInt8} {T : List Int} {ec : Array Value} {A1 A2 : Option Addr} {c1 c2 : Nat} {l : List Nat} {L : List (XE × Option Addr × Nat)}
theorem PSt.below (h : PSt B w2 W p g n z E t N c mb cnt qe u T ec A1 A2 c1 c2 l L) (hb : Below W.heap.size W W') : PSt B w2 W' p g n z E t N c mb cnt qe u T ec A1 A2 c1 c2 l L :=
  ⟨h.xw.below hb, h.er.below hb, h.na.below hb, h.re.below hb h.re.lt, h.bs.below hb, only_belowX h.gr hb⟩
theorem PSt.grown {v : Value} {m : Nat} {xs : List Value} (h : PSt B w2 W p g n z E t N c mb cnt qe u T ec A1 A2 c1 c2 l L) (ho : W.ownsRow w2.heap.size 68 3 v m xs) (hg : W.grownBy W' v.ownBlock) (hp : p < w2.heap.size) (hq : g < w2.heap.size) (hm : mb < w2.heap.size) : PSt B w2 W' p g n z E t N c mb cnt qe u T ec A1 A2 c1 c2 l L :=
  ⟨h.xw.keptG hg (fun e => by have := own_lt ho p e.symm; omega) (fun e => by have := own_lt ho g e.symm; omega), World.ownsRow.kept h.er hg (own_neX h.er ho tEP), World.ownsRow.kept h.na hg (own_neX h.na ho tIP), rwGrown h.re hg (own_neRw ho h.re (fun e => tEP e.symm)), h.bs.grown hg (ne_own ho hm), only_more h.gr hg (own_lt ho)⟩
end
set_option maxHeartbeats 8000000 in
theorem implPbTop_ok {w : World} {n c : Nat} {A : Option Addr} {s : Nat → ByteArray} (hs : Sl w w.heap.size A n (fun i => .string (s i))) (hsz : ∀ i, i < n → (s i).size ≤ 9223372036854775807) (hn : n ≤ c) (hn2 : n ≤ 9223372036854775807) (ho : opensX n s) :
    Calls Tryd.prog 21 #[.slice A n c] w fun r w' => ∃ A2 c2, r = .returned (.tuple #[.slice A2 (probsX n s).length c2, .int .i64 0]) ∧ PRX w.heap.size w' A2 c2 (probsX n s) ∧ Below w.heap.size w w' := by
  have HO := Lib.hid (implOpenX hs hsz hn hn2)
  obtain ⟨f1, f2, f3, f4, f5, f6, f7, f8, f9⟩ := shapeX ho
  have hd := (layX_data f1).1
  have HMM := @run_makeMap Tryd.prog
  unfold probsX
  obtain ⟨z, hz⟩ : ∃ z, (s 0).size = z := ⟨_, rfl⟩
  rw [hz] at f2 f3 f6 f8 hd ⊢
  obtain ⟨u, hu⟩ : ∃ u, joinU z s = u := ⟨_, rfl⟩
  obtain ⟨t, ht⟩ : ∃ t, dataX n z = t := ⟨_, rfl⟩
  obtain ⟨E, hE⟩ : ∃ E, entsX n = E := ⟨_, rfl⟩
  rw [hE] at f7 f8
  rw [ht] at hd
  rw [hu, ht, hE]
  have HZ := Lib.hid hz
  have HU := Lib.hid hu
  have HTT := Lib.hid ht
  have HEE := Lib.hid hE
  have HOP := Lib.hid ho
  have HF8 := Lib.hid f8
  obtain ⟨i0, hi0, hi1, hi2, hi3⟩ := info_parts infoXP
  have I0 := Lib.hid hi0
  have I1 := Lib.hid hi1
  have I2 := Lib.hid hi2
  have I3 := Lib.hid hi3
  clear ho hs hsz hz hu ht hE f1 f8 f9 hi0 hi1 hi2 hi3
  go_enter Tryd.func21, Tryd.ntmps21
  go_upto_region 5 with (go_at_call 31; refine HO.out.mono ?_; rintro r w1 ⟨h1, _⟩; obtain ⟨p, rfl, ow⟩ := h1 HOP.out; rw [HZ.out] at ow; obtain ⟨g, cc, hx, hcap, hb1, hp, hg⟩ := ow; rw [HU.out, HTT.out, HEE.out] at hx)
  have hb12 := (Below.refl w1.heap.size w1).alloc (Nat.le_refl _) (.map #[] 0)
  have hx2 := hx.below hb12
  have hm2 := BSet.made (P := Tryd.prog) (k := 2) (e := 4) w1
  have hB2 := hb1.trans (hb12.mono hb1.size)
  have hs2 : (w1.alloc (.map #[] 0)).heap.size = w1.heap.size + 1 := World.size_alloc _ _
  obtain ⟨mb, hmb⟩ : ∃ mb, w1.heap.size = mb := ⟨_, rfl⟩
  have hmw : w.heap.size ≤ mb := by have := hb1.size; omega
  have hpl := hx2.lay.lt
  have hgl := hx2.row.lt
  go_upto_region 6 with fail
  generalize w1.alloc (.map #[] 0) = w2 at *
  rw [hmb] at hm2 hs2
  have hmlt : mb < w2.heap.size := by omega
  have hx3 := hx2.c2
  obtain ⟨es, cl, hmap⟩ := hm2.isMap
  have HXK := Lib.hid (fun (W : World) (hW : w2.grownBy W (some mb)) => hx2.keptM hW hmap)
  have HM2 := Lib.hid hm2
  have HB2 := Lib.hid hB2
  clear hx hx2 hm2 hB2 hb12 hb1 hs2 hmb hmap hp hg HO HOP
  go_wp2_with fail
  go_loopw [6, 8, 9, 10, 11, 12, 26] (fun s6 s8 s9 s10 s11 s12 s26 wr => ∃ (k c1 cnt : Nat) (A1 : Option Addr), k ≤ E ∧ s26 = .int .i64 k ∧ s6 = .slice A1 (allP n t z u E k).length c1 ∧ PRX w2.heap.size wr A1 c1 (allP n t z u E k) ∧ BSet Tryd.prog 2 4 wr mb cnt (fun x => (x : Int) ∈ blsX z u (picks (isUsed z u) k)) ∧ cnt ≤ 4 * k ∧ w2.grownBy wr (some mb)) (fun _ _ _ _ _ _ i _ => E - (intOf i).toNat)
  case atStart => exact ⟨0, 0, 0, none, Nat.zero_le _, rfl, rfl, pRX_nil _ _, HM2.out.congr fun x => by simp [picks_zero, blsX], Nat.le_refl _, only_refl _ _⟩
  case round =>
    obtain ⟨k, c1, cnt, A1, hk, rfl, rfl, hpr, hbs, hcnt, hg⟩ := hrel
    have hwr := hg.size
    have hal := allP_len (n := n) (t := t) (z := z) (E := E) (U := u) k
    by_cases hlt : k < E
    · have hXW := HXK.out wr hg
      have HEN := Lib.hid (implEntryX_any k (z + k * 16) hXW rfl (by have := HF8.out k hlt; omega) (by omega) hcap (by omega) (by omega))
      have HSN : Hid (allP n t z u E (k + 1) = allP n t z u E k ++ entP n t z u E k) := Lib.hid rfl
      have hpr' := hpr
      unfold PRX at hpr'
      have HPR := Lib.hid hpr
      have HPX := Lib.hid hpr'
      have HBS := Lib.hid hbs
      have HG := Lib.hid hg
      clear hpr hpr' hbs hg
      by_cases hg : xGood z (xby z u k)
      · have HEG := Lib.hid (HEN.out.mono fun r w' q => xEnt_good (v := xby z u k) q hg)
        obtain ⟨e, he⟩ : ∃ e, e = xen z u k := ⟨_, rfl⟩
        have hgx : xent z (xby z u k) = e := he.symm
        rw [hgx] at HEG
        unfold XE.val at HEG
        have HE := Lib.hid he
        clear HEN hgx
        by_cases hu : isUsed z u k
        · have hst : e.st = 1 := by rw [he]; exact hu
          have heok := xen_ok z u k
          rw [← he] at heok
          obtain ⟨T, hT⟩ : ∃ T, blsX z u (picks (isUsed z u) k) = T := ⟨_, rfl⟩
          have hsn : allP n t z u E (k + 1) = allP n t z u E k ++ ((bProbs n t T e.bl k ++ nProb (badNoX e.no k (fun j => (xen z u j).no) (picks (usedBy z u e.nm) E)) 4 k) ++ nProb (badLenX e.bl.length e.no e.tl z (moreX e.no (fun j => (xen z u j).no) (picks (usedBy z u e.nm) E))) 5 k) := by
            rw [HSN.out, entP_used hu, hT]
            unfold eProbs
            rw [← he]
          have hbls := bls_used hu
          rw [hT, ← he] at hbls
          rw [hT] at HBS
          have hbl4 := XE.ok_len heok
          have hnm8 := XE.ok_nm heok
          have hno : 0 ≤ e.no ∧ e.no ≤ 31 := by
            rcases heok with ⟨_, _, h, _⟩ | ⟨_, _, h, _⟩
            · omega
            · exact h
          obtain ⟨l, hl⟩ : ∃ l, picks (usedBy z u e.nm) E = l := ⟨_, rfl⟩
          have hl32 : l.length ≤ 32 := by rw [← hl]; exact Nat.le_trans (picks_len _ _) f7
          rw [hl] at hsn
          have HL := Lib.hid hl
          have HSN2 := Lib.hid hsn
          have HBLS := Lib.hid hbls
          have HOKE := Lib.hid heok
          have e1 : (e.st != 1) = false := by simp [hst]
          have e1' : (e.st = 1) = True := by simp [hst]
          clear he hg hu hst hT hsn hbls heok hl HSN
          go_upto_region 12 with (go_at_call 42; refine HEG.out.mono ?_; rintro r w3 ⟨A5, c5, rfl, hi5, hb5⟩)
          have hb6 := hb5.alloc hb5.size (.cells #[.int .i64 e.st, .string e.nm, .int .i64 e.no, .int .i64 e.tl, .slice A5 e.bl.length c5] 56)
          have hr6 := Rw.new w3 56 #[.int .i64 e.st, .string e.nm, .int .i64 e.no, .int .i64 e.tl, .slice A5 e.bl.length c5]
          have hi6 := hi5.below ((Below.refl w3.heap.size w3).alloc (Nat.le_refl _) (.cells #[.int .i64 e.st, .string e.nm, .int .i64 e.no, .int .i64 e.tl, .slice A5 e.bl.length c5] 56))
          obtain ⟨qe, hqe⟩ : ∃ qe, w3.heap.size = qe := ⟨_, rfl⟩
          rw [hqe] at hr6 ⊢
          have hqe3 : w2.heap.size ≤ qe := by have := hb5.size; omega
          generalize w3.alloc (.cells #[.int .i64 e.st, .string e.nm, .int .i64 e.no, .int .i64 e.tl, .slice A5 e.bl.length c5] 56) = W6 at *
          have hX6 := hXW.below hb6
          have HBL6 := Lib.hid hi6.sl
          have HX6 := Lib.hid (own_below HPX.out hb6)
          have HB6 := Lib.hid hb6
          have HI6 := Lib.hid hi6
          have HXX := Lib.hid hX6
          have q0 := hr6.cell 0
          have q1 := hr6.cell 1
          have HR6 := Lib.hid hr6
          have hz6 := hb6.size
          have hFI := Lib.hid (implFileX_any e.nm hX6 f7 HF8.out f6 hcap (by omega) (by omega))
          rw [HL.out] at hFI
          have hz62 : w2.heap.size ≤ W6.heap.size := by omega
          clear hb6 hb5 hr6 hi6 hi5 hqe hX6
          go_upto_region 14 with (go_at_call 38; refine hFI.out.mono ?_; rintro r w7 ⟨a, cc3, A1', A2', c1', c2', rfl, her, hes, hna, hb7⟩)
          have HG7 := Lib.hid (only_belowX (only_belowX HG.out HB6.out) hb7)
          have HX7 := Lib.hid (own_below HX6.out hb7)
          have hXW7 := HXX.out.below hb7
          have hR7 := HR6.out.below hb7 HR6.out.lt
          have HBK := Lib.hid (implBlkX_any (A := A5) (ca := c5) (k := k) hXW7 (by omega) HOKE.out ((HBL6.out.below hb7).more hb7.size) ((HBS.out.below HB6.out).below hb7) (by omega))
          unfold XE.val at HBK
          have hz7 := hb7.size
          have q0 := hR7.cell 0; have q1 := hR7.cell 1; have q2 := hR7.cell 2; have q3 := hR7.cell 3; have q4 := hR7.cell 4
          have HER := Lib.hid her
          have HNA := Lib.hid hna
          have HR7 := Lib.hid hR7
          have HXW7 := Lib.hid hXW7
          have hz72 : w2.heap.size ≤ w7.heap.size := by omega
          clear her hes hna hb7 hXW7 hR7
          go_upto_region 15 with (first
            | (go_at_call 43; refine HBK.out.mono ?_; rintro r w8 ⟨A8, c8, rfl, hp8, hs8, hg8⟩; have hX8 := HX7.out.kept hg8 (own_neMb HX7.out hmlt); have hz8 := hg8.size; have HX8 := Lib.hid hX8; clear hX8; have hpl8 := hp8.sl; have HS8 := Lib.hid hpl8; clear hpl8)
            | (at_builtin; refine wpList_appR rfl (.tmp 56) (.tmp 61) 35 rfl w2.heap.size 68 i0 (.agg #[.int .i64 0, .int .i64 0, .int .i64 0]) 3 24 Tryd.underlying35 I0.out I1.out I2.out I3.out rfl (by omega) _ (allP n t z u E k).length _ (by rfl) HX8.out A8 (bProbs n t T e.bl k).length c8 w8.heap.size _ (by rfl) HS8.out (fun _ => rfl) (by have := bProbs_len (n := n) (t := t) (T := T) (l := e.bl) (k := (k : Int)); simp only [maxLen]; omega) (by have := bProbs_len (n := n) (t := t) (T := T) (l := e.bl) (k := (k : Int)); omega) (by omega) ?_; intro A9 c9 w9 ho9 hg9 hown9))
          have hp7 : w7.grownBy w8 (some mb) := hg8
          have hP8 : PSt W6.heap.size w2 w8 p g n z E t (n * z) cc mb (cnt + e.bl.length) qe u (T ++ e.bl) #[.int .i64 e.st, .string e.nm, .int .i64 e.no, .int .i64 e.tl, .slice A5 e.bl.length c5] A1' A2' c1' c2' l (l.map fun j => (xen z u j, a j, cc3 j)) := ⟨HXK.out _ (only_trans HG7.out hg8), World.ownsRow.kept HER.out hg8 (own_neMb HER.out (by omega)), World.ownsRow.kept HNA.out hg8 (own_neMb HNA.out (by omega)), rwGrown HR7.out hg8 (fun e => by injection e with e; omega), hs8, only_trans HG7.out hg8⟩
          have HP9 := Lib.hid (hP8.grown HX8.out hg9 hpl hgl hmlt)
          obtain ⟨b1, hb1⟩ : ∃ b1 : Bool, b1 = true ↔ badNoX e.no k (fun j => (xen z u j).no) l := ⟨@decide _ (Classical.propDecidable _), @decide_eq_true_iff _ (Classical.propDecidable _)⟩
          obtain ⟨b2, hb2⟩ : ∃ b2 : Bool, b2 = true ↔ badLenX e.bl.length e.no e.tl z (moreX e.no (fun j => (xen z u j).no) l) := ⟨@decide _ (Classical.propDecidable _), @decide_eq_true_iff _ (Classical.propDecidable _)⟩
          have HNO := Lib.hid (fun (W : World) (h : PSt W6.heap.size w2 W p g n z E t (n * z) cc mb (cnt + e.bl.length) qe u (T ++ e.bl) #[.int .i64 e.st, .string e.nm, .int .i64 e.no, .int .i64 e.tl, .slice A5 e.bl.length c5] A1' A2' c1' c2' l (l.map fun j => (xen z u j, a j, cc3 j))) => implBadNo_any (A := A5) (ca := c5) hno h.er h.na hl32 b1 hb1)
          have HLE := Lib.hid (fun (W : World) (h : PSt W6.heap.size w2 W p g n z E t (n * z) cc mb (cnt + e.bl.length) qe u (T ++ e.bl) #[.int .i64 e.st, .string e.nm, .int .i64 e.no, .int .i64 e.tl, .slice A5 e.bl.length c5] A1' A2' c1' c2' l (l.map fun j => (xen z u j, a j, cc3 j))) => implBadLen_any (A := A5) (ca := c5) h.xw hbl4 h.er hl32 b2 hb2)
          unfold XE.val at HNO HLE
          obtain ⟨L9, hL9⟩ : ∃ L9, allP n t z u E k ++ bProbs n t T e.bl k = L9 := ⟨_, rfl⟩
          have hll : (allP n t z u E k).length + (bProbs n t T e.bl k).length = L9.length := by rw [← hL9, List.length_append]
          have hbpl := bProbs_len (n := n) (t := t) (T := T) (l := e.bl) (k := (k : Int))
          have hl9 : L9.length ≤ 1000 := by omega
          have hfin : allP n t z u E (k + 1) = (L9 ++ nProb (badNoX e.no k (fun j => (xen z u j).no) l) 4 k) ++ nProb (badLenX e.bl.length e.no e.tl z (moreX e.no (fun j => (xen z u j).no) l)) 5 k := by
            rw [HSN2.out, ← hL9]
            simp only [List.append_assoc]
          generalize badNoX e.no k (fun j => (xen z u j).no) l = Q1 at *
          generalize badLenX e.bl.length e.no e.tl z (moreX e.no (fun j => (xen z u j).no) l) = Q2 at *
          have h9 := pRX_app ho9
          rw [hL9] at h9
          rw [hll]
          have HX9 : Hid (w9.ownsRow w2.heap.size 68 3 (.slice A9 L9.length c9) L9.length (cellsP L9)) := Lib.hid h9
          have HPR9 := Lib.hid h9
          have hz9 : w2.heap.size ≤ w9.heap.size := by have := hg9.size; omega
          have HF := Lib.hid hfin
          have HQ1 := Lib.hid hb1
          have HQ2 := Lib.hid hb2
          have hre := HP9.out.re
          have q0 := hre.cell 0; have q1 := hre.cell 1; have q2 := hre.cell 2; have q3 := hre.cell 3; have q4 := hre.cell 4
          clear hre hp7 hP8 hg8 hs8 hp8 hg9 ho9 hown9 hL9 hll hfin hb1 hb2 h9 hXW HEG
          cases b1 with
          | true =>
            have HE1 := Lib.hid (show allP n t z u E (k + 1) = (L9 ++ [((4 : Int), (k : Int), (0 : Int))]) ++ nProb Q2 5 k by rw [HF.out, nProb_yes (HQ1.out.1 rfl)])
            go_upto_region 17 with (first
              | (go_at_call 44; refine (HNO.out _ HP9.out).mono ?_; rintro r w10 ⟨rfl, hb10⟩; have HX10 := Lib.hid (own_below HX9.out hb10); have HP10 := Lib.hid (HP9.out.below hb10); have hz10 : w2.heap.size ≤ w10.heap.size := Nat.le_trans hz9 hb10.size)
              | (at_builtin; refine wpList_pushO (.tmp 68) (.tmp 71) 35 w2.heap.size 68 (.agg #[.int .i64 0, .int .i64 0, .int .i64 0]) [.int .i64 4, .int .i64 (k : Int), .int .i64 0] 3 24 _ (L9).length _ HX10.out rfl rfl Tryd.underlying35 infoXP rfl (by omega) rfl rfl rfl rfl (by intro u hu; simp at hu; rcases hu with rfl | rfl | rfl <;> rfl) (by first | omega | (rw [List.length_append]; simp only [List.length_cons, List.length_nil]; omega)) (by omega) hz10 ?_; intro A11 c11 w11 ho11 hg11 hf11; have h11 : w11.ownsRow w2.heap.size 68 3 (.slice (some A11) (L9 ++ [((4 : Int), (k : Int), (0 : Int))]).length c11) (L9 ++ [((4 : Int), (k : Int), (0 : Int))]).length (cellsP (L9 ++ [((4 : Int), (k : Int), (0 : Int))])) := pRX_snoc ho11; have HX11 := Lib.hid h11; have HP11 := Lib.hid (HP10.out.grown HX10.out hg11 hpl hgl hmlt); have hz11 : w2.heap.size ≤ w11.heap.size := Nat.le_trans hz10 hg11.size; clear h11 ho11 hg11 hf11))
            have hre := HP11.out.re
            have q0 := hre.cell 0; have q1 := hre.cell 1; have q2 := hre.cell 2; have q3 := hre.cell 3; have q4 := hre.cell 4
            clear hre
            have hlc : (L9 ++ [((4 : Int), (k : Int), (0 : Int))]).length = L9.length + 1 := List.length_append
            rw [← hlc]
            have hl11 : (L9 ++ [((4 : Int), (k : Int), (0 : Int))]).length ≤ 1001 := by omega
            generalize L9 ++ [((4 : Int), (k : Int), (0 : Int))] = L11 at *
            clear hlc
            cases b2 with
            | true =>
              have HE2 := Lib.hid (show allP n t z u E (k + 1) = L11 ++ [((5 : Int), (k : Int), (0 : Int))] by rw [HE1.out, nProb_yes (HQ2.out.1 rfl)])
              go_wp2_with (first
                | (go_at_call 45; refine (HLE.out _ HP11.out).mono ?_; rintro r w12 ⟨rfl, hb12⟩; have HX12 := Lib.hid (own_below HX11.out hb12); have HP12 := Lib.hid (HP11.out.below hb12); have hz12 : w2.heap.size ≤ w12.heap.size := Nat.le_trans hz11 hb12.size)
                | (at_builtin; refine wpList_pushO (.tmp 77) (.tmp 80) 35 w2.heap.size 68 (.agg #[.int .i64 0, .int .i64 0, .int .i64 0]) [.int .i64 5, .int .i64 (k : Int), .int .i64 0] 3 24 _ (L11).length _ HX12.out rfl rfl Tryd.underlying35 infoXP rfl (by omega) rfl rfl rfl rfl (by intro u hu; simp at hu; rcases hu with rfl | rfl | rfl <;> rfl) (by first | omega | (rw [List.length_append]; simp only [List.length_cons, List.length_nil]; omega)) (by omega) hz12 ?_; intro A13 c13 w13 ho13 hg13 hf13))
              go_roundw
              case rel =>
                have hP13 := HP12.out.grown HX12.out hg13 hpl hgl hmlt
                exact ⟨k + 1, c13, cnt + e.bl.length, some A13, by omega, by go_num, by rw [HE2.out, List.length_append]; rfl, by rw [HE2.out]; exact pRX_snoc ho13, by rw [HBLS.out]; exact hP13.bs, by omega, hP13.gr⟩
              case measure => simp [intOf]; omega
            | false =>
              have HE2 := Lib.hid (show allP n t z u E (k + 1) = L11 by rw [HE1.out, nProb_no (fun h => by have := HQ2.out.2 h; cases this), List.append_nil])
              go_wp2_with (go_at_call 45; refine (HLE.out _ HP11.out).mono ?_; rintro r w12 ⟨rfl, hb12⟩; have HX12 := Lib.hid (own_below HX11.out hb12); have HP12 := Lib.hid (HP11.out.below hb12); have hz12 : w2.heap.size ≤ w12.heap.size := Nat.le_trans hz11 hb12.size)
              go_roundw
              case rel => exact ⟨k + 1, c11, cnt + e.bl.length, some A11, by omega, by go_num, by rw [HE2.out], by rw [HE2.out]; exact HX12.out, by rw [HBLS.out]; exact HP12.out.bs, by omega, HP12.out.gr⟩
              case measure => simp [intOf]; omega
          | false =>
            have HE1 := Lib.hid (show allP n t z u E (k + 1) = L9 ++ nProb Q2 5 k by rw [HF.out, nProb_no (fun h => by have := HQ1.out.2 h; cases this), List.append_nil])
            go_upto_region 17 with (go_at_call 44; refine (HNO.out _ HP9.out).mono ?_; rintro r w10 ⟨rfl, hb10⟩; have HX10 := Lib.hid (own_below HX9.out hb10); have HP10 := Lib.hid (HP9.out.below hb10); have hz10 : w2.heap.size ≤ w10.heap.size := Nat.le_trans hz9 hb10.size)
            have hre := HP10.out.re
            have q0 := hre.cell 0; have q1 := hre.cell 1; have q2 := hre.cell 2; have q3 := hre.cell 3; have q4 := hre.cell 4
            clear hre
            cases b2 with
            | true =>
              have HE2 := Lib.hid (show allP n t z u E (k + 1) = L9 ++ [((5 : Int), (k : Int), (0 : Int))] by rw [HE1.out, nProb_yes (HQ2.out.1 rfl)])
              go_wp2_with (first
                | (go_at_call 45; refine (HLE.out _ HP10.out).mono ?_; rintro r w12 ⟨rfl, hb12⟩; have HX12 := Lib.hid (own_below HX10.out hb12); have HP12 := Lib.hid (HP10.out.below hb12); have hz12 : w2.heap.size ≤ w12.heap.size := Nat.le_trans hz10 hb12.size)
                | (at_builtin; refine wpList_pushO (.tmp 77) (.tmp 80) 35 w2.heap.size 68 (.agg #[.int .i64 0, .int .i64 0, .int .i64 0]) [.int .i64 5, .int .i64 (k : Int), .int .i64 0] 3 24 _ (L9).length _ HX12.out rfl rfl Tryd.underlying35 infoXP rfl (by omega) rfl rfl rfl rfl (by intro u hu; simp at hu; rcases hu with rfl | rfl | rfl <;> rfl) (by first | omega | (rw [List.length_append]; simp only [List.length_cons, List.length_nil]; omega)) (by omega) hz12 ?_; intro A13 c13 w13 ho13 hg13 hf13))
              go_roundw
              case rel =>
                have hP13 := HP12.out.grown HX12.out hg13 hpl hgl hmlt
                exact ⟨k + 1, c13, cnt + e.bl.length, some A13, by omega, by go_num, by rw [HE2.out, List.length_append]; rfl, by rw [HE2.out]; exact pRX_snoc ho13, by rw [HBLS.out]; exact hP13.bs, by omega, hP13.gr⟩
              case measure => simp [intOf]; omega
            | false =>
              have HE2 := Lib.hid (show allP n t z u E (k + 1) = L9 by rw [HE1.out, nProb_no (fun h => by have := HQ2.out.2 h; cases this), List.append_nil])
              go_wp2_with (go_at_call 45; refine (HLE.out _ HP10.out).mono ?_; rintro r w12 ⟨rfl, hb12⟩; have HX12 := Lib.hid (own_below HX10.out hb12); have HP12 := Lib.hid (HP10.out.below hb12); have hz12 : w2.heap.size ≤ w12.heap.size := Nat.le_trans hz10 hb12.size)
              go_roundw
              case rel => exact ⟨k + 1, c9, cnt + e.bl.length, A9, by omega, by go_num, by rw [HE2.out], by rw [HE2.out]; exact HX12.out, by rw [HBLS.out]; exact HP12.out.bs, by omega, HP12.out.gr⟩
              case measure => simp [intOf]; omega
        · have hst : ¬ e.st = 1 := fun q => hu (by unfold isUsed; rw [← he]; exact q)
          have HSN2 := Lib.hid (show allP n t z u E (k + 1) = allP n t z u E k by rw [HSN.out, entP_other hg hu, List.append_nil])
          have HBL2 := Lib.hid (bls_other hu)
          have e1 : (e.st != 1) = true := by simp [hst]
          have e1' : (e.st = 1) = False := by simp [hst]
          clear he hg hu hst
          go_wp2_with (go_at_call 42; refine HEG.out.mono ?_; rintro r w3 ⟨A5, c5, rfl, hi5, hb5⟩; have hb6 := hb5.alloc hb5.size (.cells #[.int .i64 e.st, .string e.nm, .int .i64 e.no, .int .i64 e.tl, .slice A5 e.bl.length c5] 56))
          go_roundw
          case rel => exact ⟨k + 1, c1, cnt, A1, by omega, by go_num, by rw [HSN2.out], by rw [HSN2.out]; exact HPR.out.below hb6, by rw [HBL2.out]; exact HBS.out.below hb6, by omega, only_belowX HG.out hb6⟩
          case measure => simp [intOf]; omega
      · have HEG := Lib.hid (HEN.out.mono fun r w' q => xEnt_bad (v := xby z u k) q hg)
        have hu : ¬ isUsed z u k := fun q => by unfold isUsed at q; rw [xen_bad hg] at q; exact absurd q (by decide)
        have HSN2 := Lib.hid (show allP n t z u E (k + 1) = allP n t z u E k ++ [((1 : Int), (k : Int), (0 : Int))] by rw [HSN.out, entP_bad hg])
        have HBL2 := Lib.hid (bls_other hu)
        unfold XE.val xe0 at HEG
        clear HEN hg hu
        go_upto_region 10 with (go_at_call 42; refine HEG.out.mono ?_; rintro r w3 ⟨A5, c5, rfl, hb5⟩)
        have hb6 := hb5.alloc hb5.size (.cells #[.int .i64 0, .string ⟨#[]⟩, .int .i64 0, .int .i64 0, .slice A5 0 c5] 56)
        generalize w3.alloc (.cells #[.int .i64 0, .string ⟨#[]⟩, .int .i64 0, .int .i64 0, .slice A5 0 c5] 56) = W6 at *
        have hz6 : w2.heap.size ≤ W6.heap.size := Nat.le_trans hwr hb6.size
        have HX6 := Lib.hid (own_below HPX.out hb6)
        have HB6 := Lib.hid hb6
        clear hb6 hb5
        go_wp2_with (at_builtin; refine wpList_pushO (.tmp 37) (.tmp 40) 35 w2.heap.size 68 (.agg #[.int .i64 0, .int .i64 0, .int .i64 0]) [.int .i64 1, .int .i64 (k : Int), .int .i64 0] 3 24 _ (allP n t z u E k).length _ HX6.out rfl rfl Tryd.underlying35 infoXP rfl (by omega) rfl rfl rfl rfl (by intro u hu; simp at hu; rcases hu with rfl | rfl | rfl <;> rfl) (by omega) (by omega) hz6 ?_; intro A4 c4 w4 ho4 hg4 hf4)
        go_roundw
        case rel => exact ⟨k + 1, c4, cnt, some A4, by omega, by go_num, by rw [HSN2.out, List.length_append]; rfl, by rw [HSN2.out]; exact pRX_snoc ho4, by rw [HBL2.out]; exact (HBS.out.below HB6.out).grown hg4 (ne_own HX6.out hmlt), by omega, only_more (only_belowX HG.out HB6.out) hg4 (own_lt HX6.out)⟩
        case measure => simp [intOf]; omega
    · obtain rfl : k = E := by omega
      have HB := Lib.hid (HB2.out.grown hg (by have := HB2.out.size; omega) (fun j hj => by injection hj with hj; omega))
      have hsz2 := HB2.out.size
      go_wp2_with fail
      go_ret2
      exact ⟨A1, c1, rfl, hpr.base hsz2, HB.out⟩
end Go.Proofs.YtmgcaiilocifbaaDoor
