/-
  Disks of extents: the problems of an entry's blocks: the program's side.
-/
import Derived.Test.YtmgcaiilocifbaaDoorXpbP
import Derived.Deep.DeepCutAuto
namespace Go.Proofs.YtmgcaiilocifbaaDoor
open Go Go.ChangeShapes Go.WideShapes Go.ChangeAt Go.RowKit lib
set_option linter.unusedVariables false
set_option linter.unusedSimpArgs false
set_option maxRecDepth 100000
theorem allBut_of {w w' : World} {mb : Nat} (h : w.grownBy w' (some mb)) : AllBut mb w w' := ⟨fun q hq hn => h.block q hq (fun e => hn (by injection e)), h.size⟩
theorem XW.keptM {w w' : World} {mb p g n z E t N c : Nat} {u : Nat → UInt8} {es : Array MapEntry} {cl : Nat} (h : XW w p g n z E t N c u) (hg : w.grownBy w' (some mb)) (hm : w.heap[mb]? = some (.map es cl)) : XW w' p g n z E t N c u := by
  have hp : p ≠ mb := fun e => by
    subst e
    have := h.lay
    unfold Rw at this
    rw [hm] at this
    cases this
  have hq : g ≠ mb := fun e => by
    subst e
    obtain ⟨cs, ⟨fr, hr, _⟩, _⟩ := h.row
    rw [hm] at hr
    cases hr
  refine ⟨rwGrown h.lay hg (fun e => hp (by injection e)), ?_, h.ne⟩
  have hlt := h.row.lt
  obtain ⟨cs, ⟨fr, hr, hf⟩, h2⟩ := h.row
  exact ⟨cs, ⟨fr, (hg.block g hlt (fun e => hq (by injection e))).trans hr, hf⟩, h2⟩
theorem ne_own {w : World} {B e k n mb : Nat} {v : Value} {xs : List Value} (h : w.ownsRow B e k v n xs) (hm : mb < B) : some mb ≠ v.ownBlock := fun e => by
  have := own_lt h mb e.symm
  omega
theorem own_neMb {w : World} {B e k n mb : Nat} {v : Value} {xs : List Value} (h : w.ownsRow B e k v n xs) (hm : mb < B) : v.ownBlock = none ∨ v.ownBlock ≠ some mb := .inr (fun e => by have := own_lt h mb e; omega)
theorem implIsDataX_in {w : World} {p g n z E t N c : Nat} {u : Nat → UInt8} (a : Int) (h : XW w p g n z E t N c u) (hn : n ≤ 1048576) (b : Bool) (hb : b = true ↔ inX n t a) :
    Calls Tryd.prog 77 #[.pointer (some ⟨p, 0, none⟩), .int .i64 a] w fun r w' => r = .returned (.bool b) ∧ w' = w.drew :=
  (implIsDataX_any a h hn).mono fun r w' q => ⟨by
    rw [q.1]
    congr 2
    rw [Bool.eq_iff_iff, hb]
    unfold inX
    simp, q.2⟩
set_option maxHeartbeats 4000000 in
theorem implBlkX_any {w : World} {p g n z E t N c mb cnt k : Nat} {u : Nat → UInt8} {T : List Int} {e : XE} {A : Option Addr} {ca z0 : Nat} (h : XW w p g n z E t N c u) (hn : n ≤ 1000) (he : e.ok z0) (hs : Sl w w.heap.size A e.bl.length (fun i => .int .i64 (e.bl.getD i 0)))
    (hm : BSet Tryd.prog 2 4 w mb cnt (fun x => (x : Int) ∈ T)) (hcnt : cnt ≤ 1000) :
    Calls Tryd.prog 43 #[.pointer (some ⟨p, 0, none⟩), .int .i64 k, e.val A ca, .map (some mb)] w fun r w' => ∃ A2 c2, r = .returned (.slice A2 (bProbs n t T e.bl k).length c2) ∧ PRX w.heap.size w' A2 c2 (bProbs n t T e.bl k) ∧ BSet Tryd.prog 2 4 w' mb (cnt + e.bl.length) (fun x => (x : Int) ∈ T ++ e.bl) ∧ w.grownBy w' (some mb) := by
  obtain ⟨es, cl, hmap⟩ := hm.isMap
  have hmlt := hm.lt
  have hbl4 := XE.ok_len he
  have HSL := Lib.hid (fun (W : World) (hW : w.grownBy W (some mb)) => Sl.allBut hs (allBut_of hW) hmap)
  have HXW := Lib.hid (fun (W : World) (hW : w.grownBy W (some mb)) => h.keptM hW hmap)
  have HOK := Lib.hid (fun i (hi : i < e.bl.length) => bl_nat he hi)
  have HZB : Hid (∀ W : World, (zeroValue 4).run Tryd.prog W = .ok (.bool false) W) := Lib.hid (fun W => by rfl)
  have HST := Lib.hid (fun (W : World) (b cnt : Nat) (Q : Nat → Prop) (hW : BSet Tryd.prog 2 4 W b cnt Q) (hc : cnt ≤ 100000) (x : Nat) (hx : x < 1000) => hW.store (t := 70) Tryd.underlying2 Tryd.underlying70 Tryd.underlying4 (by simp only [maxLen]; omega) x hx true)
  have HLQ := Lib.hid (fun (W : World) (b cnt : Nat) (Q : Nat → Prop) (hW : BSet Tryd.prog 2 4 W b cnt Q) (x : Nat) (hx : x < 1000) => hW.look (t := 70) Tryd.underlying2 Tryd.underlying70 Tryd.underlying4 (HZB.out W) x hx)
  obtain ⟨i0, hi0, hi1, hi2, hi3⟩ := info_parts infoXP
  have I0 := Lib.hid hi0
  have I1 := Lib.hid hi1
  have I2 := Lib.hid hi2
  have I3 := Lib.hid hi3
  obtain ⟨st, nm, no, tl, bl⟩ := e
  unfold XE.val
  simp only at hbl4 HSL HOK ⊢
  have c4 := (Rw.new w 56 #[.int .i64 st, .string nm, .int .i64 no, .int .i64 tl, .slice A bl.length ca]).cell 4
  have hal := (Below.refl w.heap.size w).alloc (Nat.le_refl _) (.cells #[.int .i64 st, .string nm, .int .i64 no, .int .i64 tl, .slice A bl.length ca] 56)
  have HG0 := Lib.hid (only_alloc (only_refl w (some mb)) (.cells #[.int .i64 st, .string nm, .int .i64 no, .int .i64 tl, .slice A bl.length ca] 56))
  have HM0 := Lib.hid (hm.below hal)
  clear h hs he hmap hm hal hi0 hi1 hi2 hi3
  go_enter Tryd.func43, Tryd.ntmps43
  go_upto_region 3 with fail
  generalize w.alloc (.cells #[.int .i64 st, .string nm, .int .i64 no, .int .i64 tl, .slice A bl.length ca] 56) = W0 at *
  clear c4
  go_wp2_with fail
  go_loopw [9, 10, 16] (fun s9 s10 s16 wr => ∃ (i c1 c2 : Nat) (A1 A2 : Option Addr), i ≤ bl.length ∧ s16 = .int .i64 i ∧ s9 = .slice A1 (oX n t bl k i).length c1 ∧ s10 = .slice A2 (cX n t T bl k i).length c2 ∧ PRX w.heap.size wr A1 c1 (oX n t bl k i) ∧ PRX w.heap.size wr A2 c2 (cX n t T bl k i) ∧ Apart (.slice A1 (oX n t bl k i).length c1) (.slice A2 (cX n t T bl k i).length c2) ∧ BSet Tryd.prog 2 4 wr mb (cnt + i) (fun x => (x : Int) ∈ T ++ bl.take i) ∧ w.grownBy wr (some mb)) (fun _ _ i _ => bl.length - (intOf i).toNat)
  case atStart => exact ⟨0, 0, 0, none, none, Nat.zero_le _, rfl, rfl, rfl, pRX_nil _ _, pRX_nil _ _, apart_nil _, HM0.out.congr fun x => by simp, HG0.out⟩
  case round =>
    obtain ⟨i, c1, c2, A1, A2, hi, rfl, rfl, rfl, ho, hc, hap, hbs, hg⟩ := hrel
    have hol := oX_len (n := n) (t := t) (l := bl) (k := (k : Int)) (i := i)
    have hcl := cX_len (n := n) (t := t) (T := T) (l := bl) (k := (k : Int)) (i := i)
    have hwr := hg.size
    by_cases hlt : i < bl.length
    · have htk := take_moreI hlt
      obtain ⟨hxv, hx255⟩ := HOK.out i hlt
      obtain ⟨b2, o2, rfl, hb2l, hcj⟩ := (HSL.out _ hg) i hlt
      dsimp only at hcj
      have ho1 := oX_hit (n := n) (t := t) (l := bl) (k := (k : Int)) (i := i)
      have ho2 := oX_miss (n := n) (t := t) (l := bl) (k := (k : Int)) (i := i)
      have hc1 := cX_hit (n := n) (t := t) (T := T) (l := bl) (k := (k : Int)) (i := i)
      have hc2 := cX_miss (n := n) (t := t) (T := T) (l := bl) (k := (k : Int)) (i := i)
      unfold oQ at ho1 ho2
      unfold cQ at hc1 hc2
      obtain ⟨xb, hxb⟩ : ∃ xb, (bl.getD i 0).toNat = xb := ⟨_, rfl⟩
      rw [hxb] at hxv hx255
      rw [hxv] at hcj htk ho1 ho2 hc1 hc2
      have HTK := Lib.hid htk
      have hXW := HXW.out _ hg
      have hgd := only_drew hg
      have hod : PRX w.heap.size wr.drew A1 c1 (oX n t bl k i) := ho
      have hcd : PRX w.heap.size wr.drew A2 c2 (cX n t T bl k i) := hc
      have hbd : BSet Tryd.prog 2 4 wr.drew mb (cnt + i) (fun x => (x : Int) ∈ T ++ bl.take i) := hbs
      have HGD := Lib.hid hgd
      have HOD := Lib.hid hod
      have HCD := Lib.hid hcd
      have HBD := Lib.hid hbd
      have HAP := Lib.hid hap
      have HFIN : Hid (∀ (W : World), w.grownBy W (some mb) → BSet Tryd.prog 2 4 W mb (cnt + i) (fun x => (x : Int) ∈ T ++ bl.take i) → ∃ W', (Instr.mapUpdate 70 (.map (some mb)) (.int .i64 (xb : Int)) (.bool true)).run Tryd.prog W = .ok () W' ∧ BSet Tryd.prog 2 4 W' mb (cnt + (i + 1)) (fun x => (x : Int) ∈ T ++ bl.take (i + 1)) ∧ W.grownBy W' (some mb)) := Lib.hid (fun W hgW hbW => by
        obtain ⟨W', h1, h2, h3⟩ := HST.out W mb _ _ hbW (by omega) xb (by omega)
        refine ⟨W', h1, h2.congr fun x => ?_, h3⟩
        rw [HTK.out, ← List.append_assoc, List.mem_append (s := T ++ bl.take i)]
        by_cases hx : x = xb
        · subst hx; simp
        · rw [if_neg hx]
          constructor
          · exact .inl
          · rintro (h | h)
            · exact h
            · simp at h; omega)
      clear hxb hxv htk hgd hod hcd hbd hbs ho hc hap
      by_cases hin : inX n t (xb : Int)
      · have hID := Lib.hid (implIsDataX_in (xb : Int) hXW (by omega) true (by simp [hin]))
        have HO := Lib.hid (ho2 (fun q => q hin))
        obtain ⟨v, hrun, hv⟩ := HLQ.out wr.drew mb _ _ HBD.out xb (by omega)
        by_cases hq : (xb : Int) ∈ T ++ bl.take i
        · have hvt : v = true := hv.2 hq
          subst hvt
          have HC := Lib.hid (hc1 ⟨hin, hq⟩)
          have hcd := HCD.out
          unfold PRX at hcd
          have HCX := Lib.hid hcd
          clear ho1 ho2 hc1 hc2 hXW hin hv hq hcd
          go_upto_region 9 with (first
            | (go_at_call 77; refine hID.out.mono ?_; rintro r w1 ⟨rfl, rfl⟩)
            | (at_builtin; refine wpList_pushO (.tmp 35) (.tmp 39) 35 w.heap.size 68 (.agg #[.int .i64 0, .int .i64 0, .int .i64 0]) [.int .i64 3, .int .i64 (k : Int), .int .i64 (xb : Int)] 3 24 _ (cX n t T bl k i).length _ HCX.out rfl rfl Tryd.underlying35 infoXP rfl (by omega) rfl rfl rfl rfl (by intro u hu; simp at hu; rcases hu with rfl | rfl | rfl <;> rfl) (by omega) (by omega) hwr ?_; intro A4 c4 w4 ho4 hg4 hf4))
          have hg5 := only_more HGD.out hg4 (own_lt HCX.out)
          obtain ⟨w6, hrun6, hb6, hg6⟩ := HFIN.out w4 hg5 (HBD.out.grown hg4 (ne_own HCX.out hmlt))
          have HG5 := Lib.hid hg5
          have HB6 := Lib.hid hb6
          have HG6 := Lib.hid hg6
          have HO4 := Lib.hid ho4
          have HG4 := Lib.hid hg4
          clear hg5 hb6 hg6 ho4 hg4
          go_wp2_with fail
          go_roundw
          case rel =>
            have h1 : PRX w.heap.size w6 A1 c1 (oX n t bl k i) := (World.ownsRow.kept HOD.out HG4.out HAP.out.kept).kept HG6.out (own_neMb HOD.out hmlt)
            have h2 := pRX_snoc (HO4.out.kept HG6.out (own_neMb HO4.out hmlt))
            exact ⟨i + 1, c1, c4, A1, some A4, by omega, by go_num, by rw [HO.out], by rw [HC.out, List.length_append]; rfl, by rw [HO.out]; exact h1, by rw [HC.out]; exact h2, by rw [HO.out, HC.out, List.length_append]; exact (HAP.out.symm.fresh hf4 (own_hi HOD.out)).symm, HB6.out, only_trans HG5.out HG6.out⟩
          case measure => simp [intOf]; omega
        · have hvt : v = false := by
            cases v with
            | false => rfl
            | true => exact absurd (hv.1 rfl) hq
          subst hvt
          have HC := Lib.hid (hc2 (fun q => hq q.2))
          obtain ⟨w6, hrun6, hb6, hg6⟩ := HFIN.out wr.drew HGD.out HBD.out
          have HB6 := Lib.hid hb6
          have HG6 := Lib.hid hg6
          clear ho1 ho2 hc1 hc2 hXW hin hv hq hb6 hg6
          go_wp2_with (first
            | (go_at_call 77; refine hID.out.mono ?_; rintro r w1 ⟨rfl, rfl⟩))
          go_roundw
          case rel =>
            have h1 : PRX w.heap.size w6 A1 c1 (oX n t bl k i) := World.ownsRow.kept HOD.out HG6.out (own_neMb HOD.out hmlt)
            have h2 : PRX w.heap.size w6 A2 c2 (cX n t T bl k i) := World.ownsRow.kept HCD.out HG6.out (own_neMb HCD.out hmlt)
            exact ⟨i + 1, c1, c2, A1, A2, by omega, by go_num, by rw [HO.out], by rw [HC.out], by rw [HO.out]; exact h1, by rw [HC.out]; exact h2, by rw [HO.out, HC.out]; exact HAP.out, HB6.out, only_trans HGD.out HG6.out⟩
          case measure => simp [intOf]; omega
      · have hID := Lib.hid (implIsDataX_in (xb : Int) hXW (by omega) false (by simp [hin]))
        have HO := Lib.hid (ho1 hin)
        have HC := Lib.hid (hc2 (fun q => hin q.1))
        have hod := HOD.out
        unfold PRX at hod
        have HOX := Lib.hid hod
        clear ho1 ho2 hc1 hc2 hXW hin hod
        go_upto_region 9 with (first
          | (go_at_call 77; refine hID.out.mono ?_; rintro r w1 ⟨rfl, rfl⟩)
          | (at_builtin; refine wpList_pushO (.tmp 25) (.tmp 29) 35 w.heap.size 68 (.agg #[.int .i64 0, .int .i64 0, .int .i64 0]) [.int .i64 2, .int .i64 (k : Int), .int .i64 (xb : Int)] 3 24 _ (oX n t bl k i).length _ HOX.out rfl rfl Tryd.underlying35 infoXP rfl (by omega) rfl rfl rfl rfl (by intro u hu; simp at hu; rcases hu with rfl | rfl | rfl <;> rfl) (by omega) (by omega) hwr ?_; intro A4 c4 w4 ho4 hg4 hf4))
        have hg5 := only_more HGD.out hg4 (own_lt HOX.out)
        obtain ⟨w6, hrun6, hb6, hg6⟩ := HFIN.out w4 hg5 (HBD.out.grown hg4 (ne_own HOX.out hmlt))
        have HG5 := Lib.hid hg5
        have HB6 := Lib.hid hb6
        have HG6 := Lib.hid hg6
        have HO4 := Lib.hid ho4
        have HG4 := Lib.hid hg4
        clear hg5 hb6 hg6 ho4 hg4
        go_wp2_with fail
        go_roundw
        case rel =>
          have h1 : PRX w.heap.size w6 A2 c2 (cX n t T bl k i) := (World.ownsRow.kept HCD.out HG4.out HAP.out.symm.kept).kept HG6.out (own_neMb HCD.out hmlt)
          have h2 := pRX_snoc (HO4.out.kept HG6.out (own_neMb HO4.out hmlt))
          exact ⟨i + 1, c4, c2, some A4, A2, by omega, by go_num, by rw [HO.out, List.length_append]; rfl, by rw [HC.out], by rw [HO.out]; exact h2, by rw [HC.out]; exact h1, by rw [HO.out, HC.out, List.length_append]; exact HAP.out.fresh hf4 (own_hi HCD.out), HB6.out, only_trans HG5.out HG6.out⟩
        case measure => simp [intOf]; omega
    · obtain rfl : i = bl.length := by omega
      rw [List.take_length] at hbs
      have ho' := ho
      unfold PRX at ho'
      have HOX := Lib.hid ho'
      have hcs := hc.sl
      have HCS := Lib.hid hcs
      have HBS := Lib.hid hbs
      have HG := Lib.hid hg
      clear ho ho' hc hcs hbs hg hap
      go_wp2_with (at_builtin; refine wpList_appR rfl (.tmp 44) (.tmp 45) 35 rfl w.heap.size 68 i0 (.agg #[.int .i64 0, .int .i64 0, .int .i64 0]) 3 24 Tryd.underlying35 I0.out I1.out I2.out I3.out rfl (by omega) _ (oX n t bl k bl.length).length _ (by rfl) HOX.out A2 (cX n t T bl k bl.length).length c2 wr.heap.size _ (by rfl) HCS.out (fun _ => rfl) (by simp only [maxLen]; omega) (by omega) hwr ?_; intro A7 c7 w7 ho7 hg7 hown7)
      go_ret
      have h2 := pRX_app ho7
      refine ⟨A7, c7, ?_, h2, HBS.out.grown hg7 (ne_own HOX.out hmlt), only_more HG.out hg7 (own_lt HOX.out)⟩
      unfold bProbs
      rw [List.length_append]
      rfl
end Go.Proofs.YtmgcaiilocifbaaDoor
