/-
  Disks of extents: the free data blocks: the reference's side.
-/
import Derived.Test.YtmgcaiilocifbaaGreatDoorXrT
import Derived.Deep.DeepCutAuto
namespace Go.Proofs.YtmgcaiilocifbaaGreatDoor
open Go Go.ChangeShapes Go.WideShapes Go.ChangeAt Go.RowKit lib
set_option linter.unusedVariables false
set_option linter.unusedSimpArgs false
set_option maxRecDepth 100000
/-- the blocks of some entries, one after another -/
noncomputable def blsX (z : Nat) (U : Nat → UInt8) (l : List Nat) : List Int := l.flatMap fun k => (xen z U k).bl
theorem blsX_snoc (z : Nat) (U : Nat → UInt8) (l : List Nat) (k : Nat) : blsX z U (l ++ [k]) = blsX z U l ++ (xen z U k).bl := by
  unfold blsX
  rw [List.flatMap_append]
  simp
theorem blsX_len (z : Nat) (U : Nat → UInt8) : ∀ l : List Nat, (blsX z U l).length ≤ 4 * l.length
  | [] => by simp [blsX]
  | a :: l => by
    have h1 := blsX_len z U l
    have h2 := XE.ok_len (xen_ok z U a)
    unfold blsX at h1 ⊢
    simp only [List.flatMap_cons, List.length_append, List.length_cons]
    omega
theorem taken_bls {z : Nat} {U : Nat → UInt8} {E b : Nat} : takenX z U E b ↔ (b : Int) ∈ blsX z U (picks (usedAs z U ⟨#[]⟩) E) := by
  unfold takenX blsX
  rw [List.mem_flatMap]
  constructor
  · rintro ⟨k, h1, h2, h3⟩
    exact ⟨k, mem_picks.2 ⟨h1, h2, .inl rfl⟩, h3⟩
  · rintro ⟨k, h1, h2⟩
    obtain ⟨h3, h4, _⟩ := mem_picks.1 h1
    exact ⟨k, h3, h4, h2⟩
theorem hasZ_mem (l : List Int) (v : Int) : hasZ (fun i => l.getD i 0) l.length v = true ↔ v ∈ l := by
  constructor
  · intro h
    unfold hasZ at h
    rw [List.any_eq_true] at h
    obtain ⟨i, hi, he⟩ := h
    simp only [List.mem_range] at hi
    have he' : l.getD i 0 = v := by simpa using he
    rw [← he', List.getD_eq_getElem?_getD, List.getElem?_eq_getElem hi]
    exact List.getElem_mem hi
  · intro h
    obtain ⟨i, hi, he⟩ := List.mem_iff_getElem.1 h
    exact hasZ_true hi (by rw [List.getD_eq_getElem?_getD, List.getElem?_eq_getElem hi]; exact he)
theorem range_int (l : List Int) : (List.range (l.length * 1)).map (fun i => Value.int .i64 (l.getD i 0)) = l.map (Value.int .i64) := by
  rw [Nat.mul_one]
  apply List.ext_getElem
  · simp
  · intro i h1 h2
    simp at h1
    simp [List.getD_eq_getElem?_getD, h1]
set_option maxHeartbeats 4000000 in
theorem specFreeX_any {w : World} {n c q z E t : Nat} {A : Option Addr} {s : Nat → ByteArray} (hs : Sl w w.heap.size A n (fun i => .string (s i))) (hsz : ∀ i, i < n → (s i).size = z) (hr : Rw w q 30 #[.int .i64 n, .int .i64 z, .int .i64 E, .int .i64 t]) (hz8 : 8 ≤ z) (hz32 : z ≤ 32) (hn : n ≤ 128) (hE : E ≤ 32) (hfit : ∀ k, k < E → z + k * 16 + 16 ≤ n * z) (ht : t ≤ n) :
    Calls Tryz.prog 33 #[.slice A n c, .pointer (some ⟨q, 0, none⟩)] w fun r w' => ∃ A2 c2, r = .returned (.slice A2 (freeX z (joinU z s) E t (n - t)).length c2) ∧ NatR w.heap.size w' A2 c2 (freeX z (joinU z s) E t (n - t)) ∧ Below w.heap.size w w' := by
  have hb0 := (Below.refl w.heap.size w).alloc (Nat.le_refl _) (.cells #[] 2)
  have hs0 : (w.alloc (.cells #[] 2)).heap.size = w.heap.size + 1 := World.size_alloc _ _
  have HUS := Lib.hid (specUsedX_any (c := c) ⟨#[]⟩ ((hs.below hb0).more hb0.size) hsz (hr.below hb0 hr.lt) hz8 hz32 hn hE hfit)
  have HNE := Lib.hid (own_nilE w 2 1 w.heap.size (Nat.le_refl _))
  obtain ⟨l, hl⟩ : ∃ l, l = picks (usedAs z (joinU z s) ⟨#[]⟩) E := ⟨_, rfl⟩
  have hlen : l.length ≤ 32 := by rw [hl]; exact Nat.le_trans (picks_len _ _) hE
  have hmem : ∀ j, j < l.length → l.getD j 0 < E ∧ (xen z (joinU z s) (l.getD j 0)).st = 1 := fun j hj => by
    have := getD_mem hj
    rw [hl] at this
    have h2 := mem_picks.1 (by rwa [← hl] at this ⊢)
    exact ⟨h2.1, h2.2.1⟩
  rw [← hl] at HUS
  have htk : ∀ b, takenX z (joinU z s) E b ↔ (b : Int) ∈ blsX z (joinU z s) l := fun b => by rw [hl]; exact taken_bls
  have HTK := Lib.hid htk
  have HL := Lib.hid hl
  have HS := Lib.hid hs
  have HR := Lib.hid hr
  have HSZ := Lib.hid hsz
  have HF := Lib.hid hfit
  have HME := Lib.hid hmem
  have HB0 := Lib.hid hb0
  have hql := hr.lt
  obtain ⟨i0, hi0, hi1, hi2, hi3⟩ := info_parts infoIX
  have I0 := Lib.hid hi0
  have I1 := Lib.hid hi1
  have I2 := Lib.hid hi2
  have I3 := Lib.hid hi3
  clear hb0 hl hs hr hsz hfit hmem htk hi0 hi1 hi2 hi3
  go_enter Tryz.func33, Tryz.ntmps33
  go_upto_region 2 with fail
  generalize w.alloc (.cells #[] 2) = W0 at *
  go_upto_region 3 with (go_at_call 13; refine HUS.out.mono ?_; rintro r w2 ⟨A2, c2, rfl, hna, hb2⟩)
  rw [hs0] at hna
  have hB2 : Below w.heap.size w w2 := HB0.out.trans (hb2.mono (by omega))
  have hw2 := hb2.size
  have hne2 := own_below HNE.out hb2
  have HNA := Lib.hid hna
  have HB2 := Lib.hid hB2
  have HNE2 := Lib.hid hne2
  clear hna hB2 hb2 hne2
  go_wp2_with fail
  go_loopw [5, 7, 8, 9] (fun s5 s7 s8 s9 wr => ∃ (i c1 : Nat) (A1 : Option Addr), i ≤ l.length ∧ s7 = .int .i64 i ∧ s5 = .slice A1 (blsX z (joinU z s) (l.take i)).length c1 ∧ IntR w.heap.size wr A1 c1 (blsX z (joinU z s) (l.take i)) ∧ (∀ o, (Value.slice A1 (blsX z (joinU z s) (l.take i)).length c1).ownBlock = some o → o = w.heap.size ∨ w2.heap.size ≤ o) ∧ AllBut w.heap.size w2 wr ∧ Below w.heap.size w wr) (fun _ i _ _ _ => l.length - (intOf i).toNat)
  case atStart => exact ⟨0, 0, some ⟨w.heap.size, 0, none⟩, Nat.zero_le _, rfl, rfl, HNE2.out, fun o ho => .inl (by simpa [Value.ownBlock] using ho.symm), ⟨fun _ _ _ => rfl, Nat.le_refl _⟩, HB2.out⟩
  case round =>
    obtain ⟨i, c1, A1, hi, rfl, rfl, hir, hob, hab, hb⟩ := hrel
    have hwr := hb.size
    have hbl := blsX_len z (joinU z s) (l.take i)
    have hbl2 : (blsX z (joinU z s) (l.take i)).length ≤ 128 := by rw [List.length_take] at hbl; omega
    by_cases hlt : i < l.length
    · obtain ⟨hkE, hst⟩ := HME.out i hlt
      have hfit := HF.out _ hkE
      obtain ⟨b2, cs2, rfl, hb2g, _⟩ := own_row HNA.out (by omega)
      obtain ⟨_, _, e1, hb2l, hcj⟩ := HNA.out.sl i hlt
      simp only [Option.some.injEq, Addr.mk.injEq, and_true] at e1
      obtain ⟨rfl, rfl⟩ := e1
      dsimp only at hcj
      have hcj2 : wr.cell? ⟨b2, 0 + i, none⟩ = some (.int .i64 ((l.getD i 0 : Nat) : Int)) := (World.cell?_of_block (w := w2) (hab.1 b2 hb2l (by omega))).trans hcj
      rw [Nat.zero_add] at hcj2
      have htk := take_more hlt
      obtain ⟨k, hk⟩ : ∃ k, l.getD i 0 = k := ⟨_, rfl⟩
      rw [hk] at hcj2 htk hkE hfit hst
      have hgd : xGood z (xby z (joinU z s) k) := xen_used (by rw [hst]; decide)
      have HEG := Lib.hid ((specEntryX_any (c := c) ((HS.out.below hb).more hwr) HSZ.out (HR.out.below hb hql) hz8 hz32 hn hfit).mono fun r w' q => xEnt_good (v := xby z (joinU z s) k) q hgd)
      obtain ⟨e, he⟩ : ∃ e, e = xen z (joinU z s) k := ⟨_, rfl⟩
      have hgx : xent z (xby z (joinU z s) k) = e := he.symm
      rw [hgx] at HEG
      unfold XE.val at HEG
      have hl4 : e.bl.length ≤ 4 := by rw [he]; exact XE.ok_len (xen_ok _ _ _)
      have hsn := blsX_snoc z (joinU z s) (l.take i) k
      rw [← htk, ← he] at hsn
      have HSN := Lib.hid hsn
      have HIR := Lib.hid hir
      have HAB := Lib.hid hab
      have HOB := Lib.hid hob
      clear hsn hir hab hob htk hgx he hgd hst hk hcj
      go_upto_region 7 with (go_at_call 17; refine HEG.out.mono ?_; rintro r w5 ⟨A5, c5, rfl, hi5, hb5⟩)
      have hal := (Below.refl w5.heap.size w5).alloc (Nat.le_refl _) (.cells #[.int .i64 e.st, .string e.nm, .int .i64 e.no, .int .i64 e.tl, .slice A5 e.bl.length c5] 38)
      have hB6 := hb5.alloc hb5.size (.cells #[.int .i64 e.st, .string e.nm, .int .i64 e.no, .int .i64 e.tl, .slice A5 e.bl.length c5] 38)
      have hE6 := Rw.new w5 38 #[.int .i64 e.st, .string e.nm, .int .i64 e.no, .int .i64 e.tl, .slice A5 e.bl.length c5]
      have hI6 := (hi5.below hal).sl
      have hT6 := HIR.out.below hB6
      have hb6 := hb.trans (hB6.mono hwr)
      have hab6 := HAB.out.below hB6
      generalize w5.alloc (.cells #[.int .i64 e.st, .string e.nm, .int .i64 e.no, .int .i64 e.tl, .slice A5 e.bl.length c5] 38) = W6 at *
      have y4 := hE6.cell 4
      have hz6 := hb6.size
      unfold IntR at hT6
      have HT6 := Lib.hid hT6
      have HI6 := Lib.hid hI6
      clear hT6 hI6 hi5 hal hB6 hb5 hE6
      go_wp2_with (at_builtin; refine wpList_appR rfl (.tmp 32) (.tmp 34) 33 rfl w.heap.size 2 i0 (.int .i64 0) 1 8 Tryz.underlying33 I0.out I1.out I2.out I3.out rfl (by omega) _ (blsX z (joinU z s) (l.take i)).length _ (by rfl) HT6.out A5 e.bl.length c5 W6.heap.size (fun i => .int .i64 (e.bl.getD i 0)) (by rfl) (by rw [Nat.mul_one]; exact HI6.out) (fun _ => rfl) (by simp only [maxLen]; omega) (by omega) hz6 ?_; intro A7 c7 w7 ho7 hg7 hown7)
      go_roundw
      case rel =>
        have hlx : (blsX z (joinU z s) (l.take (i + 1))).length = (blsX z (joinU z s) (l.take i)).length + e.bl.length := by rw [HSN.out, List.length_append]
        refine ⟨i + 1, c7, A7, by omega, by go_num, by rw [hlx], ?_, ?_, hab6.grown hg7 HOB.out, hb6.grown hg7 hz6 (fun j hj => own_lt HT6.out j hj)⟩
        · unfold IntR
          rw [hlx, HSN.out, List.map_append, ← range_int e.bl]
          exact ho7
        · rw [hlx]
          intro o ho
          rcases hown7 o ho with h | h
          · exact HOB.out o h
          · right
            have := hab6.2
            omega
      case measure => simp [intOf]; omega
    · obtain rfl : i = l.length := by omega
      rw [List.take_length] at hir
      have hx0 := (HR.out.below hb hql).cell 0
      have hx3 := (HR.out.below hb hql).cell 3
      have HIR := Lib.hid hir
      rw [List.take_length] at hbl2
      have HTL := Lib.hid (List.take_length (l := l))
      clear hir hob hab hbl
      obtain ⟨WW, hWW⟩ : ∃ W, W = wr := ⟨_, rfl⟩
      subst hWW
      have hal := (Below.refl WW.heap.size WW).alloc (Nat.le_refl _) (.cells #[] 2)
      have HAL := Lib.hid hal
      have HN0 := Lib.hid (own_nilE WW 2 1 WW.heap.size (Nat.le_refl _))
      have hx3' := (HR.out.below (hb.trans (hal.mono hwr)) hql).cell 3
      clear hal
      rw [HTL.out]
      go_wp2_with fail
      go_loopw [10, 11] (fun s10 s11 wq => ∃ (i b c2 : Nat) (A2 : Option Addr), i ≤ n - t ∧ t + i = b ∧ s11 = .int .i64 (b : Int) ∧ s10 = .slice A2 (freeX z (joinU z s) E t i).length c2 ∧ NatR WW.heap.size wq A2 c2 (freeX z (joinU z s) E t i) ∧ Below WW.heap.size WW wq) (fun _ i _ => n - (intOf i).toNat)
      case atStart => exact ⟨0, t, 0, some ⟨WW.heap.size, 0, none⟩, Nat.zero_le _, rfl, rfl, rfl, HN0.out, HAL.out⟩
      case round =>
        obtain ⟨i, b, c2, A2, hi, hbi, rfl, rfl, hna, hbb⟩ := hrel
        have hzq := hbb.size
        have hlen := freeX_len z (joinU z s) E t i
        have hw0 := (HR.out.below (hb.trans (hbb.mono hwr)) hql).cell 0
        by_cases hlt : b < n
        · have HHA := Lib.hid (l00Has_any (fun i => (blsX z (joinU z s) l).getD i 0) (b : Int) ((HIR.out.below hbb).sl) (c := c1) (by omega))
          have HNA := Lib.hid hna
          have HBI := Lib.hid hbi
          clear hna
          obtain ⟨v, hv⟩ : ∃ v, v = hasZ (fun i => (blsX z (joinU z s) l).getD i 0) (blsX z (joinU z s) l).length (b : Int) := ⟨_, rfl⟩
          rw [← hv] at HHA
          have hvq : v = true ↔ takenX z (joinU z s) E b := by rw [hv, hasZ_mem, HTK.out]
          clear hv
          by_cases hq : takenX z (joinU z s) E b
          · have hvt : v = true := hvq.2 hq
            subst hvt
            have HFX := Lib.hid (freeX_miss (i := i) (show takenX z (joinU z s) E (t + i) by rw [hbi]; exact hq))
            clear hvq hq hbi
            go_wp2_with (go_at_call 32; refine HHA.out.mono ?_; rintro e3 w3 ⟨rfl, hw3⟩; rw [← hw3]; clear hw3 w3)
            go_roundw
            case rel => exact ⟨i + 1, b + 1, c2, A2, by have := HBI.out; omega, by have := HBI.out; omega, by go_num, by rw [HFX.out], by rw [HFX.out]; exact HNA.out, hbb⟩
            case measure => simp [intOf]; omega
          · have hvt : v = false := by
              cases v with
              | false => rfl
              | true => exact absurd (hvq.1 rfl) hq
            subst hvt
            have HFX := Lib.hid (freeX_hit (i := i) (show ¬ takenX z (joinU z s) E (t + i) by rw [hbi]; exact hq))
            have hna2 := HNA.out
            unfold NatR at hna2
            have HN2 := Lib.hid hna2
            have hln : (freeX z (joinU z s) E t i).length ≤ 1000 := by omega
            clear hvq hq hna2 hbi hlen
            go_wp2_with (first
              | (go_at_call 32; refine HHA.out.mono ?_; rintro e3 w3 ⟨rfl, hw3⟩; rw [← hw3]; clear hw3 w3)
              | (at_builtin; refine wpList_pushN (.tmp 53) (.tmp 55) 33 WW.heap.size 2 (.int .i64 0) [.int .i64 (b : Int)] 1 8 _ (freeX z (joinU z s) E t i).length _ HN2.out rfl rfl Tryz.underlying33 infoIX rfl (by omega) rfl rfl rfl rfl (by intro u hu; simp at hu; subst hu; rfl) (by omega) (by omega) hzq ?_; intro A4 c4 w4 ho4 hg4))
            go_roundw
            case rel =>
              refine ⟨i + 1, b + 1, c4, some A4, by have := HBI.out; omega, by have := HBI.out; omega, by go_num, by rw [HFX.out, List.length_append]; rfl, ?_, hbb.grown hg4 hzq (fun j hj => own_lt HN2.out j hj)⟩
              unfold NatR
              rw [HFX.out, List.map_append, List.length_append, HBI.out]
              exact ho4
            case measure => simp [intOf]; omega
        · obtain rfl : i = n - t := by omega
          go_wp2_with fail
          go_ret
          exact ⟨A2, c2, rfl, hna.base hwr, hb.trans (hbb.mono hwr)⟩
end Go.Proofs.YtmgcaiilocifbaaGreatDoor
