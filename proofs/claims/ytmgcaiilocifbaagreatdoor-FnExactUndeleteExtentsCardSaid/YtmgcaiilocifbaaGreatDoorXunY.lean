/-
  Disks of extents: a deleted file restored: the program's side, whole. (Printed by mkxun.py.)
  Disks of extents: a deleted file restored: the reference's side, whole. (Printed by mkxuv.py.)
-/
import Derived.Test.YtmgcaiilocifbaaGreatDoorXunZ
import Derived.Test.YtmgcaiilocifbaaGreatDoorXuG
import Derived.Deep.DeepCutAuto
namespace Go.Proofs.YtmgcaiilocifbaaGreatDoor
open Go Go.ChangeShapes Go.WideShapes Go.ChangeAt Go.RowKit lib
set_option linter.unusedVariables false
set_option linter.unusedSimpArgs false
set_option maxRecDepth 100000
theorem byNoU_any (x y : XN) (W : World) : Calls Tryz.prog 23 (#[.agg (encN x).toArray, .agg (encN y).toArray] ++ #[]) W fun e w' => e = .returned (.int .i64 (cmpN x y)) ∧ ∃ q os', w' = Go.Sort.grow (W.drewN q) os' := by
  obtain ⟨⟨⟨st, nm, no, tl, bl⟩, ae, ce⟩, hx⟩ := x
  obtain ⟨⟨⟨st', nm', no', tl', bl'⟩, ae', ce'⟩, hy⟩ := y
  simp only at hx hy
  unfold encN cmpN XE.cells
  simp only
  generalize bl.length = m at *
  generalize bl'.length = m' at *
  have h1 : no - no' ≤ 31 := by omega
  have h2 : -31 ≤ no - no' := by omega
  have hw : IntKind.i64.wrap (no - no') = no - no' := by rw [IntKind.wrap_i64]; omega
  go_enter Tryz.func23, Tryz.ntmps23
  go_wp2
  go_ret
  exact ⟨rfl, 0, _, by rw [Go.Sort.alloc_eq_grow, Go.Sort.alloc_eq_grow, Go.Sort.grow_grow]; rfl⟩
set_option maxHeartbeats 8000000 in
theorem implUndX_any {w : World} {n c : Nat} {A : Option Addr} {s : Nat → ByteArray} (nm : ByteArray) (hnm : nm.size ≤ 9223372036854775807) (hs : Sl w w.heap.size A n (fun i => .string (s i))) (hsz : ∀ i, i < n → (s i).size ≤ 9223372036854775807) (hn : n ≤ c) (hn2 : n ≤ 9223372036854775807) :
    Calls Tryz.prog 7 #[.slice A n c, .string nm] w fun r w' => UnOut n s nm r w w' := by
  have HO := Lib.hid (implOpenX hs hsz hn hn2)
  by_cases ho : opensX n s
  · obtain ⟨f1, f2, f3, f4, f5, f6, f7, f8, f9⟩ := shapeX ho
    have hc3 := undX_none (nm := nm) ho
    have hc4 := undX_there (nm := nm) ho
    have hcr := undX_rst (nm := nm) ho
    unfold UnOut
    obtain ⟨cd, hcd⟩ : ∃ cd, undXCode n s nm = cd := ⟨_, rfl⟩
    obtain ⟨V, hV⟩ : ∃ V, undX n s nm = V := ⟨_, rfl⟩
    obtain ⟨l, hll⟩ : ∃ l, goneOf n s nm = l := ⟨_, rfl⟩
    obtain ⟨l2, hl2⟩ : ∃ l, fileOf n s nm = l := ⟨_, rfl⟩
    obtain ⟨F, hF⟩ : ∃ F, undF n s = F := ⟨_, rfl⟩
    obtain ⟨L, hL⟩ : ∃ L, undL n s nm = L := ⟨_, rfl⟩
    rw [hcd, hV]
    rw [hcd] at hc3 hc4 hcr
    rw [hll] at hc3 hc4 hcr
    rw [hl2] at hc4 hcr
    rw [hF, hL] at hcr
    unfold undX at hV
    unfold undF at hF
    unfold undL at hL
    rw [hll] at hV hL
    unfold goneOf at hll
    unfold fileOf at hl2
    obtain ⟨z, hz⟩ : ∃ z, (s 0).size = z := ⟨_, rfl⟩
    rw [hz] at f1 f2 f3 f6 f8 hll hl2 hV hF hL hcr ⊢
    obtain ⟨U, hU⟩ : ∃ U, joinU z s = U := ⟨_, rfl⟩
    obtain ⟨t, ht⟩ : ∃ t, dataX n z = t := ⟨_, rfl⟩
    obtain ⟨E, hE⟩ : ∃ E, entsX n = E := ⟨_, rfl⟩
    have htn : t ≤ n := by rw [← ht]; exact (layX_data f1).1
    rw [hU] at hll hl2 hV hF hL
    rw [ht] at hF hcr
    rw [hE] at f7 f8 hll hl2 hF
    have HZ := Lib.hid hz
    have HUU := Lib.hid hU
    have HTT := Lib.hid ht
    have HEE := Lib.hid hE
    have HGO := Lib.hid (fun (W : World) (p g cc : Nat) (hx : XW W p g n z E t (n * z) cc U) (hcap : n * z ≤ cc) => implGoneX_any hx f7 f8 f6 hcap (by omega))
    have HFI := Lib.hid (fun (W : World) (p g cc : Nat) (hx : XW W p g n z E t (n * z) cc U) (hcap : n * z ≤ cc) => (show Calls Tryz.prog 21 #[.pointer (some ⟨p, 0, none⟩), .string nm] W fun r w' => FOut r W w' (xen z U) l2 by rw [← hl2]; exact implFileX_any nm hx f7 f8 f6 hcap (by omega) hnm))
    have HOP := Lib.hid ho
    have HC3 := Lib.hid hc3
    have HC4 := Lib.hid hc4
    have HCR := Lib.hid hcr
    have HFF := Lib.hid hF
    have HLL := Lib.hid hL
    have HVV := Lib.hid hV
    have HPK0 := Lib.hid hll
    have HF8 := Lib.hid f8
    clear ho hs hsz hz hU ht hE hc3 hc4 hcr hcd hV hll hl2 hF hL f1 f8 f9
    obtain ⟨i0, hi0, hi1, hi2, hi3⟩ := info_parts infoXE
    have I0 := Lib.hid hi0
    have I1 := Lib.hid hi1
    have I2 := Lib.hid hi2
    have I3 := Lib.hid hi3
    obtain ⟨j0, hj0, hj1, hj2, hj3⟩ := info_parts (show (Tryz.prog.info? 2).map (fun i => (i.zero, i.size, i.bytes)) = some (some (.int .i64 0), 1, 8) by kernel_rfl)
    have J0 := Lib.hid hj0
    have J1 := Lib.hid hj1
    have J2 := Lib.hid hj2
    have J3 := Lib.hid hj3
    clear hi0 hi1 hi2 hi3 hj0 hj1 hj2 hj3
    go_enter Tryz.func7, Tryz.ntmps7
    go_upto_region 4 with (go_at_call 19; refine HO.out.mono ?_; rintro r w0 ⟨h1, _⟩; obtain ⟨p, rfl, ow⟩ := h1 HOP.out; rw [HZ.out] at ow; obtain ⟨g, cc, hx, hcap, hb0, hp, hg⟩ := ow; rw [HUU.out, HTT.out, HEE.out] at hx)
    have HG1 := Lib.hid (HGO.out _ _ _ _ hx hcap)
    have HX0 := Lib.hid hx
    have HB0 := Lib.hid hb0
    have hpw := hx.lay.lt
    have hgw := hx.row.lt
    clear HGO hx hb0
    go_upto_region 7 with (go_at_call 20; refine HG1.out.mono ?_; rintro r w1 ⟨m, rfl, hmle, hm, hb1⟩)
    obtain ⟨a, ca, hma⟩ := hm
    have HM := Lib.hid hma
    have HB1 := Lib.hid hb1
    have hx2 := (HX0.out.below hb1).c2
    have hz1 := hb1.size
    clear hma hb1
    go_wp2_with fail
    go_loopw [9, 10, 11, 12, 13, 33] (fun s9 s10 s11 s12 s13 s33 wr => ∃ (k c1 c2 : Nat) (A1 A2 : Option Addr), k ≤ E ∧ s33 = .int .i64 k ∧ s9 = .slice A1 (picks (goneBy z U nm) k).length c1 ∧ s10 = .slice A2 (picks (goneBy z U nm) k).length c2 ∧ ERow w1.heap.size wr A1 (picks (goneBy z U nm) k).length c1 ((picks (goneBy z U nm) k).map fun j => (xen z U j, a j, ca j)) ∧ NatR w1.heap.size wr A2 c2 (picks (goneBy z U nm) k) ∧ Below w1.heap.size w1 wr) (fun _ _ _ _ _ i _ => E - (intOf i).toNat)
    case atStart => exact ⟨0, 0, 0, none, none, Nat.zero_le _, rfl, rfl, rfl, eRow_nil _ _, natR_nil _ _, Below.refl _ _⟩
    case round =>
      obtain ⟨k, c1, c2, A1, A2, hk, rfl, rfl, rfl, her, hir, hb⟩ := hrel
      have hwr := hb.size
      have hpl := picks_len (goneBy z U nm) k
      by_cases hlt : k < E
      · have hml := (HM.out.below hb).look Tryz.underlying2 (t := 46) Tryz.underlying46 (zeroXE wr) k hlt (by omega)
        have HER := Lib.hid her
        have HIR := Lib.hid hir
        clear her hir
        by_cases hu : isGone z U k
        · have hl := hml.1 hu
          obtain ⟨e, he⟩ : ∃ e, e = xen z U k := ⟨_, rfl⟩
          obtain ⟨ka, hka⟩ : ∃ x, x = a k := ⟨_, rfl⟩
          obtain ⟨kc, hkc⟩ : ∃ x, x = ca k := ⟨_, rfl⟩
          rw [← he, ← hka, ← hkc] at hl
          unfold XE.val at hl
          have HE := Lib.hid he
          have HKA := Lib.hid hka
          have HKC := Lib.hid hkc
          clear hml he hka hkc
          by_cases hn : e.nm = nm
          · have e1 : (e.nm.toList == nm.toList) = true := str_eq_true hn
            have hq : goneBy z U nm k := ⟨hu, by rw [← HE.out]; exact hn⟩
            have hpk := picks_hit hq
            have HPK := Lib.hid hpk
            have hr5 := Rw.new wr 38 #[.int .i64 e.st, .string e.nm, .int .i64 e.no, .int .i64 e.tl, .slice ka e.bl.length kc]
            have q0 := hr5.cell 0; have q1 := hr5.cell 1; have q2 := hr5.cell 2; have q3 := hr5.cell 3; have q4 := hr5.cell 4
            have HN := Lib.hid hn
            clear hpk hu hq hn
            have hb9 := hb.alloc hwr (.cells #[.int .i64 e.st, .string e.nm, .int .i64 e.no, .int .i64 e.tl, .slice ka e.bl.length kc] 38)
            have her9 := HER.out.below ((Below.refl _ _).alloc (Nat.le_refl _) (.cells #[.int .i64 e.st, .string e.nm, .int .i64 e.no, .int .i64 e.tl, .slice ka e.bl.length kc] 38))
            have hir9 := HIR.out.below ((Below.refl _ _).alloc (Nat.le_refl _) (.cells #[.int .i64 e.st, .string e.nm, .int .i64 e.no, .int .i64 e.tl, .slice ka e.bl.length kc] 38))
            have hcells : e.cells ka kc = [.int .i64 e.st, .string e.nm, .int .i64 e.no, .int .i64 e.tl, .slice ka e.bl.length kc] := rfl
            have hfm : ((picks (goneBy z U nm) k ++ [k]).map fun j => (xen z U j, a j, ca j)).flatMap (fun p => p.1.cells p.2.1 p.2.2) = (((picks (goneBy z U nm) k).map fun j => (xen z U j, a j, ca j)).flatMap (fun p => p.1.cells p.2.1 p.2.2)) ++ e.cells ka kc := by
              rw [List.map_append, List.flatMap_append, HE.out, HKA.out, HKC.out]
              simp
            have HFM := Lib.hid hfm
            have HCE := Lib.hid hcells
            unfold ERow at her9
            have HE9 := Lib.hid her9
            have HI9 := Lib.hid hir9
            have HB9 := Lib.hid hb9
            clear her9 hir9 hb9 hfm hcells HER HIR
            generalize ((picks (goneBy z U nm) k).map fun j => (xen z U j, a j, ca j)).flatMap (fun p => p.1.cells p.2.1 p.2.2) = X0 at *
            go_upto_region 12 with fail
            generalize wr.alloc (.cells #[.int .i64 e.st, .string e.nm, .int .i64 e.no, .int .i64 e.tl, .slice ka e.bl.length kc] 38) = W9 at *
            have hz9 := HB9.out.size
            go_upto_region 13 with (at_builtin; refine wpList_pushN (.tmp 49) (.tmp 51) 48 w1.heap.size 38 (.agg #[.int .i64 0, .string ⟨#[]⟩, .int .i64 0, .int .i64 0, .slice none 0 0]) [.int .i64 e.st, .string e.nm, .int .i64 e.no, .int .i64 e.tl, .slice ka e.bl.length kc] 5 64 _ (picks (goneBy z U nm) k).length _ HE9.out rfl rfl Tryz.underlying48 infoXE rfl (by omega) rfl rfl rfl rfl (by intro u hu; simp at hu; rcases hu with rfl | rfl | rfl | rfl | rfl <;> rfl) (by omega) (by omega) hz9 ?_; intro A' c3 w3 ho3 hg3)
            have hb3 : Below w1.heap.size w1 w3 := HB9.out.grown hg3 hz9 (fun j hj => own_lt HE9.out j hj)
            have hir3 : NatR w1.heap.size w3 A2 c2 (picks (goneBy z U nm) k) := HI9.out.kept hg3 (own_neX HI9.out HE9.out tIE)
            unfold NatR at hir3
            have HI3 := Lib.hid hir3
            have HE3 := Lib.hid ho3
            have hz3 := hb3.size
            clear hir3 ho3 hg3
            go_wp2_with (at_builtin; refine wpList_pushN (.tmp 53) (.tmp 55) 33 w1.heap.size 2 (.int .i64 0) [.int .i64 (k : Int)] 1 8 _ (picks (goneBy z U nm) k).length _ HI3.out rfl rfl Tryz.underlying33 infoIX rfl (by omega) rfl rfl rfl rfl (by intro u hu; simp at hu; subst hu; rfl) (by omega) (by omega) hz3 ?_; intro A4 c4 w4 ho4 hg4)
            go_roundw
            case rel =>
              have hb4 : Below w1.heap.size w1 w4 := hb3.grown hg4 hz3 (fun j hj => own_lt HI3.out j hj)
              have he4 := HE3.out.kept hg4 (own_neX HE3.out HI3.out (fun e => tIE e.symm))
              refine ⟨k + 1, c3, c4, some A', some A4, by omega, by go_num, by rw [HPK.out, List.length_append]; rfl, by rw [HPK.out, List.length_append]; rfl, ?_, ?_, hb4⟩
              · unfold ERow
                rw [HPK.out, HFM.out, List.length_append]
                exact he4
              · unfold NatR
                rw [HPK.out, List.map_append, List.length_append]
                exact ho4
            case measure => simp [intOf]; omega
          · have e1 : (e.nm.toList == nm.toList) = false := str_eq_false hn
            have hq : ¬ goneBy z U nm k := fun q => hn (by rw [HE.out]; exact q.2)
            have HPK := Lib.hid (picks_miss hq)
            clear hu hq hn
            go_wp2_with fail
            go_roundw
            case rel =>
              refine ⟨k + 1, c1, c2, A1, A2, by omega, by go_num, by rw [HPK.out], by rw [HPK.out], ?_, ?_, hb.alloc hwr _⟩
              · rw [HPK.out]; exact HER.out.below ((Below.refl _ _).alloc (Nat.le_refl _) _)
              · rw [HPK.out]; exact HIR.out.below ((Below.refl _ _).alloc (Nat.le_refl _) _)
            case measure => simp [intOf]; omega
        · have hl := hml.2 hu
          have hq : ¬ goneBy z U nm k := fun q => hu q.1
          have HPK := Lib.hid (picks_miss hq)
          unfold XE.val xe0 at hl
          clear hml hu hq
          go_wp2_with fail
          go_roundw
          case rel =>
            refine ⟨k + 1, c1, c2, A1, A2, by omega, by go_num, by rw [HPK.out], by rw [HPK.out], ?_, ?_, hb.alloc hwr _⟩
            · rw [HPK.out]; exact HER.out.below ((Below.refl _ _).alloc (Nat.le_refl _) _)
            · rw [HPK.out]; exact HIR.out.below ((Below.refl _ _).alloc (Nat.le_refl _) _)
          case measure => simp [intOf]; omega
      · obtain rfl : k = E := by omega
        rw [HPK0.out] at her hir ⊢
        have hwr := hb.size
        have hES : ESl w1.heap.size wr (l.map fun j => (xen z U j, a j, ca j)) := fun p hp => by
          obtain ⟨j, hj, rfl⟩ := List.mem_map.1 hp
          rw [← HPK0.out] at hj
          obtain ⟨h1, h2⟩ := mem_picks.1 hj
          exact (HM.out.2 j h1 h2.1).sl.below hb
        have hB01 := HB1.out.trans (hb.mono hz1)
        have HB := Lib.hid (HB0.out.trans (hB01.mono HB0.out.size))
        have HX := Lib.hid (HX0.out.below hB01)
        have HBW := Lib.hid hb
        have HER := Lib.hid her
        have HIR := Lib.hid hir
        have HES := Lib.hid hES
        have hlE : l.length ≤ k := by rw [← HPK0.out]; exact picks_len _ _
        have hw01 := HB1.out.size
        clear her hir hES hb hB01 HX0 HB0 HB1 hx2
        by_cases hl0 : l = []
        · subst hl0
          have h3 : cd = 3 := HC3.out rfl
          subst h3
          go_wp2_with fail
          go_ret2
          exact ⟨none, 0, rfl, World.ownsRow_nil _ _ _ _, HB.out⟩
        · have hlp : 0 < l.length := List.length_pos_iff.2 hl0
          have e0 : ((l.length : Int) == 0) = false := by simp; omega
          have e0' : ((l.length : Int) = 0) = False := by simp; omega
          have e0n : (l = []) = False := by simp [hl0]
          by_cases hl2 : l2 = []
          · have hcr := HCR.out hl0 hl2
            have HCR2 := Lib.hid hcr
            have HF1 := Lib.hid (HFI.out _ _ _ _ HX.out hcap)
            rw [hl2] at HF1
            clear hcr hl2 hl0 HFI
            go_upto_region 20 with (go_at_call 21; refine HF1.out.mono ?_; rintro r w2 ⟨a2, ca2, A3, A4, c3, c4, rfl, _, _, _, hb2⟩)
            obtain ⟨T, hT⟩ : ∃ T : List XT, l.map (fun j => (xen z U j, a j, ca j)) = T := ⟨_, rfl⟩
            have hTl : T.length = l.length := by rw [← hT, List.length_map]
            have hTm : T.map (·.1) = L := by rw [← hT, ← HLL.out, List.map_map]; rfl
            have hTx : ∀ x, x ∈ T → x.1.ok z ∧ x.1.st = 229 := fun x hx => by
              rw [← hT] at hx
              obtain ⟨j, hj, rfl⟩ := List.mem_map.1 hx
              rw [← HPK0.out] at hj
              exact ⟨xen_ok z U j, (mem_picks.1 hj).2.1⟩
            have hno : ∀ x, x ∈ T → 0 ≤ x.1.no ∧ x.1.no ≤ 31 := fun x hx => by
              obtain ⟨h1, h2⟩ := hTx x hx
              rcases h1 with ⟨h1, _⟩ | ⟨_, _, h1, _⟩
              · rw [h2] at h1; cases h1
              · exact h1
            have her := HER.out
            have hes := HES.out
            rw [hT] at her hes
            rw [← hTl] at her
            have her2 := her.below hb2
            have hsort := sortX_any 23 (fun x y W => byNoU_any x y W) (fun _ _ => rfl) her2 (by omega) hno
            rw [hTl] at hsort
            have HSO := Lib.hid hsort
            have HTL := Lib.hid hTl
            have HTM := Lib.hid hTm
            have HTX1 := Lib.hid hTx
            have HER2 := Lib.hid her2
            have HES2 := Lib.hid (hes.below (hb2.mono hwr))
            have HIR2 := Lib.hid (HIR.out.below hb2)
            have HX2 := Lib.hid (HX.out.below hb2)
            have HB2 := Lib.hid (HB.out.trans (hb2.mono HB.out.size))
            have hz12 : w1.heap.size ≤ w2.heap.size := Nat.le_trans hwr hb2.size
            clear hsort hTl hTm hTx hno her her2 hes hT hb2 HER HES HIR HX HB
            go_upto_region 21 with (go_at_call 22; refine HSO.out.mono ?_; rintro r w3 ⟨rfl, D, hp1, hDl, hsrt, hed, hgr⟩)
            have hDl2 : D.length = l.length := hDl
            rw [← hDl2] at hed hgr
            have hcode : rstCode n t z (freeI z U k t (n - t)) (D.map (·.1)) = cd := by
              rw [HFF.out, HCR2.out]
              exact rst_same (by rw [← HTM.out]; exact hp1.map _) (by rw [List.pairwise_map]; exact hsrt)
            have hrowD : w2.ownsRow w1.heap.size 38 5 (.slice A1 D.length c1) D.length (T.flatMap fun p => p.1.cells p.2.1 p.2.2) := by
              have := HER2.out
              unfold ERow at this
              rw [HTL.out, ← hDl2] at this
              exact this
            have hx3 : XW w3 p g n z k t (n * z) cc U := HX2.out.keptX hgr (own_neRx hrowD HX2.out.lay (by decide)) (own_neB hrowD HX2.out.row (by decide))
            have hes3 : ESl w1.heap.size w3 D := fun x hx => by
              have h1 := HES2.out x (hp1.mem_iff.1 hx)
              refine h1.keep fun b o hb => ?_
              exact World.cell?_of_block (a := ⟨b, o, none⟩) (hgr.block b (by omega) (fun e => by have := own_lt hrowD b e.symm; omega))
            have hir3 : NatR w1.heap.size w3 A2 c2 l := HIR2.out.kept hgr (own_neX HIR2.out hrowD tIE)
            have hB3 : Below w.heap.size w w3 := HB2.out.grown hgr HB2.out.size (fun k hk => by have := own_lt hrowD k hk; omega)
            have hz13 : w1.heap.size ≤ w3.heap.size := Nat.le_trans hz12 hgr.size
            have hrs := restorable_any hx3 f7 HF8.out f6 hcap (by omega) htn f4 hed (hes3.more hz13) (by omega) (by omega) (fun x hx => (HTX1.out x (hp1.mem_iff.1 hx)).1) hsrt
            rw [hcode, hDl2] at hrs
            have HRS := Lib.hid hrs
            have HX3 := Lib.hid hx3
            have HB3 := Lib.hid hB3
            have HIR3 := Lib.hid hir3
            clear hx3 hes3 hB3 hir3 hed hrowD hgr hsrt hp1 hDl hcode hrs hDl2
            go_upto_region 22 with (go_at_call 24; refine HRS.out.mono ?_; rintro r w4 ⟨rfl, hb4⟩)
            have HB4 := Lib.hid (HB3.out.trans (hb4.mono HB3.out.size))
            have HX4 := Lib.hid (HX3.out.below hb4)
            have HIR4 := Lib.hid (HIR3.out.below hb4)
            clear hb4
            by_cases hcd : cd = 0
            · subst hcd
              go_wp2_with fail
              go_loopw [18, 80] (fun s18 s80 wr => ∃ j : Nat, j ≤ l.length ∧ s80 = .int .i64 j ∧ XW wr p g n z k t (n * z) cc (marksX z U 1 (l.take j)) ∧ NatR w1.heap.size wr A2 c2 l ∧ Below w.heap.size w wr) (fun _ i _ => l.length - (intOf i).toNat)
              case atStart => exact ⟨0, Nat.zero_le _, rfl, by simpa [marksX] using HX4.out, HIR4.out, HB4.out⟩
              case round =>
                obtain ⟨j, hj, rfl, hxr, hna, hb⟩ := hrel
                by_cases hlt : j < l.length
                · have hkE : l.getD j 0 < k := by
                    have := getD_mem hlt
                    rw [← HPK0.out] at this
                    have h2 := (mem_picks.1 this).1
                    rw [HPK0.out] at h2
                    exact h2
                  have hfit := HF8.out _ hkE
                  obtain ⟨b2, o2, rfl, hb2l, hcj⟩ := hna.sl j hlt
                  dsimp only at hcj
                  have htk := take_more hlt
                  obtain ⟨kk, hk⟩ : ∃ kk, l.getD j 0 = kk := ⟨_, rfl⟩
                  rw [hk] at hcj htk hkE hfit
                  have hEB := Lib.hid (implEntryBytesX_any kk (z + kk * 16) hxr rfl hfit (by omega) hcap (by omega))
                  have hcell := hxr.row.cell (i := z + kk * 16) (by omega)
                  have hfr := hxr.row.frozen (i := z + kk * 16) (by omega)
                  have HXR := Lib.hid hxr
                  have HTK := Lib.hid htk
                  have HNR := Lib.hid hna
                  clear hxr htk hna hk
                  go_wp2_with (go_at_call 25; refine hEB.out.mono ?_; rintro e3 w3 ⟨rfl, hw3⟩; rw [hw3]; clear hw3 w3)
                  go_roundw
                  case rel =>
                    refine ⟨j + 1, by omega, by go_num, ?_, HNR.out.farX (by show g < w1.heap.size; omega) _, hb.setCell (by show w.heap.size ≤ g; exact hg) _⟩
                    rw [HTK.out, marksX_snoc]
                    exact HXR.out.put (z + kk * 16) 1 rfl
                  case measure => simp [intOf]; omega
                · obtain rfl : j = l.length := by omega
                  rw [List.take_length, HVV.out] at hxr
                  have hbs := hb.size
                  go_wp2_with (go_at_call 26; refine (implDiskX_any hxr rfl f4 f3 (by omega) hcap).mono ?_; rintro r w4 ⟨A4, c4, rfl, ho4, hb4⟩)
                  go_ret2
                  exact ⟨A4, c4, rfl, own_base ho4 hbs, hb.trans (hb4.mono hbs)⟩
            · have e4 : (cd == 0) = false := beq_false_of_ne hcd
              have e4' : (cd = 0) = False := eq_false hcd
              go_wp2_with fail
              go_ret2
              have hif : (if cd = 0 then n else 0) = 0 := if_neg hcd
              simp only [hif]
              exact ⟨none, 0, rfl, World.ownsRow_nil _ _ _ _, HB4.out⟩
          · have h4 : cd = 4 := HC4.out hl0 hl2
            have HF1 := Lib.hid (HFI.out _ _ _ _ HX.out hcap)
            have hlp2 : 0 < l2.length := List.length_pos_iff.2 hl2
            have d0 : (0 : Int) < (l2.length : Int) := by omega
            subst h4
            clear hl2 hl0
            go_wp2_with (go_at_call 21; refine HF1.out.mono ?_; rintro r w2 ⟨a2, ca2, A3, A4, c3, c4, rfl, _, _, _, hb2⟩)
            go_ret2
            exact ⟨none, 0, rfl, World.ownsRow_nil _ _ _ _, HB.out.trans (hb2.mono HB.out.size)⟩
  · have hcode := undX_shut (nm := nm) ho
    unfold UnOut
    rw [hcode]
    have HOP := Lib.hid ho
    clear ho hs hsz hcode
    go_enter Tryz.func7, Tryz.ntmps7
    go_wp2_with (go_at_call 19; refine HO.out.mono ?_; rintro r w1 ⟨_, h1⟩; obtain ⟨rfl, hb1⟩ := h1 HOP.out)
    go_ret2
    exact ⟨none, 0, rfl, World.ownsRow_nil _ _ _ _, hb1⟩
end Go.Proofs.YtmgcaiilocifbaaGreatDoor
namespace Go.Proofs.YtmgcaiilocifbaaGreatDoor
open Go Go.ChangeShapes Go.WideShapes Go.ChangeAt Go.RowKit lib
set_option linter.unusedVariables false
set_option linter.unusedSimpArgs false
set_option maxRecDepth 100000
set_option maxHeartbeats 8000000 in
theorem specUndX_any {w : World} {n c : Nat} {A : Option Addr} {s : Nat → ByteArray} (nm : ByteArray) (hnm : nm.size ≤ 9223372036854775807) (hs : Sl w w.heap.size A n (fun i => .string (s i))) (hsz : ∀ i, i < n → (s i).size ≤ 9223372036854775807) (hn : n ≤ c) (hn2 : n ≤ 9223372036854775807) :
    Calls Tryz.prog 5 #[.slice A n c, .string nm] w fun r w' => UnOut n s nm r w w' := by
  have HO := Lib.hid (specOpenX (c := c) hs hsz)
  by_cases ho : opensX n s
  · obtain ⟨f1, f2, f3, f4, f5, f6, f7, f8, f9⟩ := shapeX ho
    have hc3 := undX_none (nm := nm) ho
    have hc4 := undX_there (nm := nm) ho
    have hcr := undX_rst (nm := nm) ho
    have htn := (layX_data f1).1
    unfold UnOut
    obtain ⟨cd, hcd⟩ : ∃ cd, undXCode n s nm = cd := ⟨_, rfl⟩
    obtain ⟨V, hV⟩ : ∃ V, undX n s nm = V := ⟨_, rfl⟩
    obtain ⟨l, hll⟩ : ∃ l, goneOf n s nm = l := ⟨_, rfl⟩
    obtain ⟨l2, hl2⟩ : ∃ l, fileOf n s nm = l := ⟨_, rfl⟩
    rw [hcd, hV]
    rw [hcd] at hc3 hc4 hcr
    rw [hll] at hc3 hc4 hcr
    rw [hl2] at hc4 hcr
    unfold undX at hV
    unfold undF undL at hcr
    rw [hll] at hV hcr
    unfold goneOf at hll
    unfold fileOf at hl2
    obtain ⟨z, hz⟩ : ∃ z, (s 0).size = z := ⟨_, rfl⟩
    rw [hz] at f2 f3 f6 f8 f9 htn hll hl2 hV hcr ⊢
    have HZ := Lib.hid hz
    have HS := Lib.hid hs
    have hall : (List.range n).map (fun i => Value.string (s i)) = (List.range n).map fun i => Value.string (blkOf z (joinU z s) i) := by
      apply List.map_congr_left
      intro i hi
      simp only [List.mem_range] at hi
      congr 1
      refine ba_ext (by rw [f9 i hi, blk_size]) fun j hj => ?_
      rw [f9 i hi] at hj
      rw [blk_at hj, joinU_at _ _ hj]
    have HALL := Lib.hid hall
    have HF9 := Lib.hid f9
    have HF8 := Lib.hid f8
    have HOP := Lib.hid ho
    have HVV := Lib.hid hV
    have HC3 := Lib.hid hc3
    have HC4 := Lib.hid hc4
    have HCR := Lib.hid hcr
    have HGO := Lib.hid (fun (W : World) (q : Nat) (hW : Below w.heap.size w W) (hr : Rw W q 30 #[.int .i64 n, .int .i64 z, .int .i64 (entsX n), .int .i64 (dataX n z)]) => specGoneX_any (c := c) nm ((hs.below hW).more hW.size) f9 hr f2 f3 f4 f7 f8)
    have HUS := Lib.hid (fun (W : World) (q : Nat) (hW : Below w.heap.size w W) (hr : Rw W q 30 #[.int .i64 n, .int .i64 z, .int .i64 (entsX n), .int .i64 (dataX n z)]) => specUsedX_any (c := c) nm ((hs.below hW).more hW.size) f9 hr f2 f3 f4 f7 f8)
    have hlen : l.length ≤ 32 := by rw [← hll]; exact Nat.le_trans (picks_len _ _) f7
    have hmem : ∀ j, j < l.length → l.getD j 0 < entsX n ∧ (xen z (joinU z s) (l.getD j 0)).st = 229 := fun j hj => by
      have := getD_mem hj
      rw [← hll] at this
      have h2 := mem_picks.1 (by rwa [hll] at this ⊢)
      exact ⟨h2.1, h2.2.1⟩
    have HLT := Lib.hid hmem
    have HND := Lib.hid (show l.Nodup by rw [← hll]; exact picks_nodup _ _)
    obtain ⟨b1, hb1⟩ : ∃ b : Bool, b = true ↔ twiceX (xlist z (joinU z s) l) := by open Classical in exact ⟨decide _, decide_eq_true_iff⟩
    obtain ⟨b2, hb2⟩ : ∃ b : Bool, b = true ↔ (∀ k, k < (xlist z (joinU z s) l).length → okS n (dataX n z) z (xlist z (joinU z s) l) k) ∧ okB (freeI z (joinU z s) (entsX n) (dataX n z) (n - dataX n z)) (blsD (xlist z (joinU z s) l)) := by open Classical in exact ⟨decide _, decide_eq_true_iff⟩
    have HTW := Lib.hid (fun (W : World) (q c3 : Nat) (A3 : Option Addr) (hW : Below w.heap.size w W) (hr : Rw W q 30 #[.int .i64 n, .int .i64 z, .int .i64 (entsX n), .int .i64 (dataX n z)]) (hl : Sl W W.heap.size A3 l.length (fun i => .int .i64 ((l.getD i 0 : Nat) : Int))) => specTwiceX_any (c := c) (c3 := c3) l ((hs.below hW).more hW.size) f9 hr f2 f3 f4 f7 f8 hl hlen (fun j hj => ⟨(hmem j hj).1, by rw [(hmem j hj).2]; decide⟩) b1 hb1)
    have HWH := Lib.hid (fun (W : World) (q c3 : Nat) (A3 : Option Addr) (hW : Below w.heap.size w W) (hr : Rw W q 30 #[.int .i64 n, .int .i64 z, .int .i64 (entsX n), .int .i64 (dataX n z)]) (hl : Sl W W.heap.size A3 l.length (fun i => .int .i64 ((l.getD i 0 : Nat) : Int))) => specWholeX_any (c := c) (c3 := c3) l ((hs.below hW).more hW.size) f9 hr f2 f3 f4 (by omega) f7 f8 htn hl hlen (fun j hj => ⟨(hmem j hj).1, by rw [(hmem j hj).2]; decide⟩) b2 hb2)
    have HB1 := Lib.hid hb1
    have HB2 := Lib.hid hb2
    have HLL := Lib.hid hll
    have HL2 := Lib.hid hl2
    clear ho hs hsz hz hcd hV hll hl2 f1 f8 f9 hc3 hc4 hcr hmem hall hb1 hb2
    go_enter Tryz.func5, Tryz.ntmps5
    go_upto_region 4 with (go_at_call 11; refine HO.out.mono ?_; rintro r w1 ⟨h1, _⟩; obtain ⟨rfl, hb1⟩ := h1 HOP.out; rw [HZ.out]; unfold layX)
    have hR2 := Rw.new w1 30 #[.int .i64 n, .int .i64 z, .int .i64 (entsX n), .int .i64 (dataX n z)]
    have hB2 := hb1.alloc hb1.size (.cells #[.int .i64 n, .int .i64 z, .int .i64 (entsX n), .int .i64 (dataX n z)] 30)
    obtain ⟨q, hq⟩ : ∃ q, w1.heap.size = q := ⟨_, rfl⟩
    have hqw : w.heap.size ≤ q := by rw [← hq]; exact hb1.size
    generalize w1.alloc (.cells #[.int .i64 n, .int .i64 z, .int .i64 (entsX n), .int .i64 (dataX n z)] 30) = W2 at *
    rw [hq] at hR2 ⊢
    clear hq hb1
    have HG2 := Lib.hid (HGO.out _ q hB2 hR2)
    by_cases hnm0 : nm = ⟨#[]⟩
    · have hl0 : l = [] := by rw [← HLL.out, hnm0]; exact noGone
      have h3 : cd = 3 := HC3.out hl0
      subst h3
      subst hnm0
      generalize picks (goneAs z (joinU z s) ⟨#[]⟩) (entsX n) = lg at *
      clear hl0
      go_upto_region 5 with (go_at_call 12; refine HG2.out.mono ?_; rintro r w3 ⟨A2, c2, rfl, hna, hb3⟩)
      have hB3 := hB2.trans (hb3.mono hB2.size)
      rcases Nat.eq_zero_or_pos lg.length with hl0 | hl0
      · rw [hl0]
        go_wp2_with fail
        go_ret2
        exact ⟨none, 0, rfl, World.ownsRow_nil _ _ _ _, hB3⟩
      · have e0 : ((lg.length : Int) == 0) = false := beq_false_of_ne (by omega)
        have e0' : ((lg.length : Int) = 0) = False := eq_false (by omega)
        have e0n : (lg = []) = False := by
          apply propext
          simp only [iff_false]
          intro h
          rw [h] at hl0
          cases hl0
        go_wp2_with fail
        go_ret2
        exact ⟨none, 0, rfl, World.ownsRow_nil _ _ _ _, hB3⟩
    · rw [goneAs_by hnm0, HLL.out] at HG2
      have HUS2 := Lib.hid (fun (W : World) (q : Nat) (hW : Below w.heap.size w W) (hr : Rw W q 30 #[.int .i64 n, .int .i64 z, .int .i64 (entsX n), .int .i64 (dataX n z)]) => (show Calls Tryz.prog 13 #[.slice A n c, .pointer (some ⟨q, 0, none⟩), .string nm] W fun r w' => ∃ A2 c2, r = .returned (.slice A2 l2.length c2) ∧ NatR W.heap.size w' A2 c2 l2 ∧ Below W.heap.size W w' by
        have := HUS.out W q hW hr
        rw [usedAs_by hnm0, HL2.out] at this
        exact this))
      have en0 : nm.toList.isEmpty = false := isEmpty_no hnm0
      by_cases hl0 : l = []
      · have h3 : cd = 3 := HC3.out hl0
        subst h3
        subst hl0
        clear hnm0
        go_wp2_with (go_at_call 12; refine HG2.out.mono ?_; rintro r w3 ⟨A2, c2, rfl, hna, hb3⟩)
        go_ret2
        exact ⟨none, 0, rfl, World.ownsRow_nil _ _ _ _, hB2.trans (hb3.mono hB2.size)⟩
      · have hlp : 0 < l.length := List.length_pos_iff.2 hl0
        have e0 : ((l.length : Int) == 0) = false := by simp; omega
        have e0' : ((l.length : Int) = 0) = False := by simp; omega
        have e0n : (l = []) = False := by simp [hl0]
        have hc4 := HC4.out hl0
        have hcr := HCR.out hl0
        have HC42 := Lib.hid hc4
        have HCR2 := Lib.hid hcr
        clear hnm0 hl0 hc4 hcr
        go_upto_region 7 with (go_at_call 12; refine HG2.out.mono ?_; rintro r w3 ⟨A2, c2, rfl, hna, hb3⟩)
        have hB3 := hB2.trans (hb3.mono hB2.size)
        have hR3 := hR2.below hb3 hR2.lt
        have hql := hR3.lt
        have HU3 := Lib.hid (HUS2.out _ q hB3 hR3)
        by_cases hl2 : l2 = []
        · have hcr := HCR2.out hl2
          rw [hl2] at HU3
          have HCR3 := Lib.hid hcr
          clear hcr hl2
          go_upto_region 9 with (go_at_call 13; refine HU3.out.mono ?_; rintro r w4 ⟨A4, c4, rfl, _, hb4⟩)
          have hB4 := hB3.trans (hb4.mono hB3.size)
          have hR4 := hR3.below hb4 hR3.lt
          have hna4 := hna.below hb4
          have HT4 := Lib.hid (HTW.out _ q c2 A2 hB4 hR4 hna4.sl)
          have HB4 := Lib.hid hB4
          have HR4 := Lib.hid hR4
          have HNA4 := Lib.hid hna4
          clear hna hb3 hB3 hR3 hb4 hB4 hR4 hna4 hR2 hB2
          cases b1 with
          | true =>
            have h11 : cd = 11 := HCR3.out.trans (rstS_twice (HB1.out.1 rfl))
            subst h11
            go_wp2_with (go_at_call 14; refine HT4.out.mono ?_; rintro r w5 ⟨rfl, hb5⟩)
            go_ret2
            exact ⟨none, 0, rfl, World.ownsRow_nil _ _ _ _, HB4.out.trans (hb5.mono HB4.out.size)⟩
          | false =>
            have hnt : ¬ twiceX (xlist z (joinU z s) l) := fun q => by
              have := HB1.out.2 q
              cases this
            have HNT := Lib.hid hnt
            clear hnt
            go_upto_region 11 with (go_at_call 14; refine HT4.out.mono ?_; rintro r w5 ⟨rfl, hb5⟩)
            have hB5 := HB4.out.trans (hb5.mono HB4.out.size)
            have hR5 := HR4.out.below hb5 HR4.out.lt
            have hna5 := HNA4.out.below hb5
            have HT5 := Lib.hid (HWH.out _ q c2 A2 hB5 hR5 hna5.sl)
            have HB5 := Lib.hid hB5
            have HR5 := Lib.hid hR5
            have HNA5 := Lib.hid hna5
            clear hb5 hB5 hR5 hna5
            cases b2 with
            | false =>
              have h10 : cd = 10 := HCR3.out.trans (rstS_bad HNT.out (fun q => by have := HB2.out.2 q; cases this))
              subst h10
              go_wp2_with (go_at_call 15; refine HT5.out.mono ?_; rintro r w6 ⟨rfl, hb6⟩)
              go_ret2
              exact ⟨none, 0, rfl, World.ownsRow_nil _ _ _ _, HB5.out.trans (hb6.mono HB5.out.size)⟩
            | true =>
              have h00 : cd = 0 := HCR3.out.trans (rstS_ok HNT.out (HB2.out.1 rfl))
              subst h00
              go_upto_region 13 with (go_at_call 15; refine HT5.out.mono ?_; rintro r w3 ⟨rfl, hb3⟩)
              have hB3 := HB5.out.trans (hb3.mono HB5.out.size)
              have hR3 := HR5.out.below hb3 HR5.out.lt
              have hna := HNA5.out.below hb3
              have hql := hR3.lt
              go_upto_region 14 with (go_at_call 16; refine (specOwnX_any ((HS.out.below hB3).more hB3.size) (by omega)).mono ?_; rintro r w4 ⟨A4, c4, rfl, ho4, hb4⟩)
              rw [HALL.out] at ho4
              obtain ⟨g, cap4, e1, hgB, hgl⟩ := ho4.form (by omega)
              simp only [Value.slice.injEq] at e1
              obtain ⟨rfl, _, rfl⟩ := e1
              have HO4 := Lib.hid ho4
              have HNA := Lib.hid (hna.below hb4)
              have HR3 := Lib.hid hR3
              have HB3 := Lib.hid hB3
              have HB4 := Lib.hid hb4
              have hz3 := hB3.size
              have HNS := Lib.hid (hna.sl)
              clear ho4 hna hR3 hB3 hb4 hb3
              go_wp2_with fail
              go_loopw [10, 11, 12] (fun s10 s11 s12 wr => ∃ j : Nat, j ≤ l.length ∧ s10 = .int .i64 j ∧ wr.ownsRow w3.heap.size 9 1 (.slice (some ⟨g, 0, none⟩) n c4) n ((List.range n).map fun i => Value.string (blkOf z (marksX z (joinU z s) 1 (l.take j)) i)) ∧ Below w3.heap.size w3 wr) (fun i _ _ _ => l.length - (intOf i).toNat)
              case atStart => exact ⟨0, Nat.zero_le _, rfl, by simpa [marksX] using HO4.out, HB4.out⟩
              case round =>
                obtain ⟨j, hj, rfl, hor, hb⟩ := hrel
                have hwr := hb.size
                by_cases hlt : j < l.length
                · obtain ⟨hkE, hst⟩ := HLT.out j hlt
                  have hfit := HF8.out _ hkE
                  obtain ⟨b2, o2, rfl, hb2l, hcj⟩ := (HNS.out.below hb) j hlt
                  dsimp only at hcj
                  have htk := take_more hlt
                  have hnt := not_taken HND.out hlt
                  obtain ⟨k, hk⟩ : ∃ k, l.getD j 0 = k := ⟨_, rfl⟩
                  rw [hk] at hcj htk hkE hfit hst hnt
                  have hRr := HR3.out.below hb hql
                  have hSr : Sl wr wr.heap.size A n (fun i => .string (s i)) := ((HS.out.below (HB3.out)).below (hb.mono hz3)).more (by omega)
                  have hgd : xGood z (xby z (joinU z s) k) := xen_used (by rw [hst]; decide)
                  have HEG := Lib.hid ((specEntryX_any (c := c) hSr HF9.out hRr f2 f3 f4 hfit).mono fun r w' q => xEnt_good (v := xby z (joinU z s) k) q hgd)
                  obtain ⟨e, he⟩ : ∃ e, e = xen z (joinU z s) k := ⟨_, rfl⟩
                  have hgx : xent z (xby z (joinU z s) k) = e := he.symm
                  rw [hgx] at HEG
                  unfold XE.val at HEG
                  have hok : ({ e with st := 1 } : XE).ok z := by
                    rw [he]
                    rcases xen_ok z (joinU z s) k with ⟨h1, _⟩ | ⟨_, h2⟩
                    · rw [hst] at h1; cases h1
                    · exact .inr ⟨.inl rfl, h2⟩
                  have hput : putX z (marksX z (joinU z s) 1 (l.take j)) k { e with st := 1 } = upd (marksX z (joinU z s) 1 (l.take j)) (z + k * 16) 1 := by
                    funext i
                    rw [he]
                    exact putX_state (by rw [hst]; decide) (by decide) (fun i hi => marks_same hi _ _ hnt) i
                  have HKJ := Lib.hid hk
                  have HOK := Lib.hid hok
                  have HPUT := Lib.hid hput
                  have HTK := Lib.hid htk
                  have HOR := Lib.hid hor
                  clear hok hput htk hor hgx he hst hnt hgd hk hRr hSr
                  go_upto_region 18 with (go_at_call 17; refine HEG.out.mono ?_; rintro r w5 ⟨A5, c5, rfl, hi5, hb5⟩)
                  have hE6 := Rw.new w5 38 #[.int .i64 e.st, .string e.nm, .int .i64 e.no, .int .i64 e.tl, .slice A5 e.bl.length c5]
                  have hI6 := hi5.below ((Below.refl w5.heap.size w5).alloc (Nat.le_refl _) (.cells #[.int .i64 e.st, .string e.nm, .int .i64 e.no, .int .i64 e.tl, .slice A5 e.bl.length c5] 38))
                  have hB6 := hb5.alloc hb5.size (.cells #[.int .i64 e.st, .string e.nm, .int .i64 e.no, .int .i64 e.tl, .slice A5 e.bl.length c5] 38)
                  obtain ⟨eb, heb⟩ : ∃ eb, w5.heap.size = eb := ⟨_, rfl⟩
                  have hebw : wr.heap.size ≤ eb := by rw [← heb]; exact hb5.size
                  generalize w5.alloc (.cells #[.int .i64 e.st, .string e.nm, .int .i64 e.no, .int .i64 e.tl, .slice A5 e.bl.length c5] 38) = W6 at *
                  rw [heb] at hE6 ⊢
                  clear heb hi5 hb5
                  have y0 := hE6.cell 0
                  have y0f := hE6.frozen 0
                  have hE7 := hE6.set 0 (.int .i64 1)
                  have hne7 : w3.heap.size ≤ eb := by omega
                  have hI7 : IntR wr.heap.size (W6.setCell ⟨eb, 0, none⟩ (.int .i64 1)) A5 c5 e.bl := World.ownsRow.kept hI6 (only_setCell (g := eb) (only_refl W6 _) (.inl rfl) _) (own_neR hI6 hE6 tIE)
                  have hO7 : (W6.setCell ⟨eb, 0, none⟩ (.int .i64 1)).ownsRow w3.heap.size 9 1 (.slice (some ⟨g, 0, none⟩) n c4) n ((List.range n).map fun i => Value.string (blkOf z (marksX z (joinU z s) 1 (l.take j)) i)) := World.ownsRow.kept (own_below HOR.out hB6) (only_setCell (g := eb) (only_refl W6 _) (.inl rfl) _) (own_neR (own_below HOR.out hB6) hE6 (by decide))
                  have hR7 := ((HR3.out.below (hb.trans (hB6.mono hwr)) hql).far (p := ⟨eb, 0, none⟩) (by show q ≠ eb; omega) (.int .i64 1))
                  have hb7 := (hb.trans (hB6.mono hwr)).setCell (p := ⟨eb, 0, none⟩) (by show w3.heap.size ≤ eb; exact hne7) (.int .i64 1)
                  go_upto_region 19 with fail
                  generalize W6.setCell ⟨eb, 0, none⟩ (.int .i64 1) = W7 at *
                  obtain ⟨b3, o3, e3, hb3l, hcj7⟩ := (HNS.out.below hb7) j hlt
                  simp only [Option.some.injEq, Addr.mk.injEq, and_true] at e3
                  obtain ⟨rfl, rfl⟩ := e3
                  dsimp only at hcj7
                  have hkq : l.getD j 0 = k := HKJ.out
                  rw [hkq] at hcj7
                  have HSET := Lib.hid (specSetX_any { e with st := 1 } HOK.out hO7 (by have := hb7.size; omega) hR7 hE7 hI7.sl f2 f3 f4 hfit)
                  rw [HPUT.out] at HSET
                  have HB7 := Lib.hid hb7
                  have hs7 := hb7.size
                  clear hI6 hI7 hO7 hR7 hb7 hE6 hE7 y0 y0f hB6 hkq
                  go_wp2_with (go_at_call 18; refine HSET.out.mono ?_; rintro r w8 ⟨rfl, ho8, hg8⟩)
                  go_roundw
                  case rel =>
                    refine ⟨j + 1, by omega, by go_num, ?_, HB7.out.grown hg8 hs7 (fun j hj => by injection hj with hj; omega)⟩
                    rw [HTK.out, marksX_snoc]
                    exact ho8
                  case measure => simp [intOf]; omega
                · obtain rfl : j = l.length := by omega
                  rw [List.take_length] at hor
                  go_wp2_with fail
                  go_ret2
                  rw [HVV.out] at hor
                  exact ⟨_, _, rfl, own_base hor hz3, HB3.out.trans (hb.mono hz3)⟩
        · have h4 : cd = 4 := HC42.out hl2
          have hlp2 : 0 < l2.length := List.length_pos_iff.2 hl2
          have d0 : (0 : Int) < (l2.length : Int) := by omega
          subst h4
          clear hl2
          go_wp2_with (go_at_call 13; refine HU3.out.mono ?_; rintro r w4 ⟨A4, c4, rfl, _, hb4⟩)
          go_ret2
          exact ⟨none, 0, rfl, World.ownsRow_nil _ _ _ _, hB3.trans (hb4.mono hB3.size)⟩
  · have hcode := undX_shut (nm := nm) ho
    unfold UnOut
    rw [hcode]
    have HOP := Lib.hid ho
    clear ho hs hsz hcode
    go_enter Tryz.func5, Tryz.ntmps5
    go_wp2_with (go_at_call 11; refine HO.out.mono ?_; rintro r w1 ⟨_, h1⟩; obtain ⟨rfl, hb1⟩ := h1 HOP.out; unfold layX)
    go_ret2
    exact ⟨none, 0, rfl, World.ownsRow_nil _ _ _ _, hb1.alloc hb1.size _⟩
end Go.Proofs.YtmgcaiilocifbaaGreatDoor
