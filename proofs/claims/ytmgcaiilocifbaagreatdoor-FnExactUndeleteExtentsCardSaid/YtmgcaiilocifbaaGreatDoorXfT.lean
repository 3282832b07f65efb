/-
  Disks of extents: the extents of a file: the program's side.
-/
import Derived.Test.YtmgcaiilocifbaaGreatDoorXuT
import Derived.Test.YtmgcaiilocifbaaGreatDoorAppR
import Derived.Deep.DeepCutAuto
namespace Go.Proofs.YtmgcaiilocifbaaGreatDoor
open Go Go.ChangeShapes Go.WideShapes Go.ChangeAt Go.RowKit lib
set_option linter.unusedVariables false
set_option linter.unusedSimpArgs false
set_option maxRecDepth 100000
theorem infoXE : (Tryz.prog.info? 38).map (fun i => (i.zero, i.size, i.bytes)) = some (some (.agg #[.int .i64 0, .string ⟨#[]⟩, .int .i64 0, .int .i64 0, .slice none 0 0]), 5, 64) := by kernel_rfl
theorem infoIX : (Tryz.prog.info? 2).map (fun i => (i.zero, i.size, i.bytes)) = some (some (.int .i64 0), 1, 8) := by kernel_rfl
theorem zeroXE (W : World) : (zeroValue 38).run Tryz.prog W = .ok (xe0.val none 0) W := by rfl
/-- how the search for a file's extents ends -/
def FOut (r : Ending) (w w' : World) (en : Nat → XE) (l : List Nat) : Prop := ∃ (a : Nat → Option Addr) (cc : Nat → Nat) (A1 A2 : Option Addr) (c1 c2 : Nat),
  r = .returned (.tuple #[.slice A1 l.length c1, .slice A2 l.length c2]) ∧ ERow w.heap.size w' A1 l.length c1 (l.map fun j => (en j, a j, cc j)) ∧ ESl w'.heap.size w' (l.map fun j => (en j, a j, cc j)) ∧ NatR w.heap.size w' A2 c2 l ∧ Below w.heap.size w w'
set_option maxHeartbeats 2000000 in
theorem implFileX_any {w : World} {p g n z E t N c : Nat} {u : Nat → UInt8} (nm : ByteArray) (h : XW w p g n z E t N c u) (hE : E ≤ 32) (hfit : ∀ k, k < E → z + k * 16 + 16 ≤ N) (hNb : N ≤ 4096) (hcN : N ≤ c) (hz : z ≤ 255) (hnm : nm.size ≤ 9223372036854775807) :
    Calls Tryz.prog 21 #[.pointer (some ⟨p, 0, none⟩), .string nm] w fun r w' => FOut r w w' (xen z u) (picks (usedBy z u nm) E) := by
  have HU := Lib.hid (implUsedX_any h hE hfit hNb hcN hz)
  have HH := Lib.hid h
  obtain ⟨i0, hi0, hi1, hi2, hi3⟩ := info_parts infoXE
  have I0 := Lib.hid hi0
  have I1 := Lib.hid hi1
  have I2 := Lib.hid hi2
  have I3 := Lib.hid hi3
  obtain ⟨j0, hj0, hj1, hj2, hj3⟩ := info_parts (show (Tryz.prog.info? 2).map (fun i => (i.zero, i.size, i.bytes)) = some (some (.int .i64 0), 1, 8) by kernel_rfl)
  have J0 := Lib.hid hj0
  have J1 := Lib.hid hj1
  have J2 := Lib.hid hj2
  have J3 := Lib.hid hj3
  clear h hfit hi0 hi1 hi2 hi3 hj0 hj1 hj2 hj3
  go_enter Tryz.func21, Tryz.ntmps21
  go_upto_region 4 with (go_at_call 45; refine HU.out.mono ?_; rintro r w1 ⟨m, rfl, hm, hb1⟩)
  obtain ⟨a, cc, hma⟩ := hm
  have HM := Lib.hid hma
  have HB1 := Lib.hid hb1
  have hx2 := (HH.out.below hb1).c2
  have hz1 := hb1.size
  clear hma hb1
  go_wp2_with fail
  go_loopw [6, 7, 9, 10, 11, 19] (fun s6 s7 s9 s10 s11 s19 wr => ∃ (k c1 c2 : Nat) (A1 A2 : Option Addr), k ≤ E ∧ s19 = .int .i64 k ∧ s6 = .slice A1 (picks (usedBy z u nm) k).length c1 ∧ s7 = .slice A2 (picks (usedBy z u nm) k).length c2 ∧ ERow w1.heap.size wr A1 (picks (usedBy z u nm) k).length c1 ((picks (usedBy z u nm) k).map fun j => (xen z u j, a j, cc j)) ∧ NatR w1.heap.size wr A2 c2 (picks (usedBy z u nm) k) ∧ Below w1.heap.size w1 wr) (fun _ _ _ _ _ i _ => E - (intOf i).toNat)
  case atStart => exact ⟨0, 0, 0, none, none, Nat.zero_le _, rfl, rfl, rfl, eRow_nil _ _, natR_nil _ _, Below.refl _ _⟩
  case round =>
    obtain ⟨k, c1, c2, A1, A2, hk, rfl, rfl, rfl, her, hir, hb⟩ := hrel
    have hwr := hb.size
    have hpl := picks_len (usedBy z u nm) k
    by_cases hlt : k < E
    · have hml := (HM.out.below hb).look Tryz.underlying2 (t := 46) Tryz.underlying46 (zeroXE wr) k hlt (by omega)
      have HER := Lib.hid her
      have HIR := Lib.hid hir
      clear her hir
      by_cases hu : isUsed z u k
      · have hl := hml.1 hu
        obtain ⟨e, he⟩ : ∃ e, e = xen z u k := ⟨_, rfl⟩
        obtain ⟨ka, hka⟩ : ∃ x, x = a k := ⟨_, rfl⟩
        obtain ⟨kc, hkc⟩ : ∃ x, x = cc k := ⟨_, rfl⟩
        rw [← he, ← hka, ← hkc] at hl
        unfold XE.val at hl
        have HE := Lib.hid he
        have HKA := Lib.hid hka
        have HKC := Lib.hid hkc
        clear hml he hka hkc
        by_cases hn : e.nm = nm
        · have e1 : (e.nm.toList == nm.toList) = true := str_eq_true hn
          have hq : usedBy z u nm k := ⟨hu, by rw [← HE.out]; exact hn⟩
          have hpk := picks_hit hq
          have HPK := Lib.hid hpk
          have hr5 := Rw.new wr 38 #[.int .i64 e.st, .string e.nm, .int .i64 e.no, .int .i64 e.tl, .slice ka e.bl.length kc]
          have q0 := hr5.cell 0; have q1 := hr5.cell 1; have q2 := hr5.cell 2; have q3 := hr5.cell 3; have q4 := hr5.cell 4
          have HN := Lib.hid hn
          clear hpk hu hq hn
          have hb9 := hb.alloc hwr (.cells #[.int .i64 e.st, .string e.nm, .int .i64 e.no, .int .i64 e.tl, .slice ka e.bl.length kc] 38)
          have her9 := HER.out.below ((Below.refl _ _).alloc (Nat.le_refl _) (.cells #[.int .i64 e.st, .string e.nm, .int .i64 e.no, .int .i64 e.tl, .slice ka e.bl.length kc] 38))
          have hir9 := HIR.out.below ((Below.refl _ _).alloc (Nat.le_refl _) (.cells #[.int .i64 e.st, .string e.nm, .int .i64 e.no, .int .i64 e.tl, .slice ka e.bl.length kc] 38))
          have hcells : e.cells ka kc = [.int .i64 e.st, .string e.nm, .int .i64 e.no, .int .i64 e.tl, .slice ka e.bl.length kc] := rfl
          have hfm : ((picks (usedBy z u nm) k ++ [k]).map fun j => (xen z u j, a j, cc j)).flatMap (fun p => p.1.cells p.2.1 p.2.2) = (((picks (usedBy z u nm) k).map fun j => (xen z u j, a j, cc j)).flatMap (fun p => p.1.cells p.2.1 p.2.2)) ++ e.cells ka kc := by
            rw [List.map_append, List.flatMap_append, HE.out, HKA.out, HKC.out]
            simp
          have HFM := Lib.hid hfm
          have HCE := Lib.hid hcells
          unfold ERow at her9
          have HE9 := Lib.hid her9
          have HI9 := Lib.hid hir9
          have HB9 := Lib.hid hb9
          clear her9 hir9 hb9 hfm hcells HER HIR
          generalize ((picks (usedBy z u nm) k).map fun j => (xen z u j, a j, cc j)).flatMap (fun p => p.1.cells p.2.1 p.2.2) = X0 at *
          go_upto_region 9 with fail
          generalize wr.alloc (.cells #[.int .i64 e.st, .string e.nm, .int .i64 e.no, .int .i64 e.tl, .slice ka e.bl.length kc] 38) = W9 at *
          have hz9 := HB9.out.size
          go_upto_region 10 with (at_builtin; refine wpList_pushN (.tmp 35) (.tmp 37) 48 w1.heap.size 38 (.agg #[.int .i64 0, .string ⟨#[]⟩, .int .i64 0, .int .i64 0, .slice none 0 0]) [.int .i64 e.st, .string e.nm, .int .i64 e.no, .int .i64 e.tl, .slice ka e.bl.length kc] 5 64 _ (picks (usedBy z u nm) k).length _ HE9.out rfl rfl Tryz.underlying48 infoXE rfl (by omega) rfl rfl rfl rfl (by intro u hu; simp at hu; rcases hu with rfl | rfl | rfl | rfl | rfl <;> rfl) (by omega) (by omega) hz9 ?_; intro A' c3 w3 ho3 hg3)
          have hb3 : Below w1.heap.size w1 w3 := HB9.out.grown hg3 hz9 (fun j hj => own_lt HE9.out j hj)
          have hir3 : NatR w1.heap.size w3 A2 c2 (picks (usedBy z u nm) k) := HI9.out.kept hg3 (own_neX HI9.out HE9.out tIE)
          unfold NatR at hir3
          have HI3 := Lib.hid hir3
          have HE3 := Lib.hid ho3
          have hz3 := hb3.size
          clear hir3 ho3 hg3
          go_wp2_with (at_builtin; refine wpList_pushN (.tmp 39) (.tmp 41) 33 w1.heap.size 2 (.int .i64 0) [.int .i64 (k : Int)] 1 8 _ (picks (usedBy z u nm) k).length _ HI3.out rfl rfl Tryz.underlying33 infoIX rfl (by omega) rfl rfl rfl rfl (by intro u hu; simp at hu; subst hu; rfl) (by omega) (by omega) hz3 ?_; intro A4 c4 w4 ho4 hg4)
          go_roundw
          case rel =>
            have hb4 : Below w1.heap.size w1 w4 := hb3.grown hg4 hz3 (fun j hj => own_lt HI3.out j hj)
            have he4 := HE3.out.kept hg4 (own_neX HE3.out HI3.out (fun e => tIE e.symm))
            refine ⟨k + 1, c3, c4, some A', some A4, by omega, by go_num, by rw [HPK.out, List.length_append]; rfl, by rw [HPK.out, List.length_append]; rfl, ?_, ?_, hb4⟩
            · unfold ERow
              rw [HPK.out, HFM.out, List.length_append]
              exact he4
            · unfold NatR
              rw [HPK.out, List.map_append, List.length_append]
              exact ho4
          case measure => simp [intOf]; omega
        · have e1 : (e.nm.toList == nm.toList) = false := str_eq_false hn
          have hq : ¬ usedBy z u nm k := fun q => hn (by rw [HE.out]; exact q.2)
          have HPK := Lib.hid (picks_miss hq)
          clear hu hq hn
          go_wp2_with fail
          go_roundw
          case rel =>
            refine ⟨k + 1, c1, c2, A1, A2, by omega, by go_num, by rw [HPK.out], by rw [HPK.out], ?_, ?_, hb.alloc hwr _⟩
            · rw [HPK.out]; exact HER.out.below ((Below.refl _ _).alloc (Nat.le_refl _) _)
            · rw [HPK.out]; exact HIR.out.below ((Below.refl _ _).alloc (Nat.le_refl _) _)
          case measure => simp [intOf]; omega
      · have hl := hml.2 hu
        have hq : ¬ usedBy z u nm k := fun q => hu q.1
        have HPK := Lib.hid (picks_miss hq)
        unfold XE.val xe0 at hl
        clear hml hu hq
        go_wp2_with fail
        go_roundw
        case rel =>
          refine ⟨k + 1, c1, c2, A1, A2, by omega, by go_num, by rw [HPK.out], by rw [HPK.out], ?_, ?_, hb.alloc hwr _⟩
          · rw [HPK.out]; exact HER.out.below ((Below.refl _ _).alloc (Nat.le_refl _) _)
          · rw [HPK.out]; exact HIR.out.below ((Below.refl _ _).alloc (Nat.le_refl _) _)
        case measure => simp [intOf]; omega
    · obtain rfl : k = E := by omega
      have hES : ESl w1.heap.size wr ((picks (usedBy z u nm) k).map fun j => (xen z u j, a j, cc j)) := fun p hp => by
        obtain ⟨j, hj, rfl⟩ := List.mem_map.1 hp
        obtain ⟨h1, h2⟩ := mem_picks.1 hj
        exact (HM.out.2 j h1 h2.1).sl.below hb
      have hB := HB1.out.trans (hb.mono hz1)
      go_wp2_with fail
      go_ret2
      exact ⟨a, cc, A1, A2, c1, c2, rfl, own_base her hz1, hES.more hwr, hir.base hz1, hB⟩
end Go.Proofs.YtmgcaiilocifbaaGreatDoor
