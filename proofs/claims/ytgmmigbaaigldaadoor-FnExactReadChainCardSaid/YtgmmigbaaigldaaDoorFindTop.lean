/-
  Disks of chains: the entry of a name, both sides.
-/
import Derived.Test.YtgmmigbaaigldaaDoorGoneTop
namespace Go.Proofs.YtgmmigbaaigldaaDoor
open Go Go.ChangeShapes Go.WideShapes Go.ChangeAt Go.RowKit lib
set_option linter.unusedVariables false
set_option maxRecDepth 100000
/-- whether entry k is well formed -/
def okK (n z : Nat) (U : Nat → UInt8) (k : Nat) : Prop := okE (fun i => U (dirN n z * z + k * 12 + i))
open Classical in
/-- the entry of a name among m entries from k on, and a code -/
noncomputable def findGo (n z : Nat) (U : Nat → UInt8) (nm : ByteArray) : Nat → Nat → Nat × Nat
  | 0, _ => (0, 3)
  | m + 1, k => if okK n z U k then if (entK n z U k).us = true ∧ (entK n z U k).nm = nm then (k, 0) else findGo n z U nm m (k + 1) else (0, 7)
section
variable {n z : Nat} {U : Nat → UInt8} {nm : ByteArray} {m k : Nat}
theorem findGo_bad (h : ¬ okK n z U k) : findGo n z U nm (m + 1) k = (0, 7) := by rw [findGo, if_neg h]
theorem findGo_hit (h : okK n z U k) (h2 : (entK n z U k).us = true ∧ (entK n z U k).nm = nm) : findGo n z U nm (m + 1) k = (k, 0) := by rw [findGo, if_pos h, if_pos h2]
theorem findGo_next (h : okK n z U k) (h2 : ¬ ((entK n z U k).us = true ∧ (entK n z U k).nm = nm)) : findGo n z U nm (m + 1) k = findGo n z U nm m (k + 1) := by rw [findGo, if_pos h, if_neg h2]
end
theorem findGo_ok {n z : Nat} {U : Nat → UInt8} {nm : ByteArray} : ∀ (m k : Nat), ((findGo n z U nm m k).2 = 0 → k ≤ (findGo n z U nm m k).1 ∧ (findGo n z U nm m k).1 < k + m ∧ okK n z U (findGo n z U nm m k).1 ∧ (entK n z U (findGo n z U nm m k).1).us = true) ∧ ((findGo n z U nm m k).2 = 0 ∨ (findGo n z U nm m k).2 = 3 ∨ (findGo n z U nm m k).2 = 7) ∧ ((findGo n z U nm m k).2 ≠ 0 → (findGo n z U nm m k).1 = 0)
  | 0, k => by simp [findGo]
  | m + 1, k => by
    unfold findGo
    split
    · rename_i h
      split
      · rename_i h2
        exact ⟨fun _ => ⟨Nat.le_refl _, by omega, h, h2.1⟩, .inl rfl, fun h => absurd rfl h⟩
      · have := findGo_ok (n := n) (z := z) (U := U) (nm := nm) m (k + 1)
        exact ⟨fun h => by have := this.1 h; exact ⟨by omega, by omega, this.2.2⟩, this.2⟩
    · exact ⟨fun h => absurd h (by simp), .inr (.inr rfl), fun _ => rfl⟩
/-- the entry that goes with a find -/
noncomputable def findE (n z : Nat) (U : Nat → UInt8) (r : Nat × Nat) : Ent := if r.2 = 0 then entK n z U r.1 else ent0
set_option maxHeartbeats 4000000 in
theorem implFind_any {w : World} {p g n z E d t N c : Nat} {u : Nat → UInt8} (nm : ByteArray) (h : ChW w p g n z E d t N c u) (hN : N ≤ 4096) (hcN : N ≤ c) (hE : E ≤ 16) (hd : d = dirN n z) (hfit : ∀ k, k < E → d * z + k * 12 + 12 ≤ N) :
    Calls Tryd.prog 76 #[.pointer (some ⟨p, 0, none⟩), .string nm] w fun r w' => r = .returned (.tuple #[.int .i64 ((findGo n z u nm E 0).1 : Int), (findE n z u (findGo n z u nm E 0)).val, .int .i64 ((findGo n z u nm E 0).2 : Int)]) ∧ Below w.heap.size w w' := by
  have hb0 := (Below.refl w.heap.size w).alloc (Nat.le_refl _) (.cells #[.string ⟨#[]⟩, .int .i64 0, .int .i64 0, .bool false, .bool false] 77)
  have hr0 := Rw.new w 77 #[.string ⟨#[]⟩, .int .i64 0, .int .i64 0, .bool false, .bool false]
  obtain ⟨R, hR⟩ : ∃ R, findGo n z u nm E 0 = R := ⟨_, rfl⟩
  rw [hR]
  have HRR := Lib.hid hR
  have HB0 := Lib.hid hb0
  have HR0 := Lib.hid hr0
  have HH := Lib.hid h
  have HFIT := Lib.hid hfit
  have HD := Lib.hid hd
  have c2 := (h.below hb0).c2
  clear hb0 hr0 h hfit hd hR
  go_enter Tryd.func76, Tryd.ntmps76
  go_wp2_with fail
  go_loopw [15] (fun s15 wr => ∃ k : Nat, k ≤ E ∧ s15 = .int .i64 k ∧ findGo n z u nm (E - k) k = R ∧ Rw wr w.heap.size 77 #[.string ⟨#[]⟩, .int .i64 0, .int .i64 0, .bool false, .bool false] ∧ Below w.heap.size w wr) (fun s _ => E - (intOf s).toNat)
  case atStart => exact ⟨0, by omega, rfl, HRR.out, HR0.out, HB0.out⟩
  case round =>
    obtain ⟨k, hk, rfl, hst, hr, hb⟩ := hrel
    have HST := Lib.hid hst
    have HB := Lib.hid hb
    have hC := HH.out.below hb
    clear hst hb c2
    by_cases hlt : k < E
    · have t1 := HFIT.out k hlt
      go_upto_region 5 with (first
        | (go_at_call 69; refine (implEntry_any k _ hC rfl t1 (by omega) hcN (by omega)).mono ?_; intro e2 w2 h2; obtain ⟨b, nm', f, l, us, de, hb0, he0, rfl, hb2, n8, f8, l8, hbf⟩ := entOut_parts h2))
      have HEK := Lib.hid (show entK n z u k = ⟨nm', f, l, us, de⟩ by unfold entK; rw [← HD.out, he0])
      have HOK := Lib.hid (show b = true ↔ okK n z u k by unfold okK; rw [← HD.out]; exact hb0)
      have HG := Lib.hid (show findGo n z u nm (E - (k + 1) + 1) k = R by rw [← HST.out, show E - (k + 1) + 1 = E - k by omega])
      have hal := (HB.out.trans (hb2.mono HB.out.size)).alloc (Nat.le_trans HB.out.size hb2.size) (.cells #[.string nm', .int .i64 f, .int .i64 l, .bool us, .bool de] 77)
      have hr2 := (hr.below hb2 hr.lt).alloc (.cells #[.string nm', .int .i64 f, .int .i64 l, .bool us, .bool de] 77)
      have hrr := Rw.new w2 77 #[.string nm', .int .i64 f, .int .i64 l, .bool us, .bool de]
      have hlt2 := hr.lt
      have hne : w.heap.size ≠ w2.heap.size := by have := hb2.size; omega
      generalize hWW : w2.alloc (.cells #[.string nm', .int .i64 f, .int .i64 l, .bool us, .bool de] 77) = W3 at *
      have HAL := Lib.hid hal
      have HR2 := Lib.hid hr2
      have q0 := hrr.cell 0; have q1 := hrr.cell 1; have q2 := hrr.cell 2; have q3 := hrr.cell 3; have q4 := hrr.cell 4
      have k0 := hr2.cell 0; have k1 := hr2.cell 1; have k2 := hr2.cell 2; have k3 := hr2.cell 3; have k4 := hr2.cell 4
      have f0 := hr2.frozen 0; have f1 := hr2.frozen 1; have f2 := hr2.frozen 2; have f3 := hr2.frozen 3; have f4 := hr2.frozen 4
      clear hal hr2 hrr hWW he0 hb0 hbf h2 hr
      cases b
      · have HRX := Lib.hid ((findGo_bad (m := E - (k + 1)) (nm := nm) (fun q => by have := HOK.out.2 q; cases this)).symm.trans HG.out)
        go_wp2_with fail
        have hrs := rowset5 HR2.out (.string ⟨#[]⟩) (.int .i64 0) (.int .i64 0) (.bool false) (.bool false)
        rw [← HRX.out]
        refine bodyPost_ret (v := .tuple #[.int .i64 0, ent0.val, .int .i64 7]) (by simp [results, Tryd.results76, go_sem, Ent.val, entV, ent0, hrs]) rfl ⟨by unfold findE; rfl, ?_⟩
        exact ((((HAL.out.setCell (Nat.le_refl _) _).setCell (Nat.le_refl _) _).setCell (Nat.le_refl _) _).setCell (Nat.le_refl _) _).setCell (Nat.le_refl _) _
      · have HOK1 := Lib.hid (HOK.out.1 rfl)
        by_cases hus : us = true
        · subst hus
          by_cases hnm : nm' = nm
          · have e1 := str_eq_true hnm
            have HRX := Lib.hid ((findGo_hit (m := E - (k + 1)) (nm := nm) HOK1.out (by rw [HEK.out]; exact ⟨rfl, hnm⟩)).symm.trans HG.out)
            clear hnm
            go_wp2_with fail
            go_region
            go_wp2_with fail
            have hrs := rowset5 HR2.out (.string nm') (.int .i64 f) (.int .i64 l) (.bool true) (.bool de)
            rw [← HRX.out]
            refine bodyPost_ret (v := .tuple #[.int .i64 k, entV nm' f l true de, .int .i64 0]) (by simp [results, Tryd.results76, go_sem, entV, hrs]) rfl ⟨by unfold findE; rw [if_pos rfl, HEK.out]; rfl, ?_⟩
            exact (((((HAL.out.setCell (Nat.le_refl _) _).setCell (Nat.le_refl _) _).setCell (Nat.le_refl _) _).setCell (Nat.le_refl _) _).setCell (Nat.le_refl _) _).drew
          · have e1 := str_eq_false hnm
            have HRX := Lib.hid ((findGo_next (m := E - (k + 1)) (nm := nm) HOK1.out (by rw [HEK.out]; exact fun q => hnm q.2)).symm.trans HG.out)
            clear hnm
            go_wp2_with fail
            go_roundw
            case rel => exact ⟨k + 1, by omega, by go_num, HRX.out, HR2.out, HAL.out⟩
            case measure => simp [intOf]; omega
        · have hus' : us = false := by simpa using hus
          subst hus'
          have HRX := Lib.hid ((findGo_next (m := E - (k + 1)) (nm := nm) HOK1.out (by rw [HEK.out]; exact fun q => by cases q.1)).symm.trans HG.out)
          go_wp2_with fail
          go_roundw
          case rel => exact ⟨k + 1, by omega, by go_num, HRX.out, HR2.out, HAL.out⟩
          case measure => simp [intOf]; omega
    · obtain rfl : k = E := by omega
      have HRX := Lib.hid (show R = (0, 3) by rw [← HST.out, Nat.sub_self]; rfl)
      have HHR := Lib.hid hr
      have k0 := hr.cell 0; have k1 := hr.cell 1; have k2 := hr.cell 2; have k3 := hr.cell 3; have k4 := hr.cell 4
      have f0 := hr.frozen 0; have f1 := hr.frozen 1; have f2 := hr.frozen 2; have f3 := hr.frozen 3; have f4 := hr.frozen 4
      clear hr
      go_wp2_with fail
      have hrs := rowset5 HHR.out (.string ⟨#[]⟩) (.int .i64 0) (.int .i64 0) (.bool false) (.bool false)
      rw [HRX.out]
      refine bodyPost_ret (v := .tuple #[.int .i64 0, ent0.val, .int .i64 3]) (by simp [results, Tryd.results76, go_sem, Ent.val, entV, ent0, hrs]) rfl ⟨by unfold findE; rfl, ?_⟩
      exact ((((HB.out.setCell (Nat.le_refl _) _).setCell (Nat.le_refl _) _).setCell (Nat.le_refl _) _).setCell (Nat.le_refl _) _).setCell (Nat.le_refl _) _
set_option maxHeartbeats 4000000 in
theorem specFind_any {w : World} {p g n z E d t N c : Nat} {u : Nat → UInt8} (nm : ByteArray) (h : ChW w p g n z E d t N c u) (hN : N ≤ 4096) (hcN : N ≤ c) (hE : E ≤ 16) (hd : d = dirN n z) (hfit : ∀ k, k < E → d * z + k * 12 + 12 ≤ N) :
    Calls Tryd.prog 71 #[.pointer (some ⟨p, 0, none⟩), .string nm] w fun r w' => ((findGo n z u nm E 0).2 = 0 → r = .returned (.tuple #[.int .i64 ((findGo n z u nm E 0).1 : Int), .bool true])) ∧ ((findGo n z u nm E 0).2 = 3 → r = .returned (.tuple #[.int .i64 (-1), .bool true])) ∧ ((findGo n z u nm E 0).2 = 7 → r = .returned (.tuple #[.int .i64 (-1), .bool false])) ∧ Below w.heap.size w w' := by
  obtain ⟨R, hR⟩ : ∃ R, findGo n z u nm E 0 = R := ⟨_, rfl⟩
  rw [hR]
  have HRR := Lib.hid hR
  have HH := Lib.hid h
  have HFIT := Lib.hid hfit
  have HD := Lib.hid hd
  clear h hfit hd hR
  go_enter Tryd.func71, Tryd.ntmps71
  go_wp2_with fail
  go_loopw [6] (fun s6 wr => ∃ k : Nat, k ≤ E ∧ s6 = .int .i64 k ∧ findGo n z u nm (E - k) k = R ∧ Below w.heap.size w wr) (fun s _ => E - (intOf s).toNat)
  case atStart => exact ⟨0, by omega, rfl, HRR.out, Below.refl _ _⟩
  case round =>
    obtain ⟨k, hk, rfl, hst, hb⟩ := hrel
    have HST := Lib.hid hst
    have HB := Lib.hid hb
    have hC := HH.out.below hb
    have c2 := hC.c2
    clear hst hb
    by_cases hlt : k < E
    · have t1 := HFIT.out k hlt
      go_upto_region 5 with (first
        | (go_at_call 45; refine (specEntry_any k _ hC rfl t1 (by omega) hcN (by omega)).mono ?_; intro e2 w2 h2; obtain ⟨b, nm', f, l, us, de, hb0, he0, rfl, hb2, n8, f8, l8, hbf⟩ := entOut_parts h2))
      have HEK := Lib.hid (show entK n z u k = ⟨nm', f, l, us, de⟩ by unfold entK; rw [← HD.out, he0])
      have HOK := Lib.hid (show b = true ↔ okK n z u k by unfold okK; rw [← HD.out]; exact hb0)
      have HG := Lib.hid (show findGo n z u nm (E - (k + 1) + 1) k = R by rw [← HST.out, show E - (k + 1) + 1 = E - k by omega])
      have hal := (HB.out.trans (hb2.mono HB.out.size)).alloc (Nat.le_trans HB.out.size hb2.size) (.cells #[.string nm', .int .i64 f, .int .i64 l, .bool us, .bool de] 77)
      have hrr := Rw.new w2 77 #[.string nm', .int .i64 f, .int .i64 l, .bool us, .bool de]
      generalize hWW : w2.alloc (.cells #[.string nm', .int .i64 f, .int .i64 l, .bool us, .bool de] 77) = W3 at *
      have HAL := Lib.hid hal
      have q0 := hrr.cell 0; have q1 := hrr.cell 1; have q2 := hrr.cell 2; have q3 := hrr.cell 3; have q4 := hrr.cell 4
      clear hal hrr hWW he0 hb0 hbf h2
      cases b
      · have HRX := Lib.hid ((findGo_bad (m := E - (k + 1)) (nm := nm) (fun q => by have := HOK.out.2 q; cases this)).symm.trans HG.out)
        go_wp2_with fail
        go_ret2
        rw [← HRX.out]
        exact ⟨fun h => absurd h (by simp), fun h => absurd h (by simp), fun _ => rfl, HAL.out⟩
      · have HOK1 := Lib.hid (HOK.out.1 rfl)
        by_cases hus : us = true
        · subst hus
          by_cases hnm : nm' = nm
          · have e1 := str_eq_true hnm
            have HRX := Lib.hid ((findGo_hit (m := E - (k + 1)) (nm := nm) HOK1.out (by rw [HEK.out]; exact ⟨rfl, hnm⟩)).symm.trans HG.out)
            clear hnm
            go_wp2_with fail
            go_ret2
            rw [← HRX.out]
            exact ⟨fun _ => rfl, fun h => absurd h (by simp), fun h => absurd h (by simp), HAL.out⟩
          · have e1 := str_eq_false hnm
            have HRX := Lib.hid ((findGo_next (m := E - (k + 1)) (nm := nm) HOK1.out (by rw [HEK.out]; exact fun q => hnm q.2)).symm.trans HG.out)
            clear hnm
            go_wp2_with fail
            go_roundw
            case rel => exact ⟨k + 1, by omega, by go_num, HRX.out, HAL.out⟩
            case measure => simp [intOf]; omega
        · have hus' : us = false := by simpa using hus
          subst hus'
          have HRX := Lib.hid ((findGo_next (m := E - (k + 1)) (nm := nm) HOK1.out (by rw [HEK.out]; exact fun q => by cases q.1)).symm.trans HG.out)
          go_wp2_with fail
          go_roundw
          case rel => exact ⟨k + 1, by omega, by go_num, HRX.out, HAL.out⟩
          case measure => simp [intOf]; omega
    · obtain rfl : k = E := by omega
      have HRX := Lib.hid (show R = (0, 3) by rw [← HST.out, Nat.sub_self]; rfl)
      go_wp2_with fail
      go_ret2
      rw [HRX.out]
      exact ⟨fun h => absurd h (by simp), fun _ => rfl, fun h => absurd h (by simp), HB.out⟩
end Go.Proofs.YtgmmigbaaigldaaDoor
