/-
  Disks of extents: the numbers of the deleted entries: the reference's side.
-/
import Derived.Test.YtmgcaiilocifbaaGreatDoorXnS
import Derived.Test.YtmgcaiilocifbaaGreatDoorXfT
import Derived.Test.YtmgcaiilocifbaaGreatDoorXdT
import Derived.Deep.DeepCutAuto
namespace Go.Proofs.YtmgcaiilocifbaaGreatDoor
open Go Go.ChangeShapes Go.WideShapes Go.ChangeAt Go.RowKit lib
set_option linter.unusedVariables false
set_option linter.unusedSimpArgs false
set_option maxRecDepth 100000
/-- deleted entries with a name, or of all names if it is empty -/
def goneAs (z : Nat) (U : Nat → UInt8) (nm : ByteArray) (k : Nat) : Prop := (xen z U k).st = 229 ∧ (nm = ⟨#[]⟩ ∨ (xen z U k).nm = nm)
set_option maxHeartbeats 2000000 in
theorem specGoneX_any {w : World} {n c q z E t : Nat} {n0 : Value} {A : Option Addr} {s : Nat → ByteArray} (nm : ByteArray) (hs : Sl w w.heap.size A n (fun i => .string (s i))) (hsz : ∀ i, i < n → (s i).size = z) (hr : Rw w q 30 #[n0, .int .i64 z, .int .i64 E, .int .i64 t]) (hz8 : 8 ≤ z) (hz32 : z ≤ 32) (hn : n ≤ 128) (hE : E ≤ 32) (hfit : ∀ k, k < E → z + k * 16 + 16 ≤ n * z) :
    Calls Tryz.prog 12 #[.slice A n c, .pointer (some ⟨q, 0, none⟩), .string nm] w fun r w' => ∃ A2 c2, r = .returned (.slice A2 (picks (goneAs z (joinU z s) nm) E).length c2) ∧ NatR w.heap.size w' A2 c2 (picks (goneAs z (joinU z s) nm) E) ∧ Below w.heap.size w w' := by
  have HS := Lib.hid hs
  have HR := Lib.hid hr
  have HSZ := Lib.hid hsz
  have HF := Lib.hid hfit
  have hql := hr.lt
  have HNE := Lib.hid (own_nilE w 2 1 w.heap.size (Nat.le_refl _))
  clear hs hsz hr hfit
  go_enter Tryz.func12, Tryz.ntmps12
  go_wp2_with fail
  go_loopw [7, 8, 9, 10] (fun s7 s8 s9 s10 wr => ∃ (k c2 : Nat) (A2 : Option Addr), k ≤ E ∧ s8 = .int .i64 k ∧ s7 = .slice A2 (picks (goneAs z (joinU z s) nm) k).length c2 ∧ NatR w.heap.size wr A2 c2 (picks (goneAs z (joinU z s) nm) k) ∧ Below w.heap.size w wr) (fun _ i _ _ _ => E - (intOf i).toNat)
  case atStart => exact ⟨0, 0, _, Nat.zero_le _, rfl, rfl, HNE.out, (Below.refl _ _).alloc (Nat.le_refl _) _⟩
  case round =>
    obtain ⟨k, c2, A2, hk, rfl, rfl, hir, hb⟩ := hrel
    have hwr := hb.size
    have hpl := picks_len (goneAs z (joinU z s) nm) k
    have hx2 := (HR.out.below hb hql).cell 2
    by_cases hlt : k < E
    · have HEN := Lib.hid (specEntryX_any (c := c) ((HS.out.below hb).more hwr) HSZ.out (HR.out.below hb hql) hz8 hz32 hn (HF.out k hlt))
      have HIR := Lib.hid hir
      clear hir
      by_cases hg : xGood z (xby z (joinU z s) k)
      · have HEG := Lib.hid (HEN.out.mono fun r w' q => xEnt_good (v := xby z (joinU z s) k) q hg)
        obtain ⟨e, he⟩ : ∃ e, e = xen z (joinU z s) k := ⟨_, rfl⟩
        have hgx : xent z (xby z (joinU z s) k) = e := he.symm
        rw [hgx] at HEG
        unfold XE.val at HEG
        have HE := Lib.hid he
        clear HEN hgx he
        go_upto_region 6 with (go_at_call 17; refine HEG.out.mono ?_; rintro r w1 ⟨A3, c3, rfl, hi, hb1⟩)
        have hI2 := (HIR.out.below hb1).below ((Below.refl w1.heap.size w1).alloc (Nat.le_refl _) (.cells #[.int .i64 e.st, .string e.nm, .int .i64 e.no, .int .i64 e.tl, .slice A3 e.bl.length c3] 38))
        have hB2 := hb.trans ((hb1.alloc hb1.size (.cells #[.int .i64 e.st, .string e.nm, .int .i64 e.no, .int .i64 e.tl, .slice A3 e.bl.length c3] 38)).mono hwr)
        have hR2 := Rw.new w1 38 #[.int .i64 e.st, .string e.nm, .int .i64 e.no, .int .i64 e.tl, .slice A3 e.bl.length c3]
        generalize w1.alloc (.cells #[.int .i64 e.st, .string e.nm, .int .i64 e.no, .int .i64 e.tl, .slice A3 e.bl.length c3] 38) = W2 at *
        have q0 := hR2.cell 0; have q1 := hR2.cell 1
        have hz2 := hB2.size
        unfold NatR at hI2
        have HI2 := Lib.hid hI2
        have HB2 := Lib.hid hB2
        clear hI2 hB2 hi hb1
        by_cases hu : goneAs z (joinU z s) nm k
        · have HPK := Lib.hid (picks_hit hu)
          obtain ⟨hu1, hu2⟩ := hu
          rw [← HE.out] at hu1 hu2
          have e1 : (e.st == 229) = true := by simp [hu1]
          rw [hu1] at q0
          clear hu1 e1
          by_cases hn0 : nm = ⟨#[]⟩
          · subst hn0
            clear hu2
            go_wp2_with (at_builtin; refine wpList_pushN (.tmp 43) (.tmp 45) 33 w.heap.size 2 (.int .i64 0) [.int .i64 (k : Int)] 1 8 _ (picks (goneAs z (joinU z s) ⟨#[]⟩) k).length _ HI2.out rfl rfl Tryz.underlying33 infoIX rfl (by omega) rfl rfl rfl rfl (by intro u hu; simp at hu; subst hu; rfl) (by omega) (by omega) hz2 ?_; intro A4 c4 w4 ho4 hg4)
            go_roundw
            case rel =>
              refine ⟨k + 1, c4, some A4, by omega, by go_num, by rw [HPK.out, List.length_append]; rfl, ?_, HB2.out.grown hg4 hz2 (fun j hj => own_lt HI2.out j hj)⟩
              unfold NatR
              rw [HPK.out, List.map_append, List.length_append]
              exact ho4
            case measure => simp [intOf]; omega
          · have hn1 : e.nm = nm := hu2.resolve_left hn0
            have f1 : nm.toList.isEmpty = false := isEmpty_no hn0
            have f2 : (e.nm.toList == nm.toList) = true := str_eq_true hn1
            clear hu2 hn0 hn1
            go_wp2_with (at_builtin; refine wpList_pushN (.tmp 43) (.tmp 45) 33 w.heap.size 2 (.int .i64 0) [.int .i64 (k : Int)] 1 8 _ (picks (goneAs z (joinU z s) nm) k).length _ HI2.out rfl rfl Tryz.underlying33 infoIX rfl (by omega) rfl rfl rfl rfl (by intro u hu; simp at hu; subst hu; rfl) (by omega) (by omega) hz2 ?_; intro A4 c4 w4 ho4 hg4)
            go_roundw
            case rel =>
              refine ⟨k + 1, c4, some A4, by omega, by go_num, by rw [HPK.out, List.length_append]; rfl, ?_, HB2.out.grown hg4 hz2 (fun j hj => own_lt HI2.out j hj)⟩
              unfold NatR
              rw [HPK.out, List.map_append, List.length_append]
              exact ho4
            case measure => simp [intOf]; omega
        · have HPK := Lib.hid (picks_miss hu)
          by_cases hu1 : e.st = 229
          · have hu2 : ¬ (nm = ⟨#[]⟩ ∨ e.nm = nm) := fun q => hu ⟨by rw [← HE.out]; exact hu1, by rw [← HE.out]; exact q⟩
            have f1 : nm.toList.isEmpty = false := isEmpty_no fun q => hu2 (.inl q)
            have f2 : (e.nm.toList == nm.toList) = false := str_eq_false fun q => hu2 (.inr q)
            rw [hu1] at q0
            clear hu2 hu hu1
            go_wp2_with fail
            go_roundw
            case rel => exact ⟨k + 1, c2, A2, by omega, by go_num, by rw [HPK.out], by rw [HPK.out]; exact HI2.out, HB2.out⟩
            case measure => simp [intOf]; omega
          · have e1 : (e.st == 229) = false := by simp [hu1]
            have e2 : (e.st = 229) = False := by simp [hu1]
            clear hu hu1
            go_wp2_with fail
            go_roundw
            case rel => exact ⟨k + 1, c2, A2, by omega, by go_num, by rw [HPK.out], by rw [HPK.out]; exact HI2.out, HB2.out⟩
            case measure => simp [intOf]; omega
      · have HEG := Lib.hid (HEN.out.mono fun r w' q => xEnt_bad (v := xby z (joinU z s) k) q hg)
        have hu : ¬ goneAs z (joinU z s) nm k := fun q => by have := q.1; rw [xen_bad hg] at this; exact absurd this (by decide)
        have HPK := Lib.hid (picks_miss hu)
        unfold XE.val xe0 at HEG
        clear HEN hg hu
        go_wp2_with (go_at_call 17; refine HEG.out.mono ?_; rintro r w1 ⟨A3, c3, rfl, hb1⟩)
        go_roundw
        case rel => exact ⟨k + 1, c2, A2, by omega, by go_num, by rw [HPK.out], by rw [HPK.out]; exact (HIR.out.below hb1).below ((Below.refl _ _).alloc (Nat.le_refl _) _), hb.trans ((hb1.alloc hb1.size _).mono hwr)⟩
        case measure => simp [intOf]; omega
    · obtain rfl : k = E := by omega
      go_wp2_with fail
      go_ret
      exact ⟨A2, c2, rfl, hir, hb⟩
end Go.Proofs.YtmgcaiilocifbaaGreatDoor
