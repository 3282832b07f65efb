/-
  Disks of chains: OwnersOf, LostBlocks, both sides.
-/
import Derived.Test.YtapkckpjeoedaaaGreatDoorWalksS
namespace Go.Proofs.YtapkckpjeoedaaaGreatDoor
open Go Go.ChangeShapes Go.WideShapes Go.ChangeAt Go.RowKit lib
set_option linter.unusedVariables false
set_option maxRecDepth 100000
noncomputable def ownersOf (n : Nat) (s : Nat → ByteArray) : Nat → Int := ownsN n (s 0).size (dataN n (s 0).size) (joinU (s 0).size s) (entsN n)
/-- the lost blocks among t, t + 1, .. -/
def lostN (own : Nat → Int) (U : Nat → UInt8) (z t : Nat) : Nat → List Nat
  | 0 => []
  | i + 1 => lostN own U z t i ++ (if own (t + i) < 0 ∧ U (z + (t + i)) ≠ 0 ∧ U (z + (t + i)) ≠ 254 then [t + i] else [])
theorem lostN_hit {own : Nat → Int} {U : Nat → UInt8} {z t i : Nat} (h : own (t + i) < 0 ∧ U (z + (t + i)) ≠ 0 ∧ U (z + (t + i)) ≠ 254) : lostN own U z t (i + 1) = lostN own U z t i ++ [t + i] := by simp only [lostN, if_pos h]
theorem lostN_miss {own : Nat → Int} {U : Nat → UInt8} {z t i : Nat} (h : ¬ (own (t + i) < 0 ∧ U (z + (t + i)) ≠ 0 ∧ U (z + (t + i)) ≠ 254)) : lostN own U z t (i + 1) = lostN own U z t i := by simp only [lostN, if_neg h, List.append_nil]
theorem lostN_le (own : Nat → Int) (U : Nat → UInt8) (z t : Nat) : ∀ i, (lostN own U z t i).length ≤ i
  | 0 => Nat.le_refl _
  | i + 1 => by
    have := lostN_le own U z t i
    simp only [lostN, List.length_append]
    split <;> simp <;> omega
noncomputable def lostOf (n : Nat) (s : Nat → ByteArray) : List Nat := lostN (ownersOf n s) (joinU (s 0).size s) (s 0).size (dataN n (s 0).size) (n - dataN n (s 0).size)
set_option maxHeartbeats 2000000 in
theorem implLost_any {w : World} {p g n z E d t N c : Nat} {u : Nat → UInt8} (h : ChW w p g n z E d t N c u) (hn : n ≤ 128) (hNz : z + n ≤ N) (hN : N ≤ 4096) (hcN : N ≤ c) (hE : E ≤ 16) (hd : d = dirN n z) (ht : t ≤ n) (hfit : ∀ k, k < E → d * z + k * 12 + 12 ≤ N) :
    Calls Tryz.prog 99 #[.pointer (some ⟨p, 0, none⟩)] w fun r w' => ∃ A c, r = .returned (.slice A (lostN (ownsN n z t u E) u z t (n - t)).length c) ∧ IntsR w.heap.size w' A c (lostN (ownsN n z t u E) u z t (n - t)) ∧ Below w.heap.size w w' := by
  have HWK := Lib.hid (implWalks_any h hn hNz hN hcN hE hd hfit)
  have HH := Lib.hid h
  clear h hfit hd
  generalize ownsN n z t u E = own at *
  go_enter Tryz.func99, Tryz.ntmps99
  go_wp2_with (go_at_call 71; refine HWK.out.mono ?_; rintro e1 w1 ⟨rfl, ho1, _, hb1⟩; have hC1 := HH.out.below hb1; have c4 := hC1.c4)
  have HO1 := Lib.hid ho1
  have hw1z := hb1.size
  clear ho1
  go_loopw [5, 6] (fun s5 s6 wr => ∃ (i : Nat) (A : Option Addr) (c' : Nat), t + i ≤ n ∧ s5 = .slice A (lostN own u z t i).length c' ∧ s6 = .int .i64 (t + i : Nat) ∧ IntsR w1.heap.size wr A c' (lostN own u z t i) ∧ Below w1.heap.size w1 wr) (fun _ s _ => n - (intOf s).toNat)
  case atStart => exact ⟨0, none, 0, by omega, rfl, rfl, World.ownsRow_nil _ _ _ _, Below.refl _ _⟩
  case round =>
    obtain ⟨i, A, c', hi, rfl, rfl, ho, hb⟩ := hrel
    have HO := Lib.hid ho
    have hW := hC1.below hb
    have c0 := hW.c0
    have hz := hb.size
    have hl := lostN_le own u z t i
    by_cases hlt : t + i < n
    · have hO := HO1.out.below hb HO1.out.lt
      have hoc := hO.cell hlt
      have hrc := hW.row.cell (i := z + (t + i)) (by omega)
      have HGH := Lib.hid (@lostN_hit own u z t i)
      have HGM := Lib.hid (@lostN_miss own u z t i)
      obtain ⟨y, hy⟩ : ∃ y, own (t + i) = y := ⟨_, rfl⟩
      obtain ⟨x, hx⟩ : ∃ x : Int, x = ((u (z + (t + i))).toNat : Int) := ⟨_, rfl⟩
      rw [hy] at hoc HGH HGM
      rw [← hx] at hrc
      have hx0 : (u (z + (t + i)) ≠ 0) ↔ x ≠ 0 := by
        rw [hx, Ne, Ne, ← UInt8.toNat_inj]
        simp
      have hx4 : (u (z + (t + i)) ≠ 254) ↔ x ≠ 254 := by
        rw [hx, Ne, Ne, ← UInt8.toNat_inj]
        rw [show (254 : UInt8).toNat = 254 from rfl]
        omega
      rw [hx0, hx4] at HGH HGM
      skip
      generalize hL : lostN own u z t i = L at *
      have hl1 : L.length ≤ 128 := by omega
      have HPU := Lib.hid (HO.out)
      clear hL ho hx hy hx0 hx4 hO
      by_cases hy0 : y < 0
      · by_cases hx1 : x = 0
        · have e1 : (x != 0) = false := by simp [hx1]
          have HG := Lib.hid (HGM.out (by simp [hx1]))
          clear hx1
          go_wp2_with (first | (go_at_call 65; refine (implLink_any (t + i) hW (by omega) (by omega)).mono ?_; rintro e1 w1 ⟨rfl, rfl⟩))
          go_roundw
          case rel => exact ⟨i + 1, A, c', by omega, by rw [HG.out], by go_num, by rw [HG.out]; exact HO.out.drew, hb.drew⟩
          case measure => simp [intOf]; omega
        · by_cases hx2 : x = 254
          · have e1 : (x != 0) = true := by simp [hx1]
            have e2 : (x != 254) = false := by simp [hx2]
            have HG := Lib.hid (HGM.out (by simp [hx2]))
            clear hx1 hx2
            go_wp2_with (first | (go_at_call 65; refine (implLink_any (t + i) hW (by omega) (by omega)).mono ?_; rintro e1 w1 ⟨rfl, rfl⟩))
            go_roundw
            case rel => exact ⟨i + 1, A, c', by omega, by rw [HG.out], by go_num, by rw [HG.out]; exact HO.out.drew, hb.drew⟩
            case measure => simp [intOf]; omega
          · have e1 : (x != 0) = true := by simp [hx1]
            have e2 : (x != 254) = true := by simp [hx2]
            have HG := Lib.hid (HGH.out ⟨hy0, hx1, hx2⟩)
            have HPU2 := Lib.hid (own_below HO.out (Below.refl _ _).drew)
            clear hx1 hx2
            go_wp2_with (first | (go_at_call 65; refine (implLink_any (t + i) hW (by omega) (by omega)).mono ?_; rintro e1 w1 ⟨rfl, rfl⟩) | (at_builtin; refine wpList_push (.tmp 45) (.tmp 47) 74 w1.heap.size 2 (.int .i64 0) _ 8 _ L.length _ HPU2.out rfl rfl Tryz.underlying74 infoI64 rfl rfl rfl rfl rfl (by omega) (by omega) hz ?_; intro A' c3 w3 ho3 hb3))
            go_roundw
            case rel => exact ⟨i + 1, some A', c3, by omega, by rw [HG.out]; simp, by go_num, by rw [HG.out]; simpa [IntsR] using ho3, hb.drew.trans hb3⟩
            case measure => simp [intOf]; omega
      · have HG := Lib.hid (HGM.out (fun h => hy0 h.1))
        go_wp2_with (first | (go_at_call 65; refine (implLink_any (t + i) hW (by omega) (by omega)).mono ?_; rintro e1 w1 ⟨rfl, rfl⟩))
        go_roundw
        case rel => exact ⟨i + 1, A, c', by omega, by rw [HG.out], by go_num, by rw [HG.out]; exact HO.out.drew, hb.drew⟩
        case measure => simp [intOf]; omega
    · obtain rfl : i = n - t := by omega
      clear ho
      go_wp2
      go_ret
      exact ⟨A, c', rfl, HO.out.base hw1z, hb1.trans (hb.mono hw1z)⟩
set_option maxHeartbeats 2000000 in
theorem specLost_any {w : World} {p g n z E d t N c : Nat} {u : Nat → UInt8} (h : ChW w p g n z E d t N c u) (hn : n ≤ 128) (hNz : z + n ≤ N) (hN : N ≤ 4096) (hcN : N ≤ c) (hE : E ≤ 16) (hd : d = dirN n z) (ht : t ≤ n) (hfit : ∀ k, k < E → d * z + k * 12 + 12 ≤ N) :
    Calls Tryz.prog 88 #[.pointer (some ⟨p, 0, none⟩)] w fun r w' => ∃ A c, r = .returned (.slice A (lostN (ownsN n z t u E) u z t (n - t)).length c) ∧ IntsR w.heap.size w' A c (lostN (ownsN n z t u E) u z t (n - t)) ∧ Below w.heap.size w w' := by
  have HWK := Lib.hid (specWalks_any h hn hNz hN hcN hE hd hfit)
  have HH := Lib.hid h
  clear h hfit hd
  generalize ownsN n z t u E = own at *
  go_enter Tryz.func88, Tryz.ntmps88
  go_wp2_with (go_at_call 67; refine HWK.out.mono ?_; rintro e1 w1 ⟨Aq, cq, xs, rfl, ho1, _, hb1⟩; have hC1 := HH.out.below hb1; have c4 := (hC1.below ((Below.refl _ _).alloc (Nat.le_refl _) (.cells #[] 2))).c4)
  have HO1 := Lib.hid ho1
  have hw1z := hb1.size
  clear ho1
  go_loopw [5, 6] (fun s5 s6 wr => ∃ (i : Nat) (A : Option Addr) (c' : Nat), t + i ≤ n ∧ s5 = .slice A (lostN own u z t i).length c' ∧ s6 = .int .i64 (t + i : Nat) ∧ IntsR w1.heap.size wr A c' (lostN own u z t i) ∧ Below w1.heap.size w1 wr) (fun _ s _ => n - (intOf s).toNat)
  case atStart => exact ⟨0, _, 0, by omega, rfl, rfl, own_nil0 w1 _, (Below.refl _ _).alloc (Nat.le_refl _) _⟩
  case round =>
    obtain ⟨i, A, c', hi, rfl, rfl, ho, hb⟩ := hrel
    have HO := Lib.hid ho
    have hW := hC1.below hb
    have c0 := hW.c0
    have hz := hb.size
    have hl := lostN_le own u z t i
    by_cases hlt : t + i < n
    · have hO := HO1.out.below hb HO1.out.lt
      have hoc := hO.cell hlt
      have hrc := hW.row.cell (i := z + (t + i)) (by omega)
      have HGH := Lib.hid (@lostN_hit own u z t i)
      have HGM := Lib.hid (@lostN_miss own u z t i)
      obtain ⟨y, hy⟩ : ∃ y, own (t + i) = y := ⟨_, rfl⟩
      obtain ⟨x, hx⟩ : ∃ x : Int, x = ((u (z + (t + i))).toNat : Int) := ⟨_, rfl⟩
      rw [hy] at hoc HGH HGM
      rw [← hx] at hrc
      have hx0 : (u (z + (t + i)) ≠ 0) ↔ x ≠ 0 := by
        rw [hx, Ne, Ne, ← UInt8.toNat_inj]
        simp
      have hx4 : (u (z + (t + i)) ≠ 254) ↔ x ≠ 254 := by
        rw [hx, Ne, Ne, ← UInt8.toNat_inj]
        rw [show (254 : UInt8).toNat = 254 from rfl]
        omega
      rw [hx0, hx4] at HGH HGM
      have HLK := Lib.hid (fun (X : World) (hX : ChW X p g n z E d t N c u) => (specLink_any (t + i) hX (by omega) (by omega)).mono fun r w' h => (show r = .returned (.int .i64 x) ∧ w' = X.drew from ⟨h.1.trans (by rw [hx]), h.2⟩))
      generalize hL : lostN own u z t i = L at *
      have hl1 : L.length ≤ 128 := by omega
      have HPU := Lib.hid (HO.out)
      clear hL ho hx hy hx0 hx4 hO
      by_cases hy0 : y < 0
      · by_cases hx1 : x = 0
        · have e1 : (x != 0) = false := by simp [hx1]
          have HG := Lib.hid (HGM.out (by simp [hx1]))
          clear hx1
          go_wp2_with (first | (go_at_call 79; first | (refine (HLK.out _ hW).mono ?_; rintro e1 w1 ⟨rfl, rfl⟩) | (refine (HLK.out _ hW.drew).mono ?_; rintro e1 w1 ⟨rfl, rfl⟩)))
          go_roundw
          case rel => exact ⟨i + 1, A, c', by omega, by rw [HG.out], by go_num, by rw [HG.out]; exact HO.out.drew, hb.drew⟩
          case measure => simp [intOf]; omega
        · by_cases hx2 : x = 254
          · have e1 : (x != 0) = true := by simp [hx1]
            have e2 : (x != 254) = false := by simp [hx2]
            have HG := Lib.hid (HGM.out (by simp [hx2]))
            clear hx1 hx2
            go_wp2_with (first | (go_at_call 79; first | (refine (HLK.out _ hW).mono ?_; rintro e1 w1 ⟨rfl, rfl⟩) | (refine (HLK.out _ hW.drew).mono ?_; rintro e1 w1 ⟨rfl, rfl⟩)))
            go_roundw
            case rel => exact ⟨i + 1, A, c', by omega, by rw [HG.out], by go_num, by rw [HG.out]; exact HO.out.drew.drew, hb.drew.drew⟩
            case measure => simp [intOf]; omega
          · have e1 : (x != 0) = true := by simp [hx1]
            have e2 : (x != 254) = true := by simp [hx2]
            have HG := Lib.hid (HGH.out ⟨hy0, hx1, hx2⟩)
            have HPU2 := Lib.hid (own_below HO.out (Below.refl _ _).drew.drew)
            clear hx1 hx2
            go_wp2_with (first | (go_at_call 79; first | (refine (HLK.out _ hW).mono ?_; rintro e1 w1 ⟨rfl, rfl⟩) | (refine (HLK.out _ hW.drew).mono ?_; rintro e1 w1 ⟨rfl, rfl⟩)) | (at_builtin; refine wpList_push (.tmp 44) (.tmp 46) 74 w1.heap.size 2 (.int .i64 0) _ 8 _ L.length _ HPU2.out rfl rfl Tryz.underlying74 infoI64 rfl rfl rfl rfl rfl (by omega) (by omega) hz ?_; intro A' c3 w3 ho3 hb3))
            go_roundw
            case rel => exact ⟨i + 1, some A', c3, by omega, by rw [HG.out]; simp, by go_num, by rw [HG.out]; simpa [IntsR] using ho3, hb.drew.drew.trans hb3⟩
            case measure => simp [intOf]; omega
      · have HG := Lib.hid (HGM.out (fun h => hy0 h.1))
        go_wp2_with (first | (go_at_call 79; first | (refine (HLK.out _ hW).mono ?_; rintro e1 w1 ⟨rfl, rfl⟩) | (refine (HLK.out _ hW.drew).mono ?_; rintro e1 w1 ⟨rfl, rfl⟩)))
        go_roundw
        case rel => exact ⟨i + 1, A, c', by omega, by rw [HG.out], by go_num, by rw [HG.out]; exact HO.out, hb⟩
        case measure => simp [intOf]; omega
    · obtain rfl : i = n - t := by omega
      clear ho
      go_wp2
      go_ret
      exact ⟨A, c', rfl, HO.out.base hw1z, hb1.trans (hb.mono hw1z)⟩
end Go.Proofs.YtapkckpjeoedaaaGreatDoor
