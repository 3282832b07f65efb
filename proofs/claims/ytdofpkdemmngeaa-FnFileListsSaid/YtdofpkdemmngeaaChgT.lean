/-
  The files that are not the same in two lists, the program's side.
-/
import Derived.Test.YtdofpkdemmngeaaChgP
import Derived.Test.YtdofpkdemmngeaaStrT
import Derived.Sort.OwnSorted
import Derived.Lib.OwnBridge
namespace Go.Proofs.Ytdofpkdemmngeaa
open Go Go.ChangeShapes Go.WideShapes Go.ChangeAt Go.RowKit lib
set_option linter.unusedVariables false
set_option maxRecDepth 100000
/-- the names of the files that are not the same in two lists -/
noncomputable def chgL (s : Nat → ByteArray) (n : Nat) (t : Nat → ByteArray) (m : Nat) : List ByteArray := missS (filS s n) (filS t m) (missS (filS t m) (filS s n) [])
set_option maxHeartbeats 2000000 in
theorem implChanged_ok (A B : Option Addr) (n m c d : Nat) (s t : Nat → ByteArray) (w : World) (hn : n ≤ 1048576) (hm : m ≤ 1048576) (hsz : ∀ i, i < n * 2 → (s i).size ≤ 1048576) (htz : ∀ i, i < m * 2 → (t i).size ≤ 1048576)
    (hs : Sl w w.heap.size A (n * 2) (fun i => .string (s i))) (ht : Sl w w.heap.size B (m * 2) (fun i => .string (t i))) (hv : VF n s) (hv2 : VF m t) :
    Calls Try.prog 9 #[.slice A n c, .slice B m d] w fun e w' => ∃ A' c', e = .returned (.tuple #[.slice A' (chgL s n t m).length c', .bool true]) ∧ StrR w.heap.size w' A' c' (chgL s n t m) ∧ Below w.heap.size w w' := by
  have hn16 := hv.1
  have hm16 := hv2.1
  have HV := Lib.hid hv
  have HV2 := Lib.hid hv2
  have HSZ := Lib.hid hsz
  have HTZ := Lib.hid htz
  have HS := Lib.hid hs
  have HT := Lib.hid ht
  obtain ⟨F, hF⟩ : ∃ F, filS s n = F := ⟨_, rfl⟩
  obtain ⟨G, hG⟩ : ∃ G, filS t m = G := ⟨_, rfl⟩
  have HF := Lib.hid hF
  have HG := Lib.hid hG
  have hFl : F.length = n := by rw [← hF]; exact filS_len _ _
  have hGl : G.length = m := by rw [← hG]; exact filS_len _ _
  have HFL := Lib.hid hFl
  have HGL := Lib.hid hGl
  have HRES := Lib.hid (show chgL s n t m = missS F G (missS G F []) by unfold chgL; rw [hF, hG])
  clear hs ht hv hv2 hsz htz hF hG hFl hGl
  have HV1 := Lib.hid (show ∀ (X : Value) (W : World), X = .slice A n c → W = w → Calls Try.prog 17 #[X] W fun e w' => VfOut (VF n s) e W w' from fun X W e eW => by rw [e, eW]; exact implValid_any A n c s w hn HSZ.out HS.out)
  have HV3 := Lib.hid (show ∀ (X : Value) (W : World), X = .slice B m d → Below w.heap.size w W → Calls Try.prog 17 #[X] W fun e w' => VfOut (VF m t) e W w' from fun X W e hb => by rw [e]; exact implValid_any B m d t W hm HTZ.out ((HT.out.below hb).more hb.size))
  obtain ⟨RES, hRES⟩ : ∃ R, chgL s n t m = R := ⟨_, rfl⟩
  rw [hRES] at HRES ⊢
  clear hRES
  go_enter Try.func9, Try.ntmps9
  go_wp2_with (first
    | (go_at_call 17; refine (HV1.out _ _ (by rfl) (by rfl)).mono ?_; rintro r w1 ⟨b1, hb1', rfl, hb1⟩; obtain rfl : b1 = true := hb1'.2 HV.out; clear hb1')
    | (go_at_call 17; refine (HV3.out _ _ (by rfl) hb1).mono ?_; rintro r w2 ⟨b2, hb2', rfl, hb2⟩; obtain rfl : b2 = true := hb2'.2 HV2.out; clear hb2'))
  have HB2 := Lib.hid (hb1.trans (hb2.mono hb1.size))
  clear hb1 hb2
  go_loopw [6, 21] (fun s6 s21 wr => ∃ (k : Nat) (A' : Option Addr) (c' : Nat), k ≤ n ∧ s6 = .slice A' (difS G (F.take k)).length c' ∧ s21 = .int .i64 k ∧ StrR w.heap.size wr A' c' (difS G (F.take k)) ∧ Below w.heap.size w wr) (fun _ s _ => n - (intOf s).toNat)
  case atStart => exact ⟨0, none, 0, by omega, rfl, rfl, strR_nil _ _, HB2.out⟩
  case round =>
    obtain ⟨k, A', c', hk, rfl, rfl, hst, hb⟩ := hrel
    have hbz := hb.size
    have HST := Lib.hid hst
    have HB := Lib.hid hb
    clear hst hb
    by_cases hlt : k < n
    · have hln := difS_len G (F.take k)
      have hln2 : (F.take k).length ≤ k := by rw [List.length_take]; omega
      have HIN := Lib.hid (fun h => (show difS G (F.take (k + 1)) = difS G (F.take k) by rw [← HF.out, filS_take hlt]; exact difS_in h))
      have HOUT := Lib.hid (fun h => (show difS G (F.take (k + 1)) = difS G (F.take k) ++ [s (k * 2)] by rw [← HF.out, filS_take hlt]; exact difS_out h))
      obtain ⟨L, hL⟩ : ∃ L, difS G (F.take k) = L := ⟨_, rfl⟩
      rw [hL] at HST HIN HOUT hln ⊢
      obtain ⟨b', o, rfl, hbb, h0, h1⟩ := (HS.out.below HB.out).two hlt
      obtain ⟨x, hx⟩ : ∃ x, s (k * 2) = x := ⟨_, rfl⟩
      obtain ⟨y, hy⟩ : ∃ y, s (k * 2 + 1) = y := ⟨_, rfl⟩
      rw [hx] at HIN HOUT
      rw [hy] at HIN HOUT
      simp only [hx, hy] at h0 h1
      have hal := (Below.refl wr.heap.size wr).alloc (Nat.le_refl _) (.cells #[.string x, .string y] 43)
      have hrr := Rw.new wr 43 #[.string x, .string y]
      have q0 := hrr.cell 0
      have q1 := hrr.cell 1
      have HRR := Lib.hid hrr
      have HBA := Lib.hid (HB.out.trans (hal.mono HB.out.size))
      have HSA := Lib.hid (HST.out.below hal)
      clear hal hrr hL hx hy
      obtain ⟨q, hq⟩ : ∃ q, wr.heap.size = q := ⟨_, rfl⟩
      rw [hq] at HRR q0 q1
      go_upto_region 7 with fail
      generalize wr.alloc (.cells #[.string x, .string y] 43) = W1 at *
      clear hq
      have hqw := HRR.out.lt
      have hWz := HBA.out.size
      have HCT := Lib.hid (slicesContainsFile_any B m d t x y W1 hm ((HT.out.below HBA.out).more HBA.out.size))
      rw [HG.out] at HCT
      by_cases hmem : (x, y) ∈ G
      · have HN := Lib.hid (HIN.out hmem)
        have HMM := Lib.hid hmem
        clear hmem
        go_wp2_with (go_at_call 23; refine HCT.out.mono ?_; rintro r w3 ⟨xb, rfl, hx, hb3⟩; obtain rfl : xb = true := hx.2 HMM.out)
        go_roundw
        case rel => exact ⟨k + 1, A', c', by omega, by rw [HN.out], by go_num, by rw [HN.out]; exact HSA.out.below hb3, HBA.out.trans (hb3.mono hWz)⟩
        case measure => simp [intOf]; omega
      · have HN := Lib.hid (HOUT.out hmem)
        have HMM := Lib.hid hmem
        clear hmem
        go_upto_region 8 with (go_at_call 23; refine HCT.out.mono ?_; rintro r w3 ⟨xb, rfl, hx, hb3⟩; obtain rfl : xb = false := by cases xb with | false => rfl | true => exact absurd (hx.1 rfl) HMM.out)
        have hr3 := HRR.out.below hb3 hqw
        have z0 := hr3.cell 0
        have HB3 := Lib.hid (HBA.out.trans (hb3.mono hWz))
        have HS3 := Lib.hid (HSA.out.below hb3)
        have hz3 := HB3.out.size
        clear hr3 hb3 hx
        go_wp2_with (at_builtin; refine wpList_push (.tmp 29) (.tmp 32) 31 w.heap.size 9 (.string .empty) _ 16 _ L.length _ HS3.out rfl rfl Try.underlying31 infoSt rfl rfl rfl rfl rfl (by omega) (by omega) hz3 ?_; intro A2 c2 w4 ho4 hb4)
        go_roundw
        case rel => exact ⟨k + 1, some A2, c2, by omega, by rw [HN.out]; simp, by go_num, by rw [HN.out]; simpa [StrR] using ho4, HB3.out.trans hb4⟩
        case measure => simp [intOf]; omega
    · obtain rfl : k = n := by omega
      have HTK := Lib.hid (show F.take k = F by rw [List.take_of_length_le (by rw [HFL.out]; omega)])
      rw [HTK.out] at HST ⊢
      have hl0 := difS_len G F
      have hl0' : (difS G F).length ≤ 16 := by have := HFL.out; omega
      obtain ⟨L0, hL0⟩ : ∃ L, difS G F = L := ⟨_, rfl⟩
      have HL0 := Lib.hid hL0
      rw [hL0] at HST hl0' ⊢
      clear hL0 hl0
      go_wp2_with fail
      go_loopw [6, 37] (fun s6 s37 wr => ∃ (j : Nat) (A' : Option Addr) (c' : Nat), j ≤ m ∧ s6 = .slice A' (L0 ++ difS F (G.take j)).length c' ∧ s37 = .int .i64 j ∧ StrR w.heap.size wr A' c' (L0 ++ difS F (G.take j)) ∧ Below w.heap.size w wr) (fun _ s _ => m - (intOf s).toNat)
      case atStart => exact ⟨0, A', c', by omega, by simp [difS_nil], rfl, by simpa [difS_nil] using HST.out, HB.out⟩
      case round =>
        clear HST HB hbz
        obtain ⟨j, A', c', hj, rfl, rfl, hst, hb⟩ := hrel
        have hbz := hb.size
        have HST := Lib.hid hst
        have HB := Lib.hid hb
        clear hst hb
        by_cases hlt2 : j < m
        · have hln := difS_len F (G.take j)
          have hln2 : (G.take j).length ≤ j := by rw [List.length_take]; omega
          have HIN := Lib.hid (fun h => (show L0 ++ difS F (G.take (j + 1)) = L0 ++ difS F (G.take j) by rw [← HG.out, filS_take hlt2]; rw [difS_in h]))
          have HOUT := Lib.hid (fun h => (show L0 ++ difS F (G.take (j + 1)) = (L0 ++ difS F (G.take j)) ++ [t (j * 2)] by rw [← HG.out, filS_take hlt2]; rw [difS_out h, List.append_assoc]))
          have hln3 : (L0 ++ difS F (G.take j)).length ≤ 32 := by rw [List.length_append]; omega
          obtain ⟨L, hL⟩ : ∃ L, L0 ++ difS F (G.take j) = L := ⟨_, rfl⟩
          rw [hL] at HST HIN HOUT hln3 ⊢
          clear hln hln2
          obtain ⟨b', o, rfl, hbb, h0, h1⟩ := (HT.out.below HB.out).two hlt2
          obtain ⟨x, hx⟩ : ∃ x, t (j * 2) = x := ⟨_, rfl⟩
          obtain ⟨y, hy⟩ : ∃ y, t (j * 2 + 1) = y := ⟨_, rfl⟩
          rw [hx] at HIN HOUT
          rw [hy] at HIN HOUT
          simp only [hx, hy] at h0 h1
          have hal := (Below.refl wr.heap.size wr).alloc (Nat.le_refl _) (.cells #[.string x, .string y] 43)
          have hrr := Rw.new wr 43 #[.string x, .string y]
          have q0 := hrr.cell 0
          have q1 := hrr.cell 1
          have HRR := Lib.hid hrr
          have HBA := Lib.hid (HB.out.trans (hal.mono HB.out.size))
          have HSA := Lib.hid (HST.out.below hal)
          clear hal hrr hL hx hy
          obtain ⟨q, hq⟩ : ∃ q, wr.heap.size = q := ⟨_, rfl⟩
          rw [hq] at HRR q0 q1
          go_upto_region 13 with fail
          generalize wr.alloc (.cells #[.string x, .string y] 43) = W1 at *
          clear hq
          have hqw := HRR.out.lt
          have hWz := HBA.out.size
          have HCT := Lib.hid (slicesContainsFile_any A k c s x y W1 hn ((HS.out.below HBA.out).more HBA.out.size))
          rw [HF.out] at HCT
          by_cases hmem : (x, y) ∈ F
          · have HN := Lib.hid (HIN.out hmem)
            have HMM := Lib.hid hmem
            clear hmem
            go_wp2_with (go_at_call 23; refine HCT.out.mono ?_; rintro r w3 ⟨xb, rfl, hx, hb3⟩; obtain rfl : xb = true := hx.2 HMM.out)
            go_roundw
            case rel => exact ⟨j + 1, A', c', by omega, by rw [HN.out], by go_num, by rw [HN.out]; exact HSA.out.below hb3, HBA.out.trans (hb3.mono hWz)⟩
            case measure => simp [intOf]; omega
          · have HN := Lib.hid (HOUT.out hmem)
            have HMM := Lib.hid hmem
            clear hmem
            go_upto_region 14 with (go_at_call 23; refine HCT.out.mono ?_; rintro r w3 ⟨xb, rfl, hx, hb3⟩; obtain rfl : xb = false := by cases xb with | false => rfl | true => exact absurd (hx.1 rfl) HMM.out)
            have hr3 := HRR.out.below hb3 hqw
            have z0 := hr3.cell 0
            have HB3 := Lib.hid (HBA.out.trans (hb3.mono hWz))
            have HS3 := Lib.hid (HSA.out.below hb3)
            have hz3 := HB3.out.size
            clear hr3 hb3 hx
            go_wp2_with (at_builtin; refine wpList_push (.tmp 45) (.tmp 48) 31 w.heap.size 9 (.string .empty) _ 16 _ L.length _ HS3.out rfl rfl Try.underlying31 infoSt rfl rfl rfl rfl rfl (by omega) (by omega) hz3 ?_; intro A2 c2 w4 ho4 hb4)
            go_roundw
            case rel => exact ⟨j + 1, some A2, c2, by omega, by rw [HN.out]; simp, by go_num, by rw [HN.out]; simpa [StrR] using ho4, HB3.out.trans hb4⟩
            case measure => simp [intOf]; omega
        · obtain rfl : j = m := by omega
          have HTK := Lib.hid (show G.take j = G by rw [List.take_of_length_le (by rw [HGL.out]; omega)])
          rw [HTK.out] at HST ⊢
          have hl1 := difS_len F G
          have hl1' : (L0 ++ difS F G).length ≤ 32 := by have := HGL.out; rw [List.length_append]; omega
          have HSM := Lib.hid (chg_same F G)
          rw [HL0.out, ← HRES.out] at HSM
          obtain ⟨L, hL⟩ : ∃ L, L0 ++ difS F G = L := ⟨_, rfl⟩
          rw [hL] at HST HSM hl1' ⊢
          have hk0 := HST.out.key
          have hkl : (L.map kB).length = L.length := List.length_map _
          have HSO := Lib.hid (sortStr_any hk0 HB.out (by rw [hkl]; omega))
          have hml : ((L.map kB).mergeSort fun x y => decide (x ≤ y)).length = L.length := by rw [List.length_mergeSort, hkl]
          have HCO := Lib.hid (fun (w5 : World) h hb => compactStr_any (w := w5) (w0 := w) (c := c') (A := A') (K := (L.map kB).mergeSort fun x y => decide (x ≤ y)) h hb (by rw [hml]; omega))
          rw [hkl] at HSO
          rw [hml, HSM.out] at HCO
          rw [List.length_map] at HCO
          clear hk0 hkl hml hL hl1
          go_wp2_with (first
            | (go_at_call 24; refine HSO.out.mono ?_; rintro r w5 ⟨rfl, ho5, hb5⟩)
            | (go_at_call 25; refine (HCO.out w5 ho5 hb5).mono ?_; rintro r w6 ⟨rfl, ho6, hb6⟩))
          go_ret2
          exact ⟨A', c', rfl, ho6.text, hb6⟩
theorem implChanged_bad (A B : Option Addr) (n m c d : Nat) (s t : Nat → ByteArray) (w : World) (hn : n ≤ 1048576) (hm : m ≤ 1048576) (hsz : ∀ i, i < n * 2 → (s i).size ≤ 1048576) (htz : ∀ i, i < m * 2 → (t i).size ≤ 1048576)
    (hs : Sl w w.heap.size A (n * 2) (fun i => .string (s i))) (ht : Sl w w.heap.size B (m * 2) (fun i => .string (t i))) (hv : ¬ (VF n s ∧ VF m t)) :
    Calls Try.prog 9 #[.slice A n c, .slice B m d] w fun e w' => e = .returned (.tuple #[.slice none 0 0, .bool false]) ∧ Below w.heap.size w w' := by
  have HV1 := Lib.hid (show ∀ (X : Value) (W : World), X = .slice A n c → W = w → Calls Try.prog 17 #[X] W fun e w' => VfOut (VF n s) e W w' from fun X W e eW => by rw [e, eW]; exact implValid_any A n c s w hn hsz hs)
  have HV3 := Lib.hid (show ∀ (X : Value) (W : World), X = .slice B m d → Below w.heap.size w W → Calls Try.prog 17 #[X] W fun e w' => VfOut (VF m t) e W w' from fun X W e hb => by rw [e]; exact implValid_any B m d t W hm htz ((ht.below hb).more hb.size))
  clear hs ht hsz htz
  by_cases hv1 : VF n s
  · have hv2 : ¬ VF m t := fun h => hv ⟨hv1, h⟩
    go_enter Try.func9, Try.ntmps9
    go_wp2_with (first
      | (go_at_call 17; refine (HV1.out _ _ (by rfl) (by rfl)).mono ?_; rintro r w1 ⟨b1, hb1', rfl, hb1⟩; obtain rfl : b1 = true := hb1'.2 hv1)
      | (go_at_call 17; refine (HV3.out _ _ (by rfl) hb1).mono ?_; rintro r w2 ⟨b2, hb2', rfl, hb2⟩; obtain rfl : b2 = false := by cases b2 with | false => rfl | true => exact absurd (hb2'.1 rfl) hv2))
    go_ret2
    exact ⟨rfl, hb1.trans (hb2.mono hb1.size)⟩
  · go_enter Try.func9, Try.ntmps9
    go_wp2_with (go_at_call 17; refine (HV1.out _ _ (by rfl) (by rfl)).mono ?_; rintro r w1 ⟨b1, hb1', rfl, hb1⟩; obtain rfl : b1 = false := by cases b1 with | false => rfl | true => exact absurd (hb1'.1 rfl) hv1)
    go_ret2
    exact ⟨rfl, hb1⟩
end Go.Proofs.Ytdofpkdemmngeaa
