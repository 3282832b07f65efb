/-
  Disks of chains: the files without problems, the program's side.
-/
import Derived.Test.YtapkckpjeoedaaaGreatDoorSndP
import Derived.Test.YtapkckpjeoedaaaGreatDoorFSort
import Derived.Test.YtapkckpjeoedaaaGreatDoorProbTop
import Derived.Deep.CutBlock
import Derived.Deep.AppendLies
namespace Go.Proofs.YtapkckpjeoedaaaGreatDoor
open Go Go.ChangeShapes Go.WideShapes Go.ChangeAt Go.RowKit lib
set_option linter.unusedVariables false
set_option maxRecDepth 100000
set_option maxHeartbeats 2000000 in
theorem implContent_any {w : World} {p g n z e d t N c : Nat} {u : Nat → UInt8} (h : ChW w p g n z e d t N c u) {Ab : Option Addr} {cb : Nat} (L : List Nat) (hL : Sl w w.heap.size Ab L.length (fun j => .int .i64 ((L.getD j 0 : Nat) : Int))) (hlt : ∀ x, x ∈ L → x < n) (hlen : L.length ≤ n) (l : Nat) (hl : l ≤ L.length * z) (hz : 8 ≤ z) (hz2 : z ≤ 64) (hn : n ≤ 128) (hNe : N = n * z) (hN : N ≤ 4096) (hcN : N ≤ c) :
    Calls Tryz.prog 74 #[.pointer (some ⟨p, 0, none⟩), .slice Ab L.length cb, .int .i64 l] w fun r w' => r = .returned (.string (bstr l (chB z u L))) ∧ Below w.heap.size w w' := by
  have HC := Lib.hid h
  have HL := Lib.hid hL
  have HLT := Lib.hid hlt
  have hz0 : 0 < z := by omega
  obtain ⟨i0, hi0, hi1, hi2, hi3⟩ := info_parts (show (Tryz.prog.info? 5).map (fun i => (i.zero, i.size, i.bytes)) = some (some (.int .u8 0), 1, 1) by kernel_rfl)
  clear h hL hlt
  go_enter Tryz.func74, Tryz.ntmps74
  go_wp2_with fail
  go_loopw [7, 12] (fun s7 s12 wr => ∃ (i : Nat) (A : Option Addr) (c' : Nat), i ≤ L.length ∧ s7 = .slice A (i * z) c' ∧ s12 = .int .i64 i ∧ wr.ownsRow w.heap.size 5 1 (.slice A (i * z) c') (i * z) (bvals (chB z u L) (i * z)) ∧ Below w.heap.size w wr) (fun _ s _ => L.length - (intOf s).toNat)
  case atStart => exact ⟨0, none, 0, by omega, by rw [Nat.zero_mul], rfl, by rw [Nat.zero_mul]; exact World.ownsRow_nil _ _ _ _, Below.refl _ _⟩
  case round =>
    obtain ⟨i, A, c', hi, rfl, rfl, ho, hb⟩ := hrel
    have HOR := Lib.hid ho
    have HBR := Lib.hid hb
    have HCR := Lib.hid (HC.out.below hb)
    have hbz := hb.size
    by_cases hil : i < L.length
    · have hil' : (i : Int) < L.length := by omega
      obtain ⟨b3, o3, rfl, hb3, hc3⟩ := HL.out i hil
      have hc3' := (hb.cell (p := ⟨b3, o3 + i, none⟩) hb3).trans hc3
      dsimp only at hc3'
      have hyn := HLT.out _ (getD_mem hil)
      have hst := bvals_step (U := u) (L := L) (i := i) hz0
      obtain ⟨y, hy⟩ : ∃ y, L.getD i 0 = y := ⟨_, rfl⟩
      rw [hy] at hc3' hyn hst
      have hyz : y * z + z ≤ N := by
        have := Nat.mul_le_mul_right z (show y + 1 ≤ n by omega)
        rw [Nat.add_mul] at this
        omega
      have hmz : i * z + z ≤ 4096 := by
        have := Nat.mul_le_mul_right z (show i + 1 ≤ n by omega)
        rw [Nat.add_mul] at this
        omega
      have HST := Lib.hid hst
      have h1 := HCR.out.c1
      have h5 := HCR.out.c5
      have HNW := Lib.hid (bvals_news (W := wr.drew) HCR.out.drew.row hyz)
      obtain ⟨m, em⟩ : ∃ m, y * z = m := ⟨_, rfl⟩
      rw [em] at hyz HST HNW
      have e1 : (y : Int) * z = (m : Int) := by rw [← em]; simp
      have e2 : ((y : Int) + 1) * z = (m : Int) + z := by rw [Int.add_mul, e1]; omega
      have e3 : IntKind.i64.wrap (m : Int) = (m : Int) := by rw [IntKind.wrap_i64]; omega
      have e4 : IntKind.i64.wrap ((m : Int) + z) = (m : Int) + z := by rw [IntKind.wrap_i64]; omega
      have e5 : IntKind.i64.wrap ((y : Int) + 1) = (y : Int) + 1 := by rw [IntKind.wrap_i64]; omega
      have e6 : (0 : Int) ≤ (m : Int) + z := by omega
      have e7 : (m : Int) + z ≤ c := by omega
      have e8 : ((m : Int) + z).toNat = m + z := by omega
      have e9 : m ≤ m + z := by omega
      have e10 : m + z - m = z := by omega
      have e11 : (c = m) = False := by simp; omega
      clear ho hb hc3 hst hy em
      go_wp2_with fail
      go_region_law (refine step_append_lies _ (by rfl) _ _ _ (by rfl) w.heap.size 5 i0 _ 1 1 Tryz.underlying63 hi0 hi1 hi2 hi3 rfl (by omega) (.slice A (i * z) c') (i * z) _ (by rfl) HOR.out.drew ⟨g, m, none⟩ z _ (bvals (fun j => u (m + j)) z) (by rfl) (by simp [bvals]) HNW.out (by simp [bvals, Value.oneCell']) hz0 (by simp only [maxLen]; omega) (by omega) hbz _ rfl ?_; intro g4 cap4 w4 ho4 hg4 hat4 hlt4)
      all_goals
        go_wp2_with fail
        go_roundw
        case rel => exact ⟨i + 1, some ⟨g4, 0, none⟩, cap4, by omega, by rw [Nat.add_mul, Nat.one_mul], by go_num, by rw [Nat.add_mul, Nat.one_mul, HST.out]; exact ho4, HBR.out.drew.grown hg4 hbz (own_lt HOR.out)⟩
        case measure => simp [intOf]; omega
    · obtain rfl : i = L.length := by omega
      have hcc := own_cap ho
      have hlc : (l : Int) ≤ c' := by omega
      have hcv : (convert 63 9 (.slice A l c')).run Tryz.prog wr = .ok (.string (bstr l (chB z u L))) wr :=
        run_bstr (P := Tryz.prog) (w := wr) (B := wr.heap.size) 63 9 5 Tryz.underlying63 Tryz.underlying5 Tryz.underlying9 (u := chB z u L) ((own_slR ho).less hl) (fun hA => by
          rcases Nat.eq_zero_or_pos l with h0 | h0
          · exact h0
          · obtain ⟨b, o, hA', _⟩ := own_slR ho 0 (by omega)
            rw [hA] at hA'; cases hA')
      clear ho hb
      go_wp2_with fail
      go_ret
      exact ⟨rfl, HBR.out⟩
theorem walkN_lenS {n z t : Nat} {U : Nat → UInt8} (k : Nat) (ht : t ≤ n) : (walkN n z t U k).1.length ≤ n := by
  unfold walkN
  split
  · exact (walkOf_ok _ _ _ _ _).1.len
  · exact Nat.zero_le _
theorem news2F (w : World) (e : Nat) (x y : Value) : ∀ (j : Nat) (q : Value), [x, y][j]? = some q → ((w.alloc (.cells #[x, y] e)).drew).cell? ((⟨w.heap.size, 0, none⟩ : Addr).add j) = some q := by
  intro j q hj
  have hc := Rw.new w e #[x, y]
  match j, hj with
  | 0, hj => simp at hj; subst hj; exact hc.drew.cell 0
  | 1, hj => simp at hj; subst hj; exact hc.drew.cell 1
theorem infoFl : (Tryz.prog.info? 54).map (fun i => (i.zero, i.size, i.bytes)) = some (some (.agg #[.string .empty, .string .empty]), 2, 32) := by kernel_rfl
theorem fileR_snoc {B c : Nat} {w : World} {A : Option Addr} {L : List (ByteArray × ByteArray)} {x y : ByteArray} (h : w.ownsRow B 54 2 (.slice A (L.length + 1) c) (L.length + 1) (L.flatMap encF ++ [.string x, .string y])) : FileR B w A c (L ++ [(x, y)]) := by
  unfold FileR
  rw [List.flatMap_append, List.length_append]
  exact h
set_option maxHeartbeats 4000000 in
theorem implSound_any {w : World} {p g n z E d t N c : Nat} {u : Nat → UInt8} (h : ChW w p g n z E d t N c u) (hz : 8 ≤ z) (hz2 : z ≤ 64) (hn : n ≤ 128) (ht : t ≤ n) (hNz : z + n ≤ N) (hNe : N = n * z) (hN : N ≤ 4096) (hcN : N ≤ c) (hE : E ≤ 16) (hd : d = dirN n z) (hfit : ∀ k, k < E → d * z + k * 12 + 12 ≤ N) :
    Calls Tryz.prog 32 #[.pointer (some ⟨p, 0, none⟩)] w fun r w' => ∃ A c', r = .returned (.slice A (sndL n z t u E).length c') ∧ FileR w.heap.size w' A c' (sndL n z t u E) ∧ Below w.heap.size w w' := by
  have HC := Lib.hid h
  have HFIT := Lib.hid hfit
  have HD := Lib.hid hd
  have HW := Lib.hid (implWalks_any h hn hNz hN hcN hE hd hfit)
  have hz0 : 0 < z := by omega
  have HWL := Lib.hid (fun k => walkN_lenS (n := n) (z := z) (t := t) (U := u) k ht)
  obtain ⟨i0, hi0, hi1, hi2, hi3⟩ := info_parts infoFl
  clear h hfit hd
  go_enter Tryz.func32, Tryz.ntmps32
  go_upto_region 3 with (go_at_call 71; refine HW.out.mono ?_; rintro r w2 ⟨rfl, _, hw2, hb2⟩)
  have HR2 := Lib.hid hw2
  have HB2 := Lib.hid hb2
  have HC2 := Lib.hid (HC.out.below hb2)
  have hz2s := hb2.size
  obtain ⟨q, hq⟩ : ∃ q, w.heap.size = q := ⟨_, rfl⟩
  rw [hq] at HR2
  have HQ := Lib.hid hq
  rw [hq]
  clear hw2 hb2 hq
  go_wp2_with fail
  go_loopw [3, 17] (fun s3 s17 wr => ∃ (k : Nat) (A' : Option Addr) (c' : Nat), k ≤ E ∧ s3 = .slice A' (sndL n z t u k).length c' ∧ s17 = .int .i64 k ∧ FileR w2.heap.size wr A' c' (sndL n z t u k) ∧ Below w2.heap.size w2 wr) (fun _ s _ => E - (intOf s).toNat)
  case atStart => exact ⟨0, none, 0, by omega, rfl, rfl, fileR_nil _ _, Below.refl _ _⟩
  case round =>
    obtain ⟨k, A', c', hk, rfl, rfl, ho, hb⟩ := hrel
    have HOR := Lib.hid ho
    have HBR := Lib.hid hb
    have hbz := hb.size
    by_cases hlt : k < E
    · obtain ⟨Aw, cw, y0, y1, y2, hyi, _⟩ := (HR2.out.below hb).cell hlt
      have HYI := Lib.hid hyi
      have hln := sndL_len (n := n) (z := z) (t := t) (U := u) k
      have HHIT := Lib.hid (fun h => sndL_hit (n := n) (z := z) (t := t) (U := u) (k := k) h)
      have HMISS := Lib.hid (fun h => sndL_miss (n := n) (z := z) (t := t) (U := u) (k := k) h)
      have hwl := HWL.out k
      obtain ⟨WK, hWK⟩ : ∃ WK, walkN n z t u k = WK := ⟨_, rfl⟩
      have HWK := Lib.hid hWK
      rw [hWK] at y0 y1 y2 hwl HYI
      obtain ⟨l, e, b⟩ := WK
      dsimp only at hwl y0 y1 y2 HYI
      obtain ⟨PR, hPR⟩ : ∃ PR, probsN n z u k (l, e, b) = PR := ⟨_, rfl⟩
      have HPR := Lib.hid hPR
      obtain ⟨L, hL⟩ : ∃ L, sndL n z t u k = L := ⟨_, rfl⟩
      rw [hL] at HOR HHIT HMISS hln ⊢
      have HCR := Lib.hid (HC2.out.below hb)
      have kE : (k : Int) < E := by omega
      have hfk := HFIT.out k hlt
      have hal := (Below.refl wr.heap.size wr).alloc (Nat.le_refl _) (.cells #[.slice Aw l.length cw, .int .i64 (e : Int), .int .i64 (b : Int)] 103)
      have RW1 := Lib.hid (Rw.new wr 103 #[.slice Aw l.length cw, .int .i64 (e : Int), .int .i64 (b : Int)])
      have HBA := Lib.hid (HBR.out.trans (hal.mono hbz))
      have HCA := Lib.hid (HCR.out.below hal)
      have HYA := Lib.hid (HYI.out.below hal)
      have HOA := Lib.hid (HOR.out.below hal)
      clear ho hb hyi hWK hPR hL hal
      go_upto_region 6 with fail
      obtain ⟨q1, hq1⟩ : ∃ q1, wr.heap.size = q1 := ⟨_, rfl⟩
      rw [hq1] at RW1 ⊢
      generalize wr.alloc (.cells #[.slice Aw l.length cw, .int .i64 (e : Int), .int .i64 (b : Int)] 103) = W1 at *
      clear hq1 y0 y1 y2
      have hz1 := HBA.out.size
      go_upto_region 7 with (go_at_call 72; refine (implEntry_any k _ HCA.out rfl hfk (by omega) hcN (by omega)).mono ?_; intro e2' w4 h2; obtain ⟨ok, nm, f, ln, us, de, hb0, he0, rfl, hb4, n8, f8, l8, hbf⟩ := entOut_parts h2)
      have hal := hb4.alloc hb4.size (.cells #[.string nm, .int .i64 f, .int .i64 ln, .bool us, .bool de] 82)
      have RE := Lib.hid (Rw.new w4 82 #[.string nm, .int .i64 f, .int .i64 ln, .bool us, .bool de])
      have RW2 := Lib.hid (RW1.out.below hal RW1.out.lt)
      have HB4 := Lib.hid (HBA.out.trans (hal.mono hz1))
      have HC4 := Lib.hid (HCA.out.below hal)
      have HY4 := Lib.hid (HYA.out.below hal)
      have HO4 := Lib.hid (HOA.out.below hal)
      have HEK := Lib.hid (show entK n z u k = ⟨nm, f, ln, us, de⟩ by unfold entK; rw [← HD.out]; exact he0)
      have HOK := Lib.hid (show ok = true ↔ okE (fun i => u (dirN n z * z + k * 12 + i)) by rw [← HD.out]; exact hb0)
      obtain ⟨q2, hq2⟩ : ∃ q2, w4.heap.size = q2 := ⟨_, rfl⟩
      rw [hq2] at RE
      rw [hq2]
      clear h2 hb0 he0 hal hb4 hbf
      generalize hW5 : w4.alloc (.cells #[.string nm, .int .i64 f, .int .i64 ln, .bool us, .bool de] 82) = W5 at *
      clear hW5 hq2
      have hz5 := HB4.out.size
      have x3 := RE.out.cell 3
      have HSB := Lib.hid (show sndB n z t u k = (ok && us && PR.isEmpty) by
        unfold sndB
        rw [HWK.out, HPR.out, HEK.out]
        congr 2
        rw [Bool.eq_iff_iff, HOK.out]
        simp)
      have hcase : ok = false ∨ (ok = true ∧ us = false) ∨ (ok = true ∧ us = true) := by cases ok <;> cases us <;> simp
      rcases hcase with rfl | ⟨rfl, rfl⟩ | ⟨rfl, rfl⟩
      · have HN := Lib.hid (HMISS.out (by rw [HSB.out]; rfl))
        go_wp2_with fail
        go_roundw
        case rel => exact ⟨k + 1, A', c', by omega, by rw [HN.out], by go_num, by rw [HN.out]; exact HO4.out, HB4.out⟩
        case measure => simp [intOf]; omega
      · have HN := Lib.hid (HMISS.out (by rw [HSB.out]; rfl))
        go_wp2_with fail
        go_roundw
        case rel => exact ⟨k + 1, A', c', by omega, by rw [HN.out], by go_num, by rw [HN.out]; exact HO4.out, HB4.out⟩
        case measure => simp [intOf]; omega
      · have HIP := Lib.hid (fun (W : World) (hW : ChW W p g n z E d t N c u) => implProblems_any hW hz0 hz2 hN hcN hE HD.out HFIT.out k hlt (Aw := Aw) (cw := cw) l e b (by omega))
        rw [HPR.out] at HIP
        obtain ⟨r0, r1, r2⟩ : W5.cell? ⟨q1, 0, none⟩ = some (.slice Aw l.length cw) ∧ W5.cell? ⟨q1, 1, none⟩ = some (.int .i64 (e : Int)) ∧ W5.cell? ⟨q1, 2, none⟩ = some (.int .i64 (b : Int)) := ⟨RW2.out.cell 0, RW2.out.cell 1, RW2.out.cell 2⟩
        by_cases hpr : PR = []
        · subst hpr
          have HSBT := Lib.hid (show sndB n z t u k = true by rw [HSB.out]; rfl)
          have HN := Lib.hid (HHIT.out HSBT.out)
          have HF := Lib.hid (show sndF n z t u k = (nm, bstr ln (chB z u l)) by unfold sndF; rw [HEK.out, HWK.out])
          have hlz := sndB_len HSBT.out
          rw [HWK.out, HEK.out] at hlz
          dsimp only at hlz
          have hlm := need_mul (z := z) (l := ln) (m := l.length) hz0 hlz
          have hch := chainOf_ok t n (lkN z u) (entK n z u k).f
          rw [sndB_chain HSBT.out, HWK.out] at hch
          have HCHL := Lib.hid hch
          clear hlz hch
          go_upto_region 8 with (go_at_call 73; refine (HIP.out _ HC4.out).mono ?_; rintro r w6 ⟨A6, c6, rfl, _, hb6⟩)
          have RE6 := Lib.hid (RE.out.below hb6 RE.out.lt)
          have RW6 := Lib.hid (RW2.out.below hb6 RW2.out.lt)
          have HB6 := Lib.hid (HB4.out.trans (hb6.mono hz5))
          have HC6 := Lib.hid (HC4.out.below hb6)
          have HY6 := Lib.hid (HY4.out.below hb6)
          have HO6 := Lib.hid (HO4.out.below hb6)
          have hz6 := HB6.out.size
          have HO6d := Lib.hid (HO6.out.below ((Below.refl w6.heap.size w6).drew))
          clear hb6 x3 r0 r1 r2
          have z0 := RE6.out.cell 0
          have z2 := RE6.out.cell 2
          have s0 := RW6.out.cell 0
          have HCON := Lib.hid (implContent_any (w := w6.drew) HC6.out.drew l (HY6.out.sl) (fun x hx => (HCHL.out.lt x hx).2) hwl ln hlm hz hz2 hn hNe hN hcN (cb := cw))
          obtain ⟨D, hD⟩ : ∃ D, bstr ln (chB z u l) = D := ⟨_, rfl⟩
          rw [hD] at HCON HF
          clear hD
          go_region_law (first
            | (go_simp; go_at_call 74; refine HCON.out.mono ?_; rintro r w7 ⟨rfl, hb7⟩; have z0' : w7.cell? ⟨q2, 0, none⟩ = some (.string nm) := (hb7.cell (p := ⟨q2, 0, none⟩) RE6.out.lt).trans z0; have HO7 := Lib.hid (HO6d.out.below hb7); have hz7 : w6.heap.size ≤ w7.heap.size := hb7.size)
            | (refine step_append_lies _ (by rfl) _ _ _ (by rfl) w2.heap.size 54 i0 _ 2 32 Tryz.underlying29 hi0 hi1 hi2 hi3 rfl (by omega) (.slice A' L.length c') L.length _ (by rfl) (((HO7.out.alloc _)).drew) ⟨_, 0, none⟩ 1 1 [.string nm, .string D] (by rfl) (by rfl) (news2F _ _ _ _) (by simp [Value.oneCell']) (by omega) (by simp only [maxLen]; omega) (by omega) (by simp; omega) _ rfl ?_; intro gg cap w8 ho8 hgrow hat hlt8))
          all_goals
            go_wp2_with fail
            go_roundw
            case rel => exact ⟨k + 1, some ⟨gg, 0, none⟩, cap, by omega, by rw [HN.out]; simp, by go_num, by rw [HN.out, HF.out]; exact fileR_snoc ho8, (((HB6.out.drew.trans (hb7.mono hz6)).alloc (by omega) (.cells #[.string nm, .string D] 54))).grown hgrow (by simp; omega) (own_lt HO7.out)⟩
            case measure => simp [intOf]; omega
        · have HSBF := Lib.hid (show sndB n z t u k = false by rw [HSB.out]; cases PR with | nil => exact absurd rfl hpr | cons a r => rfl)
          have HN := Lib.hid (HMISS.out HSBF.out)
          have hpl : ((PR.length : Int) == 0) = false := by cases PR with | nil => exact absurd rfl hpr | cons a r => simp; omega
          clear hpr
          go_wp2_with (go_at_call 73; refine (HIP.out _ HC4.out).mono ?_; rintro r w6 ⟨A6, c6, rfl, _, hb6⟩)
          go_roundw
          case rel => exact ⟨k + 1, A', c', by omega, by rw [HN.out], by go_num, by rw [HN.out]; exact HO4.out.below hb6, HB4.out.trans (hb6.mono hz5)⟩
          case measure => simp [intOf]; omega
    · obtain rfl : k = E := by omega
      go_wp2_with fail
      go_ret
      exact ⟨A', c', rfl, HOR.out.base (by have := HQ.out; omega), HB2.out.trans (HBR.out.mono HB2.out.size)⟩
end Go.Proofs.YtapkckpjeoedaaaGreatDoor
