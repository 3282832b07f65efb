/-
  Disks of chains: a file read, both sides.
-/
import Derived.Test.YtapkckpjeoedaaaGreatDoorReadP
namespace Go.Proofs.YtapkckpjeoedaaaGreatDoor
open Go Go.ChangeShapes Go.WideShapes Go.ChangeAt Go.RowKit lib
set_option linter.unusedVariables false
set_option maxRecDepth 100000
/-- how the reading of an entry's file ends -/
def FileOut (Ch : List Nat × Nat) (N l z : Nat) (U : Nat → UInt8) (r : Ending) (w w' : World) : Prop := Below w.heap.size w w' ∧ (Ch.2 ≠ 0 → r = .returned (.tuple #[.string ⟨#[]⟩, .int .i64 (Ch.2 : Int)])) ∧ (Ch.2 = 0 → Ch.1.length ≠ N → r = .returned (.tuple #[.string ⟨#[]⟩, .int .i64 10])) ∧ (Ch.2 = 0 → Ch.1.length = N → r = .returned (.tuple #[.string (bstr l (chB z U Ch.1)), .int .i64 0]))
set_option maxHeartbeats 2000000 in
theorem specFile_any {w : World} {p g n z E d t N c eb : Nat} {u : Nat → UInt8} {nm : ByteArray} {f l : Nat} {us de : Bool} (h : ChW w p g n z E d t N c u) (hR : Rw w eb 82 #[.string nm, .int .i64 f, .int .i64 l, .bool us, .bool de]) (hz : 8 ≤ z) (hz2 : z ≤ 64) (hn : n ≤ 128) (hNz : z + n ≤ N) (hN : N ≤ 4096) (hNe : N = n * z) (hcN : N ≤ c) (hf : f ≤ 255) (hl : l ≤ 512) :
    Calls Tryz.prog 70 #[.pointer (some ⟨p, 0, none⟩), .pointer (some ⟨eb, 0, none⟩)] w fun r w' => FileOut (chainOf t n (lkN z u) f) (needN z l) l z u r w w' := by
  have hz0 : 0 < z := by omega
  have HC1 := Lib.hid h
  have RE := Lib.hid hR
  have q1 := hR.cell 1
  have hchl := chainOf_ok t n (lkN z u) f
  have HCH := Lib.hid (specChain_any f (by omega) h hn hNz hN)
  obtain ⟨Ch, hCh⟩ : ∃ Ch, chainOf t n (lkN z u) f = Ch := ⟨_, rfl⟩
  rw [hCh] at HCH hchl ⊢
  obtain ⟨L, cd⟩ := Ch
  have hclen := hchl.len
  dsimp only at HCH hclen hchl
  have HCL := Lib.hid hchl
  obtain ⟨N1, hN1⟩ : ∃ N1, needN z l = N1 := ⟨_, rfl⟩
  have hNle : N1 ≤ 600 := by rw [← hN1]; have : needN z l ≤ l + z - 1 := Nat.div_le_self _ _; omega
  have HND := Lib.hid (fun (W : World) (hW : ChW W p g n z E d t N c u) => specNeed_any l hW hz0 hz2 hl)
  have HNM := Lib.hid (fun h => need_mul (z := z) (l := l) (m := L.length) hz0 (by rw [hN1]; exact h))
  rw [hN1] at HND
  rw [hN1]
  clear hCh hchl hN1 h hR
  go_enter Tryz.func70, Tryz.ntmps70
  go_upto_region 2 with (go_at_call 104; refine HCH.out.mono ?_; rintro e3 w3 ⟨A3, c3, rfl, hi3, hb3⟩)
  have HB3 := Lib.hid hb3
  have HC3 := Lib.hid (HC1.out.below hb3)
  have RE3 := Lib.hid (RE.out.below hb3 RE.out.lt)
  have HI3 := Lib.hid hi3
  have y2 := RE3.out.cell 2
  have hz3 := hb3.size
  clear hb3 hi3 q1
  rcases Nat.eq_zero_or_pos cd with rfl | hcd
  · by_cases hcmp : L.length = N1
    · have i1 : ((L.length : Int) != (N1 : Int)) = false := by simp; omega
      have hml := HNM.out hcmp
      have HC4 := Lib.hid (HC3.out.drew)
      have HI4 := Lib.hid (HI3.out.drew)
      have RE4 := Lib.hid (RE3.out.drew)
      have HB4 := Lib.hid (HB3.out.drew)
      have hz4 : w.heap.size ≤ w3.drew.heap.size := hz3
      go_upto_region 6 with (go_at_call 81; refine (HND.out _ (by first | exact HC3.out | exact HC3.out.drew)).mono ?_; rintro e6 w6 ⟨rfl, rfl⟩)
      generalize w3.drew = W4 at *
      have HOO := Lib.hid (own_nil0 W4 5)
      have HBO := Lib.hid ((Below.refl W4.heap.size W4).alloc (Nat.le_refl _) (.cells #[] 5))
      obtain ⟨i0, hi0, hi1, hi2, hi3⟩ := info_parts (show (Tryz.prog.info? 5).map (fun i => (i.zero, i.size, i.bytes)) = some (some (.int .u8 0), 1, 1) by kernel_rfl)
      go_wp2_with fail
      go_loopw [8, 9] (fun s8 s9 wr => ∃ (i ga c' : Nat), i ≤ L.length ∧ s8 = .slice (some ⟨ga, 0, none⟩) (i * z) c' ∧ s9 = .int .i64 i ∧ wr.ownsRow W4.heap.size 5 1 (.slice (some ⟨ga, 0, none⟩) (i * z) c') (i * z) (bvals (chB z u L) (i * z)) ∧ Below W4.heap.size W4 wr) (fun _ s _ => L.length - (intOf s).toNat)
      case atStart => exact ⟨0, _, 0, by omega, by rw [Nat.zero_mul], rfl, by rw [Nat.zero_mul]; exact HOO.out, HBO.out⟩
      case round =>
        obtain ⟨i, ga, c', hi, rfl, rfl, ho, hb⟩ := hrel
        have HOR := Lib.hid ho
        have HBR := Lib.hid hb
        have HCR := Lib.hid (HC4.out.below hb)
        have RER := Lib.hid (RE4.out.below hb RE4.out.lt)
        have hbz := hb.size
        have y2 := RER.out.cell 2
        by_cases hil : i < L.length
        · have hil' : (i : Int) < L.length := by omega
          obtain ⟨b3, o3, rfl, hb3, hc3⟩ := HI4.out.sl i hil
          have hc3' := (hb.cell (p := ⟨b3, o3 + i, none⟩) hb3).trans hc3
          dsimp only at hc3'
          have hyn := (HCL.out.lt _ (getD_mem hil)).2
          have hst := bvals_step (U := u) (L := L) (i := i) hz0
          obtain ⟨y, hy⟩ : ∃ y, L.getD i 0 = y := ⟨_, rfl⟩
          rw [hy] at hc3' hyn hst
          have hyz : y * z + z ≤ N := by
            have := Nat.mul_le_mul_right z (show y + 1 ≤ n by omega)
            rw [Nat.add_mul] at this
            omega
          have hmz : i * z + z ≤ 4096 := by
            have := Nat.mul_le_mul_right z (show i + 1 ≤ n by omega)
            rw [Nat.add_mul] at this
            omega
          have HST := Lib.hid hst
          clear ho hb hc3 hst y2
          go_wp2_with (first
            | (go_at_call 105; refine (specBlock_any y HCR.out hyz hz0 (by omega) hcN (by omega)).mono ?_; rintro e6 w6 ⟨rfl, rfl⟩)
            | (at_builtin; refine wpList_append_lies _ rfl (.tmp 38) (.tmp 44) 63 rfl W4.heap.size 5 i0 _ 1 1 Tryz.underlying63 hi0 hi1 hi2 hi3 rfl (by omega) (.slice (some ⟨ga, 0, none⟩) (i * z) c') (i * z) _ rfl HOR.out.drew ⟨g, y * z, none⟩ z (c - y * z) (bvals (fun j => u (y * z + j)) z) rfl (by simp [bvals]) (bvals_news HCR.out.drew.row hyz) (by simp [bvals, Value.oneCell']) hz0 (by simp only [maxLen]; omega) (by omega) hbz _ rfl ?_; intro g4 cap4 w4 ho4 hg4 hat4 hlt4))
          go_roundw
          case rel => exact ⟨i + 1, g4, cap4, by omega, by rw [Nat.add_mul, Nat.one_mul], by go_num, by rw [Nat.add_mul, Nat.one_mul, HST.out]; exact ho4, HBR.out.drew.grown hg4 hbz (own_lt HOR.out)⟩
          case measure => simp [intOf]; omega
        · obtain rfl : i = L.length := by omega
          have hcc := own_cap ho
          have hlc : (l : Int) ≤ c' := by omega
          have hcv : (convert 63 9 (.slice (some ⟨ga, 0, none⟩) l c')).run Tryz.prog wr = .ok (.string (bstr l (chB z u L))) wr :=
            run_bstr (P := Tryz.prog) (w := wr) (B := wr.heap.size) 63 9 5 Tryz.underlying63 Tryz.underlying5 Tryz.underlying9 (u := chB z u L) ((own_slR ho).less hml) (by simp)
          clear ho hb
          go_wp2_with fail
          go_ret2
          exact ⟨HB4.out.trans (HBR.out.mono hz4), fun h => absurd rfl h, fun _ h => absurd hcmp h, fun _ _ => rfl⟩
    · have i1 : ((L.length : Int) != (N1 : Int)) = true := by simp; omega
      go_wp2_with (go_at_call 81; refine (HND.out _ (by first | exact HC3.out | exact HC3.out.drew)).mono ?_; rintro e6 w6 ⟨rfl, rfl⟩)
      go_ret2
      exact ⟨by first | exact HB3.out.drew | exact HB3.out.drew.drew, fun h => absurd rfl h, fun _ _ => rfl, fun _ h => absurd h hcmp⟩
  · have e1 : ((cd : Int) != 0) = true := by simp; omega
    go_wp2_with fail
    go_ret2
    exact ⟨HB3.out, fun _ => rfl, fun h => absurd h (by omega), fun h => absurd h (by omega)⟩
end Go.Proofs.YtapkckpjeoedaaaGreatDoor
