/-
  Disks of chains: a file read, both sides.
-/
import Derived.Test.YtgmmigbaaigldaaDoorReadP
namespace Go.Proofs.YtgmmigbaaigldaaDoor
open Go Go.ChangeShapes Go.WideShapes Go.ChangeAt Go.RowKit lib
set_option linter.unusedVariables false
set_option maxRecDepth 100000
theorem implRead_bad {w : World} {n c : Nat} {A : Option Addr} {s : Nat → ByteArray} (nm : ByteArray) (hnm : nm.size ≤ 9223372036854775807) (hs : Sl w w.heap.size A n (fun i => .string (s i))) (hsz : ∀ i, i < n → (s i).size ≤ 9223372036854775807) (hn : n ≤ c) (hn2 : n ≤ 9223372036854775807) (hc : askCode n s nm ≠ 0) :
    Calls Tryd.prog 23 #[.slice A n c, .string nm] w fun r w' => r = .returned (.tuple #[.string ⟨#[]⟩, .int .i64 (askCode n s nm)]) ∧ Below w.heap.size w w' := by
  have HO := Lib.hid (implOpenChain_bad nm hnm hs hsz hn hn2 hc)
  obtain ⟨code, hcode⟩ : ∃ code, askCode n s nm = code := ⟨_, rfl⟩
  rw [hcode] at hc ⊢ HO
  have e1 : (code != 0) = true := by simpa using hc
  unfold noChain Ent.val entV ent0 at HO
  clear hs hsz hcode hc
  go_enter Tryd.func23, Tryd.ntmps23
  go_wp2_with (go_at_call 47; refine HO.out.mono ?_; rintro r w1 ⟨rfl, hb1⟩)
  go_ret2
  exact ⟨rfl, hb1.alloc hb1.size _⟩
set_option maxHeartbeats 2000000 in
theorem implRead_ok {w : World} {n c : Nat} {A : Option Addr} {s : Nat → ByteArray} (nm : ByteArray) (hnm : nm.size ≤ 9223372036854775807) (hs : Sl w w.heap.size A n (fun i => .string (s i))) (hsz : ∀ i, i < n → (s i).size ≤ 9223372036854775807) (hn : n ≤ c) (hn2 : n ≤ 9223372036854775807) (hc : askCode n s nm = 0) :
    Calls Tryd.prog 23 #[.slice A n c, .string nm] w fun r w' => ReadOut (chOf n s nm).1 (needN (s 0).size (entOfN n s nm).l) (entOfN n s nm).l (s 0).size (joinU (s 0).size s) r w w' := by
  obtain ⟨ho, hN, hF, hC⟩ := askCode_zero hc
  have HO := Lib.hid (implOpenChain_ok nm hnm hs hsz hn hn2 ho hN hF hC)
  obtain ⟨f1, f2, f3, f4, f5, f6⟩ := walk_fit ho.1
  have hf := shape_facts ho.1
  have hall := ho.1.all
  have hchl := chainOf_ok (dataN n (s 0).size) n (lkN (s 0).size (joinU (s 0).size s)) (entOfN n s nm).f
  change ChL (dataN n (s 0).size) n (chOf n s nm).1 at hchl
  have hclen := hchl.len
  have hlb : (entOfN n s nm).l ≤ 512 := (entryOf_facts _).2.2.1
  obtain ⟨z, hz⟩ : ∃ z, (s 0).size = z := ⟨_, rfl⟩
  obtain ⟨U, hU⟩ : ∃ U, joinU z s = U := ⟨_, rfl⟩
  obtain ⟨k, hk⟩ : ∃ k, (fndOf n s nm).1 = k := ⟨_, rfl⟩
  obtain ⟨L, hL⟩ : ∃ l, (chOf n s nm).1 = l := ⟨_, rfl⟩
  obtain ⟨e, he⟩ : ∃ e, entOfN n s nm = e := ⟨_, rfl⟩
  rw [hL, hk, he] at HO
  rw [hz] at f2 f3 f5 hf HO hchl hall ⊢
  rw [hU] at HO ⊢
  rw [hL] at hchl hclen ⊢
  rw [he] at hlb ⊢
  have HBY := Lib.hid (fun b (hb : b < n) => (by rw [blk_bytes (hall b hb), hU] : (s b).data.toList = (List.range z).map fun j => U (b * z + j)))
  obtain ⟨en, ef, el, eu, ed⟩ := e
  dsimp only at hlb ⊢
  unfold Ent.val entV at HO
  have HCL := Lib.hid hchl
  have HSL := Lib.hid hs
  have HALL := Lib.hid hall
  have hz0 : 0 < z := by omega
  obtain ⟨N1, hN1⟩ : ∃ N1, needN z el = N1 := ⟨_, rfl⟩
  have hNle : N1 ≤ 600 := by rw [← hN1]; have : needN z el ≤ el + z - 1 := Nat.div_le_self _ _; omega
  have hceil : ((el : Int) + z - 1) / z = (N1 : Int) := by
    rw [← hN1]
    unfold needN
    rw [show (el : Int) + z - 1 = ((el + z - 1 : Nat) : Int) by omega]
    rfl
  have HCE := Lib.hid (fun W => ceiling_any (el : Int) (z : Int) (N1 : Int) W hceil (by omega) (by omega) (by omega) (by omega))
  have HNM := Lib.hid (fun h => need_mul (z := z) (l := el) (m := L.length) hz0 (by rw [hN1]; exact h))
  rw [hN1]
  clear ho hN hF hC hs hsz hc hz hU hk hL he hchl f6 hall hceil hN1 hnm
  go_enter Tryd.func23, Tryd.ntmps23
  go_upto_region 4 with (go_at_call 47; refine HO.out.mono ?_; rintro r w1 ⟨p, g, cc, A3, c3, B, rfl, hc1, hcap, hb1, hp, hg, hi1, hgB, hpB, hwB⟩)
  have hbE := (Below.refl w1.heap.size w1).alloc (Nat.le_refl _) (.cells #[.string en, .int .i64 ef, .int .i64 el, .bool eu, .bool ed] 77)
  have HC1 := Lib.hid (hc1.below hbE)
  have HI1 := Lib.hid (hi1.below hbE)
  have hrE := Rw.new w1 77 #[.string en, .int .i64 ef, .int .i64 el, .bool eu, .bool ed]
  have y2 := hrE.cell 2
  have RE := Lib.hid hrE
  have HB1 := Lib.hid (hb1.trans (hbE.mono hb1.size))
  have d1 := HC1.out.c1
  clear hc1 hi1 hbE hrE hb1
  obtain ⟨qe, hqe⟩ : ∃ qe, w1.heap.size = qe := ⟨_, rfl⟩
  rw [hqe] at RE y2
  rw [hqe]
  generalize hW2 : w1.alloc (.cells #[.string en, .int .i64 ef, .int .i64 el, .bool eu, .bool ed] 77) = W2 at *
  clear hW2 hqe
  have hz2 := HB1.out.size
  obtain ⟨bb, hbb⟩ : ∃ bb : Bool, ((L.length : Int) != (N1 : Int)) = bb := ⟨_, rfl⟩
  go_cut [36] (fun s36 wx => s36 = .bool bb ∧ wx = W2.drew)
  case first =>
    go_region_law (go_simp; first
      | (go_at_call 48; refine (sizeI_any _ _ _ _ (by omega)).mono ?_; rintro e7 w7 ⟨rfl, rfl⟩)
      | (go_at_call 49; refine (HCE.out _).mono ?_; rintro e6 w6 ⟨rfl, rfl⟩))
    all_goals
      go_wp2_with fail
      go_meet
      exact ⟨rfl, rfl⟩
  case rest =>
  obtain ⟨rfl, rfl⟩ := hcut
  have HID := Lib.hid (HI1.out.drew)
  have RED := Lib.hid (RE.out.drew)
  have HBD := Lib.hid (HB1.out.drew)
  have HSD := Lib.hid (HSL.out.below HB1.out.drew)
  have hqz : qe < W2.drew.heap.size := RED.out.lt
  have hzw : w.heap.size ≤ W2.drew.heap.size := hz2
  clear y2 d1 hz2
  generalize W2.drew = W4 at *
  by_cases hcmp : L.length = N1
  · obtain rfl : bb = false := by rw [← hbb]; simp; omega
    subst hcmp
    have hml := HNM.out rfl
    go_upto_region 7 with fail
    have HIB := Lib.hid (Lib.fresh_isBuilder 88 5 W4)
    have HB2 := Lib.hid ((Below.refl W4.heap.size W4).alloc (Nat.le_refl _) (.cells #[.pointer none, .slice none 0 0] 88))
    obtain ⟨qb, hqb⟩ : ∃ qb, W4.heap.size = qb := ⟨_, rfl⟩
    rw [hqb] at HIB HB2 hqz hzw
    rw [hqb]
    generalize hW3 : W4.alloc (.cells #[.pointer none, .slice none 0 0] 88) = W3 at *
    clear hW3
    go_wp2_with fail
    go_loopw [39] (fun s39 wr => ∃ i : Nat, i ≤ L.length ∧ s39 = .int .i64 i ∧ Lib.IsBuilder 88 5 qb qb (Lib.byteCells ((List.range (i * z)).map (chB z U L))) wr ∧ Below qb W4 wr) (fun s _ => L.length - (intOf s).toNat)
    case atStart => exact ⟨0, by omega, rfl, by rw [Nat.zero_mul]; exact HIB.out, HB2.out⟩
    case round =>
      obtain ⟨i, hi, rfl, hib, hb⟩ := hrel
      have HIBR := Lib.hid hib
      have HBR := Lib.hid hb
      have hbz : qb ≤ wr.heap.size := by have := hb.size; omega
      have hlen : ∀ m, (Lib.byteCells ((List.range (m * z)).map (chB z U L))).length = m * z := fun m => by simp [Lib.byteCells]
      have RER := Lib.hid (RED.out.below (by rw [hqb]; exact hb) RED.out.lt)
      have y2 := RER.out.cell 2
      by_cases hil : i < L.length
      · obtain ⟨b3, o3, rfl, hb3, hc3⟩ := HID.out.sl i hil
        have hc3' := (hb.cell (p := ⟨b3, o3 + i, none⟩) (by rw [← hqb]; exact hb3)).trans hc3
        dsimp only at hc3'
        have hyn := (HCL.out.lt _ (getD_mem hil)).2
        have hby := HBY.out _ hyn
        have hst := chB_step (U := U) (L := L) (i := i) hz0
        have hsz := HALL.out _ hyn
        obtain ⟨y, hy⟩ : ∃ y, L.getD i 0 = y := ⟨_, rfl⟩
        rw [hy] at hc3' hyn hby hst hsz
        obtain ⟨b5, o5, rfl, hb5, hc5⟩ := HSD.out y hyn
        have hc5' := (hb.cell (p := ⟨b5, o5 + y, none⟩) (Nat.lt_of_lt_of_le hb5 hzw)).trans hc5
        dsimp only at hc5'
        have hmz : i * z + z ≤ 4096 := by
          have := Nat.mul_le_mul_right z (show i + 1 ≤ n by omega)
          rw [Nat.add_mul] at this
          omega
        have HST := Lib.hid hst
        have HBYY := Lib.hid hby
        have HSZ := Lib.hid hsz
        clear hib hb hc3 hc5 hst hby y2 hsz
        go_wp2_with (go_at_call 50; refine (writeString_any (s y) HIBR.out (by rw [hlen, HSZ.out]; omega) hbz).mono ?_; rintro e6 w6 ⟨rfl, hba, hb6⟩)
        go_roundw
        case rel => exact ⟨i + 1, by omega, by go_num, by rw [Nat.add_mul, Nat.one_mul, HST.out, Lib.byteCells_append, ← HBYY.out]; exact .inr hba, HBR.out.trans hb6⟩
        case measure => simp [intOf]; omega
      · obtain rfl : i = L.length := by omega
        have hsl : ∀ W : World, (Instr.slice 9 (.string ⟨((List.range (L.length * z)).map (chB z U L)).toArray⟩) none (some (.int .i64 (el : Int))) none).run Tryd.prog W = .ok (.string (bstr el (chB z U L))) W := fun W => by
          rw [run_slice_string_h (P := Tryd.prog) W 9 _ Tryd.underlying9 .i64 (el : Int) (by omega) (by show (el : Int) ≤ (((List.range (L.length * z)).map (chB z U L)).toArray.size : Nat); simp; exact_mod_cast hml)]
          rw [show ((el : Int)).toNat = el by omega, bstr_extract hml]
        obtain ⟨X, hX⟩ : ∃ X, (List.range (L.length * z)).map (chB z U L) = X := ⟨_, rfl⟩
        rw [hX] at HIBR hsl
        clear hib hb hX hlen
        go_upto_region 12 with fail
        go_region_law (go_simp; go_at_call 51; refine (Tryd.Builder_String_any qb qb _ _ (by first | exact HIBR.out | exact HIBR.out.drew) (by first | exact hbz | exact hbz)).mono ?_; rintro e6 w6 ⟨rfl, hb6⟩; have z2 : w6.cell? ⟨qe, 2, none⟩ = some (.int .i64 (el : Int)) := (hb6.cell (p := ⟨qe, 2, none⟩) hqz).trans y2)
        all_goals
          go_wp2_with fail
          go_ret2
          exact ⟨HBD.out.trans ((by first | exact (HBR.out.trans hb6).mono hzw | exact (HBR.out.drew.trans hb6).mono hzw | exact (HBR.out.trans hb6).drew.mono hzw | exact (HBR.out.drew.trans hb6).drew.mono hzw)), fun h => absurd rfl h, fun _ => rfl⟩
  · obtain rfl : bb = true := by rw [← hbb]; simp; omega
    go_wp2_with fail
    go_ret2
    exact ⟨HBD.out, fun _ => rfl, fun h => absurd h hcmp⟩
/-- how the reading of an entry's file ends -/
def FileOut (Ch : List Nat × Nat) (N l z : Nat) (U : Nat → UInt8) (r : Ending) (w w' : World) : Prop := Below w.heap.size w w' ∧ (Ch.2 ≠ 0 → r = .returned (.tuple #[.string ⟨#[]⟩, .int .i64 (Ch.2 : Int)])) ∧ (Ch.2 = 0 → Ch.1.length ≠ N → r = .returned (.tuple #[.string ⟨#[]⟩, .int .i64 10])) ∧ (Ch.2 = 0 → Ch.1.length = N → r = .returned (.tuple #[.string (bstr l (chB z U Ch.1)), .int .i64 0]))
set_option maxHeartbeats 2000000 in
theorem specFile_any {w : World} {p g n z E d t N c eb : Nat} {u : Nat → UInt8} {nm : ByteArray} {f l : Nat} {us de : Bool} (h : ChW w p g n z E d t N c u) (hR : Rw w eb 77 #[.string nm, .int .i64 f, .int .i64 l, .bool us, .bool de]) (hz : 8 ≤ z) (hz2 : z ≤ 64) (hn : n ≤ 128) (hNz : z + n ≤ N) (hN : N ≤ 4096) (hNe : N = n * z) (hcN : N ≤ c) (hf : f ≤ 255) (hl : l ≤ 512) :
    Calls Tryd.prog 46 #[.pointer (some ⟨p, 0, none⟩), .pointer (some ⟨eb, 0, none⟩)] w fun r w' => FileOut (chainOf t n (lkN z u) f) (needN z l) l z u r w w' := by
  have hz0 : 0 < z := by omega
  have HC1 := Lib.hid h
  have RE := Lib.hid hR
  have q1 := hR.cell 1
  have hchl := chainOf_ok t n (lkN z u) f
  have HCH := Lib.hid (specChain_any f (by omega) h hn hNz hN)
  obtain ⟨Ch, hCh⟩ : ∃ Ch, chainOf t n (lkN z u) f = Ch := ⟨_, rfl⟩
  rw [hCh] at HCH hchl ⊢
  obtain ⟨L, cd⟩ := Ch
  have hclen := hchl.len
  dsimp only at HCH hclen hchl
  have HCL := Lib.hid hchl
  obtain ⟨N1, hN1⟩ : ∃ N1, needN z l = N1 := ⟨_, rfl⟩
  have hNle : N1 ≤ 600 := by rw [← hN1]; have : needN z l ≤ l + z - 1 := Nat.div_le_self _ _; omega
  have HND := Lib.hid (fun (W : World) (hW : ChW W p g n z E d t N c u) => specNeed_any l hW hz0 hz2 hl)
  have HNM := Lib.hid (fun h => need_mul (z := z) (l := l) (m := L.length) hz0 (by rw [hN1]; exact h))
  rw [hN1] at HND
  rw [hN1]
  clear hCh hchl hN1 h hR
  go_enter Tryd.func46, Tryd.ntmps46
  go_upto_region 2 with (go_at_call 74; refine HCH.out.mono ?_; rintro e3 w3 ⟨A3, c3, rfl, hi3, hb3⟩)
  have HB3 := Lib.hid hb3
  have HC3 := Lib.hid (HC1.out.below hb3)
  have RE3 := Lib.hid (RE.out.below hb3 RE.out.lt)
  have HI3 := Lib.hid hi3
  have y2 := RE3.out.cell 2
  have hz3 := hb3.size
  clear hb3 hi3 q1
  rcases Nat.eq_zero_or_pos cd with rfl | hcd
  · by_cases hcmp : L.length = N1
    · have i1 : ((L.length : Int) != (N1 : Int)) = false := by simp; omega
      have hml := HNM.out hcmp
      have HC4 := Lib.hid (HC3.out.drew)
      have HI4 := Lib.hid (HI3.out.drew)
      have RE4 := Lib.hid (RE3.out.drew)
      have HB4 := Lib.hid (HB3.out.drew)
      have hz4 : w.heap.size ≤ w3.drew.heap.size := hz3
      go_upto_region 6 with (go_at_call 63; refine (HND.out _ (by first | exact HC3.out | exact HC3.out.drew)).mono ?_; rintro e6 w6 ⟨rfl, rfl⟩)
      generalize w3.drew = W4 at *
      have HOO := Lib.hid (own_nil0 W4 5)
      have HBO := Lib.hid ((Below.refl W4.heap.size W4).alloc (Nat.le_refl _) (.cells #[] 5))
      obtain ⟨i0, hi0, hi1, hi2, hi3⟩ := info_parts (show (Tryd.prog.info? 5).map (fun i => (i.zero, i.size, i.bytes)) = some (some (.int .u8 0), 1, 1) by kernel_rfl)
      go_wp2_with fail
      go_loopw [8, 9] (fun s8 s9 wr => ∃ (i ga c' : Nat), i ≤ L.length ∧ s8 = .slice (some ⟨ga, 0, none⟩) (i * z) c' ∧ s9 = .int .i64 i ∧ wr.ownsRow W4.heap.size 5 1 (.slice (some ⟨ga, 0, none⟩) (i * z) c') (i * z) (bvals (chB z u L) (i * z)) ∧ Below W4.heap.size W4 wr) (fun _ s _ => L.length - (intOf s).toNat)
      case atStart => exact ⟨0, _, 0, by omega, by rw [Nat.zero_mul], rfl, by rw [Nat.zero_mul]; exact HOO.out, HBO.out⟩
      case round =>
        obtain ⟨i, ga, c', hi, rfl, rfl, ho, hb⟩ := hrel
        have HOR := Lib.hid ho
        have HBR := Lib.hid hb
        have HCR := Lib.hid (HC4.out.below hb)
        have RER := Lib.hid (RE4.out.below hb RE4.out.lt)
        have hbz := hb.size
        have y2 := RER.out.cell 2
        by_cases hil : i < L.length
        · have hil' : (i : Int) < L.length := by omega
          obtain ⟨b3, o3, rfl, hb3, hc3⟩ := HI4.out.sl i hil
          have hc3' := (hb.cell (p := ⟨b3, o3 + i, none⟩) hb3).trans hc3
          dsimp only at hc3'
          have hyn := (HCL.out.lt _ (getD_mem hil)).2
          have hst := bvals_step (U := u) (L := L) (i := i) hz0
          obtain ⟨y, hy⟩ : ∃ y, L.getD i 0 = y := ⟨_, rfl⟩
          rw [hy] at hc3' hyn hst
          have hyz : y * z + z ≤ N := by
            have := Nat.mul_le_mul_right z (show y + 1 ≤ n by omega)
            rw [Nat.add_mul] at this
            omega
          have hmz : i * z + z ≤ 4096 := by
            have := Nat.mul_le_mul_right z (show i + 1 ≤ n by omega)
            rw [Nat.add_mul] at this
            omega
          have HST := Lib.hid hst
          clear ho hb hc3 hst y2
          go_wp2_with (first
            | (go_at_call 75; refine (specBlock_any y HCR.out hyz hz0 (by omega) hcN (by omega)).mono ?_; rintro e6 w6 ⟨rfl, rfl⟩)
            | (at_builtin; refine wpList_append_lies _ rfl (.tmp 38) (.tmp 44) 52 rfl W4.heap.size 5 i0 _ 1 1 Tryd.underlying52 hi0 hi1 hi2 hi3 rfl (by omega) (.slice (some ⟨ga, 0, none⟩) (i * z) c') (i * z) _ rfl HOR.out.drew ⟨g, y * z, none⟩ z (c - y * z) (bvals (fun j => u (y * z + j)) z) rfl (by simp [bvals]) (bvals_news HCR.out.drew.row hyz) (by simp [bvals, Value.oneCell']) hz0 (by simp only [maxLen]; omega) (by omega) hbz _ rfl ?_; intro g4 cap4 w4 ho4 hg4 hat4 hlt4))
          go_roundw
          case rel => exact ⟨i + 1, g4, cap4, by omega, by rw [Nat.add_mul, Nat.one_mul], by go_num, by rw [Nat.add_mul, Nat.one_mul, HST.out]; exact ho4, HBR.out.drew.grown hg4 hbz (own_lt HOR.out)⟩
          case measure => simp [intOf]; omega
        · obtain rfl : i = L.length := by omega
          have hcc := own_cap ho
          have hlc : (l : Int) ≤ c' := by omega
          have hcv : (convert 52 9 (.slice (some ⟨ga, 0, none⟩) l c')).run Tryd.prog wr = .ok (.string (bstr l (chB z u L))) wr :=
            run_bstr (P := Tryd.prog) (w := wr) (B := wr.heap.size) 52 9 5 Tryd.underlying52 Tryd.underlying5 Tryd.underlying9 (u := chB z u L) ((own_slR ho).less hml) (by simp)
          clear ho hb
          go_wp2_with fail
          go_ret2
          exact ⟨HB4.out.trans (HBR.out.mono hz4), fun h => absurd rfl h, fun _ h => absurd hcmp h, fun _ _ => rfl⟩
    · have i1 : ((L.length : Int) != (N1 : Int)) = true := by simp; omega
      go_wp2_with (go_at_call 63; refine (HND.out _ (by first | exact HC3.out | exact HC3.out.drew)).mono ?_; rintro e6 w6 ⟨rfl, rfl⟩)
      go_ret2
      exact ⟨by first | exact HB3.out.drew | exact HB3.out.drew.drew, fun h => absurd rfl h, fun _ _ => rfl, fun _ h => absurd h hcmp⟩
  · have e1 : ((cd : Int) != 0) = true := by simp; omega
    go_wp2_with fail
    go_ret2
    exact ⟨HB3.out, fun _ => rfl, fun h => absurd h (by omega), fun h => absurd h (by omega)⟩
theorem specRead_bad {w : World} {n c : Nat} {A : Option Addr} {s : Nat → ByteArray} (nm : ByteArray) (hnm : nm.size ≤ 9223372036854775807) (hs : Sl w w.heap.size A n (fun i => .string (s i))) (hsz : ∀ i, i < n → (s i).size ≤ 9223372036854775807) (hn : n ≤ c) (hn2 : n ≤ 9223372036854775807) (hc : askCode n s nm ≠ 0) : Calls Tryd.prog 22 #[.slice A n c, .string nm] w fun r w' => r = .returned (.tuple #[.string ⟨#[]⟩, .int .i64 (askCode n s nm)]) ∧ Below w.heap.size w w' := by
  rcases askCode_S hc with ⟨h1, h2⟩ | ⟨ho, hN, hF, hC, hcode⟩
  · have HO := Lib.hid (specAsk_bad nm hnm hs hsz hn hn2 h1)
    rw [← h2]
    obtain ⟨code, hcode⟩ : ∃ code, askCodeS n s nm = code := ⟨_, rfl⟩
    rw [hcode] at h1 ⊢ HO
    have e1 : (code != 0) = true := by simpa using h1
    clear hs hsz hcode h1 hc h2
    go_enter Tryd.func22, Tryd.ntmps22
    go_wp2_with (go_at_call 44; refine HO.out.mono ?_; rintro r w1 ⟨P, rfl, hb1⟩)
    go_ret2
    exact ⟨rfl, hb1⟩
  · have HO := Lib.hid (specAsk_ok nm hnm hs hsz hn hn2 ho hN hF)
    rw [hcode]
    obtain ⟨f1, f2, f3, f4, f5, f6⟩ := walk_fit ho.1
    have hf := shape_facts ho.1
    have hkF := (findGo_ok (n := n) (z := (s 0).size) (U := joinU (s 0).size s) (nm := nm) (entsN n) 0).1 hF
    have hfit := f6 (fndOf n s nm).1 (by have := hkF.2.1; unfold fndOf; omega)
    have hklt : (fndOf n s nm).1 < 16 := by have := hkF.2.1; unfold fndOf; omega
    have hfb : (entOfN n s nm).f ≤ 255 := (entryOf_facts _).2.1
    have hlb : (entOfN n s nm).l ≤ 512 := (entryOf_facts _).2.2.1
    have hEN : entryOf (fun i => joinU (s 0).size s (dirN n (s 0).size * (s 0).size + (fndOf n s nm).1 * 12 + i)) = entOfN n s nm := rfl
    have hCO : chainOf (dataN n (s 0).size) n (lkN (s 0).size (joinU (s 0).size s)) (entOfN n s nm).f = chOf n s nm := rfl
    obtain ⟨z, hz⟩ : ∃ z, (s 0).size = z := ⟨_, rfl⟩
    obtain ⟨U, hU⟩ : ∃ U, joinU z s = U := ⟨_, rfl⟩
    obtain ⟨k, hk⟩ : ∃ k, (fndOf n s nm).1 = k := ⟨_, rfl⟩
    obtain ⟨Ch, hl⟩ : ∃ l, chOf n s nm = l := ⟨_, rfl⟩
    obtain ⟨e, he⟩ : ∃ e, entOfN n s nm = e := ⟨_, rfl⟩
    unfold OpenW at HO
    rw [hk] at HO
    rw [hz] at f2 f3 f5 hf hfit HO hEN hCO
    rw [hU] at HO hEN hCO
    rw [hk] at hfit hklt hEN
    rw [hl] at hCO hC ⊢
    rw [he] at hEN hCO hfb hlb
    obtain ⟨at', hat⟩ : ∃ a, dirN n z * z + k * 12 = a := ⟨_, rfl⟩
    have HAT := Lib.hid hat
    rw [hat] at hfit hEN
    obtain ⟨en, ef, el, eu, ed⟩ := e
    dsimp only at hfb hlb
    have HEN := Lib.hid hEN
    have HCO := Lib.hid hCO
    have HRES := Lib.hid (fun (e : Ending) (W W' : World) (h : FileOut Ch (needN z el) el z U e W W') => (⟨h.1, h.2.1 hC⟩ : Below W.heap.size W W' ∧ e = .returned (.tuple #[.string ⟨#[]⟩, .int .i64 (Ch.2 : Int)])))
    clear ho hN hF hC hs hsz hc hcode hz hU hk hl he hat hkF f6 hEN hCO hnm
    go_enter Tryd.func22, Tryd.ntmps22
    go_wp2_with (first
      | (go_at_call 44; refine HO.out.mono ?_; rintro r w1 ⟨p, rfl, g, cc, hc1, hcap, hb1, hp, hg⟩)
      | (go_at_call 45; refine (specEntry_any k at' hc1 HAT.out (by omega) (by omega) hcap (by omega)).mono ?_; intro e2 w2 h2; obtain ⟨b, hbk, rfl, hb2⟩ := h2; rw [HEN.out]; unfold Ent.val entV; dsimp only; have hbE := hb2.alloc hb2.size (.cells #[.string en, .int .i64 ef, .int .i64 el, .bool eu, .bool ed] 77); have hc2a := hc1.below hbE; have rE := Rw.new w2 77 #[.string en, .int .i64 ef, .int .i64 el, .bool eu, .bool ed])
      | (go_at_call 46; refine (specFile_any hc2a rE (by omega) (by omega) f1 f2 f3 rfl hcap hfb hlb).mono ?_; rw [HCO.out]; intro e3 w3 h3; obtain ⟨hb3, rfl⟩ := HRES.out _ _ _ h3))
    go_ret2
    have hbb := hb1.trans (hbE.mono hb1.size)
    exact ⟨rfl, hbb.trans (hb3.mono hbb.size)⟩
theorem specRead_ok {w : World} {n c : Nat} {A : Option Addr} {s : Nat → ByteArray} (nm : ByteArray) (hnm : nm.size ≤ 9223372036854775807) (hs : Sl w w.heap.size A n (fun i => .string (s i))) (hsz : ∀ i, i < n → (s i).size ≤ 9223372036854775807) (hn : n ≤ c) (hn2 : n ≤ 9223372036854775807) (hc : askCode n s nm = 0) :
    Calls Tryd.prog 22 #[.slice A n c, .string nm] w fun r w' => ReadOut (chOf n s nm).1 (needN (s 0).size (entOfN n s nm).l) (entOfN n s nm).l (s 0).size (joinU (s 0).size s) r w w' := by
  obtain ⟨ho, hN, hF, HC⟩ := askCode_zero hc
  have HO := Lib.hid (specAsk_ok nm hnm hs hsz hn hn2 ho hN hF)
  obtain ⟨f1, f2, f3, f4, f5, f6⟩ := walk_fit ho.1
  have hf := shape_facts ho.1
  have hkF := (findGo_ok (n := n) (z := (s 0).size) (U := joinU (s 0).size s) (nm := nm) (entsN n) 0).1 hF
  have hfit := f6 (fndOf n s nm).1 (by have := hkF.2.1; unfold fndOf; omega)
  have hklt : (fndOf n s nm).1 < 16 := by have := hkF.2.1; unfold fndOf; omega
  have hfb : (entOfN n s nm).f ≤ 255 := (entryOf_facts _).2.1
  have hlb : (entOfN n s nm).l ≤ 512 := (entryOf_facts _).2.2.1
  have hEN : entryOf (fun i => joinU (s 0).size s (dirN n (s 0).size * (s 0).size + (fndOf n s nm).1 * 12 + i)) = entOfN n s nm := rfl
  have hCO : chainOf (dataN n (s 0).size) n (lkN (s 0).size (joinU (s 0).size s)) (entOfN n s nm).f = chOf n s nm := rfl
  obtain ⟨z, hz⟩ : ∃ z, (s 0).size = z := ⟨_, rfl⟩
  obtain ⟨U, hU⟩ : ∃ U, joinU z s = U := ⟨_, rfl⟩
  obtain ⟨k, hk⟩ : ∃ k, (fndOf n s nm).1 = k := ⟨_, rfl⟩
  obtain ⟨Ch, hl⟩ : ∃ l, chOf n s nm = l := ⟨_, rfl⟩
  obtain ⟨e, he⟩ : ∃ e, entOfN n s nm = e := ⟨_, rfl⟩
  unfold OpenW at HO
  rw [hk] at HO
  rw [hz] at f2 f3 f5 hf hfit HO hEN hCO ⊢
  rw [hU] at HO hEN hCO ⊢
  rw [hk] at hfit hklt hEN
  rw [hl] at hCO HC ⊢
  rw [he] at hEN hCO hfb hlb ⊢
  obtain ⟨at', hat⟩ : ∃ a, dirN n z * z + k * 12 = a := ⟨_, rfl⟩
  have HAT := Lib.hid hat
  rw [hat] at hfit hEN
  obtain ⟨en, ef, el, eu, ed⟩ := e
  dsimp only at hfb hlb
  have HEN := Lib.hid hEN
  have HCO := Lib.hid hCO
  obtain ⟨L, cd⟩ := Ch
  dsimp only at HC ⊢
  subst HC
  obtain ⟨N1, hN1⟩ : ∃ N1, needN z el = N1 := ⟨_, rfl⟩
  rw [hN1]
  by_cases hcmp : L.length = N1
  · have HRES := Lib.hid (fun (e : Ending) (W W' : World) (h : FileOut (L, 0) (needN z el) el z U e W W') => (⟨h.1, h.2.2.2 rfl (by rw [hN1]; exact hcmp)⟩ : Below W.heap.size W W' ∧ e = .returned (.tuple #[.string (bstr el (chB z U L)), .int .i64 0])))
    clear ho hN hF hs hsz hc hz hU hk hl he hat hkF f6 hEN hCO hnm hN1
    go_enter Tryd.func22, Tryd.ntmps22
    go_wp2_with (first
      | (go_at_call 44; refine HO.out.mono ?_; rintro r w1 ⟨p, rfl, g, cc, hc1, hcap, hb1, hp, hg⟩)
      | (go_at_call 45; refine (specEntry_any k at' hc1 HAT.out (by omega) (by omega) hcap (by omega)).mono ?_; intro e2 w2 h2; obtain ⟨b, hbk, rfl, hb2⟩ := h2; rw [HEN.out]; unfold Ent.val entV; dsimp only; have hbE := hb2.alloc hb2.size (.cells #[.string en, .int .i64 ef, .int .i64 el, .bool eu, .bool ed] 77); have hc2a := hc1.below hbE; have rE := Rw.new w2 77 #[.string en, .int .i64 ef, .int .i64 el, .bool eu, .bool ed])
      | (go_at_call 46; refine (specFile_any hc2a rE (by omega) (by omega) f1 f2 f3 rfl hcap hfb hlb).mono ?_; rw [HCO.out]; intro e3 w3 h3; obtain ⟨hb3, rfl⟩ := HRES.out _ _ _ h3))
    go_ret2
    have hbb := hb1.trans (hbE.mono hb1.size)
    exact ⟨hbb.trans (hb3.mono hbb.size), fun h => absurd hcmp h, fun _ => rfl⟩
  · have HRES := Lib.hid (fun (e : Ending) (W W' : World) (h : FileOut (L, 0) (needN z el) el z U e W W') => (⟨h.1, h.2.2.1 rfl (by rw [hN1]; exact hcmp)⟩ : Below W.heap.size W W' ∧ e = .returned (.tuple #[.string ⟨#[]⟩, .int .i64 10])))
    clear ho hN hF hs hsz hc hz hU hk hl he hat hkF f6 hEN hCO hnm hN1
    go_enter Tryd.func22, Tryd.ntmps22
    go_wp2_with (first
      | (go_at_call 44; refine HO.out.mono ?_; rintro r w1 ⟨p, rfl, g, cc, hc1, hcap, hb1, hp, hg⟩)
      | (go_at_call 45; refine (specEntry_any k at' hc1 HAT.out (by omega) (by omega) hcap (by omega)).mono ?_; intro e2 w2 h2; obtain ⟨b, hbk, rfl, hb2⟩ := h2; rw [HEN.out]; unfold Ent.val entV; dsimp only; have hbE := hb2.alloc hb2.size (.cells #[.string en, .int .i64 ef, .int .i64 el, .bool eu, .bool ed] 77); have hc2a := hc1.below hbE; have rE := Rw.new w2 77 #[.string en, .int .i64 ef, .int .i64 el, .bool eu, .bool ed])
      | (go_at_call 46; refine (specFile_any hc2a rE (by omega) (by omega) f1 f2 f3 rfl hcap hfb hlb).mono ?_; rw [HCO.out]; intro e3 w3 h3; obtain ⟨hb3, rfl⟩ := HRES.out _ _ _ h3))
    go_ret2
    have hbb := hb1.trans (hbE.mono hb1.size)
    exact ⟨hbb.trans (hb3.mono hbb.size), fun _ => rfl, fun h => absurd h hcmp⟩
end Go.Proofs.YtgmmigbaaigldaaDoor
