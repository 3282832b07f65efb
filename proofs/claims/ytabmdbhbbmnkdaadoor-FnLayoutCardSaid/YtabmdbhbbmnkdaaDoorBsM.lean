/-
  Tracks: the reference's marks.
-/
import Derived.Test.YtabmdbhbbmnkdaaDoorBsG
namespace Go.Proofs.YtabmdbhbbmnkdaaDoor
open Go Go.ChangeShapes Go.WideShapes Go.ChangeAt Go.RowKit Go.Joins lib
set_option linter.unusedVariables false
set_option linter.unusedSimpArgs false
set_option maxRecDepth 100000
theorem bRow_bytes (w : World) (e : Nat) (s : ByteArray) (cap : Nat) : BRow (w.alloc (.cells (bytesRow s cap) e ((bytesRow s cap).size, (bytesRow s cap).size + 1))) e w.heap.size s.size (byteAt s) := by
  have hz : s.size ≤ (bytesRow s cap).size := by
    unfold bytesRow
    rw [Array.size_append, Array.size_map]
    exact Nat.le_add_right _ _
  have hc : ∀ i, i < s.size → (bytesRow s cap)[i]? = some (.int .u8 ((byteAt s i).toNat : Int)) := fun i hi => by
    unfold bytesRow
    have hi' : i < s.data.size := hi
    rw [Array.getElem?_append_left (by rw [Array.size_map]; exact hi'), Array.getElem?_map, Array.getElem?_eq_getElem hi']
    unfold byteAt
    rw [List.getD_eq_getElem?_getD, List.getElem?_eq_getElem (by rw [Array.length_toList]; exact hi')]
    rfl
  exact ⟨_, ⟨_, heap_alloc_new w _, fun j hj => by omega⟩, hz, hc⟩
def ukF (u : Nat → UInt8) : Nat → Nat → UInt8
  | 0 => u
  | k + 1 => upd (ukF u k) (4 + 2 * k) 48
theorem ukF_end (y : UInt8) : bstr 16 (ukF (byteAt (strL (encL false false (bitsL [y])))) 3) = strL (fmGo clM 0 (bitsY y)) := by
  rw [bitsL_one]
  unfold bstr strL
  congr 2
theorem fmMark_any (k : Nat) (hk : f123 k) (x : Int) (hx : x = (mByte 1 k : Nat)) (w : World) : Calls Tryd.prog 98 #[.int .i64 x] w fun e w' => e = .returned (.string (strL (fmGo clM 0 (bitsY (mY 1 k))))) ∧ Below w.heap.size w w' := by
  subst hx
  have hmb := mByte_lt (f := 1) (.inl rfl) hk
  have hmw := wrap_byte _ hmb
  have hmy : UInt8.ofNat ((mByte 1 k : Nat) : Int).toNat = mY 1 k := rfl
  obtain ⟨M, hM⟩ : ∃ M, mByte 1 k = M := ⟨_, rfl⟩
  rw [hM] at hmb hmw hmy ⊢
  have hcv := run_bstr1 (P := Tryd.prog) 22 9 5 Tryd.underlying22 Tryd.underlying5 Tryd.underlying9 w (M : Int)
  rw [hmy] at hcv
  obtain ⟨Y, hY⟩ : ∃ Y, mY 1 k = Y := ⟨_, rfl⟩
  rw [hY] at hcv ⊢
  have HEN := Lib.hid (ukF_end Y)
  have H1 := Lib.hid (fun W => encFm_any ⟨#[Y]⟩ (show 1 ≤ 500 by omega) W)
  have hsz : (strL (encL false false (bitsL [Y]))).size = 16 := by rw [strL_size, encL_len, bitsL_len]; rfl
  obtain ⟨S, hS⟩ : ∃ S, strL (encL false false (bitsL [Y])) = S := ⟨_, rfl⟩
  rw [show (⟨#[Y]⟩ : ByteArray).data.toList = [Y] from rfl, hS] at H1
  rw [hS] at HEN hsz
  have g1 : inB 0 255 (M : Int) = true := by unfold inB; simp; omega
  have H2 := Lib.hid (fun W => g1 ▸ l00InB_any (M : Int) 0 255 W)
  have cvt : ∀ W : World, (convert 9 22 (.string S)).run Tryd.prog W = .ok (.slice (some ⟨W.heap.size, 0, none⟩) S.size (grownCap W S.size 0 5)) (W.drew.alloc (.cells (bytesRow S (grownCap W S.size 0 5)) 5 ((bytesRow S (grownCap W S.size 0 5)).size, (bytesRow S (grownCap W S.size 0 5)).size + 1))) :=
    fun W => run_bytes_of_string W 9 22 5 S Tryd.underlying9 Tryd.underlying22 Tryd.underlying5
  rw [hsz] at cvt
  have HSZ := Lib.hid hsz
  have HBA := Lib.hid ((Below.refl w.heap.size w).alloc (Nat.le_refl _) (.cells #[.int .u8 (M : Int)] 5))
  clear hM hY hS hmy hsz g1
  go_enter Tryd.func98, Tryd.ntmps98
  go_upto_region 5 with (first
    | (go_at_call 45; refine (H2.out _).mono ?_; rintro e w' ⟨rfl, hw'⟩; rw [hw']; clear hw' w')
    | (go_at_call 103; refine (H1.out _).mono ?_; rintro e w1 ⟨rfl, hb1⟩))
  have hb2 := HBA.out.trans (hb1.mono HBA.out.size)
  have HROW := Lib.hid (by have := bRow_bytes w1 5 S (grownCap w1 16 0 5); rw [HSZ.out] at this; exact this.drew)
  have HB2 := Lib.hid ((hb2.alloc hb2.size (.cells (bytesRow S (grownCap w1 16 0 5)) 5 ((bytesRow S (grownCap w1 16 0 5)).size, (bytesRow S (grownCap w1 16 0 5)).size + 1))).drew)
  obtain ⟨cp, hcp⟩ : ∃ x, grownCap w1 16 0 5 = x := ⟨_, rfl⟩
  have hcp16 : 16 ≤ cp := by rw [← hcp]; exact grownCap_ge _ _ _ _
  have hgz := hb2.size
  rw [hcp] at HROW HB2
  clear cvt
  obtain ⟨g, hg⟩ : ∃ g, w1.heap.size = g := ⟨_, rfl⟩
  rw [hg] at HROW hgz
  clear hb1 hb2
  rw [hcp, hg]
  clear hcp hg
  generalize (w1.alloc (.cells (bytesRow S cp) 5 ((bytesRow S cp).size, (bytesRow S cp).size + 1))).drew = W2 at *
  go_wp2_with fail
  go_loopw [4] (fun s4 wr => ∃ k : Nat, k ≤ 3 ∧ s4 = .int .i64 ((4 + 2 * k : Nat) : Int) ∧ BRow wr 5 g 16 (ukF (byteAt S) k) ∧ Below w.heap.size w wr) (fun i _ => (10 - intOf i).toNat)
  case atStart => exact ⟨0, by omega, rfl, HROW.out, HB2.out⟩
  case round =>
    obtain ⟨k, hk3, rfl, hrw, hbr⟩ := hrel
    have HRW := Lib.hid hrw
    have HBR := Lib.hid hbr
    clear hrw hbr
    by_cases hlt : k < 3
    · obtain ⟨p, hp⟩ : ∃ p, 4 + 2 * k = p := ⟨_, rfl⟩
      have HNX := Lib.hid (show ukF (byteAt S) (k + 1) = upd (ukF (byteAt S) k) p 48 by rw [ukF, hp])
      rw [hp]
      have hp10 : (p : Int) < 10 := by omega
      have hp0 : p < 16 := by omega
      have HP := Lib.hid hp
      clear hp
      have c3 := HRW.out.cell hp0
      have f3 := HRW.out.frozen hp0
      go_wp2_with fail
      exact ⟨⟨k + 1, by omega, congrArg (Value.int .i64) (by have := HP.out; omega), by rw [HNX.out]; exact HRW.out.set 48 rfl, HBR.out.setCell (p := ⟨g, p, none⟩) hgz _⟩, by have := HP.out; simp [intOf] <;> omega⟩
    · obtain rfl : k = 3 := by omega
      have hcv2 := run_bstr (P := Tryd.prog) (w := wr) (B := wr.heap.size) (c := cp) 22 9 5 Tryd.underlying22 Tryd.underlying5 Tryd.underlying9 (u := ukF (byteAt S) 3) HRW.out.sl (by simp)
      rw [HEN.out] at hcv2
      go_wp2_with fail
      go_ret
      exact ⟨rfl, HBR.out⟩
theorem specByte_any (f k : Nat) (hf : f123 f) (hk : f123 k) (x y : Int) (hx : x = f) (hy : y = k) (w : World) : Calls Tryd.prog 83 #[.int .i64 x, .int .i64 y] w fun e w' => e = .returned (.int .i64 (mByte f k : Nat)) ∧ Below w.heap.size w w' := by
  subst hx; subst hy
  rcases hf with rfl | rfl | rfl <;> rcases hk with rfl | rfl | rfl <;> (
    go_enter Tryd.func83, Tryd.ntmps83
    go_wp2
    go_ret
    first
      | exact ⟨rfl, (Below.refl _ _).alloc (Nat.le_refl _) _⟩
      | exact ⟨rfl, ((Below.refl _ _).alloc (Nat.le_refl _) _).alloc (by simp) _⟩)
theorem specMark_any (f k : Nat) (hf : f123 f) (hk : f123 k) (x y : Int) (hx : x = f) (hy : y = k) (w : World) : Calls Tryd.prog 66 #[.int .i64 x, .int .i64 y] w fun e w' => e = .returned (.string (strL (markL f k))) ∧ Below w.heap.size w w' := by
  have hf' := hf
  have H0 := Lib.hid (specByte_any f k hf hk x y hx hy w)
  have hmb := mByte_lt hf hk
  have hmw := wrap_byte _ hmb
  have hmy : UInt8.ofNat ((mByte f k : Nat) : Int).toNat = mY f k := rfl
  have HFM := Lib.hid (fun (h1 : f = 1) (W : World) => fmMark_any k hk ((mByte f k : Nat) : Int) (by rw [h1]) W)
  obtain ⟨M, hM⟩ : ∃ M, mByte f k = M := ⟨_, rfl⟩
  rw [hM] at H0 hmb hmw hmy HFM
  have hcv := fun W : World => run_bstr1 (P := Tryd.prog) 22 9 5 Tryd.underlying22 Tryd.underlying5 Tryd.underlying9 W (M : Int)
  rw [hmy] at hcv
  obtain ⟨Y, hY⟩ : ∃ Y, mY f k = Y := ⟨_, rfl⟩
  rw [hY] at hcv
  have H2 := Lib.hid (fun W : World => encMfm_any ⟨#[Y]⟩ true (show 1 ≤ 500 by decide) W)
  have H3 := Lib.hid (fun (W : World) => encGcr_any ⟨#[Y]⟩ (show 1 ≤ 500 by decide) W)
  have H4 := Lib.hid (fun (W : World) => mfmMark_any W)
  have HL := Lib.hid hY
  have e1 : ∀ W : World, ∀ l1 l2 : List UInt8, l1.length ≤ 100 → l2.length ≤ 100 → (Op.stringOp .add ⟨l1.toArray⟩ ⟨l2.toArray⟩).run Tryd.prog W = .ok (.string (strL (l1 ++ l2))) W := fun W l1 l2 h1 h2 => by
    rw [← strL_app]
    exact run_string_add_sum _ _ _ (by have := strL_size l1; have := strL_size l2; unfold strL at *; omega)
  clear hmy hY hM
  subst hx; subst hy
  rcases hf' with rfl | rfl | rfl
  · clear e1
    have HFM1 := Lib.hid (HFM.out rfl)
    clear HFM
    go_enter Tryd.func66, Tryd.ntmps66
    go_upto_region 3 with (go_at_call 83; refine H0.out.mono ?_; rintro e w1 ⟨rfl, hb1⟩)
    have HB1 := Lib.hid (hb1.alloc hb1.size (.cells #[.int .u8 (M : Int)] 5))
    clear hb1
    go_wp2_with (go_at_call 98; refine (HFM1.out _).mono ?_; rintro e w' ⟨rfl, hb⟩)
    go_ret
    exact ⟨rfl, HB1.out.trans (hb.mono HB1.out.size)⟩
  · have hl2 : (encL true true (bitsL [Y])).length ≤ 100 := by rw [encL_len, bitsL_len]; exact (show 2 * (8 * 1) ≤ 100 by decide)
    have a1 := fun W => e1 W mfmMk mfmMk (by decide) (by decide)
    have a2 := fun W => e1 W (mfmMk ++ mfmMk) mfmMk (by decide) (by decide)
    have a3 := fun W => e1 W (mfmMk ++ mfmMk ++ mfmMk) (encL true true (bitsL [Y])) (by decide) hl2
    rw [show strL (encL true true (bitsL (⟨#[Y]⟩ : ByteArray).data.toList)) = ⟨(encL true true (bitsL [Y])).toArray⟩ from rfl] at H2
    rw [show (⟨#[48, 49, 48, 48, 48, 49, 48, 48, 49, 48, 48, 48, 49, 48, 48, 49]⟩ : ByteArray) = ⟨mfmMk.toArray⟩ from rfl] at H4
    have HX := Lib.hid (show strL (mfmMk ++ mfmMk ++ mfmMk ++ encL true true (bitsL [Y])) = strL (markL 2 k) by
      rw [show markL 2 k = mfmMk ++ mfmMk ++ mfmMk ++ encL true true (bitsY (mY 2 k)) from rfl, HL.out, ← bitsL_one])
    unfold strL at a1 a2 a3 HX
    obtain ⟨X1, hX1⟩ : ∃ X1 : ByteArray, ⟨mfmMk.toArray⟩ = X1 := ⟨_, rfl⟩
    obtain ⟨X2, hX2⟩ : ∃ X2 : ByteArray, ⟨(mfmMk ++ mfmMk).toArray⟩ = X2 := ⟨_, rfl⟩
    obtain ⟨X3, hX3⟩ : ∃ X3 : ByteArray, ⟨(mfmMk ++ mfmMk ++ mfmMk).toArray⟩ = X3 := ⟨_, rfl⟩
    obtain ⟨X4, hX4⟩ : ∃ X4 : ByteArray, ⟨(encL true true (bitsL [Y])).toArray⟩ = X4 := ⟨_, rfl⟩
    obtain ⟨X5, hX5⟩ : ∃ X5 : ByteArray, ⟨(mfmMk ++ mfmMk ++ mfmMk ++ encL true true (bitsL [Y])).toArray⟩ = X5 := ⟨_, rfl⟩
    rw [hX1] at a1 a2 H4
    rw [hX2] at a1 a2
    rw [hX3] at a2 a3
    rw [hX4, hX5] at a3
    rw [hX4] at H2
    rw [hX5] at HX
    clear hX1 hX2 hX3 hX4 hX5 e1 hl2
    go_enter Tryd.func66, Tryd.ntmps66
    go_upto_region 3 with (go_at_call 83; refine H0.out.mono ?_; rintro e w1 ⟨rfl, hb1⟩)
    have HB1 := Lib.hid (hb1.alloc hb1.size (.cells #[.int .u8 (M : Int)] 5))
    clear hb1
    go_wp2_with (first
      | (go_at_call 99; refine (H4.out _).mono ?_; rintro e w' ⟨rfl, hw'⟩; rw [hw']; clear hw' w')
      | (go_at_call 100; refine (H2.out _).mono ?_; rintro e w' ⟨rfl, hb⟩))
    go_ret
    exact ⟨congrArg (fun s : ByteArray => Ending.returned (Value.string s)) HX.out, HB1.out.trans (hb.mono HB1.out.size)⟩
  · have hl2 : (gcrL [Y]).length ≤ 100 := by rw [gcrL_len]; exact (show 10 * 1 ≤ 100 by decide)
    have a1 := fun W => e1 W ten1 (gcrL [Y]) (by decide) hl2
    rw [show strL (gcrL (⟨#[Y]⟩ : ByteArray).data.toList) = ⟨(gcrL [Y]).toArray⟩ from rfl] at H3
    have HX := Lib.hid (show strL (ten1 ++ gcrL [Y]) = strL (markL 3 k) by
      rw [show markL 3 k = ten1 ++ gcrY (mY 3 k) from rfl, HL.out, ← gcrL_one])
    rw [show (⟨ten1.toArray⟩ : ByteArray) = ⟨#[49, 49, 49, 49, 49, 49, 49, 49, 49, 49]⟩ from rfl] at a1
    unfold strL at a1 HX
    obtain ⟨X4, hX4⟩ : ∃ X4 : ByteArray, ⟨(gcrL [Y]).toArray⟩ = X4 := ⟨_, rfl⟩
    obtain ⟨X5, hX5⟩ : ∃ X5 : ByteArray, ⟨(ten1 ++ gcrL [Y]).toArray⟩ = X5 := ⟨_, rfl⟩
    rw [hX4, hX5] at a1
    rw [hX4] at H3
    rw [hX5] at HX
    clear hX4 hX5 e1 hl2
    go_enter Tryd.func66, Tryd.ntmps66
    go_upto_region 3 with (go_at_call 83; refine H0.out.mono ?_; rintro e w1 ⟨rfl, hb1⟩)
    have HB1 := Lib.hid (hb1.alloc hb1.size (.cells #[.int .u8 (M : Int)] 5))
    clear hb1
    go_wp2_with (go_at_call 101; refine (H3.out _).mono ?_; rintro e w' ⟨rfl, hb⟩)
    go_ret
    exact ⟨congrArg (fun s : ByteArray => Ending.returned (Value.string s)) HX.out, HB1.out.trans (hb.mono HB1.out.size)⟩
theorem specEncode_any (f : Nat) (hf : f123 f) (s : ByteArray) (last : Bool) (hs : s.size ≤ 500) (x : Int) (hx : x = f) (w : World) : Calls Tryd.prog 84 #[.int .i64 x, .string s, .bool last] w fun e w' => e = .returned (.string (strL (encF3 f last s.data.toList))) ∧ Below w.heap.size w w' := by
  have H1 := Lib.hid (encFm_any s hs w)
  have H2 := Lib.hid (encMfm_any s last hs w)
  have H3 := Lib.hid (encGcr_any s hs w)
  have HE := Lib.hid (show encL false last (bitsL s.data.toList) = encL false false (bitsL s.data.toList) from by rw [← fmGo_ones last _ 0, ← fmGo_ones false _ 0])
  subst hx
  rcases hf with rfl | rfl | rfl <;> (
    go_enter Tryd.func84, Tryd.ntmps84
    go_wp2_with (first
      | (go_at_call 103; refine H1.out.mono ?_; rintro e w' ⟨rfl, hb⟩)
      | (go_at_call 100; refine H2.out.mono ?_; rintro e w' ⟨rfl, hb⟩)
      | (go_at_call 101; refine H3.out.mono ?_; rintro e w' ⟨rfl, hb⟩))
    go_ret
    first
      | exact ⟨rfl, hb⟩
      | exact ⟨congrArg (fun l : List UInt8 => Ending.returned (Value.string (strL l))) HE.out.symm, hb⟩)
end Go.Proofs.YtabmdbhbbmnkdaaDoor
