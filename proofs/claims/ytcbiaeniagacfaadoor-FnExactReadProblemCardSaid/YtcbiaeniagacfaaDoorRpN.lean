/-
  A problem read back: the reference's small functions.
-/
import Derived.Test.YtcbiaeniagacfaaDoorRpP
import Derived.Test.YtcbiaeniagacfaaDoorPbS
import Derived.Test.YtcbiaeniagacfaaDoorXmPush
import Derived.Test.YtcbiaeniagacfaaDoorAppR
import Derived.Deep.DeepCutAuto
import Derived.Deep.CutBlock
import Derived.Deep.QuietTactic
import Derived.BigQuiet
namespace Go.Proofs.YtcbiaeniagacfaaDoor
open Go Go.ChangeShapes Go.WideShapes Go.ChangeAt Go.RowKit lib
set_option linter.unusedVariables false
set_option linter.unusedSimpArgs false
set_option maxRecDepth 100000
theorem extT {s : ByteArray} {a b : Nat} (hb : b ≤ s.size) : s.extract a b = bstr (b - a) (fun i => byteAt s (a + i)) := by
  apply ByteArray.ext
  apply Array.ext'
  rw [ByteArray.data_extract, Array.toList_extract]
  unfold bstr byteAt
  simp only [List.extract_eq_take_drop]
  apply List.ext_getElem?
  intro i
  have hl : s.data.toList.length = s.size := rfl
  by_cases h : i < b - a
  · rw [List.getElem?_take_of_lt h, List.getElem?_drop, List.getElem?_map, List.getElem?_range h]
    simp only [Option.map_some, List.getD_eq_getElem?_getD]
    rw [List.getElem?_eq_getElem (by rw [hl]; omega)]
    rfl
  · rw [List.getElem?_eq_none (by simp; omega), List.getElem?_eq_none (by simp; omega)]
theorem slT (s : ByteArray) (a b : Nat) (hab : a ≤ b) (hb : b ≤ s.size) (hs : s.size ≤ 1048576) (W : World) : (Instr.slice 9 (.string s) (some (.int .i64 (a : Int))) (some (.int .i64 (b : Int))) none).run Tryd.prog W = .ok (.string (bstr (b - a) (fun i => byteAt s (a + i)))) W := by
  rw [run_slice_string (P := Tryd.prog) (w := W) 9 s .i64 .i64 (a : Int) (b : Int) Tryd.underlying9 (by omega) (by omega) (by omega)]
  rw [Int.toNat_natCast, Int.toNat_natCast, extT hb]
theorem slTx (s : ByteArray) (a b : Nat) (x y : Int) (hx : x = a) (hy : y = b) (hab : a ≤ b) (hb : b ≤ s.size) (hs : s.size ≤ 1048576) (W : World) : (Instr.slice 9 (.string s) (some (.int .i64 x)) (some (.int .i64 y)) none).run Tryd.prog W = .ok (.string (bstr (b - a) (fun i => byteAt s (a + i)))) W := by
  rw [hx, hy]; exact slT s a b hab hb hs W
theorem slTl (s : ByteArray) (a : Nat) (ha : a ≤ s.size) (W : World) : (Instr.slice 9 (.string s) (some (.int .i64 (a : Int))) none none).run Tryd.prog W = .ok (.string (bstr (s.size - a) (fun i => byteAt s (a + i)))) W := by
  rw [run_slice_string_l (P := Tryd.prog) W 9 s Tryd.underlying9 .i64 (a : Int) (by omega) (by omega)]
  rw [Int.toNat_natCast, extT (Nat.le_refl _)]
theorem pieceEq (s : ByteArray) (f i : Nat) (hi : i ≤ s.size) : bstr (i - f) (fun j => byteAt s (f + j)) = ⟨((s.data.toList.take i).drop f).toArray⟩ := by
  rw [← extT hi]
  apply ByteArray.ext
  apply Array.ext'
  rw [ByteArray.data_extract, Array.toList_extract]
  simp [List.extract_eq_take_drop, List.drop_take]
theorem take_snoc_byte (s : ByteArray) (i : Nat) (hi : i < s.size) : s.data.toList.take (i + 1) = s.data.toList.take i ++ [byteAt s i] := by
  have h : i < s.data.toList.length := hi
  rw [List.take_succ_eq_append_getElem h]
  congr 2
  unfold byteAt
  rw [List.getD_eq_getElem?_getD, List.getElem?_eq_getElem h]
  rfl
theorem infoStrT : (Tryd.prog.info? 9).map (fun i => (i.zero, i.size, i.bytes)) = some (some (.string .empty), 1, 16) := by kernel_rfl
def txtL (o : List (List UInt8)) : List Value := o.map fun l => Value.string ⟨l.toArray⟩
set_option maxHeartbeats 4000000 in
theorem l19Split_any {w : World} {s : ByteArray} (hs : s.size ≤ 1048576) : Calls Tryd.prog 7 #[.string s] w fun e w' => ∃ (A : Option Addr) (d : Nat), e = .returned (.slice A (piecesT 32 s).length d) ∧ w'.ownsRow w.heap.size 9 1 (.slice A (piecesT 32 s).length d) (piecesT 32 s).length ((piecesT 32 s).map Value.string) ∧ Below w.heap.size w w' := by
  have hb1 := (Below.refl w.heap.size w).alloc (Nat.le_refl _) (.cells #[] 9)
  have HB1 := Lib.hid hb1
  have HO1 := Lib.hid (own_nilE w 9 1 w.heap.size (Nat.le_refl _))
  clear hb1
  go_enter Tryd.func7, Tryd.ntmps7
  go_wp2_with fail
  go_loopw [3, 4, 5] (fun s5 s6 s7 wr => ∃ (i f : Nat) (o : List (List UInt8)) (A : Option Addr) (d : Nat), i ≤ s.size ∧ f ≤ i ∧ o.length ≤ i ∧ s7 = .int .i64 (i : Int) ∧ s6 = .int .i64 (f : Int) ∧ s5 = .slice A o.length d ∧ splitB 32 (s.data.toList.take i) = o ++ [(s.data.toList.take i).drop f] ∧ wr.ownsRow w.heap.size 9 1 (.slice A o.length d) o.length (txtL o) ∧ Below w.heap.size w wr) (fun _ _ x _ => s.size - (intOf x).toNat)
  case atStart => exact ⟨0, 0, [], _, 0, by omega, by omega, by simp, rfl, rfl, rfl, rfl, HO1.out, HB1.out⟩
  case round =>
    obtain ⟨i, f, o, A, d, hi, hf, hol, rfl, rfl, rfl, hsp, ho, hb⟩ := hrel
    have HO := Lib.hid ho
    have HB := Lib.hid hb
    have HSP := Lib.hid hsp
    have hzr : w.heap.size ≤ wr.heap.size := hb.size
    obtain ⟨L, hL⟩ : ∃ L, o.length = L := ⟨_, rfl⟩
    rw [hL] at HO hol
    have HL := Lib.hid hL
    clear ho hb hsp
    have hsl := fun W => slTx s f i (f : Int) (i : Int) rfl rfl hf hi hs W
    rw [pieceEq s f i hi] at hsl
    obtain ⟨x, hx⟩ : ∃ x : ByteArray, x = ⟨((s.data.toList.take i).drop f).toArray⟩ := ⟨_, rfl⟩
    rw [← hx] at hsl
    have HX := Lib.hid hx
    by_cases hlt : i < s.size
    · have hki : (i : Int) < (s.size : Int) := by omega
      have hsn := splitB_snoc (c := 32) (x := byteAt s i) _ _ _ HSP.out
      rw [← take_snoc_byte s i hlt] at hsn
      have hg := byteAt_get s i hlt
      obtain ⟨y, hy⟩ : ∃ y, byteAt s i = y := ⟨_, rfl⟩
      have HY := Lib.hid hy
      obtain ⟨yn, hyn⟩ : ∃ yn, y.toNat = yn := ⟨_, rfl⟩
      simp only [hy, hyn] at hg
      rw [hy] at hsn
      by_cases hc : y = 32
      · have t1 : ((yn : Int) == 32) = true := by rw [← hyn, hc]; rfl
        rw [if_pos hc] at hsn
        have HSN := Lib.hid (show splitB 32 (s.data.toList.take (i + 1)) = (o ++ [(s.data.toList.take i).drop f]) ++ [(s.data.toList.take (i + 1)).drop (i + 1)] by
          rw [hsn, show (s.data.toList.take (i + 1)).drop (i + 1) = [] from List.drop_eq_nil_of_le (by rw [List.length_take]; exact Nat.min_le_left _ _)])
        clear hsn hc hx hy
        rw [hL]
        go_upto_region 8 with (at_builtin; refine wpList_pushT (.tmp 17) (.tmp 22) 28 w.heap.size 9 (.string .empty) [.string x] 1 16 _ L _ HO.out rfl rfl Tryd.underlying28 infoStrT rfl (by omega) rfl rfl rfl rfl (by intro u hu; simp at hu; subst hu; rfl) (by omega) (by omega) hzr ?_; intro A4 c4 w4 ho4 hg4)
        have hb4 : Below w.heap.size w w4 := HB.out.trans (below_grown hg4 (fun j e => (HO.out.lt j e).1) hzr)
        have HO4 := Lib.hid ho4
        have HB4 := Lib.hid hb4
        clear ho4 hg4 hb4
        go_wp2_with fail
        go_roundw
        case rel =>
          refine ⟨i + 1, i + 1, o ++ [(s.data.toList.take i).drop f], some A4, c4, by omega, by omega, by rw [List.length_append, HL.out]; simp; omega, by go_num, by go_num, by rw [List.length_append, HL.out]; rfl, HSN.out, ?_, HB4.out⟩
          rw [List.length_append, HL.out]
          unfold txtL
          rw [List.map_append, List.map_cons, List.map_nil, ← HX.out]
          exact HO4.out
        case measure => simp [intOf]; omega
      · have t1 : ((yn : Int) == 32) = false := by
          have : yn ≠ 32 := fun e => hc (UInt8.toNat_inj.1 (by rw [hyn, e]; rfl))
          simp; omega
        rw [if_neg hc] at hsn
        have HSN := Lib.hid (show splitB 32 (s.data.toList.take (i + 1)) = o ++ [(s.data.toList.take (i + 1)).drop f] by
          rw [hsn, take_snoc_byte s i hlt, List.drop_append_of_le_length (by rw [List.length_take]; exact Nat.le_min.2 ⟨hf, Nat.le_trans hf hi⟩), HY.out])
        clear hsn hc hx hy
        rw [hL]
        go_wp2_with fail
        go_roundw
        case rel => exact ⟨i + 1, f, o, A, d, by omega, by omega, by rw [HL.out]; omega, by go_num, rfl, by rw [HL.out], HSN.out, by rw [HL.out]; exact HO.out, HB.out⟩
        case measure => simp [intOf]; omega
    · obtain rfl : i = s.size := by omega
      have hsl2 := fun W => slTl s f hf W
      rw [pieceEq s f s.size (Nat.le_refl _)] at hsl2
      rw [← hx] at hsl2
      have htk : s.data.toList.take s.size = s.data.toList := List.take_of_length_le (Nat.le_refl _)
      have hfin := HSP.out
      rw [htk] at hfin
      rw [htk] at hx
      have hpc : piecesT 32 s = o.map (fun l => (⟨l.toArray⟩ : ByteArray)) ++ [x] := by
        unfold piecesT
        rw [hfin, List.map_append, List.map_cons, List.map_nil, ← hx]
      have HPC := Lib.hid hpc
      clear hfin hx hpc htk hsl
      rw [hL]
      go_wp2_with (at_builtin; refine wpList_pushT (.tmp 26) (.tmp 30) 28 w.heap.size 9 (.string .empty) [.string x] 1 16 _ L _ HO.out rfl rfl Tryd.underlying28 infoStrT rfl (by omega) rfl rfl rfl rfl (by intro u hu; simp at hu; subst hu; rfl) (by omega) (by omega) hzr ?_; intro A4 c4 w4 ho4 hg4)
      have hb4 : Below w.heap.size w w4 := HB.out.trans (below_grown hg4 (fun j e => (HO.out.lt j e).1) hzr)
      go_ret
      have hlen : (piecesT 32 s).length = L + 1 := by rw [HPC.out, List.length_append, List.length_map, HL.out]; rfl
      rw [hlen]
      refine ⟨some A4, c4, rfl, ?_, hb4⟩
      have e1 : (piecesT 32 s).map Value.string = txtL o ++ [.string x] := by
        rw [HPC.out, List.map_append, List.map_map]
        rfl
      rw [e1]
      exact ho4
theorem num3_drop (s : ByteArray) (i : Nat) (hi : i < s.size) : s.data.toList.drop i = byteAt s i :: s.data.toList.drop (i + 1) := by
  have h : i < s.data.toList.length := hi
  rw [List.drop_eq_getElem_cons h]
  congr 1
  unfold byteAt
  rw [List.getD_eq_getElem?_getD, List.getElem?_eq_getElem h]
  rfl
set_option maxHeartbeats 4000000 in
theorem l19Number_any (s : ByteArray) (hs : s.size ≤ 1048576) (w : World) : Calls Tryd.prog 8 #[.string s] w fun r w' => r = .returned (.int .i64 (num3 s.data.toList)) ∧ w' = w := by
  have hl : s.data.toList.length = s.size := rfl
  by_cases h0 : s.size < 1
  · have hr : num3 s.data.toList = -1 := by unfold num3; rw [if_pos (by omega)]
    rw [hr]
    have t1 : decide ((s.size : Int) < 1) = true := by simp; omega
    clear hl hr
    go_enter Tryd.func8, Tryd.ntmps8
    go_wp2_with fail
    go_ret
    exact ⟨rfl, rfl⟩
  · have t1 : decide ((s.size : Int) < 1) = false := by simp; omega
    have t1' : ((s.size : Int) < 1) = False := by simp; omega
    by_cases h3 : 3 < s.size
    · have hr : num3 s.data.toList = -1 := by unfold num3; rw [if_pos (by omega)]
      rw [hr]
      have t2 : decide ((s.size : Int) > 3) = true := by simp; omega
      have t2' : decide ((3 : Int) < (s.size : Int)) = true := by simp; omega
      clear hl hr
      go_enter Tryd.func8, Tryd.ntmps8
      go_wp2_with fail
      go_ret
      exact ⟨rfl, rfl⟩
    · have hr : num3 s.data.toList = match num3Go s.data.toList 0 with
        | some n => (n : Int)
        | none => -1 := by unfold num3; rw [if_neg (by omega)]; cases num3Go s.data.toList 0 <;> rfl
      have t2 : decide ((s.size : Int) > 3) = false := by simp; omega
      have t2' : decide ((3 : Int) < (s.size : Int)) = false := by simp; omega
      have HR := Lib.hid hr
      obtain ⟨R, hR⟩ : ∃ R, num3 s.data.toList = R := ⟨_, rfl⟩
      rw [hR] at HR ⊢
      clear hl hr hR
      go_enter Tryd.func8, Tryd.ntmps8
      go_wp2_with fail
      go_loopw [3, 4] (fun s3 s4 wr => ∃ (i a : Nat), i ≤ s.size ∧ a < 10 ^ i ∧ s4 = .int .i64 (i : Int) ∧ s3 = .int .i64 (a : Int) ∧ num3Go (s.data.toList.drop i) a = num3Go s.data.toList 0 ∧ wr = w) (fun _ i _ => s.size - (intOf i).toNat)
      case atStart => exact ⟨0, 0, by omega, by omega, rfl, rfl, rfl, rfl⟩
      case round =>
        obtain ⟨i, a, hi, ha, rfl, rfl, hgo, rfl⟩ := hrel
        by_cases hlt : i < s.size
        · have hki : (i : Int) < (s.size : Int) := by omega
          have ha2 : a < 100 ∧ (i < 2 → a < 10) ∧ (i = 0 → a = 0) := by
            have : i = 0 ∨ i = 1 ∨ i = 2 := by omega
            rcases this with rfl | rfl | rfl <;> simp at ha <;> omega
          have ha3 : ∀ d, d < 10 → 10 * a + d < 10 ^ (i + 1) := by
            intro d hd
            have : i = 0 ∨ i = 1 ∨ i = 2 := by omega
            rcases this with rfl | rfl | rfl <;> simp at ha ⊢ <;> omega
          rw [num3_drop s i hlt, num3Go] at hgo
          have hg := byteAt_get s i hlt
          obtain ⟨yb, hyb⟩ : ∃ yb, byteAt s i = yb := ⟨_, rfl⟩
          obtain ⟨y, hy⟩ : ∃ y, yb.toNat = y := ⟨_, rfl⟩
          have hy256 : y < 256 := by rw [← hy]; exact UInt8.toNat_lt _
          simp only [hyb, hy] at hg hgo
          have HA3 := Lib.hid ha3
          clear ha3 ha hyb
          by_cases h48 : y < 48
          · rw [if_pos (.inl h48)] at hgo
            have e1 : decide ((y : Int) < 48) = true := by simp; omega
            have e1' : ((y : Int) < 48) = True := by simp; omega
            have hr := HR.out
            rw [← hgo] at hr
            dsimp only at hr
            subst hr
            clear hgo
            go_wp2_with fail
            go_ret
            exact ⟨rfl, rfl⟩
          · have e1 : decide ((y : Int) < 48) = false := by simp; omega
            have e1' : ((y : Int) < 48) = False := by simp; omega
            by_cases h57 : 57 < y
            · rw [if_pos (.inr h57)] at hgo
              have e2 : decide ((y : Int) > 57) = true := by simp; omega
              have e2' : decide ((57 : Int) < (y : Int)) = true := by simp; omega
              have hr := HR.out
              rw [← hgo] at hr
              dsimp only at hr
              subst hr
              clear hgo
              go_wp2_with fail
              go_ret
              exact ⟨rfl, rfl⟩
            · rw [if_neg (by omega)] at hgo
              have e2 : decide ((y : Int) > 57) = false := by simp; omega
              have e2' : decide ((57 : Int) < (y : Int)) = false := by simp; omega
              obtain ⟨d, hd⟩ : ∃ d, d = y - 48 := ⟨_, rfl⟩
              rw [← hd] at hgo
              have hd10 : d < 10 := by omega
              have w1 : IntKind.u8.wrap ((y : Int) - 48) = (d : Int) := by rw [IntKind.wrap_u8]; omega
              have w2 : IntKind.i64.wrap (d : Int) = (d : Int) := by rw [IntKind.wrap_i64]; omega
              have w3 : IntKind.i64.wrap (10 * (a : Int)) = ((10 * a : Nat) : Int) := by rw [IntKind.wrap_i64]; omega
              have w4 : IntKind.i64.wrap (((10 * a : Nat) : Int) + (d : Int)) = ((10 * a + d : Nat) : Int) := by rw [IntKind.wrap_i64]; omega
              have HGO := Lib.hid hgo
              clear hgo hd
              go_wp2_with fail
              go_roundw
              case rel => exact ⟨i + 1, 10 * a + d, by omega, HA3.out d hd10, by go_num, by go_num, HGO.out, trivial⟩
              case measure => simp [intOf]; omega
        · obtain rfl : i = s.size := by omega
          have hdr : s.data.toList.drop s.size = [] := List.drop_eq_nil_of_le (Nat.le_refl _)
          rw [hdr, num3Go] at hgo
          have hr := HR.out
          rw [← hgo] at hr
          dsimp only at hr
          subst hr
          clear hgo hdr
          go_wp2_with fail
          go_ret
          exact ⟨rfl, rfl⟩
end Go.Proofs.YtcbiaeniagacfaaDoor
