/-
  Tracks: the reference's group code and marks.
-/
import Derived.Test.YtabmdbhbbmnkdaaDoorBsE
namespace Go.Proofs.YtabmdbhbbmnkdaaDoor
open Go Go.ChangeShapes Go.WideShapes Go.ChangeAt Go.RowKit Go.Joins lib
set_option linter.unusedVariables false
set_option linter.unusedSimpArgs false
set_option maxRecDepth 100000
theorem byteCells_V (l : List UInt8) : Lib.byteCells l = bytesV l := rfl
theorem gcrS_list (k : Nat) : (gcrS k).data.toList = gcrT.getD k [] := strL_list _
/-- a text is appended to bytes of the call's own -/
theorem wpList_pushS {w : World} {ops : Array Oper} {rest : List Oper} {o : Oper} {a : Act} {Q : Exit → Act → World → Prop} (hgd : o.guard = none) (sl x : Operand)
    (ho : o.op = .call { callee := .builtin .append, args := #[sl, x], argTypes := #[22, 9] }) (base : Nat) (v : Value) (L : Nat) (us : List UInt8) (hs : a.eval sl = v) (hown : w.ownsRow base 5 1 v L (bytesV us))
    (s : ByteArray) (hx : a.eval x = .string s) (h0 : s.size ≠ 0) (L' : Nat) (hL' : L + s.size = L') (hb : L' ≤ 1048576) (hbase : base ≤ w.heap.size)
    (h : ∀ A' c' w', w'.ownsRow base 5 1 (.slice (some A') L' c') L' (bytesV (us ++ s.data.toList)) → w.grownBy w' v.ownBlock → Below base w w' → wpList Tryd.prog ops Q rest (a.put o.dst (.slice (some A') L' c')) w') : wpList Tryd.prog ops Q (o :: rest) a w := by
  obtain ⟨i0, hi, hz0, hz1, hz2⟩ := info_parts infoU8T
  subst hL'
  refine Lib.wpList_append_own_string _ hgd sl x 22 9 ho base 5 i0 Tryd.underlying22 Tryd.underlying9 hi hz0 hz1 hz2 v L (bytesV us) hs hown s hx (by unfold maxLen; omega) (by omega) hbase ?_
  intro v' w' ho' hg' _
  obtain ⟨g, cap, rfl, _, _⟩ := ho'.form (by omega)
  refine h _ _ _ ?_ hg' (below_grown hg' (own_lt hown) hbase)
  unfold bytesV at *
  rw [List.map_append]
  exact ho'
set_option maxHeartbeats 8000000 in
theorem encGcr_any (s : ByteArray) (hs : s.size ≤ 500) (w : World) : Calls Tryd.prog 101 #[.string s] w fun e w' => e = .returned (.tuple #[.string (strL (gcrL s.data.toList)), .bool true]) ∧ Below w.heap.size w w' := by
  obtain ⟨i0, hi, hz0, hz1, hz2⟩ := info_parts infoU8T
  have HO := Lib.hid (own_nilE w 5 1 w.heap.size (Nat.le_refl _))
  have HB := Lib.hid ((Below.refl w.heap.size w).alloc (Nat.le_refl _) (.cells #[] 5))
  go_enter Tryd.func101, Tryd.ntmps101
  go_wp2_with fail
  generalize w.alloc (.cells #[] 5) = W1 at *
  have hz1' := HB.out.size
  go_loopw [4, 5] (fun s4 s5 wr => ∃ (i : Nat) (us : List UInt8) (A : Option Addr) (c : Nat), i ≤ s.size ∧ us = gcrL (s.data.toList.take i) ∧ s5 = .int .i64 (i : Int) ∧ s4 = .slice A us.length c ∧ wr.ownsRow w.heap.size 5 1 (.slice A us.length c) us.length (bytesV us) ∧ Below w.heap.size w wr) (fun _ i _ => s.size - (intOf i).toNat)
  case atStart => exact ⟨0, [], _, _, by omega, rfl, rfl, rfl, HO.out, HB.out⟩
  case round =>
    obtain ⟨i, us, A, c, hi', hus, rfl, rfl, ho, hb⟩ := hrel
    have HUS := Lib.hid hus
    have HOI := Lib.hid ho
    have HBI := Lib.hid hb
    have hzr : w.heap.size ≤ wr.heap.size := hb.size
    have hul : us.length ≤ 5000 := by rw [hus, gcrL_len, List.length_take]; omega
    clear ho hb hus
    by_cases hlt : i < s.size
    · have hki : (i : Int) < (s.size : Int) := by omega
      have hg := byteAt_get s i hlt
      obtain ⟨y, hy⟩ : ∃ y, byteAt s i = y := ⟨_, rfl⟩
      rw [hy] at hg
      have HY := Lib.hid hy
      have hyl := y.toNat_lt
      obtain ⟨a, ha⟩ : ∃ a, y.toNat / 16 = a := ⟨_, rfl⟩
      obtain ⟨b, hb⟩ : ∃ b, y.toNat % 16 = b := ⟨_, rfl⟩
      have ha16 : a < 16 := by omega
      have hb16 : b < 16 := by omega
      have e1 : (y.toNat : Int) / 16 = (a : Int) := by omega
      have e2 : (y.toNat : Int) % 16 = (b : Int) := by omega
      have HA := Lib.hid (fun W => gcrCode_any a ha16 (a : Int) rfl W)
      have HBB := Lib.hid (fun W => gcrCode_any b hb16 (b : Int) rfl W)
      have za := gcrS_size a ha16
      have zb := gcrS_size b hb16
      have HAL := Lib.hid (gcrS_list a)
      have HBL := Lib.hid (gcrS_list b)
      obtain ⟨XA, hXA⟩ : ∃ X, gcrS a = X := ⟨_, rfl⟩
      obtain ⟨XB, hXB⟩ : ∃ X, gcrS b = X := ⟨_, rfl⟩
      rw [hXA] at HA za HAL
      rw [hXB] at HBB zb HBL
      have HNX := Lib.hid (show gcrL (s.data.toList.take (i + 1)) = us ++ XA.data.toList ++ XB.data.toList by
        rw [take_byteE s i hlt, HY.out, HUS.out, HAL.out, HBL.out, ← ha, ← hb, List.append_assoc]
        unfold gcrL
        rw [List.flatMap_append]
        simp [gcrY])
      obtain ⟨L, hL⟩ : ∃ L, us.length = L := ⟨_, rfl⟩
      rw [hL] at HOI hul ⊢
      have HLL := Lib.hid hL
      clear hy ha hb hXA hXB hL
      obtain ⟨L1, hL1⟩ : ∃ L1, L + XA.size = L1 := ⟨_, rfl⟩
      obtain ⟨L2, hL2⟩ : ∃ L2, L1 + XB.size = L2 := ⟨_, rfl⟩
      have HZA := Lib.hid za
      have HZB := Lib.hid zb
      have HL1 := Lib.hid hL1
      have HL2 := Lib.hid hL2
      have hl1b : L1 ≤ 6000 := by omega
      have hl2b : L2 ≤ 6000 := by omega
      clear za zb hL1 hL2
      go_upto_region 8 with (first
        | (go_at_call 116; refine (HA.out _).mono ?_; rintro e w1 ⟨rfl, hb1⟩)
        | (at_builtin; refine wpList_pushS rfl (.tmp 17) (.tmp 23) rfl w.heap.size _ L us rfl (own_below HOI.out hb1) XA rfl (by rw [HZA.out]; omega) L1 HL1.out (by omega) (Nat.le_trans hzr hb1.size) ?_; intro A5 c5 w5 ho5 hg5 hb5'))
      have HO5 := Lib.hid ho5
      have HB5 := Lib.hid (HBI.out.trans ((hb1.mono hzr).trans hb5'))
      have hz5 : w.heap.size ≤ w5.heap.size := Nat.le_trans (Nat.le_trans hzr hb1.size) hb5'.size
      clear ho5 hg5 hb5' hb1
      go_wp2_with (first
        | (go_at_call 116; refine (HBB.out _).mono ?_; rintro e w2 ⟨rfl, hb2⟩)
        | (at_builtin; refine wpList_pushS rfl (.tmp 25) (.tmp 31) rfl w.heap.size _ L1 (us ++ XA.data.toList) rfl (own_below HO5.out hb2) XB rfl (by rw [HZB.out]; omega) L2 HL2.out (by omega) (Nat.le_trans hz5 hb2.size) ?_; intro A6 c6 w6 ho6 hg6 hb6))
      have e1 : (us ++ XA.data.toList ++ XB.data.toList).length = L2 := by
        rw [List.length_append, List.length_append, HLL.out, ← HL2.out, ← HL1.out]
        rfl
      exact ⟨⟨i + 1, us ++ XA.data.toList ++ XB.data.toList, some A6, c6, by omega, HNX.out.symm, by go_num, by rw [e1], by rw [e1]; exact ho6, HB5.out.trans ((hb2.mono hz5).trans hb6)⟩, by simp [intOf] <;> omega⟩
    · obtain rfl : i = s.size := by omega
      have htk : s.data.toList.take s.size = s.data.toList := List.take_of_length_le (Nat.le_refl _)
      have hcv := run_bytesV rfl HOI.out
      have hu2 := HUS.out
      rw [htk] at hu2
      have HU3 := Lib.hid hu2
      clear htk hu2
      go_wp2_with fail
      go_ret2
      have e := HU3.out
      subst e
      exact ⟨rfl, HBI.out⟩
end Go.Proofs.YtabmdbhbbmnkdaaDoor
