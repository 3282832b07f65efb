/-
  Trees: a file read: the program's side.
-/
import Derived.Test.YtiefcgmghkkbmaaGreatDoorTreOp
import Derived.Test.YtiefcgmghkkbmaaGreatDoorTreWr
namespace Go.Proofs.YtiefcgmghkkbmaaGreatDoor
open Go Go.ChangeShapes Go.WideShapes Go.ChangeAt Go.RowKit lib
set_option linter.unusedVariables false
set_option linter.unusedSimpArgs false
set_option maxRecDepth 100000
theorem lkLen4 {u : Nat → Nat → UInt8} {b : Nat} {l : List Nat} (h : Lnk (nx4 u) b l) : (lkL (nx4 u) (intOf (.int .i64 (b : Int))).toNat).length = l.length := by
  show (lkL (nx4 u) b).length = _
  rw [lkL_eq h]
theorem catB_app : ∀ (L M : List ByteArray), catB (L ++ M) = catB L ++ catB M
  | [], M => (ByteArray.empty_append (b := catB M)).symm
  | x :: L, M => by
    show x ++ catB (L ++ M) = (x ++ catB L) ++ catB M
    rw [catB_app L M, ByteArray.append_assoc]
theorem catB_size_le : ∀ (L : List ByteArray) (k : Nat), (∀ x ∈ L, x.size ≤ k) → (catB L).size ≤ L.length * k
  | [], k, _ => by show 0 ≤ _; omega
  | x :: L, k, h => by
    have h1 := h x List.mem_cons_self
    have h2 := catB_size_le L k (fun y hy => h y (List.mem_cons_of_mem _ hy))
    show (x ++ catB L).size ≤ (L.length + 1) * k
    rw [ByteArray.size_append, Nat.add_mul]
    omega
set_option maxHeartbeats 4000000 in
theorem parts_any {w : World} {gp gr n B x : Nat} {bl cp : Nat → Nat} {u : Nat → Nat → UInt8} {l : List Nat} (ht : TreD w gp gr n B bl cp u) (hn : n ≤ 128) (hx : x < n) (hl : Lnk (nx4 u) (u x 14).toNat l) (hl2 : l.length ≤ 256) (hln : ∀ y ∈ l, y < n) :
    Calls Tryz.prog 54 #[.pointer (some ⟨gp, 0, none⟩), .int .i64 (x : Int)] w fun e w' => ∃ A c, e = .returned (.slice A l.length c) ∧ w'.ownsRow w.heap.size 2 1 (.slice A l.length c) l.length (l.map fun (k : Nat) => Value.int .i64 (k : Int)) ∧ Below w.heap.size w w' := by
  obtain ⟨cap, c1⟩ := ht.ptr
  have c2 := ht.blk hx
  have c3 := (ht.row hx).cell (i := 14) (by omega)
  obtain ⟨b0, hb0⟩ : ∃ b, (u x 14).toNat = b := ⟨_, rfl⟩
  have hb1 : b0 < 256 := by rw [← hb0]; exact UInt8.toNat_lt _
  rw [hb0] at c3 hl
  have hxi : (x : Int) < (n : Int) := by omega
  have HT := Lib.hid ht
  have HL := Lib.hid hl
  have HLN := Lib.hid hln
  clear ht hl hb0 hln
  go_enter Tryz.func54, Tryz.ntmps54
  go_wp2_with fail
  go_loopw [5, 6] (fun s5 s6 wr => ∃ (b : Nat) (D E : List Nat) (A : Option Addr) (c : Nat), l = D ++ E ∧ Lnk (nx4 u) b E ∧ b < 256 ∧ s6 = .int .i64 (b : Int) ∧ s5 = .slice A D.length c ∧ wr.ownsRow w.heap.size 2 1 (.slice A D.length c) D.length (D.map fun (k : Nat) => Value.int .i64 (k : Int)) ∧ Below w.heap.size w wr) (fun _ s _ => (lkL (nx4 u) (intOf s).toNat).length)
  case atStart => exact ⟨b0, [], l, none, 0, rfl, HL.out, hb1, rfl, rfl, World.ownsRow_nil _ _ _ _, Below.refl _ _⟩
  case round =>
    obtain ⟨b, D, E, A, c, hDE, hE, hb, rfl, rfl, ho, hbw⟩ := hrel
    have HO := Lib.hid ho
    have HB := Lib.hid hbw
    have hzr : w.heap.size ≤ wr.heap.size := hbw.size
    have htr := HT.out.below hbw
    by_cases h0 : b = 0
    · subst h0
      have hE0 := hE.zero
      subst hE0
      rw [List.append_nil] at hDE
      subst hDE
      clear hE ho hbw htr
      go_wp2_with fail
      go_ret
      exact ⟨A, c, rfl, HO.out, HB.out⟩
    · obtain ⟨E', rfl, h5⟩ := hE.step h0
      have hbn : b < n := HLN.out b (by rw [hDE]; simp)
      have hDl : D.length ≤ 256 := by have := congrArg List.length hDE; rw [List.length_append] at this; omega
      have t0 : ((b : Int) != 0) = true := by simp; omega
      have k2 := htr.blk hbn
      obtain ⟨cap2, k1⟩ := htr.ptr
      have k3 := (htr.row hbn).cell (i := 4) (by omega)
      obtain ⟨b2, hb2⟩ : ∃ b', (u b 4).toNat = b' := ⟨_, rfl⟩
      have hb3 : b2 < 256 := by rw [← hb2]; exact UInt8.toNat_lt _
      have hnx : nx4 u b = b2 := hb2
      rw [hb2] at k3
      rw [hnx] at h5
      have hki : (b : Int) < (n : Int) := by omega
      have HH := Lib.hid hE
      have H5 := Lib.hid h5
      have HDE := Lib.hid hDE
      have HTR := Lib.hid htr
      have HNX := Lib.hid hb2
      obtain ⟨L, hL⟩ : ∃ L, D.length = L := ⟨_, rfl⟩
      obtain ⟨xs, hxs⟩ : ∃ xs, D.map (fun (k : Nat) => Value.int .i64 (k : Int)) = xs := ⟨_, rfl⟩
      rw [hL] at HO hDl ⊢
      rw [hxs] at HO
      have HLL := Lib.hid hL
      have HXS := Lib.hid hxs
      clear hE h5 hDE ho hbw htr k1 k2 k3 hb2 hnx hL hxs
      go_upto_region 4 with (at_builtin; refine wpList_pushT (.tmp 29) (.tmp 31) 91 w.heap.size 2 (.int .i64 0) [.int .i64 (b : Int)] 1 8 _ L _ HO.out rfl rfl Tryz.underlying91 infoI64T rfl (by omega) rfl rfl rfl rfl (by intro u hu; simp at hu; subst hu; rfl) (by omega) (by omega) hzr ?_; intro A4 c4 w4 ho4 hg4)
      have hb4 : Below w.heap.size w w4 := HB.out.trans (below_grown hg4 (fun j e => (HO.out.lt j e).1) hzr)
      have htr4 := HT.out.below hb4
      have k2 := htr4.blk hbn
      obtain ⟨cap2, k1⟩ := htr4.ptr
      have k3 := (htr4.row hbn).cell (i := 4) (by omega)
      have hnx : (u b 4).toNat = b2 := HNX.out
      rw [hnx] at k3
      have HO4 := Lib.hid ho4
      have HB4 := Lib.hid hb4
      clear ho4 hg4 hb4 htr4 hnx
      go_wp2_with fail
      go_roundw
      case rel => exact ⟨b2, D ++ [b], E', some A4, c4, by rw [HDE.out]; simp, H5.out, hb3, by go_num, by rw [List.length_append, HLL.out]; rfl, by rw [List.length_append, HLL.out, List.map_append, HXS.out]; exact HO4.out, HB4.out⟩
      case measure =>
        rw [lkLen4 HH.out]
        have := lkLen4 H5.out
        simp only [this, List.length_cons]
        omega
set_option maxHeartbeats 8000000 in
theorem contents_any {w : World} {gp gr n B x : Nat} {bl cp : Nat → Nat} {u : Nat → Nat → UInt8} (ht : TreD w gp gr n B bl cp u) (hn : n ≤ 128) (hx : x < n) (hf : FSnd n u x) :
    Calls Tryz.prog 30 #[.pointer (some ⟨gp, 0, none⟩), .int .i64 (x : Int)] w fun e w' => e = .returned (.string (tData u x)) ∧ Below w.heap.size w w' := by
  obtain ⟨l, l1, l2, l3, l4⟩ := hf
  have hD : tData u x = catB (l.map fun y => tDat (u y)) := by
    unfold tData
    rw [lkL_eq (show Lnk (nx4 u) _ l from l1)]
  rw [hD]
  have hln : ∀ y ∈ l, y < n ∧ 1 ≤ (u y 5).toNat ∧ (u y 5).toNat ≤ 26 := fun y hy => by
    obtain ⟨i, hi, rfl⟩ := List.getElem_of_mem hy
    obtain ⟨a1, a2, _⟩ := l3 i hi
    exact ⟨a1, a2.2.2.2.1, a2.2.2.2.2.1⟩
  have HPA := Lib.hid (fun (W : World) (B' : Nat) (hW : TreD W gp gr n B' bl cp u) => parts_any hW hn hx l1 l2 (fun y hy => (hln y hy).1))
  have HLN := Lib.hid hln
  have hlt := ht.lt
  have HIB := Lib.hid (Lib.fresh_isBuilder 113 5 w)
  have hb1 := (Below.refl w.heap.size w).alloc (Nat.le_refl _) (.cells #[.pointer none, .slice none 0 0] 113)
  have HB1 := Lib.hid hb1
  have HT1 := Lib.hid (ht.below hb1)
  have HLT := Lib.hid hlt
  obtain ⟨L, hL⟩ : ∃ L, l.length = L := ⟨_, rfl⟩
  have HL := Lib.hid hL
  rw [hL] at HPA l2
  clear ht l1 l3 l4 hD hln hlt hL hb1
  go_enter Tryz.func30, Tryz.ntmps30
  go_upto_region 2 with fail
  obtain ⟨qb, hqb⟩ : ∃ qb, w.heap.size = qb := ⟨_, rfl⟩
  rw [hqb] at HIB HB1 HLT
  rw [hqb]
  have HQB := Lib.hid hqb
  clear hqb
  generalize w.alloc (.cells #[.pointer none, .slice none 0 0] 113) = W1 at *
  have hz1 : qb ≤ W1.heap.size := by have := HB1.out.size; have := HQB.out; omega
  go_upto_region 3 with (go_at_call 54; refine (HPA.out _ _ HT1.out).mono ?_; rintro e w2 ⟨A, c, rfl, ho, hb2⟩)
  have HO2 := Lib.hid ho
  have HB2 := Lib.hid hb2
  have HIB2 := Lib.hid (builderKp HIB.out (Kp.ofBelow (T := []) (m := 0) (B := 0) hb2) (by decide) (by decide))
  have HT2 := Lib.hid (HT1.out.below hb2)
  have hz2 : qb ≤ w2.heap.size := Nat.le_trans hz1 hb2.size
  have HBW2 := Lib.hid (HB1.out.trans (hb2.mono hz1))
  clear ho hb2
  go_loopw [13] (fun s13 wr => ∃ k : Nat, k ≤ L ∧ s13 = .int .i64 (k : Int) ∧ TreD wr gp gr n B bl cp u ∧ Lib.IsBuilder 113 5 qb qb (Lib.byteCells (catB ((l.take k).map fun y => tDat (u y))).data.toList) wr ∧ wr.ownsRow W1.heap.size 2 1 (.slice A L c) L (l.map fun (k : Nat) => Value.int .i64 (k : Int)) ∧ Below qb w wr ∧ qb ≤ wr.heap.size) (fun s _ => L - (intOf s).toNat)
  case atStart => exact ⟨0, by omega, rfl, HT2.out, HIB2.out, HO2.out, HBW2.out, hz2⟩
  case round =>
    obtain ⟨k, hk, rfl, ht, hib, ho, hb, hz⟩ := hrel
    have HT := Lib.hid ht
    have HIBR := Lib.hid hib
    have HO := Lib.hid ho
    have HB := Lib.hid hb
    clear ht hib ho hb
    by_cases hlt : k < L
    · have hki : (k : Int) < (L : Int) := by omega
      have hkl : k < l.length := by rw [HL.out]; exact hlt
      obtain ⟨y, hy⟩ : ∃ y, l[k] = y := ⟨_, rfl⟩
      obtain ⟨hyn, hy1, hy26⟩ := HLN.out y (by rw [← hy]; exact List.getElem_mem hkl)
      have hsl := own_sl HO.out
      obtain ⟨ba, oa, hA, _, hca⟩ := hsl k (by omega)
      subst hA
      dsimp only at hca
      have hca2 : wr.cell? ⟨ba, oa + k, none⟩ = some (.int .i64 (y : Int)) := by
        rw [hca]
        simp [hkl, hy]
      have hyi : (y : Int) < (n : Int) := by omega
      obtain ⟨cap, k1⟩ := HT.out.ptr
      have k2 := HT.out.blk hyn
      have hrow := HT.out.row hyn
      have hc32 := HT.out.2 y hyn
      have c5 := hrow.cell (i := 5) (by omega)
      obtain ⟨x5, h5⟩ : ∃ x, (u y 5).toNat = x := ⟨_, rfl⟩
      rw [h5] at c5 hy1 hy26
      obtain ⟨gb, hgb⟩ : ∃ g, bl y = g := ⟨_, rfl⟩
      obtain ⟨cb, hcb⟩ : ∃ c, cp y = c := ⟨_, rfl⟩
      have hgbq : gb < qb := by rw [← hgb]; exact HLT.out.2.2 y hyn
      rw [hgb] at hrow c5 k2
      rw [hcb] at k2 hc32
      have HSL := Lib.hid (show Sl wr qb (some ⟨gb, 6, none⟩) x5 (fun i => .int .u8 ((u y (6 + i)).toNat : Int)) from fun i hi => ⟨gb, 6, rfl, hgbq, hrow.cell (by omega)⟩)
      have hout : catB ((l.take (k + 1)).map fun y => tDat (u y)) = catB ((l.take k).map fun y => tDat (u y)) ++ tDat (u y) := by
        rw [List.take_succ_eq_append_getElem hkl, hy, List.map_append, catB_app]
        show _ ++ (tDat (u y) ++ catB []) = _
        rw [show catB [] = ⟨#[]⟩ from rfl]
        exact congrArg _ (ByteArray.append_empty (b := tDat (u y)))
      have hosz : (catB ((l.take k).map fun y => tDat (u y))).size ≤ 100000 := by
        have h1 := catB_size_le ((l.take k).map fun y => tDat (u y)) 255 (fun z hz => by
          obtain ⟨v, _, rfl⟩ := List.mem_map.1 hz
          unfold tDat
          rw [bsT_size]
          have := (u v 5).toNat_lt
          omega)
        rw [List.length_map, List.length_take] at h1
        omega
      obtain ⟨out, ho'⟩ : ∃ o, catB ((l.take k).map fun y => tDat (u y)) = o := ⟨_, rfl⟩
      rw [ho'] at HIBR hout hosz
      have HOUT := Lib.hid hout
      have hdat : Lib.byteCells out.data.toList ++ ((List.range x5).map fun i => Value.int .u8 ((u y (6 + i)).toNat : Int)) = Lib.byteCells (out ++ tDat (u y)).data.toList := by
        have := cellsSnoc out x5 (fun i => u y (6 + i))
        unfold tDat
        rw [h5]
        exact this
      have hln : (Lib.byteCells out.data.toList).length = out.size := cellsLen _
      have HWRI := Lib.hid (writeKp (c := cb - 6) HIBR.out (by rw [hln]; omega) hz (Nat.le_refl _) HSL.out)
      rw [hdat] at HWRI
      have hcs6 : (cb = 6) = False := by simp; omega
      have hci : (32 : Int) ≤ (cb : Int) := by omega
      have n5 : (6 + (x5 : Int)).toNat = 6 + x5 := by omega
      have p5 : (0 : Int) ≤ 6 + (x5 : Int) := by omega
      have l5 : 6 + (x5 : Int) ≤ 32 := by omega
      have l6 : 6 + (x5 : Int) ≤ (cb : Int) := by omega
      have l7 : (6 : Int) ≤ 6 + (x5 : Int) := by omega
      clear hrow hsl hca hout hdat hln ho' h5 hgb hcb hy hkl
      go_upto_region 7 with (go_at_call 73; refine HWRI.out.mono ?_; rintro e w6 ⟨rfl, hib6, hb6, hk6⟩)
      have HT6 := Lib.hid (HT.out.low hb6 HLT.out)
      have HO6 := Lib.hid (ownKp HO.out (hk6 0) (by decide))
      have HIB6 := Lib.hid hib6
      have HB6 := Lib.hid (HB.out.trans hb6)
      have hz6 : qb ≤ w6.heap.size := Nat.le_trans hz hb6.size
      clear hib6 hb6 hk6 c5 k1 k2 hca2
      go_wp2_with fail
      go_roundw
      case rel => exact ⟨k + 1, by omega, by go_num, HT6.out, by rw [HOUT.out]; exact HIB6.out, HO6.out, HB6.out, hz6⟩
      case measure => simp [intOf]; omega
    · obtain rfl : k = L := by omega
      have hout : catB ((l.take k).map fun y => tDat (u y)) = catB (l.map fun y => tDat (u y)) := by rw [List.take_of_length_le (by rw [HL.out]; exact Nat.le_refl _)]
      rw [hout] at HIBR
      obtain ⟨out, ho'⟩ : ∃ o, catB (l.map fun y => tDat (u y)) = o := ⟨_, rfl⟩
      rw [ho'] at HIBR
      have HOU := Lib.hid ho'
      clear hout ho'
      go_wp2_with (go_at_call 74; refine (Tryz.Builder_String_any qb qb out.data.toList _ HIBR.out hz).mono ?_; rintro e w5 ⟨rfl, hb5⟩)
      go_ret
      rw [HQB.out]
      have hO := HOU.out
      subst hO
      exact ⟨rfl, HB.out.trans hb5⟩
end Go.Proofs.YtiefcgmghkkbmaaGreatDoor
