/-
  Trees: an entry looked up, the directory behind names: the program's side.
-/
import Derived.Test.YtiefcgmghkkbmaaGreatDoorTreR
import Derived.Test.YtiefcgmghkkbmaaGreatDoorTreA
namespace Go.Proofs.YtiefcgmghkkbmaaGreatDoor
open Go Go.ChangeShapes Go.WideShapes Go.ChangeAt Go.RowKit lib
set_option linter.unusedVariables false
set_option linter.unusedSimpArgs false
set_option maxRecDepth 100000
section
variable {w w' : World} {gp gr n B : Nat} {bl cp : Nat → Nat} {u : Nat → Nat → UInt8}
theorem TreD.base {B' : Nat} (h : TreD w gp gr n B bl cp u) (hB : B' ≤ B) : TreD w gp gr n B' bl cp u := by
  obtain ⟨⟨h1, h2, h5, h6, h7, h8⟩, hc⟩ := h
  exact ⟨⟨h1, h2, fun i hi => ⟨(h5 i hi).1, Nat.le_trans hB (h5 i hi).2⟩, h6, Nat.le_trans hB h7, Nat.le_trans hB h8⟩, hc⟩
/-- all of a tree lies below a block -/
theorem TreD.lt (h : TreD w gp gr n B bl cp u) : gp < w.heap.size ∧ gr < w.heap.size ∧ ∀ j, j < n → bl j < w.heap.size := by
  obtain ⟨⟨⟨cap, h1⟩, ⟨cs, h2, _⟩, h5, _⟩, _⟩ := h
  exact ⟨h1.lt, h2.lt, fun j hj => (h5 j hj).1.lt⟩
theorem TreD.low {Bb : Nat} (h : TreD w gp gr n B bl cp u) (hb : Below Bb w w') (hl : gp < Bb ∧ gr < Bb ∧ ∀ j, j < n → bl j < Bb) : TreD w' gp gr n B bl cp u := by
  obtain ⟨⟨⟨cap, h1⟩, ⟨cs, h2, h3, h4⟩, h5, h6, h7, h8⟩, hc⟩ := h
  exact ⟨⟨⟨cap, h1.below hb hl.1⟩, ⟨cs, h2.below hb hl.2.1, h3, h4⟩, fun i hi => ⟨(h5 i hi).1.below hb (hl.2.2 i hi), (h5 i hi).2⟩, h6, h7, h8⟩, hc⟩
end
theorem table_any {w : World} {g c d : Nat} {x : Nat → UInt8} (hr : BRow w 5 g 32 x) (hc : 32 ≤ c) (h : d = 0 ∧ x 0 = 1 ∨ d ≠ 0 ∧ x 0 = 4) : Calls Tryz.prog 56 #[.slice (some ⟨g, 0, none⟩) 32 c] w fun e w' => e = .returned (.slice (some ⟨g, tTab d, none⟩) 8 (c - tTab d)) ∧ w = w' := by
  rcases h with ⟨h0, h1⟩ | ⟨h0, h1⟩
  · rw [show tTab d = 4 by unfold tTab; rw [if_pos h0]]
    exact tableRoot_any (n := 0) hr hc h1
  · rw [show tTab d = 12 by unfold tTab; rw [if_neg h0]]
    exact tableDir_any (n := 0) hr hc h1
theorem tTab_le (d : Nat) : tTab d ≤ 12 := by unfold tTab; split <;> omega
theorem lkLen {u : Nat → Nat → UInt8} {b : Nat} {l : List Nat} (h : Lnk (nx2 u) b l) : (lkL (nx2 u) (intOf (.int .i64 (b : Int))).toNat).length = l.length := by
  show (lkL (nx2 u) b).length = _
  rw [lkL_eq h]
set_option maxHeartbeats 4000000 in
theorem look_any {w : World} {gp gr n B d : Nat} {bl cp : Nat → Nat} {u : Nat → Nat → UInt8} {nm : ByteArray} (ht : TreD w gp gr n B bl cp u) (hn : n ≤ 128) (hd : DD n u d) (hnm : nm.size ≤ 1048576) :
    Calls Tryz.prog 72 #[.pointer (some ⟨gp, 0, none⟩), .int .i64 (d : Int), .string nm] w fun e w' => e = .returned (.int .i64 (lookU u d nm : Nat)) ∧ w = w' := by
  obtain ⟨cap, c1⟩ := ht.ptr
  have hdn := hd.1
  have c2 := ht.blk hdn
  have hr := ht.row hdn
  have hT := tTab_le d
  have hH := tHash_lt nm
  obtain ⟨l0, hl0, _, hl2⟩ := hd.chain hH
  have hR : (l0.find? fun x => decide (tnm (u x) = nm)).getD 0 = lookU u d nm := by unfold lookU; rw [lkL_eq hl0]
  obtain ⟨R, hRR⟩ : ∃ R, lookU u d nm = R := ⟨_, rfl⟩
  rw [hRR] at hR ⊢
  have HTB := Lib.hid (table_any hr (ht.2 d hdn) hd.2.2)
  have HHO := Lib.hid (hashOf_any nm hnm)
  obtain ⟨t, ht'⟩ : ∃ t, tTab d = t := ⟨_, rfl⟩
  obtain ⟨h, hh'⟩ : ∃ h, tHash nm = h := ⟨_, rfl⟩
  rw [ht'] at HTB hT hl0
  rw [hh'] at HHO hH hl0
  have c3 := hr.cell (i := t + h) (by omega)
  obtain ⟨b0, hb0⟩ : ∃ b, (u d (t + h)).toNat = b := ⟨_, rfl⟩
  have hb1 : b0 < 256 := by rw [← hb0]; exact UInt8.toNat_lt _
  rw [hb0] at c3 hl0
  have hhi : (h : Int) < 8 := by omega
  have HL := Lib.hid (show ∃ l, Lnk (nx2 u) b0 l ∧ (∀ x ∈ l, EE n u d x) ∧ (l.find? fun x => decide (tnm (u x) = nm)).getD 0 = R from ⟨l0, hl0, fun x hx => (hl2 x hx).1, hR⟩)
  have HT := Lib.hid ht
  clear hl0 hl2 hR hRR hr ht ht' hh' hb0 hd hnm
  go_enter Tryz.func72, Tryz.ntmps72
  go_upto_region 2 with (first
    | (go_at_call 56; refine HTB.out.mono ?_; rintro e w' ⟨rfl, rfl⟩)
    | (go_at_call 57; refine (HHO.out _).mono ?_; rintro e w' ⟨rfl, rfl⟩))
  go_loop [7] (fun s7 => ∃ (b : Nat) (l : List Nat), b < 256 ∧ s7 = .int .i64 (b : Int) ∧ Lnk (nx2 u) b l ∧ (∀ x ∈ l, EE n u d x) ∧ (l.find? fun x => decide (tnm (u x) = nm)).getD 0 = R) (fun s => (lkL (nx2 u) (intOf s).toNat).length)
  case atStart =>
    obtain ⟨l, h1, h2, h3⟩ := HL.out
    exact ⟨b0, l, hb1, rfl, h1, h2, h3⟩
  case round =>
    obtain ⟨b, l, hb, rfl, h1, h2, h3⟩ := hrel
    by_cases h0 : b = 0
    · subst h0
      obtain rfl := h1.zero
      have h4 : R = 0 := h3.symm
      clear h1 h2 h3 c2 c3
      subst h4
      go_wp2_with fail
      go_ret
      exact ⟨rfl, rfl⟩
    · obtain ⟨l', rfl, h5⟩ := h1.step h0
      have hE := h2 b List.mem_cons_self
      have hbn := hE.lt
      have k2 := HT.out.blk hbn
      have hr := HT.out.row hbn
      have HNO := Lib.hid (nameOf_any hr (HT.out.2 b hbn))
      have t0 : ((b : Int) != 0) = true := by simp; omega
      have k3 := hr.cell (i := 2) (by omega)
      obtain ⟨b2, hb2⟩ : ∃ b', (u b 2).toNat = b' := ⟨_, rfl⟩
      have hb3 : b2 < 256 := by rw [← hb2]; exact UInt8.toNat_lt _
      have hx : nx2 u b = b2 := hb2
      rw [hb2] at k3
      rw [hx] at h5
      obtain ⟨y, hy⟩ : ∃ y, tnm (u b) = y := ⟨_, rfl⟩
      rw [hy] at HNO
      have hki : (b : Int) < (n : Int) := by omega
      by_cases hq : y = nm
      · have h4 : R = b := by
          rw [← h3, List.find?_cons, hy]
          simp [hq]
        clear h1 h2 h3 h5 hE hr hx hb2 hy
        subst h4
        subst hq
        go_wp2_with (go_at_call 67; refine HNO.out.mono ?_; rintro e w' ⟨rfl, rfl⟩)
        go_ret
        exact ⟨rfl, rfl⟩
      · have h6 : (l'.find? fun x => decide (tnm (u x) = nm)).getD 0 = R := by
          rw [← h3, List.find?_cons, hy]
          simp [hq]
        have q1 : (y.toList == nm.toList) = false := str_eq_false hq
        have q2 : (y.toList != nm.toList) = true := by unfold bne; rw [q1]; rfl
        have HG := Lib.hid (show (∀ x ∈ l', EE n u d x) ∧ (l'.find? fun x => decide (tnm (u x) = nm)).getD 0 = R from ⟨fun x hx => h2 x (List.mem_cons_of_mem _ hx), h6⟩)
        have H5 := Lib.hid h5
        have H1 := Lib.hid h1
        clear h1 h2 h3 h5 hE hr hx hb2 hy h6
        go_wp2_with (go_at_call 67; refine HNO.out.mono ?_; rintro e w' ⟨rfl, rfl⟩)
        go_round
        case rel => exact ⟨b2, l', hb3, by go_num, H5.out, HG.out.1, HG.out.2⟩
        case measure =>
          rw [lkLen H1.out]
          have := lkLen H5.out
          simp only [this, List.length_cons]
          omega
set_option maxHeartbeats 4000000 in
theorem folder_any {w : World} {gp gr n B m c : Nat} {bl cp : Nat → Nat} {u : Nat → Nat → UInt8} {A : Option Addr} {N : List ByteArray} (ht : TreD w gp gr n B bl cp u) (h0 : 0 < n) (hn : n ≤ 128) (hd : DD n u 0) (hm : m = N.length) (hm2 : m ≤ 1000) (hN : ∀ x ∈ N, x.size ≤ 1048576) (hs : Sl w w.heap.size A m (fun i => .string (N.getD i ⟨#[]⟩))) :
    Calls Tryz.prog 66 #[.pointer (some ⟨gp, 0, none⟩), .slice A m c] w fun e w' => e = .returned (.tuple #[.int .i64 ((if (tFold u N 0).2 = 0 then (tFold u N 0).1 else 0 : Nat) : Int), .int .i64 ((tFold u N 0).2 : Nat)]) ∧ w = w' := by
  obtain ⟨R, hR⟩ : ∃ R, tFold u N 0 = R := ⟨_, rfl⟩
  rw [hR]
  have HR := Lib.hid hR
  have HT := Lib.hid ht
  have HD := Lib.hid hd
  have HM := Lib.hid hm
  have HN := Lib.hid hN
  have HS := Lib.hid hs
  obtain ⟨cap, c1⟩ := ht.ptr
  clear hR ht hd hm hN hs
  go_enter Tryz.func66, Tryz.ntmps66
  go_wp2_with fail
  go_loop [6, 11] (fun s6 s11 => ∃ (k d : Nat), k ≤ m ∧ s11 = .int .i64 (k : Int) ∧ s6 = .int .i64 (d : Int) ∧ DD n u d ∧ tFold u (N.drop k) d = R) (fun _ s => m - (intOf s).toNat)
  case atStart => exact ⟨0, 0, by omega, rfl, rfl, HD.out, HR.out⟩
  case round =>
    obtain ⟨k, d, hk, rfl, rfl, hdd, hf⟩ := hrel
    by_cases hlt : k < m
    · have hki : (k : Int) < (m : Int) := by omega
      obtain ⟨ba, oa, hA, hbl, hca⟩ := HS.out k hlt
      subst hA
      have hdn := hdd.1
      have hkN : k < N.length := by rw [← HM.out]; exact hlt
      obtain ⟨x, hx⟩ : ∃ x, N.getD k ⟨#[]⟩ = x := ⟨_, rfl⟩
      have hx2 : N[k] = x := by rw [← hx, List.getD_eq_getElem?_getD, List.getElem?_eq_getElem hkN]; rfl
      dsimp only at hca
      rw [hx] at hca
      have hsz : x.size ≤ 1048576 := HN.out x (by rw [← hx2]; exact List.getElem_mem hkN)
      rw [List.drop_eq_getElem_cons hkN, hx2, tFold] at hf
      have HLK := Lib.hid (look_any HT.out hn hdd hsz)
      have hee := lookU_ee hdd x
      obtain ⟨b, hb⟩ : ∃ b, lookU u d x = b := ⟨_, rfl⟩
      rw [hb] at HLK hee hf
      clear hx hx2 hb hdd
      by_cases hb0 : b = 0
      · rw [if_pos hb0] at hf
        subst hb0 hf
        clear hee
        go_wp2_with (go_at_call 72; refine HLK.out.mono ?_; rintro e w' ⟨rfl, rfl⟩)
        go_ret2
        exact ⟨rfl, rfl⟩
      · rw [if_neg hb0] at hf
        have hE : EE n u d b := hee.resolve_left hb0
        have hbn := hE.lt
        have t0 : ((b : Int) == 0) = false := by simp; omega
        have hbi : (b : Int) < (n : Int) := by omega
        have k2 := HT.out.blk hbn
        have k3 := (HT.out.row hbn).cell (i := 0) (by omega)
        obtain ⟨y, hy⟩ : ∃ y, (u b 0).toNat = y := ⟨_, rfl⟩
        have hy2 : y < 256 := by rw [← hy]; exact UInt8.toNat_lt _
        rw [hy] at k3
        by_cases h4 : u b 0 = 4
        · rw [if_pos h4] at hf
          have hy4 : y = 4 := by rw [← hy, h4]; rfl
          subst hy4
          have HDB := Lib.hid (hE.dir h4)
          have HF := Lib.hid hf
          clear hf hE hee h4 hy
          go_wp2_with (go_at_call 72; refine HLK.out.mono ?_; rintro e w' ⟨rfl, rfl⟩)
          go_round
          case rel => exact ⟨k + 1, b, by omega, by go_num, rfl, HDB.out, HF.out⟩
          case measure => simp [intOf]; omega
        · rw [if_neg h4] at hf
          have hy4 : y ≠ 4 := fun e => h4 ((u8_is 4 hy).2 e)
          have t4 : ((y : Int) != 4) = true := by simp; omega
          subst hf
          clear hE hee h4 hy
          go_wp2_with (go_at_call 72; refine HLK.out.mono ?_; rintro e w' ⟨rfl, rfl⟩)
          go_ret2
          exact ⟨rfl, rfl⟩
    · obtain rfl : k = m := by omega
      rw [List.drop_eq_nil_of_le (by rw [HM.out]; exact Nat.le_refl _), tFold] at hf
      subst hf
      go_wp2_with fail
      go_ret2
      exact ⟨rfl, rfl⟩
end Go.Proofs.YtiefcgmghkkbmaaGreatDoor
