/-
  Trees: the program's tops: access, free, FreeTree.
-/
import Derived.Test.YtiefcgmghkkbmaaGreatDoorTreWk
import Derived.Test.YtiefcgmghkkbmaaGreatDoorTreB5
import Derived.Test.YtiefcgmghkkbmaaGreatDoorXmPush
namespace Go.Proofs.YtiefcgmghkkbmaaGreatDoor
open Go Go.ChangeShapes Go.WideShapes Go.ChangeAt Go.RowKit lib
set_option linter.unusedVariables false
set_option linter.unusedSimpArgs false
set_option maxRecDepth 100000
/-- the free blocks -/
def tFreeL (u : Nat → UInt8) (k : Nat) : List Nat := (List.range k).filter (fun k => !tBit u k)
theorem tFreeL_yes {u : Nat → UInt8} {k : Nat} (h : tBit u k = false) : tFreeL u (k + 1) = tFreeL u k ++ [k] := by
  unfold tFreeL
  rw [List.range_succ, List.filter_append]
  simp [h]
theorem tFreeL_no {u : Nat → UInt8} {k : Nat} (h : tBit u k = true) : tFreeL u (k + 1) = tFreeL u k := by
  unfold tFreeL
  rw [List.range_succ, List.filter_append]
  simp [h]
theorem tFreeL_le (u : Nat → UInt8) (k : Nat) : (tFreeL u k).length ≤ k := by
  unfold tFreeL
  exact Nat.le_trans (List.length_filter_le _ _) (by simp)
theorem infoI64T : (Tryz.prog.info? 2).map (fun i => (i.zero, i.size, i.bytes)) = some (some (.int .i64 0), 1, 8) := by kernel_rfl
set_option maxHeartbeats 4000000 in
theorem freeL_any {w : World} {gp gr n B : Nat} {bl cp : Nat → Nat} {u : Nat → Nat → UInt8} (ht : TreD w gp gr n B bl cp u) (h0 : 0 < n) (hn : n ≤ 128) :
    Calls Tryz.prog 64 #[.pointer (some ⟨gp, 0, none⟩)] w fun e w' => ∃ A c, e = .returned (.slice A (tFreeL (u 0) n).length c) ∧ w'.ownsRow w.heap.size 2 1 (.slice A (tFreeL (u 0) n).length c) (tFreeL (u 0) n).length ((tFreeL (u 0) n).map fun (k : Nat) => Value.int .i64 (k : Int)) ∧ Below w.heap.size w w' := by
  obtain ⟨cap, k2⟩ := ht.ptr
  have HSZ := Lib.hid (fun W => sizeBl_any (some ⟨gr, 0, none⟩) n cap W (by omega))
  have HT := Lib.hid ht
  clear ht
  go_enter Tryz.func64, Tryz.ntmps64
  go_wp2_with (go_at_call 93; refine (HSZ.out _).mono ?_; rintro e w' ⟨rfl, hw'⟩; rw [hw']; clear hw' w')
  go_loopw [3, 10] (fun s3 s10 wr => ∃ (k : Nat) (A : Option Addr) (c : Nat), k ≤ n ∧ s10 = .int .i64 k ∧ s3 = .slice A (tFreeL (u 0) k).length c ∧ wr.ownsRow w.heap.size 2 1 (.slice A (tFreeL (u 0) k).length c) (tFreeL (u 0) k).length ((tFreeL (u 0) k).map fun (k : Nat) => Value.int .i64 (k : Int)) ∧ Below w.heap.size w wr) (fun _ s _ => n - (intOf s).toNat)
  case atStart => exact ⟨0, none, 0, by omega, rfl, rfl, World.ownsRow_nil _ _ _ _, Below.refl _ _⟩
  case round =>
    obtain ⟨k, A, c, hk, rfl, rfl, ho, hb⟩ := hrel
    have HO := Lib.hid ho
    have HB := Lib.hid hb
    have hzr : w.heap.size ≤ wr.heap.size := hb.size
    have htr := HT.out.below hb
    have hfl := tFreeL_le (u 0) k
    by_cases hlt : k < n
    · have hki : (k : Int) < (n : Int) := by omega
      have HMK := Lib.hid (marked_any htr h0 (show k < 128 by omega))
      have HY := Lib.hid (tFreeL_yes (u := u 0) (k := k))
      have HN := Lib.hid (tFreeL_no (u := u 0) (k := k))
      clear ho hb htr
      cases hbt : tBit (u 0) k with
      | true =>
        have HE := Lib.hid (HN.out hbt)
        rw [hbt] at HMK
        clear hbt
        go_wp2_with (go_at_call 89; refine HMK.out.mono ?_; rintro e w' ⟨rfl, rfl⟩)
        go_roundw
        case rel => exact ⟨k + 1, A, c, by omega, by go_num, by rw [HE.out], by rw [HE.out]; exact HO.out, HB.out⟩
        case measure => simp [intOf]; omega
      | false =>
        have HE := Lib.hid (HY.out hbt)
        rw [hbt] at HMK
        clear hbt
        obtain ⟨L, hL⟩ : ∃ L, (tFreeL (u 0) k).length = L := ⟨_, rfl⟩
        obtain ⟨xs, hxs⟩ : ∃ xs, (tFreeL (u 0) k).map (fun (k : Nat) => Value.int .i64 (k : Int)) = xs := ⟨_, rfl⟩
        rw [hL] at HO hfl ⊢
        rw [hxs] at HO
        have HL := Lib.hid hL
        have HXS := Lib.hid hxs
        clear hL hxs
        go_wp2_with (first
          | (go_at_call 89; refine HMK.out.mono ?_; rintro e w' ⟨rfl, rfl⟩)
          | (at_builtin; refine wpList_pushT (.tmp 17) (.tmp 19) 91 w.heap.size 2 (.int .i64 0) [.int .i64 (k : Int)] 1 8 _ L _ HO.out rfl rfl Tryz.underlying91 infoI64T rfl (by omega) rfl rfl rfl rfl (by intro u hu; simp at hu; subst hu; rfl) (by omega) (by omega) hzr ?_; intro A4 c4 w4 ho4 hg4))
        have hb4 : Below w.heap.size w w4 := HB.out.trans (below_grown hg4 (fun j e => (HO.out.lt j e).1) hzr)
        go_roundw
        case rel => exact ⟨k + 1, some A4, c4, by omega, by go_num, by rw [HE.out, List.length_append, HL.out]; rfl, by rw [HE.out, List.length_append, HL.out, List.map_append, HXS.out]; exact ho4, hb4⟩
        case measure => simp [intOf]; omega
    · obtain rfl : k = n := by omega
      clear ho hb htr
      go_wp2_with fail
      go_ret
      exact ⟨A, c, rfl, HO.out, HB.out⟩
open Classical in
/-- the code of a disk -/
noncomputable def tCode (n : Nat) (s : Nat → ByteArray) : Nat := if 4 ≤ n ∧ n ≤ 128 ∧ ∀ i, i < n → (s i).size = 32 then (if (tWalk n (fun i => byteAt (s i))).pr.length = 0 then 0 else 10) else 1
def AccOut (n : Nat) (s : Nat → ByteArray) (u : Nat → Nat → UInt8) (w : World) (code : Nat) (e : Ending) (w' : World) : Prop :=
  Below w.heap.size w w' ∧ ((code ≠ 0 ∧ e = .returned (.tuple #[.pointer none, .int .i64 (code : Int)])) ∨ (code = 0 ∧ ∃ gp gr bl cp, e = .returned (.tuple #[.pointer (some ⟨gp, 0, none⟩), .int .i64 0]) ∧ TreD w' gp gr n w.heap.size bl cp u))
set_option maxHeartbeats 4000000 in
theorem access_any {w : World} {A : Option Addr} {n c : Nat} {s : Nat → ByteArray} (hm : n ≤ 1048576) (hs : Sl w w.heap.size A n (fun i => .string (s i))) :
    Calls Tryz.prog 48 #[.slice A n c, .bool true] w (AccOut n s (fun i => byteAt (s i)) w (tCode n s)) := by
  by_cases hd : 4 ≤ n ∧ n ≤ 128 ∧ ∀ i, i < n → (s i).size = 32
  · have HI := Lib.hid (implIsTree_any A n c s hm hs true ⟨fun _ => hd, fun _ => rfl⟩)
    have HOP := Lib.hid (openTree_any A n c s hd.1 hd.2.1 hs hd.2.2)
    have h4 := hd.1
    have hn := hd.2.1
    have hcode : tCode n s = if (tWalk n (fun i => byteAt (s i))).pr.length = 0 then 0 else 10 := by
      unfold tCode
      rw [if_pos hd]
    obtain ⟨u, hu⟩ : ∃ u : Nat → Nat → UInt8, (fun i => byteAt (s i)) = u := ⟨_, rfl⟩
    rw [hu] at hcode HOP ⊢
    obtain ⟨L, hL⟩ : ∃ L, (tWalk n u).pr.length = L := ⟨_, rfl⟩
    rw [hL] at hcode
    have HL := Lib.hid hL
    obtain ⟨code, hc⟩ : ∃ k, tCode n s = k := ⟨_, rfl⟩
    rw [hc] at hcode ⊢
    have HC := Lib.hid hcode
    clear hd hs hu hL hc hcode
    go_enter Tryz.func48, Tryz.ntmps48
    go_upto_region 4 with (first
      | (go_at_call 36; refine HI.out.mono ?_; rintro e w' ⟨rfl, hw'⟩; rw [hw']; clear hw' w')
      | (go_at_call 37; refine HOP.out.mono ?_; rintro e w2 ⟨gp, gr, bl, cp, rfl, ht, hb2⟩))
    have HWK := Lib.hid (walk_any ht h4 hn)
    have HB2 := Lib.hid hb2
    clear ht hb2
    by_cases h0 : L = 0
    · subst h0
      obtain rfl : code = 0 := by have := HC.out; rw [if_pos rfl] at this; exact this
      go_wp2_with (go_at_call 41; refine HWK.out.mono ?_; rintro e w3 ⟨q, m, R, rfl, hw3, hpr, hit, hb3⟩; obtain ⟨A1, c1, A2, c2, r1, r2, r3⟩ := hw3.rows; have k3 := r1.cell 2; rw [hpr, HL.out] at k3; have HW3 := Lib.hid hw3; have HB3 := Lib.hid hb3; clear r1 r2 r3 hw3 hb3 hpr hit)
      go_ret2
      exact ⟨HB2.out.trans (HB3.out.mono HB2.out.size), .inr ⟨rfl, _, _, _, _, rfl, HW3.out.tree⟩⟩
    · have hLi : (0 : Int) < (L : Int) := by omega
      have t1 : decide ((0 : Int) < (L : Int)) = true := by simp; omega
      obtain rfl : code = 10 := by have := HC.out; rw [if_neg h0] at this; exact this
      go_wp2_with (go_at_call 41; refine HWK.out.mono ?_; rintro e w3 ⟨q, m, R, rfl, hw3, hpr, hit, hb3⟩; obtain ⟨A1, c1, A2, c2, r1, r2, r3⟩ := hw3.rows; have k3 := r1.cell 2; rw [hpr, HL.out] at k3; have HW3 := Lib.hid hw3; have HB3 := Lib.hid hb3; clear r1 r2 r3 hw3 hb3 hpr hit)
      go_ret2
      exact ⟨HB2.out.trans (HB3.out.mono HB2.out.size), .inl ⟨by omega, rfl⟩⟩
  · have HI := Lib.hid (implIsTree_any A n c s hm hs false ⟨fun h => (by cases h), fun h => absurd h hd⟩)
    have hc : tCode n s = 1 := by
      unfold tCode
      rw [if_neg hd]
    rw [hc]
    clear hd hs hc
    go_enter Tryz.func48, Tryz.ntmps48
    go_wp2_with (go_at_call 36; refine HI.out.mono ?_; rintro e w' ⟨rfl, hw'⟩; rw [hw']; clear hw' w')
    go_ret2
    exact ⟨Below.refl _ _, .inl ⟨by omega, rfl⟩⟩
theorem tCode_zero {n : Nat} {s : Nat → ByteArray} (h : tCode n s = 0) : (4 ≤ n ∧ n ≤ 128 ∧ ∀ i, i < n → (s i).size = 32) ∧ (tWalk n (fun i => byteAt (s i))).pr.length = 0 := by
  unfold tCode at h
  by_cases h1 : 4 ≤ n ∧ n ≤ 128 ∧ ∀ i, i < n → (s i).size = 32
  · rw [if_pos h1] at h
    by_cases h2 : (tWalk n (fun i => byteAt (s i))).pr.length = 0
    · exact ⟨h1, h2⟩
    · rw [if_neg h2] at h; cases h
  · rw [if_neg h1] at h; cases h
theorem tCode_le (n : Nat) (s : Nat → ByteArray) : tCode n s ≤ 10 := by
  unfold tCode
  split
  · split <;> omega
  · omega
end Go.Proofs.YtiefcgmghkkbmaaGreatDoor
