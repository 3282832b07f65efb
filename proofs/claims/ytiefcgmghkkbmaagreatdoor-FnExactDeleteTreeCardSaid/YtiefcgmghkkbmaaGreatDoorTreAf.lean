/-
  Trees: FreeTree, both sides.
-/
import Derived.Test.YtiefcgmghkkbmaaGreatDoorTreA
import Derived.Test.YtiefcgmghkkbmaaGreatDoorTreSl
import Derived.Test.YtiefcgmghkkbmaaGreatDoorAppR
namespace Go.Proofs.YtiefcgmghkkbmaaGreatDoor
open Go Go.ChangeShapes Go.WideShapes Go.ChangeAt Go.RowKit lib
set_option linter.unusedVariables false
set_option linter.unusedSimpArgs false
set_option maxRecDepth 100000
theorem sizeI64T_any (A : Option Addr) (n c : Nat) (w : World) (hn : n ≤ 9223372036854775807) : Calls Tryz.prog 63 #[.slice A n c] w fun e w' => e = .returned (.int .i64 n) ∧ w' = w := by
  go_enter Tryz.func63, Tryz.ntmps63
  go_wp2
  go_ret
  exact ⟨rfl, rfl⟩
/-- the number of free blocks of a sound disk -/
noncomputable def tFreeN (n : Nat) (s : Nat → ByteArray) : Nat := if tCode n s = 0 then (tFreeL (byteAt (s 0)) n).length else 0
set_option maxHeartbeats 4000000 in
theorem specFreeL_any {w : World} {p n c : Nat} {A : Option Addr} {s : Nat → ByteArray} (hp : w.cell? ⟨p, 0, none⟩ = some (.slice A n c)) (hs : Sl w w.heap.size A n (fun i => .string (s i))) (h0 : 0 < n) (hn : n ≤ 128) (h32 : (s 0).size = 32) :
    Calls Tryz.prog 61 #[.pointer (some ⟨p, 0, none⟩)] w fun e w' => e = .returned (.int .i64 ((tFreeL (byteAt (s 0)) n).length : Nat)) ∧ w = w' := by
  obtain ⟨ba, oa, hA, hbl, hca⟩ := hs 0 h0
  subst hA
  dsimp only at hca
  rw [Nat.add_zero] at hca
  obtain ⟨x, hx⟩ : ∃ x, s 0 = x := ⟨_, rfl⟩
  rw [hx] at hca h32 ⊢
  have HBT := Lib.hid (fun (k : Nat) (hk : k < 128) (W : World) => bit_any x k h32 hk W)
  have hn0 : (0 : Int) < (n : Int) := by omega
  clear hs hx hbl
  go_enter Tryz.func61, Tryz.ntmps61
  go_wp2_with fail
  go_loop [3, 4] (fun s3 s4 => ∃ k : Nat, k ≤ n ∧ s4 = .int .i64 k ∧ s3 = .int .i64 ((tFreeL (byteAt x) k).length : Nat)) (fun _ s => n - (intOf s).toNat)
  case atStart => exact ⟨0, by omega, rfl, rfl⟩
  case round =>
    obtain ⟨k, hk, rfl, rfl⟩ := hrel
    have hfl := tFreeL_le (byteAt x) k
    by_cases hlt : k < n
    · have hki : (k : Int) < (n : Int) := by omega
      have HB := Lib.hid (HBT.out k (by omega))
      have HY := Lib.hid (tFreeL_yes (u := byteAt x) (k := k))
      have HN := Lib.hid (tFreeL_no (u := byteAt x) (k := k))
      cases hbt : tBit (byteAt x) k with
      | true =>
        have HE := Lib.hid (HN.out hbt)
        rw [hbt] at HB
        clear hbt
        go_wp2_with (go_at_call 80; refine (HB.out _).mono ?_; rintro e w' ⟨rfl, rfl⟩)
        go_round
        case rel => exact ⟨k + 1, by omega, by go_num, by rw [HE.out]⟩
        case measure => simp [intOf]; omega
      | false =>
        have HE := Lib.hid (HY.out hbt)
        rw [hbt] at HB
        clear hbt
        obtain ⟨F, hF⟩ : ∃ F, (tFreeL (byteAt x) k).length = F := ⟨_, rfl⟩
        rw [hF] at hfl ⊢
        have HF := Lib.hid hF
        clear hF
        go_wp2_with (go_at_call 80; refine (HB.out _).mono ?_; rintro e w' ⟨rfl, rfl⟩)
        go_round
        case rel => exact ⟨k + 1, by omega, by go_num, by rw [HE.out, List.length_append, HF.out]; rfl⟩
        case measure => simp [intOf]; omega
    · obtain rfl : k = n := by omega
      go_wp2_with fail
      go_ret
      exact ⟨rfl, rfl⟩
theorem infoStrT : (Tryz.prog.info? 9).map (fun i => (i.zero, i.size, i.bytes)) = some (some (.string ⟨#[]⟩), 1, 16) := by kernel_rfl
def OpnOut (n : Nat) (s : Nat → ByteArray) (w : World) (code : Nat) (e : Ending) (w' : World) : Prop :=
  Below w.heap.size w w' ∧ ((code ≠ 0 ∧ e = .returned (.tuple #[.pointer none, .int .i64 (code : Int)])) ∨ (code = 0 ∧ ∃ (p : Nat) (A : Option Addr) (c : Nat), e = .returned (.tuple #[.pointer (some ⟨p, 0, none⟩), .int .i64 0]) ∧ Row w' p 40 #[.slice A n c] ∧ w'.ownsRow w.heap.size 9 1 (.slice A n c) n ((List.range n).map fun (i : Nat) => Value.string (s i))))
set_option maxHeartbeats 4000000 in
theorem sopen_any {w : World} {A : Option Addr} {n c : Nat} {s : Nat → ByteArray} (hm : n ≤ 1048576) (hs : Sl w w.heap.size A n (fun i => .string (s i))) :
    Calls Tryz.prog 46 #[.slice A n c] w (OpnOut n s w (tCode n s)) := by
  by_cases hd : 4 ≤ n ∧ n ≤ 128 ∧ ∀ i, i < n → (s i).size = 32
  · have HI := Lib.hid (specDisk_any A n c s hm hs true ⟨fun _ => hd, fun _ => rfl⟩)
    have hok : ∃ ok : Bool, ok = true ↔ tRootP n (fun i => byteAt (s i)) = 0 := by
      open Classical in
      exact ⟨decide _, decide_eq_true_iff⟩
    obtain ⟨ok, hok⟩ := hok
    have HLO := Lib.hid (slook18_any (c := c) (u := fun i => byteAt (s i)) rfl hs hd.1 hd.2.1 hd.2.2 ok hok)
    have h4 := hd.1
    have hn := hd.2.1
    have hcode : tCode n s = if (tWalk n (fun i => byteAt (s i))).pr.length = 0 then 0 else 10 := by
      unfold tCode
      rw [if_pos hd]
    obtain ⟨T, hT⟩ : ∃ T, tWalk n (fun i => byteAt (s i)) = T := ⟨_, rfl⟩
    rw [hT] at hcode HLO
    obtain ⟨L, hL⟩ : ∃ L, T.pr.length = L := ⟨_, rfl⟩
    rw [hL] at hcode
    have HL := Lib.hid hL
    obtain ⟨code, hc⟩ : ∃ k, tCode n s = k := ⟨_, rfl⟩
    rw [hc] at hcode ⊢
    have HC := Lib.hid hcode
    obtain ⟨i0, hi0, hi1, hi2, hi3⟩ := info_parts infoStrT
    have I0 := Lib.hid hi0
    have I1 := Lib.hid hi1
    have I2 := Lib.hid hi2
    have I3 := Lib.hid hi3
    clear hd hs hL hc hcode hok hT hi0 hi1 hi2 hi3
    go_enter Tryz.func46, Tryz.ntmps46
    go_upto_region 4 with (first
      | (go_at_call 31; refine HI.out.mono ?_; rintro e w' ⟨rfl, rfl⟩)
      | (go_at_call 32; refine HLO.out.mono ?_; rintro e w2 ⟨q, gs, R, rfl, hw2, hpr, hit, hb2⟩))
    obtain ⟨A1, c1, A2, c2, cs, r1, r2, r3⟩ := hw2.rows
    have k3 := r1.cell 3
    rw [hpr, HL.out] at k3
    have HSL := Lib.hid hw2.disk
    have HB2 := Lib.hid hb2
    have hz2 : w.heap.size ≤ w2.heap.size := hb2.size
    clear r1 r2 r3 hw2 hpr hit hb2
    by_cases h0 : L = 0
    · subst h0
      obtain rfl : code = 0 := by have := HC.out; rw [if_pos rfl] at this; exact this
      have ho : (w2.alloc (.cells #[] 9)).ownsRow w.heap.size 9 1 (.slice (some ⟨w2.heap.size, 0, none⟩) 0 0) 0 [] := own_nilE w2 _ 1 _ hz2
      have HO := Lib.hid ho
      have hb3 := (Below.refl w2.heap.size w2).alloc (Nat.le_refl _) (.cells #[] 9)
      have HB3 := Lib.hid hb3
      have hsl3 : Sl (w2.alloc (.cells #[] 9)) w.heap.size A n (fun i => .string (s i)) := HSL.out.below (hb3.mono hz2)
      have HS3 := Lib.hid (show Sl (w2.alloc (.cells #[] 9)) w.heap.size A (n * 1) (fun i => .string (s i)) by rw [Nat.mul_one]; exact hsl3)
      clear ho hb3 hsl3
      go_wp2_with (at_builtin; refine wpList_appR rfl (.tmp 20) (.tmp 21) 22 rfl w.heap.size 9 i0 (.string ⟨#[]⟩) 1 16 Tryz.underlying22 I0.out I1.out I2.out I3.out rfl (by omega) _ 0 _ (by rfl) HO.out A n c w.heap.size (fun i => .string (s i)) (by rfl) HS3.out (fun _ => rfl) (by simp only [maxLen]; omega) (by omega) (by simp; omega) ?_; intro A7 c7 w7 ho7 hg7 hown7)
      go_ret2
      rw [Nat.zero_add, List.nil_append, Nat.mul_one] at ho7
      have hb7 : Below w.heap.size w w7 := (HB2.out.trans (HB3.out.mono hz2)).trans (below_grown hg7 (fun j e => (HO.out.lt j e).1) (by simp; omega))
      have hb8 := (Below.refl w7.heap.size w7).alloc (Nat.le_refl _) (.cells #[.slice A7 n c7] 40)
      exact ⟨hb7.trans (hb8.mono hb7.size), .inr ⟨rfl, _, A7, c7, rfl, Row.new _ _ _, own_below ho7 hb8⟩⟩
    · have t1 : decide ((0 : Int) < (L : Int)) = true := by simp; omega
      obtain rfl : code = 10 := by have := HC.out; rw [if_neg h0] at this; exact this
      go_wp2_with fail
      go_ret2
      exact ⟨HB2.out, .inl ⟨by omega, rfl⟩⟩
  · have HI := Lib.hid (specDisk_any A n c s hm hs false ⟨fun h => (by cases h), fun h => absurd h hd⟩)
    have hc : tCode n s = 1 := by
      unfold tCode
      rw [if_neg hd]
    rw [hc]
    clear hd hs hc
    go_enter Tryz.func46, Tryz.ntmps46
    go_wp2_with (go_at_call 31; refine HI.out.mono ?_; rintro e w' ⟨rfl, rfl⟩)
    go_ret2
    exact ⟨Below.refl _ _, .inl ⟨by omega, rfl⟩⟩
end Go.Proofs.YtiefcgmghkkbmaaGreatDoor
