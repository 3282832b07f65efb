/-
  A text in hexadecimal digits, both sides.
-/
import Derived.Test.YtdofpkdemmngeaaName
import Derived.Test.YtdofpkdemmngeaaBase
import Derived.Deep.RegionLaw
import Derived.Deep.AppendLies
namespace Go.Proofs.Ytdofpkdemmngeaa
open Go Go.ChangeShapes Go.WideShapes Go.ChangeAt Go.RowKit lib
set_option linter.unusedVariables false
set_option maxRecDepth 100000
/-- a digit -/
def hexD (x : Nat) : UInt8 := byteAt ⟨#[48, 49, 50, 51, 52, 53, 54, 55, 56, 57, 97, 98, 99, 100, 101, 102]⟩ x
/-- the digits of a text -/
def hexV (s : ByteArray) (j : Nat) : UInt8 := if j % 2 = 0 then hexD ((byteAt s (j / 2)).toNat / 16) else hexD ((byteAt s (j / 2)).toNat % 16)
def hexS (s : ByteArray) : ByteArray := bstr (2 * s.size) (hexV s)
theorem news2 (w : World) (e : Nat) (x y : Value) : ∀ (j : Nat) (q : Value), [x, y][j]? = some q → ((w.alloc (.cells #[x, y] e)).drew).cell? ((⟨w.heap.size, 0, none⟩ : Addr).add j) = some q := by
  intro j q h
  match j with
  | 0 => simp at h; subst h; exact World.cell?_alloc_new w #[x, y] e 0
  | 1 => simp at h; subst h; exact World.cell?_alloc_new w #[x, y] e 1
  | j + 2 => simp at h
theorem and15 (y : Nat) (hy : y < 256) : bits BinOp.and IntKind.u8 (y : Int) 15 = (y : Int) % 16 := by
  have h : ∀ z : Fin 256, bits BinOp.and IntKind.u8 ((z.val : Nat) : Int) 15 = ((z.val : Nat) : Int) % 16 := by decide
  exact h ⟨y, hy⟩
set_option maxHeartbeats 1000000 in
theorem implHex_any (s : ByteArray) (hs : s.size ≤ 1048576) (w : World) : Calls Try.prog 26 #[.string s] w fun e w' => e = .returned (.string (hexS s)) ∧ Below w.heap.size w w' := by
  obtain ⟨i0, hi0, hi1, hi2, hi3⟩ := info_parts (show (Try.prog.info? 5).map (fun i => (i.zero, i.size, i.bytes)) = some (some (.int .u8 0), 1, 1) by kernel_rfl)
  obtain ⟨N2, hN2⟩ : ∃ N2, 2 * s.size = N2 := ⟨_, rfl⟩
  obtain ⟨W1, hmk, hown, hgr⟩ := run_make_own (P := Try.prog) (w := w) w.heap.size 22 5 i0 _ 1 Try.underlying22 hi0 hi1 hi2 .i64 .i64 N2 (by rw [hi3]; omega) (by simp only [maxLen]; omega) (Nat.le_refl _)
  have e1 : (2 : Int) * (s.size : Int) = (N2 : Int) := by omega
  have e2 : IntKind.i64.wrap (N2 : Int) = (N2 : Int) := by rw [IntKind.wrap_i64]; omega
  have HO := Lib.hid hown
  have HB := Lib.hid (below_grown hgr (fun k e => by cases e) (Nat.le_refl w.heap.size))
  clear hown hgr
  go_enter Try.func26, Try.ntmps26
  go_wp2_with fail
  go_loopw [3, 11] (fun s3 s11 wr => ∃ (k : Nat) (A : Option Addr) (c' : Nat), k ≤ s.size ∧ s3 = .slice A (2 * k) c' ∧ s11 = .int .i64 k ∧ wr.ownsRow w.heap.size 5 1 (.slice A (2 * k) c') (2 * k) ((List.range (2 * k)).map fun (j : Nat) => Value.int .u8 ((hexV s j).toNat : Int)) ∧ Below w.heap.size w wr) (fun _ i _ => s.size - (intOf i).toNat)
  case atStart => exact ⟨0, _, _, by omega, rfl, rfl, HO.out, HB.out⟩
  case round =>
    obtain ⟨k, A, c', hk, rfl, rfl, ho, hb⟩ := hrel
    have HOR := Lib.hid ho
    have HBR := Lib.hid hb
    have hbz := hb.size
    clear hmk hN2 e1 e2
    by_cases hlt : k < s.size
    · have hik := byteAt_get s k hlt
      have hv0 : hexV s (2 * k) = hexD ((byteAt s k).toNat / 16) := by unfold hexV; rw [if_pos (by omega), show 2 * k / 2 = k by omega]
      have hv1 : hexV s (2 * k + 1) = hexD ((byteAt s k).toNat % 16) := by unfold hexV; rw [if_neg (by omega), show (2 * k + 1) / 2 = k by omega]
      obtain ⟨y, hy⟩ : ∃ y, (byteAt s k).toNat = y := ⟨_, rfl⟩
      have hy8 : y < 256 := by rw [← hy]; exact UInt8.toNat_lt _
      rw [hy] at hv0 hv1
      obtain ⟨h, hh⟩ : ∃ h, y / 16 = h := ⟨_, rfl⟩
      obtain ⟨m, hm⟩ : ∃ m, y % 16 = m := ⟨_, rfl⟩
      have f1 : (y : Int) / 16 = (h : Int) := by omega
      have f2 : (y : Int) % 16 = (m : Int) := by omega
      have f3 : bits BinOp.and IntKind.u8 (y : Int) 15 = (m : Int) := by rw [and15 y hy8]; exact f2
      have h16 : h < 16 := by omega
      have m16 : m < 16 := by omega
      have c0 : (0 : Int) ≤ (h : Int) ∧ (h : Int) < 16 := by omega
      have c1 : (0 : Int) ≤ (m : Int) ∧ (m : Int) < 16 := by omega
      rw [hh] at hv0
      rw [hm] at hv1
      have d0 : (⟨#[48, 49, 50, 51, 52, 53, 54, 55, 56, 57, 97, 98, 99, 100, 101, 102]⟩ : ByteArray)[h]'h16 = hexD h := byteAt_get ⟨#[48, 49, 50, 51, 52, 53, 54, 55, 56, 57, 97, 98, 99, 100, 101, 102]⟩ h h16
      have d1 : (⟨#[48, 49, 50, 51, 52, 53, 54, 55, 56, 57, 97, 98, 99, 100, 101, 102]⟩ : ByteArray)[m]'m16 = hexD m := byteAt_get ⟨#[48, 49, 50, 51, 52, 53, 54, 55, 56, 57, 97, 98, 99, 100, 101, 102]⟩ m m16
      have HV0 := Lib.hid hv0
      have HV1 := Lib.hid hv1
      clear hh hm hv0 hv1
      clear ho hb
      go_wp2_with fail
      go_region_law ((refine step_append_lies _ (by rfl) _ _ _ (by rfl) w.heap.size 5 i0 _ 1 1 Try.underlying22 hi0 hi1 hi2 hi3 rfl (by omega) (.slice A (2 * k) c') (2 * k) _ (by rfl) (((HOR.out.alloc _)).drew) ⟨_, 0, none⟩ 2 2 _ (by rfl) (by rfl) (news2 _ _ _ _) (by simp [Value.oneCell']) (by omega) (by simp only [maxLen]; omega) (by omega) (by simp; omega) _ rfl ?_; intro gg cap w3 ho3 hgrow hat hlt3))
      all_goals
        go_wp2_with fail
        go_roundw
        case rel => exact ⟨k + 1, some ⟨gg, 0, none⟩, cap, by omega, by rw [show 2 * (k + 1) = 2 * k + 2 by omega], by go_num, by rw [show 2 * (k + 1) = 2 * k + 1 + 1 by omega, List.range_succ, List.range_succ]; simpa [HV0.out, HV1.out] using ho3, ((HBR.out.alloc hbz (.cells #[.int .u8 ((hexD h).toNat : Int), .int .u8 ((hexD m).toNat : Int)] 5)).drew).grown hgrow (by simp; omega) (own_lt HOR.out)⟩
        case measure => simp [intOf]; omega
    · obtain rfl : k = s.size := by omega
      have hcv : (convert 22 9 (.slice A (2 * s.size) c')).run Try.prog wr = .ok (.string (hexS s)) wr :=
        run_bstr (P := Try.prog) (w := wr) (B := wr.heap.size) 22 9 5 Try.underlying22 Try.underlying5 Try.underlying9 (u := hexV s) (own_slR ho) (fun hA => by
          rcases Nat.eq_zero_or_pos (2 * s.size) with h0 | h0
          · exact h0
          · obtain ⟨b, o, hA2, _⟩ := own_slR ho 0 h0
            rw [hA] at hA2
            cases hA2)
      clear ho hb
      go_wp2_with fail
      go_ret
      exact ⟨rfl, HBR.out⟩
theorem own_nil00 (w : World) (e : Nat) : (w.alloc (.cells #[] e)).ownsRow w.heap.size e 1 (.slice (some ⟨w.heap.size, 0, none⟩) 0 0) 0 [] := ⟨rfl, .inr ⟨w.heap.size, 0, #[], rfl, Nat.le_refl _, heap_alloc_new w _, Nat.le_refl _, by simp [maxLen], rfl, rfl⟩⟩
end Go.Proofs.Ytdofpkdemmngeaa
