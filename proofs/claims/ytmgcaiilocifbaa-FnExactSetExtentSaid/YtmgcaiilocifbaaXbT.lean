/-
  Disks of extents: the bytes of an entry on a disk; a title; both sides.
-/
import Derived.Test.YtmgcaiilocifbaaXoT
import Derived.Test.YtmgcaiilocifbaaXqP
import Derived.Test.YtmgcaiilocifbaaChS
import Derived.Test.YtmgcaiilocifbaaChF
import Derived.Test.YtmgcaiilocifbaaChA
import Derived.Test.YtmgcaiilocifbaaAppR
import Derived.Deep.DeepCutAuto
namespace Go.Proofs.Ytmgcaiilocifbaa
open Go Go.ChangeShapes Go.WideShapes Go.ChangeAt Go.RowKit lib
set_option linter.unusedVariables false
set_option linter.unusedSimpArgs false
set_option maxRecDepth 100000
theorem implEntryBytesX_any {w : World} {p g n z E t N c : Nat} {u : Nat → UInt8} (k at' : Nat) (h : XW w p g n z E t N c u) (ha : z + k * 16 = at') (hN : at' + 16 ≤ N) (hNb : N ≤ 1048576) (hcN : N ≤ c) (hk : k ≤ 1024) :
    Calls Try.prog 25 #[.pointer (some ⟨p, 0, none⟩), .int .i64 k] w fun r w' => r = .returned (.slice (some ⟨g, at', none⟩) 16 (c - at')) ∧ w' = w := by
  have h1 := h.c1
  have h4 := h.c4
  have e3 : (z : Int) + (k : Int) * 16 = (at' : Int) := by omega
  have e4 : IntKind.i64.wrap (at' : Int) = (at' : Int) := by rw [IntKind.wrap_i64]; omega
  have e5 : IntKind.i64.wrap ((k : Int) * 16) = (k : Int) * 16 := by rw [IntKind.wrap_i64]; omega
  have e6 : IntKind.i64.wrap ((at' : Int) + 16) = (at' : Int) + 16 := by rw [IntKind.wrap_i64]; omega
  have i1 : (0 : Int) ≤ (at' : Int) + 16 := by omega
  have i2 : (at' : Int) + 16 ≤ c := by omega
  have i3 : ((at' : Int) + 16).toNat = at' + 16 := by omega
  have i4 : at' ≤ at' + 16 := by omega
  have i5 : at' + 16 - at' = 16 := by omega
  have i6 : (c = at') = False := by simp; omega
  clear ha
  go_enter Try.func25, Try.ntmps25
  go_wp2
  go_ret
  exact ⟨rfl, rfl⟩
theorem implDiskX_any {w : World} {p g n z E t N c : Nat} {u : Nat → UInt8} (h : XW w p g n z E t N c u) (hN : n * z = N) (hn : n ≤ 128) (hz : z ≤ 32) (hz1 : 1 ≤ z) (hcN : N ≤ c) :
    Calls Try.prog 27 #[.pointer (some ⟨p, 0, none⟩)] w fun r w' => ∃ A c, r = .returned (.slice A n c) ∧ w'.ownsRow w.heap.size 9 1 (.slice A n c) n ((List.range n).map fun i => .string (blkOf z u i)) ∧ Below w.heap.size w w' := by
  have hNb : N ≤ 4096 := by rw [← hN]; exact Nat.mul_le_mul hn hz
  have h1 := h.c1
  have h4 := h.c4
  have HN := Lib.hid hN
  clear hN
  go_enter Try.func27, Try.ntmps27
  go_wp2_with fail
  go_region_with (go_at_call 45; refine ((callsIn_wide (n := 3)).1 (splitBlocks_in 3 (by omega) g n z c N u HN.out hz1 (by omega) (by omega) (by omega) hcN _ h.row.drew)).mono ?_; rintro e w' ⟨A, c', rfl, ho, hb⟩)
  all_goals
    go_wp2
    go_ret
    exact ⟨A, c', rfl, ho, Below.trans (Below.refl _ _).drew hb⟩
theorem bstr_cut (m : Nat) (v : Nat → UInt8) : (bstr (m + 1) v).extract 0 m = bstr m v := by
  rw [Lib.extract_upto]
  unfold bstr
  congr 2
  rw [← List.map_take, List.take_range, Nat.min_eq_left (by omega)]
theorem bvals_one (u : Nat → UInt8) (n : Nat) : bvals u (n + 1) = bvals u n ++ [Value.int .u8 ((u n).toNat : Int)] := by
  unfold bvals
  rw [List.range_succ, List.map_append]
  rfl
theorem own_browX {w : World} {B e N g cap : Nat} {U : Nat → UInt8} (h : w.ownsRow B e 1 (.slice (some ⟨g, 0, none⟩) N cap) N (bvals U N)) (hN : 0 < N) : BRow w e g N U ∧ B ≤ g ∧ N ≤ cap := by
  have hcap : N ≤ cap := by
    rcases h.2 with ⟨e0, _⟩ | ⟨g', cap', cur, hv, _, _, hn, _⟩
    · cases e0
    · injection hv with _ _ hc
      rw [hc]; exact hn
  obtain ⟨g', cs, hA, hB, hr, hsz, hc⟩ := own_row h hN
  simp only [Option.some.injEq, Addr.mk.injEq, and_true] at hA
  subst hA
  rw [Nat.mul_one] at hsz hc
  refine ⟨⟨cs, hr, hsz, fun i hi => ?_⟩, hB, hcap⟩
  rw [hc i hi]
  unfold bvals
  simp [hi]
theorem bstr_isEmpty (m : Nat) (v : Nat → UInt8) : (bstr m v).toList.isEmpty = decide (m = 0) := by
  rw [ByteArray.toList_eq]
  unfold bstr
  cases m <;> simp
end Go.Proofs.Ytmgcaiilocifbaa
