/-
  Trees: FreeTree, the reference's side.
-/
import Derived.Test.YtiefcgmghkkbmaaDoorTreAf
namespace Go.Proofs.YtiefcgmghkkbmaaDoor
open Go Go.ChangeShapes Go.WideShapes Go.ChangeAt Go.RowKit lib
set_option linter.unusedVariables false
set_option linter.unusedSimpArgs false
set_option maxRecDepth 100000
set_option maxHeartbeats 4000000 in
theorem specFreeTree_any {w : World} {A : Option Addr} {n c : Nat} {s : Nat → ByteArray} (hm : n ≤ 1048576) (hs : Sl w w.heap.size A n (fun i => .string (s i))) :
    Calls Tryd.prog 6 #[.slice A n c] w fun e w' => e = .returned (.tuple #[.int .i64 (tFreeN n s : Int), .int .i64 (tCode n s : Int)]) ∧ Below w.heap.size w w' := by
  have hac := sopen_any (c := c) hm hs
  have hle := tCode_le n s
  by_cases h0 : tCode n s = 0
  · obtain ⟨⟨h4, hn, h32⟩, _⟩ := tCode_zero h0
    have HAC := Lib.hid (hac.mono (R' := fun e w' => ∃ (p : Nat) (A : Option Addr) (c : Nat), e = .returned (.tuple #[.pointer (some ⟨p, 0, none⟩), .int .i64 0]) ∧ Row w' p 62 #[.slice A n c] ∧ w'.ownsRow w.heap.size 9 1 (.slice A n c) n ((List.range n).map fun (i : Nat) => Value.string (s i)) ∧ Below w.heap.size w w') (fun e w' h => by
      obtain ⟨hb, h⟩ := h
      rcases h with ⟨h1, _⟩ | ⟨_, p, A, c, h1, h2, h3⟩
      · exact absurd h0 h1
      · exact ⟨p, A, c, h1, h2, h3, hb⟩))
    have hfn : tFreeN n s = (tFreeL (byteAt (s 0)) n).length := by unfold tFreeN; rw [if_pos h0]
    have hz := h32 0 (by omega)
    have HFR := Lib.hid (fun (W : World) (p c : Nat) (A : Option Addr) (h1 : W.cell? ⟨p, 0, none⟩ = some (.slice A n c)) (h2 : Sl W W.heap.size A n (fun i => .string (s i))) => specFreeL_any h1 h2 (by omega) hn hz)
    obtain ⟨F, hF⟩ : ∃ F, (tFreeL (byteAt (s 0)) n).length = F := ⟨_, rfl⟩
    have hF2 : F ≤ n := by rw [← hF]; exact tFreeL_le _ _
    rw [hfn, h0, hF]
    rw [hF] at HFR
    clear hac hle h0 hfn hF hs hz h32
    go_enter Tryd.func6, Tryd.ntmps6
    go_upto_region 4 with (go_at_call 16; refine HAC.out.mono ?_; rintro e w2 ⟨p, A1, c1, rfl, hr, ho, hb2⟩)
    have HC := Lib.hid (HFR.out w2 p c1 A1 (hr.cell 0) (own_slR ho))
    have HB2 := Lib.hid hb2
    clear hr ho hb2
    go_wp2_with (go_at_call 17; refine HC.out.mono ?_; rintro e w3 ⟨rfl, hw3⟩; rw [← hw3]; clear hw3 w3)
    go_ret2
    exact ⟨rfl, HB2.out⟩
  · have HAC := Lib.hid (hac.mono (R' := fun e w' => e = .returned (.tuple #[.pointer none, .int .i64 (tCode n s : Int)]) ∧ Below w.heap.size w w') (fun e w' h => by
      obtain ⟨hb, h⟩ := h
      rcases h with ⟨_, h1⟩ | ⟨h1, _⟩
      · exact ⟨h1, hb⟩
      · exact absurd h1 h0))
    have hfn : tFreeN n s = 0 := by unfold tFreeN; rw [if_neg h0]
    rw [hfn]
    obtain ⟨k, hk⟩ : ∃ k, tCode n s = k := ⟨_, rfl⟩
    rw [hk] at HAC h0 hle ⊢
    have t1 : ((k : Int) != 0) = true := by simp; omega
    clear hac hfn hs hk h0
    go_enter Tryd.func6, Tryd.ntmps6
    go_wp2_with (go_at_call 16; refine HAC.out.mono ?_; rintro e w2 ⟨rfl, hb2⟩)
    go_ret2
    exact ⟨rfl, hb2⟩
end Go.Proofs.YtiefcgmghkkbmaaDoor
