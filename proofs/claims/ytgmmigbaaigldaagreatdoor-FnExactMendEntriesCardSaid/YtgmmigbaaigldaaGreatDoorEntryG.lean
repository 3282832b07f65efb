/-
  Disks of chains: an entry is stored by the reference: what may turn.
-/
import Derived.Test.YtgmmigbaaigldaaGreatDoorEntryC
namespace Go.Proofs.YtgmmigbaaigldaaGreatDoor
open Go Go.ChangeShapes Go.WideShapes Go.ChangeAt Go.RowKit lib
set_option linter.unusedVariables false
set_option maxRecDepth 100000
set_option maxHeartbeats 1000000 in
theorem specSetEntryG_any {w : World} {p g n z e d t N c q : Nat} {u : Nat → UInt8} (k at' : Nat) (nm : ByteArray) (f l : Nat) (us de : Bool) (hnm : nm.size ≤ 8) (hf : f ≤ 255) (hl : l ≤ 512)
    (h : ChW w p g n z e d t N c u) (hr : Rw w q 34 #[.string nm, .int .i64 f, .int .i64 l, .bool us, .bool de]) (ha : d * z + k * 12 = at') (hN : at' + 12 ≤ N) (hNb : N ≤ 1048576) (hcN : N ≤ c) (hk : k ≤ 1024) :
    Calls Tryz.prog 21 #[.pointer (some ⟨p, 0, none⟩), .int .i64 k, .pointer (some ⟨q, 0, none⟩)] w fun r w' => r = .returned (.tuple #[]) ∧ ChW w' p g n z e d t N c (putE u at' nm f l us de) ∧ (∀ B, B ≤ g → B ≤ w.heap.size → Below B w w') ∧ w.grownBy w' (some g) := by
  have h1 := h.c1
  have h3 := h.c3
  have h5 := h.c5
  obtain ⟨D, hD⟩ : ∃ D, d * z = D := ⟨_, rfl⟩
  have e1 : (d : Int) * z = (D : Int) := by rw [← hD]; simp
  have e2 : IntKind.i64.wrap (D : Int) = (D : Int) := by rw [IntKind.wrap_i64]; omega
  have e3 : (D : Int) + (k : Int) * 12 = (at' : Int) := by omega
  have e4 : IntKind.i64.wrap (at' : Int) = (at' : Int) := by rw [IntKind.wrap_i64]; omega
  have e5 : IntKind.i64.wrap ((k : Int) * 12) = (k : Int) * 12 := by rw [IntKind.wrap_i64]; omega
  have i6 : (c = at') = False := by simp; omega
  have i7 : at' ≤ N := by omega
  have HP := Lib.hid (fun (w : World) (hr : Rw w q 34 #[.string nm, .int .i64 f, .int .i64 l, .bool us, .bool de]) => specPut_any q nm f l us de hnm hf hl w hr)
  unfold putE
  generalize entB nm f l us de = V at *
  have HC := Lib.hid h
  have HR := Lib.hid hr
  clear hD ha h hr
  go_enter Tryz.func21, Tryz.ntmps21
  go_wp2_with fail
  go_region_law (first
    | (go_simp; go_at_call 40; refine (HP.out _ HR.out.drew).mono ?_; rintro e2 w2 ⟨g2, rfl, hb, hg2, hb2⟩; have HC2 := HC.out.drew.below hb2; have k1 := HC2.c1; have k3 := HC2.c3; have k5 := HC2.c5)
    | (refine step_copy_bytes rfl (.tmp 24) (.tmp 26) 50 50 rfl 5 Tryz.underlying50 size8 g at' (N - at') (c - at') (by rfl) g2 12 12 V (by rfl) (by omega) hb (fun j hj => by rw [HC2.row.cell (by omega)]; rfl) (fun j hj => HC2.row.frozen (by omega)) ?_))
  all_goals
    go_end0
    exact ⟨rfl, HC2.puts at' ((List.range 12).map V), fun B hB1 hB2 => below_setCells hB1 _ _ _ ((Below.refl _ _).drew.trans (hb2.mono hB2)), only_setCells _ _ _ (only_trans (only_drew (only_refl _ _)) (only_below hb2 (Nat.le_refl _) _))⟩
end Go.Proofs.YtgmmigbaaigldaaGreatDoor
