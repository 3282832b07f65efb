/-
  Disks of chains: an entry is stored.
  Disks of chains: an entry is stored by the reference: what may turn.
-/
import Derived.Test.YtapkckpjeoedaaaGreatDoorEntA
import Derived.Laws.IdiomCopy
namespace Go.Proofs.YtapkckpjeoedaaaGreatDoor
open Go Go.ChangeShapes Go.WideShapes Go.ChangeAt Go.RowKit lib
set_option linter.unusedVariables false
set_option maxRecDepth 100000
/-- 'copy(dst, src)', src a row of bytes no longer than dst: a step of a region that draws -/
theorem step_copy_bytes {P : Program} {ops : Array Oper} {o : Oper} {a : Act} {w : World} {K : Act → World → Prop} {Q : Exit → Act → World → Prop} {E : Prop}
    (hg : o.guard = none) (d x : Operand) (dT sT : TypeId) (hop : o.op = Op.call { callee := Callee.builtin Builtin.copy, args := #[d, x], argTypes := #[dT, sT] })
    (elem : TypeId) (hu : P.underlying dT = some (.slice elem)) (hs1 : (P.info? elem).map (·.size) = some 1)
    (b off dLen dCap : Nat) (hd : a.eval d = .slice (some ⟨b, off, none⟩) dLen dCap) (g2 m c2 : Nat) (v : Nat → UInt8) (hx : a.eval x = .slice (some ⟨g2, 0, none⟩) m c2) (hle : m ≤ dLen) (hsrc : BRow w elem g2 m v)
    (hc : ∀ j, j < m → (w.cell? ⟨b, off + j, none⟩).isSome = true) (hf : ∀ j, j < m → w.frozen? ⟨b, off + j, none⟩ = false)
    (hK : K (a.put o.dst (goInt m)) (w.setCells b off (((List.range m).map v).map fun x => Value.int .u8 (x.toNat : Int)))) :
    if Region.wanted o (yielded ops a.tmps) = true then Oper.wp P o a w K Q else E := by
  have hw : Region.wanted o (yielded ops a.tmps) = true := by simp [Region.wanted, hg]
  rw [if_pos hw]
  have hl : (((List.range m).map v).map fun x => Value.int .u8 (x.toNat : Int)).length = m := by simp
  have hrun := run_copy_cells (P := P) w dT sT o.type elem b off dLen dCap ⟨g2, 0, none⟩ m c2 (((List.range m).map v).map fun x => Value.int .u8 (x.toNat : Int)) hu hs1
    (by rw [hl]; exact (Nat.min_eq_left hle).symm)
    (fun j u hj => by
      have hjm : j < m := by have := (List.getElem?_eq_some_iff.1 hj).1; rwa [hl] at this
      rw [Addr.add_lit, Nat.zero_add, hsrc.cell hjm, ← hj]
      simp [hjm])
    (by rw [hl]; exact hc) (by rw [hl]; exact hf) (by
      intro u hu
      obtain ⟨_, _, rfl⟩ := List.mem_map.1 hu
      rfl)
  rw [hl] at hrun
  generalize (((List.range m).map v).map fun x => Value.int .u8 (x.toNat : Int)) = L at hrun hK
  unfold Oper.wp
  simp [execOp, hop, resolve, invoke, builtin, hd, hx, hrun, Result.andThen]
  exact hK
theorem size8 : (Tryz.prog.info? 5).map (·.size) = some 1 := by kernel_rfl
/-- the bytes of a disk with an entry stored -/
def putE (u : Nat → UInt8) (at' : Nat) (nm : ByteArray) (f l : Nat) (us de : Bool) : Nat → UInt8 := putU u at' ((List.range 12).map (entB nm f l us de))
theorem dir_fits {n z k : Nat} (h : LayOk n z) (hk : k < entsN n) : dirN n z * z + k * 12 + 12 ≤ n * z := by
  have h1 := Nat.mul_le_mul_right z h.data
  have hz : 0 < z := by rcases h.sz with h | h | h <;> omega
  have h2 : dataN n z * z = dirN n z * z + (entsN n * 12 + z - 1) / z * z := by unfold dataN; rw [Nat.add_mul]
  have h3 := Nat.div_add_mod (entsN n * 12 + z - 1) z
  have h4 := Nat.mod_lt (entsN n * 12 + z - 1) hz
  rw [Nat.mul_comm] at h3
  omega
theorem implEntryBytes_any {w : World} {p g n z e d t N c : Nat} {u : Nat → UInt8} (k at' : Nat) (h : ChW w p g n z e d t N c u) (ha : d * z + k * 12 = at') (hN : at' + 12 ≤ N) (hNb : N ≤ 1048576) (hcN : N ≤ c) (hk : k ≤ 1024) :
    Calls Tryz.prog 63 #[.pointer (some ⟨p, 0, none⟩), .int .i64 k] w fun r w' => r = .returned (.slice (some ⟨g, at', none⟩) 12 (c - at')) ∧ w' = w.drew := by
  have h1 := h.c1
  have h3 := h.c3
  have h5 := h.c5
  obtain ⟨D, hD⟩ : ∃ D, d * z = D := ⟨_, rfl⟩
  have e1 : (d : Int) * z = (D : Int) := by rw [← hD]; simp
  have e2 : IntKind.i64.wrap (D : Int) = (D : Int) := by rw [IntKind.wrap_i64]; omega
  have e3 : (D : Int) + (k : Int) * 12 = (at' : Int) := by omega
  have e4 : IntKind.i64.wrap (at' : Int) = (at' : Int) := by rw [IntKind.wrap_i64]; omega
  have e5 : IntKind.i64.wrap ((k : Int) * 12) = (k : Int) * 12 := by rw [IntKind.wrap_i64]; omega
  have e6 : IntKind.i64.wrap ((at' : Int) + 12) = (at' : Int) + 12 := by rw [IntKind.wrap_i64]; omega
  have i1 : (0 : Int) ≤ (at' : Int) + 12 := by omega
  have i2 : (at' : Int) + 12 ≤ c := by omega
  have i3 : ((at' : Int) + 12).toNat = at' + 12 := by omega
  have i4 : at' ≤ at' + 12 := by omega
  have i5 : at' + 12 - at' = 12 := by omega
  have i6 : (c = at') = False := by simp; omega
  clear hD ha
  go_enter Tryz.func63, Tryz.ntmps63
  go_wp2_with fail
  go_region
  go_wp2
  go_ret
  exact ⟨rfl, rfl⟩
set_option maxHeartbeats 1000000 in
theorem specSetEntry_any {w : World} {p g n z e d t N c q : Nat} {u : Nat → UInt8} (k at' : Nat) (nm : ByteArray) (f l : Nat) (us de : Bool) (hnm : nm.size ≤ 8) (hf : f ≤ 255) (hl : l ≤ 512)
    (h : ChW w p g n z e d t N c u) (hr : Rw w q 82 #[.string nm, .int .i64 f, .int .i64 l, .bool us, .bool de]) (ha : d * z + k * 12 = at') (hN : at' + 12 ≤ N) (hNb : N ≤ 1048576) (hcN : N ≤ c) (hk : k ≤ 1024) :
    Calls Tryz.prog 52 #[.pointer (some ⟨p, 0, none⟩), .int .i64 k, .pointer (some ⟨q, 0, none⟩)] w fun r w' => r = .returned (.tuple #[]) ∧ ChW w' p g n z e d t N c (putE u at' nm f l us de) ∧ (∀ B, B ≤ g → B ≤ w.heap.size → Below B w w') := by
  have h1 := h.c1
  have h3 := h.c3
  have h5 := h.c5
  obtain ⟨D, hD⟩ : ∃ D, d * z = D := ⟨_, rfl⟩
  have e1 : (d : Int) * z = (D : Int) := by rw [← hD]; simp
  have e2 : IntKind.i64.wrap (D : Int) = (D : Int) := by rw [IntKind.wrap_i64]; omega
  have e3 : (D : Int) + (k : Int) * 12 = (at' : Int) := by omega
  have e4 : IntKind.i64.wrap (at' : Int) = (at' : Int) := by rw [IntKind.wrap_i64]; omega
  have e5 : IntKind.i64.wrap ((k : Int) * 12) = (k : Int) * 12 := by rw [IntKind.wrap_i64]; omega
  have i6 : (c = at') = False := by simp; omega
  have i7 : at' ≤ N := by omega
  have HP := Lib.hid (fun (w : World) (hr : Rw w q 82 #[.string nm, .int .i64 f, .int .i64 l, .bool us, .bool de]) => specPut_any q nm f l us de hnm hf hl w hr)
  unfold putE
  generalize entB nm f l us de = V at *
  have HC := Lib.hid h
  have HR := Lib.hid hr
  clear hD ha h hr
  go_enter Tryz.func52, Tryz.ntmps52
  go_wp2_with fail
  go_region_law (first
    | (go_simp; go_at_call 91; refine (HP.out _ HR.out.drew).mono ?_; rintro e2 w2 ⟨g2, rfl, hb, hg2, hb2⟩; have HC2 := HC.out.drew.below hb2; have k1 := HC2.c1; have k3 := HC2.c3; have k5 := HC2.c5)
    | (refine step_copy_bytes rfl (.tmp 24) (.tmp 26) 63 63 rfl 5 Tryz.underlying63 size8 g at' (N - at') (c - at') (by rfl) g2 12 12 V (by rfl) (by omega) hb (fun j hj => by rw [HC2.row.cell (by omega)]; rfl) (fun j hj => HC2.row.frozen (by omega)) ?_))
  all_goals
    go_end0
    exact ⟨rfl, HC2.puts at' ((List.range 12).map V), fun B hB1 hB2 => below_setCells hB1 _ _ _ ((Below.refl _ _).drew.trans (hb2.mono hB2))⟩
end Go.Proofs.YtapkckpjeoedaaaGreatDoor
namespace Go.Proofs.YtapkckpjeoedaaaGreatDoor
open Go Go.ChangeShapes Go.WideShapes Go.ChangeAt Go.RowKit lib
set_option linter.unusedVariables false
set_option maxRecDepth 100000
set_option maxHeartbeats 1000000 in
theorem specSetEntryG_any {w : World} {p g n z e d t N c q : Nat} {u : Nat → UInt8} (k at' : Nat) (nm : ByteArray) (f l : Nat) (us de : Bool) (hnm : nm.size ≤ 8) (hf : f ≤ 255) (hl : l ≤ 512)
    (h : ChW w p g n z e d t N c u) (hr : Rw w q 82 #[.string nm, .int .i64 f, .int .i64 l, .bool us, .bool de]) (ha : d * z + k * 12 = at') (hN : at' + 12 ≤ N) (hNb : N ≤ 1048576) (hcN : N ≤ c) (hk : k ≤ 1024) :
    Calls Tryz.prog 52 #[.pointer (some ⟨p, 0, none⟩), .int .i64 k, .pointer (some ⟨q, 0, none⟩)] w fun r w' => r = .returned (.tuple #[]) ∧ ChW w' p g n z e d t N c (putE u at' nm f l us de) ∧ (∀ B, B ≤ g → B ≤ w.heap.size → Below B w w') ∧ w.grownBy w' (some g) := by
  have h1 := h.c1
  have h3 := h.c3
  have h5 := h.c5
  obtain ⟨D, hD⟩ : ∃ D, d * z = D := ⟨_, rfl⟩
  have e1 : (d : Int) * z = (D : Int) := by rw [← hD]; simp
  have e2 : IntKind.i64.wrap (D : Int) = (D : Int) := by rw [IntKind.wrap_i64]; omega
  have e3 : (D : Int) + (k : Int) * 12 = (at' : Int) := by omega
  have e4 : IntKind.i64.wrap (at' : Int) = (at' : Int) := by rw [IntKind.wrap_i64]; omega
  have e5 : IntKind.i64.wrap ((k : Int) * 12) = (k : Int) * 12 := by rw [IntKind.wrap_i64]; omega
  have i6 : (c = at') = False := by simp; omega
  have i7 : at' ≤ N := by omega
  have HP := Lib.hid (fun (w : World) (hr : Rw w q 82 #[.string nm, .int .i64 f, .int .i64 l, .bool us, .bool de]) => specPut_any q nm f l us de hnm hf hl w hr)
  unfold putE
  generalize entB nm f l us de = V at *
  have HC := Lib.hid h
  have HR := Lib.hid hr
  clear hD ha h hr
  go_enter Tryz.func52, Tryz.ntmps52
  go_wp2_with fail
  go_region_law (first
    | (go_simp; go_at_call 91; refine (HP.out _ HR.out.drew).mono ?_; rintro e2 w2 ⟨g2, rfl, hb, hg2, hb2⟩; have HC2 := HC.out.drew.below hb2; have k1 := HC2.c1; have k3 := HC2.c3; have k5 := HC2.c5)
    | (refine step_copy_bytes rfl (.tmp 24) (.tmp 26) 63 63 rfl 5 Tryz.underlying63 size8 g at' (N - at') (c - at') (by rfl) g2 12 12 V (by rfl) (by omega) hb (fun j hj => by rw [HC2.row.cell (by omega)]; rfl) (fun j hj => HC2.row.frozen (by omega)) ?_))
  all_goals
    go_end0
    exact ⟨rfl, HC2.puts at' ((List.range 12).map V), fun B hB1 hB2 => below_setCells hB1 _ _ _ ((Below.refl _ _).drew.trans (hb2.mono hB2)), only_setCells _ _ _ (only_trans (only_drew (only_refl _ _)) (only_below hb2 (Nat.le_refl _) _))⟩
end Go.Proofs.YtapkckpjeoedaaaGreatDoor
