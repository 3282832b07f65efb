/-
  The reference's source of choices: one number, one of some.
-/
import Derived.Test.YtabmdbhbbmnkdaaDoorBase
import Derived.Deep.DeepCutAuto
import Derived.Deep.CutBlock
import Derived.Deep.QuietTactic
import Derived.BigQuiet
namespace Go.Proofs.YtabmdbhbbmnkdaaDoor
open Go Go.ChangeShapes Go.WideShapes Go.ChangeAt Go.RowKit lib
set_option linter.unusedVariables false
set_option linter.unusedSimpArgs false
set_option maxRecDepth 100000
/-- a source of choices at block p: its bytes lie below it -/
structure SrcOK (w : World) (p : Nat) (A : Option Addr) (n c K : Nat) : Prop where
  row : ∃ (k : Nat) (sd : Int), k ≤ K ∧ 0 ≤ sd ∧ sd < 18446744073709551616 ∧ Rw w p 79 #[.slice A n c, .int .i64 (k : Int), .int .u64 sd]
  bytes : ∃ u : Nat → UInt8, Sl w p A n (fun i => .int .u8 ((u i).toNat : Int))
theorem SrcOK.lt {w : World} {p n c K : Nat} {A : Option Addr} (h : SrcOK w p A n c K) : p < w.heap.size := by
  obtain ⟨k, sd, _, _, _, hr⟩ := h.row
  exact hr.lt
theorem SrcOK.more {w : World} {p n c K K' : Nat} {A : Option Addr} (h : SrcOK w p A n c K) (hk : K ≤ K') : SrcOK w p A n c K' := ⟨by
  obtain ⟨k, sd, h1, h2⟩ := h.row
  exact ⟨k, sd, by omega, h2⟩, h.bytes⟩
theorem SrcOK.grown {w w' : World} {p n c K : Nat} {A : Option Addr} {row : Option Nat} (h : SrcOK w p A n c K) (hg : w.grownBy w' row) (hr : row ≠ some p) (hb : ∀ k, row = some k → p < k) : SrcOK w' p A n c K := by
  obtain ⟨k, sd, h1, h2, h3, h4⟩ := h.row
  obtain ⟨u, hu⟩ := h.bytes
  have hp := h4.lt
  refine ⟨⟨k, sd, h1, h2, h3, (hg.block p hp (fun e => hr e.symm)).trans h4⟩, u, hu.keep fun b o hb2 => ?_⟩
  unfold World.cell?
  rw [hg.block b (by omega) (fun e => by have := hb b e.symm; omega)]
theorem SrcOK.below {w w' : World} {p n c K : Nat} {A : Option Addr} (h : SrcOK w p A n c K) (hb : Below w.heap.size w w') : SrcOK w' p A n c K := h.grown (only_below hb (Nat.le_refl _) none) (by simp) (fun k e => by cases e)
/-- the source has gone on: only its block has turned -/
theorem SrcOK.step {w w' : World} {p n c K K' : Nat} {A : Option Addr} (h : SrcOK w p A n c K) (hg : w.grownBy w' (some p)) {k : Nat} {sd : Int} (hk : k ≤ K') (hb : 0 ≤ sd ∧ sd < 18446744073709551616) (hr : Rw w' p 79 #[.slice A n c, .int .i64 (k : Int), .int .u64 sd]) : SrcOK w' p A n c K' := by
  obtain ⟨u, hu⟩ := h.bytes
  have hp := h.lt
  refine ⟨⟨k, sd, hk, hb.1, hb.2, hr⟩, u, hu.keep fun b o hb2 => ?_⟩
  unfold World.cell?
  rw [hg.block b (by omega) (fun e => by cases e; omega)]
theorem u64_wrap (x : Int) : 0 ≤ IntKind.u64.wrap x ∧ IntKind.u64.wrap x < 18446744073709551616 := by
  rw [IntKind.wrap_u64]
  omega
theorem u64_low (x : Int) : ∃ v : Nat, v < 256 ∧ bits .and .u64 x 255 = (v : Int) := by
  refine ⟨(BitVec.ofInt 64 x &&& BitVec.ofInt 64 255).toNat, ?_, ?_⟩
  · rw [BitVec.toNat_and]
    have e : (BitVec.ofInt 64 (255 : Int)).toNat = 255 := by decide
    rw [e]
    have := @Nat.and_le_right (BitVec.ofInt 64 x).toNat 255
    omega
  · show IntKind.u64.wrap ((BitVec.ofInt 64 x &&& BitVec.ofInt 64 255).toNat : Int) = _
    rw [IntKind.wrap_u64]
    have := (BitVec.ofInt 64 x &&& BitVec.ofInt 64 255).isLt
    omega
set_option maxHeartbeats 4000000 in
theorem next_any {w : World} {p n c K : Nat} {A : Option Addr} (h : SrcOK w p A n c K) (hK : K ≤ 1099511627776) (hn : n ≤ 1048576) :
    Calls Tryd.prog 78 #[.pointer (some ⟨p, 0, none⟩)] w fun e w' => ∃ v : Nat, v < 256 ∧ e = .returned (.int .i64 (v : Int)) ∧ SrcOK w' p A n c (K + 1) ∧ w.grownBy w' (some p) := by
  obtain ⟨k, sd, hk, h0, h1, hr⟩ := h.row
  obtain ⟨u, hu⟩ := h.bytes
  have HH := Lib.hid h
  have HR := Lib.hid hr
  have HU := Lib.hid hu
  have c0 := hr.cell 0
  have c1 := hr.cell 1
  have c2 := hr.cell 2
  have f1 := hr.frozen 1
  have f2 := hr.frozen 2
  clear h hr hu
  by_cases hlt : k < n
  · have hki : (k : Int) < (n : Int) := by omega
    have hki1 : (k : Int) + 1 ≤ (n : Int) := by omega
    obtain ⟨b, o, rfl, hb, hc⟩ := HU.out k hlt
    dsimp only at hc
    obtain ⟨y, hy⟩ : ∃ y, (u k).toNat = y := ⟨_, rfl⟩
    have hy256 : y < 256 := by rw [← hy]; exact UInt8.toNat_lt _
    rw [hy] at hc
    clear hy
    have hw1 : IntKind.i64.wrap (y : Int) = (y : Int) := by rw [IntKind.wrap_i64]; omega
    have hw2 : IntKind.i64.wrap ((k : Int) + 1) = ((k + 1 : Nat) : Int) := by rw [IntKind.wrap_i64]; omega
    go_enter Tryd.func78, Tryd.ntmps78
    go_wp2_with fail
    go_quiet (fail)
    clear c0 c1 c2 f1 f2
    have hr := HR.out.drewN nq
    have hg := only_drewN (only_refl w (some p)) nq
    have hc3 : (w.drewN nq).cell? ⟨b, o + k, none⟩ = some (.int .u8 (y : Int)) := hc
    generalize w.drewN nq = W3 at *
    have c0 := hr.cell 0
    have c1 := hr.cell 1
    have c2 := hr.cell 2
    have f1 := hr.frozen 1
    have f2 := hr.frozen 2
    go_wp2_with fail
    go_quiet (fail)
    have hr2 := hr.drewN nq
    have hg2 := only_drewN hg nq
    clear hr hg c0 c1 c2 f1 f2
    have hc2 : (W3.drewN nq).cell? ⟨b, o + k, none⟩ = some (.int .u8 (y : Int)) := hc3
    clear hc3
    generalize W3.drewN nq = W4 at *
    have c0 := hr2.cell 0
    have c1 := hr2.cell 1
    have c2 := hr2.cell 2
    have f1 := hr2.frozen 1
    have f2 := hr2.frozen 2
    go_upto_region 6 with fail
    have hSb := u64_wrap (IntKind.u64.wrap (IntKind.u64.wrap (sd * 6364136223846793005) + (y : Int)) + 1442695040888963407)
    obtain ⟨S, hS⟩ : ∃ S, IntKind.u64.wrap (IntKind.u64.wrap (IntKind.u64.wrap (sd * 6364136223846793005) + (y : Int)) + 1442695040888963407) = S := ⟨_, rfl⟩
    rw [hS] at hSb
    simp only [hS]
    clear hS
    have hr5 := (hr2.set 1 (.int .i64 ((k : Int) + 1))).set 2 (.int .u64 S)
    have hg5 := only_setCell (g := p) (p := ⟨p, 2, none⟩) (only_setCell (g := p) (p := ⟨p, 1, none⟩) hg2 (.inl rfl) (.int .i64 ((k : Int) + 1))) (.inl rfl) (.int .u64 S)
    clear c0 c1 c2 f1 f2 hr2 hg2
    generalize (W4.setCell ⟨p, 1, none⟩ (.int .i64 ((k : Int) + 1))).setCell ⟨p, 2, none⟩ (.int .u64 S) = W5 at *
    have c0 : W5.cell? ⟨p, 0, none⟩ = some (.slice (some ⟨b, o, none⟩) n c) := hr5.cell 0
    have c1 : W5.cell? ⟨p, 1, none⟩ = some (.int .i64 ((k : Int) + 1)) := hr5.cell 1
    have c2 : W5.cell? ⟨p, 2, none⟩ = some (.int .u64 S) := hr5.cell 2
    have hk5 : Rw W5 p 79 #[.slice (some ⟨b, o, none⟩) n c, .int .i64 ((k + 1 : Nat) : Int), .int .u64 S] := hr5
    clear hr5
    go_wp2_with fail
    go_quiet (fail)
    go_wp2
    go_ret
    exact ⟨y, hy256, rfl, HH.out.step (only_drewN hg5 nq) (by omega) hSb (hk5.drewN nq), only_drewN hg5 nq⟩
  · have hki : ((k : Int) < (n : Int)) = False := by simp; omega
    have hki1 : ((k : Int) + 1 ≤ (n : Int)) = False := by simp; omega
    have hw2 : IntKind.i64.wrap ((k : Int) + 1) = ((k + 1 : Nat) : Int) := by rw [IntKind.wrap_i64]; omega
    go_enter Tryd.func78, Tryd.ntmps78
    go_wp2_with fail
    go_quiet (fail)
    clear c0 c1 c2 f1 f2
    have hr := HR.out.drewN nq
    have hg := only_drewN (only_refl w (some p)) nq
    generalize w.drewN nq = W3 at *
    have c0 := hr.cell 0
    have c1 := hr.cell 1
    have c2 := hr.cell 2
    have f1 := hr.frozen 1
    have f2 := hr.frozen 2
    obtain ⟨W4, hW4⟩ : ∃ W4, W4 = W3 := ⟨_, rfl⟩
    rw [← hW4] at hr hg c0 c1 c2 f1 f2 ⊢
    clear hW4
    have hr2 := hr
    have hg2 := hg
    clear hr hg
    go_upto_region 6 with fail
    have hSb := u64_wrap (IntKind.u64.wrap (IntKind.u64.wrap (sd * 6364136223846793005)) + 1442695040888963407)
    obtain ⟨S, hS⟩ : ∃ S, IntKind.u64.wrap (IntKind.u64.wrap (IntKind.u64.wrap (sd * 6364136223846793005)) + 1442695040888963407) = S := ⟨_, rfl⟩
    rw [hS] at hSb
    simp only [hS]
    clear hS
    have hr5 := (hr2.set 1 (.int .i64 ((k : Int) + 1))).set 2 (.int .u64 S)
    have hg5 := only_setCell (g := p) (p := ⟨p, 2, none⟩) (only_setCell (g := p) (p := ⟨p, 1, none⟩) hg2 (.inl rfl) (.int .i64 ((k : Int) + 1))) (.inl rfl) (.int .u64 S)
    clear c0 c1 c2 f1 f2 hr2 hg2
    generalize (W4.setCell ⟨p, 1, none⟩ (.int .i64 ((k : Int) + 1))).setCell ⟨p, 2, none⟩ (.int .u64 S) = W5 at *
    have c0 : W5.cell? ⟨p, 0, none⟩ = some (.slice A n c) := hr5.cell 0
    have c1 : W5.cell? ⟨p, 1, none⟩ = some (.int .i64 ((k : Int) + 1)) := hr5.cell 1
    have c2 : W5.cell? ⟨p, 2, none⟩ = some (.int .u64 S) := hr5.cell 2
    have hk5 : Rw W5 p 79 #[.slice A n c, .int .i64 ((k + 1 : Nat) : Int), .int .u64 S] := hr5
    clear hr5
    go_wp2_with fail
    go_quiet (fail)
    have hg6 := only_drewN hg5 nq
    have hk6 := hk5.drewN nq
    have c2' : (W5.drewN nq).cell? ⟨p, 2, none⟩ = some (.int .u64 S) := c2
    clear c0 c1 c2
    generalize W5.drewN nq = W6 at *
    obtain ⟨v, hv, hv2⟩ := u64_low (S / 1099511627776)
    have hw3 : IntKind.i64.wrap (v : Int) = (v : Int) := by rw [IntKind.wrap_i64]; omega
    go_wp2
    go_ret
    exact ⟨v, hv, rfl, HH.out.step hg6 (by omega) hSb hk6, hg6⟩
theorem tmod_nat {x m : Nat} : Int.tmod (x : Int) (m : Int) = ((x % m : Nat) : Int) := by
  rw [Int.tmod_eq_emod_of_nonneg (by omega)]
  rfl
theorem pick_any {w : World} {p n c K : Nat} {A : Option Addr} (m : Nat) (h : SrcOK w p A n c K) (hK : K ≤ 549755813888) (hn : n ≤ 1048576) (hm1 : 1 ≤ m) (hm : m ≤ 100000) :
    Calls Tryd.prog 43 #[.pointer (some ⟨p, 0, none⟩), .int .i64 (m : Int)] w fun e w' => ∃ v : Nat, v < m ∧ e = .returned (.int .i64 (v : Int)) ∧ SrcOK w' p A n c (K + 2) ∧ w.grownBy w' (some p) := by
  have HH := Lib.hid h
  have HN := Lib.hid (next_any h (by omega) hn)
  have HN2 := Lib.hid (fun (W : World) (hW : SrcOK W p A n c (K + 1)) => next_any hW (by omega) hn)
  clear h
  by_cases h1 : m ≤ 1
  · have t1 : ((m : Int) ≤ 1) = True := by simp; omega
    go_enter Tryd.func43, Tryd.ntmps43
    go_wp2_with fail
    go_ret
    exact ⟨0, by omega, rfl, HH.out.more (by omega), only_refl _ _⟩
  · have t1 : ((m : Int) ≤ 1) = False := by simp; omega
    have tz : ((m : Int) = 0) = False := by simp; omega
    by_cases h2 : 200 < m
    · have t2 : ((200 : Int) < (m : Int)) = True := by simp; omega
      go_enter Tryd.func43, Tryd.ntmps43
      go_upto_region 5 with (go_at_call 78; refine HN.out.mono ?_; rintro e w1 ⟨v, hv, rfl, hs1, hg1⟩)
      have hw1 : IntKind.i64.wrap ((v : Int) * 256) = ((v * 256 : Nat) : Int) := by rw [IntKind.wrap_i64]; omega
      go_upto_region 6 with (go_at_call 78; refine (HN2.out _ hs1).mono ?_; rintro e w2 ⟨y, hy, rfl, hs2, hg2⟩)
      have ht := tmod_nat (x := v * 256 + y) (m := m)
      have ht2 : Int.tmod ((v : Int) * 256 + (y : Int)) (m : Int) = ((( v * 256 + y) % m : Nat) : Int) := by rw [← ht]; congr 1
      have hlt : (v * 256 + y) % m < m := Nat.mod_lt _ (by omega)
      obtain ⟨z, hz⟩ : ∃ z, (v * 256 + y) % m = z := ⟨_, rfl⟩
      rw [hz] at ht ht2 hlt
      clear hz hw1
      go_wp2_with fail
      go_ret
      exact ⟨z, hlt, rfl, hs2, only_trans hg1 hg2⟩
    · have t2 : ((200 : Int) < (m : Int)) = False := by simp; omega
      go_enter Tryd.func43, Tryd.ntmps43
      go_upto_region 6 with (go_at_call 78; refine HN.out.mono ?_; rintro e w1 ⟨v, hv, rfl, hs1, hg1⟩)
      have ht := tmod_nat (x := v) (m := m)
      have hlt : v % m < m := Nat.mod_lt _ (by omega)
      obtain ⟨z, hz⟩ : ∃ z, v % m = z := ⟨_, rfl⟩
      rw [hz] at ht hlt
      clear hz
      go_wp2_with fail
      go_ret
      exact ⟨z, hlt, rfl, hs1.more (by omega), hg1⟩
theorem one_any {w : World} {p n c K : Nat} {A : Option Addr} (m : Nat) (h : SrcOK w p A n c K) (hK : K ≤ 549755813888) (hn : n ≤ 1048576) (hm1 : 1 ≤ m) (hm : m ≤ 100000) :
    Calls Tryd.prog 80 #[.pointer (some ⟨p, 0, none⟩), .int .i64 (m : Int)] w fun e w' => ∃ b : Bool, e = .returned (.bool b) ∧ SrcOK w' p A n c (K + 2) ∧ w.grownBy w' (some p) := by
  have HP := Lib.hid (pick_any m h hK hn hm1 hm)
  clear h
  go_enter Tryd.func80, Tryd.ntmps80
  go_wp2_with (go_at_call 43; refine HP.out.mono ?_; rintro e w1 ⟨v, hv, rfl, hs1, hg1⟩)
  go_ret
  exact ⟨_, rfl, hs1, hg1⟩
theorem sl_step {w w1 : World} {b o m p v : Nat} {f : Nat → Value} (hs : Sl w w.heap.size (some ⟨b, o, none⟩) m f) (hg : w.grownBy w1 (some p)) (hbp : b ≠ p) (hv : v < m) : w1.cell? ⟨b, o + v, none⟩ = some (f v) := by
  obtain ⟨b', o', e, hb, hc⟩ := hs v hv
  simp only [Option.some.injEq, Addr.mk.injEq] at e
  obtain ⟨rfl, rfl, _⟩ := e
  rw [← hc]
  unfold World.cell?
  rw [hg.block b hb (fun e => hbp (by simpa using e))]
theorem among_any {w : World} {p n c K : Nat} {A : Option Addr} (B : Option Addr) (m d : Nat) (f : Nat → Value) (h : SrcOK w p A n c K) (hK : K ≤ 549755813888) (hn : n ≤ 1048576) (hm1 : 1 ≤ m) (hm : m ≤ 100000) (hne : ∀ b o, B = some ⟨b, o, none⟩ → b ≠ p) (hs : Sl w w.heap.size B m f) :
    Calls Tryd.prog 79 #[.pointer (some ⟨p, 0, none⟩), .slice B m d] w fun e w' => ∃ v : Nat, v < m ∧ e = .returned (f v) ∧ SrcOK w' p A n c (K + 2) ∧ w.grownBy w' (some p) := by
  have HP := Lib.hid (pick_any m h hK hn hm1 hm)
  have HS := Lib.hid hs
  obtain ⟨b, o, rfl, _, _⟩ := hs 0 (by omega)
  have hbp := hne b o rfl
  clear h hs hne
  go_enter Tryd.func79, Tryd.ntmps79
  go_wp2_with (go_at_call 43; refine HP.out.mono ?_; rintro e w1 ⟨v, hv, rfl, hs1, hg1⟩; have hvi : (v : Int) < (m : Int) := (by omega); have hcv := sl_step HS.out hg1 hbp hv)
  go_ret
  exact ⟨v, hv, rfl, hs1, hg1⟩
end Go.Proofs.YtabmdbhbbmnkdaaDoor
