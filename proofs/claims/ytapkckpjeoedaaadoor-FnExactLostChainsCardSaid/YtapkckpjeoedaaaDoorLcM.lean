/-
  The laws' own helpers on lists of lists of integers.
-/
import Derived.Test.YtapkckpjeoedaaaDoorLcP
namespace Go.Proofs.YtapkckpjeoedaaaDoor
open Go Go.ChangeShapes Go.WideShapes Go.ChangeAt Go.RowKit lib
set_option linter.unusedVariables false
set_option maxRecDepth 100000
/-- a list of lists that is read: all its blocks lie below Bd -/
def LS (Bd : Nat) (w : World) (A : Option Addr) (m : Nat) (f : Nat → List Nat) : Prop :=
  ∀ i, i < m → ∃ q o Ai ci, A = some ⟨q, o, none⟩ ∧ q < Bd ∧ w.cell? ⟨q, o + i, none⟩ = some (.slice Ai (f i).length ci) ∧ Sl w Bd Ai (f i).length (fun j => .int .i64 (((f i).getD j 0 : Nat) : Int))
section
variable {Bd B' m : Nat} {w w' : World} {A : Option Addr} {f g : Nat → List Nat}
theorem LS.below (h : LS Bd w A m f) (hb : Below Bd w w') : LS Bd w' A m f := fun i hi => by
  obtain ⟨q, o, Ai, ci, hA, hq, h0, hs⟩ := h i hi
  exact ⟨q, o, Ai, ci, hA, hq, (hb.cell (p := ⟨q, _, none⟩) hq).trans h0, hs.below hb⟩
theorem LS.more (h : LS Bd w A m f) (hB : Bd ≤ B') : LS B' w A m f := fun i hi => by
  obtain ⟨q, o, Ai, ci, hA, hq, h0, hs⟩ := h i hi
  exact ⟨q, o, Ai, ci, hA, by omega, h0, hs.more hB⟩
end
/-- a list of lists of the call's own, from block lo on -/
def GL (lo : Nat) (w : World) (A : Option Addr) (m : Nat) (f : Nat → List Nat) : Prop :=
  ∃ B c xs, lo ≤ B ∧ w.ownsRow B 40 1 (.slice A m c) m xs ∧ ∃ (a : Nat → Option Addr) (cc : Nat → Nat), (∀ i, i < m → xs[i]? = some (.slice (a i) (f i).length (cc i)) ∧ IntsR B w (a i) (cc i) (f i)) ∧
    ∀ i j, i < m → j < m → i ≠ j → apart (.slice (a i) (f i).length (cc i)) (.slice (a j) (f j).length (cc j))
theorem OL.gl {B c : Nat} {F : Nat → Prop} {w : World} {A : Option Addr} {Ls : List (List Nat)} (h : OL B F w A c Ls) : GL B w A Ls.length (fun i => Ls.getD i []) := by
  obtain ⟨xs, h1, a, cc, h2, h3⟩ := h
  exact ⟨B, c, xs, Nat.le_refl _, h1, a, cc, fun i hi => ⟨(h2 i hi).1, (h2 i hi).2.1⟩, h3⟩
section
variable {lo m : Nat} {w w' : World} {A : Option Addr} {f g : Nat → List Nat}
theorem GL.nil (lo : Nat) (w : World) (f : Nat → List Nat) : GL lo w none 0 f := ⟨lo, 0, [], Nat.le_refl _, World.ownsRow_nil _ _ _ _, fun _ => none, fun _ => 0, fun i hi => absurd hi (by omega), fun i j hi => absurd hi (by omega)⟩
theorem GL.below (h : GL lo w A m f) (hb : Below w.heap.size w w') : GL lo w' A m f := by
  obtain ⟨B, c, xs, hB, h1, a, cc, h2, h3⟩ := h
  exact ⟨B, c, xs, hB, own_below h1 hb, a, cc, fun i hi => ⟨(h2 i hi).1, (h2 i hi).2.below hb⟩, h3⟩
theorem GL.base {lo' : Nat} (h : GL lo w A m f) (hl : lo' ≤ lo) : GL lo' w A m f := by
  obtain ⟨B, c, xs, hB, h⟩ := h
  exact ⟨B, c, xs, by omega, h⟩
theorem GL.grown {row : Option Nat} (h : GL lo w A m f) (hg : w.grownBy w' row) (hr : ∀ o, row = some o → o < lo) : GL lo w' A m f := by
  obtain ⟨B, c, xs, hB, h1, a, cc, h2, h3⟩ := h
  refine ⟨B, c, xs, hB, h1.kept hg ?_, a, cc, fun i hi => ⟨(h2 i hi).1, (h2 i hi).2.grown hg ?_⟩, h3⟩
  · cases hv : (Value.slice A m c).ownBlock with
    | none => exact .inl rfl
    | some o => exact .inr fun e => by have := own_lt h1 o hv; have := hr o e.symm; omega
  · cases hv : (Value.slice (a i) (f i).length (cc i)).ownBlock with
    | none => exact .inl rfl
    | some o => exact .inr fun e => by have := own_lt (h2 i hi).2 o hv; have := hr o e; omega
theorem GL.cong (h : GL lo w A m f) (he : ∀ i, i < m → f i = g i) : GL lo w A m g := by
  obtain ⟨B, c, xs, hB, h1, a, cc, h2, h3⟩ := h
  exact ⟨B, c, xs, hB, h1, a, cc, fun i hi => by rw [← he i hi]; exact h2 i hi, fun i j hi hj hij => by rw [← he i hi, ← he j hj]; exact h3 i j hi hj hij⟩
theorem GL.ls (h : GL lo w A m f) : LS w.heap.size w A m f := by
  obtain ⟨B, c, xs, hB, h1, a, cc, h2, h3⟩ := h
  intro i hi
  obtain ⟨q, o, hA, hq, h0⟩ := own_sl h1 i (by omega)
  dsimp only at h0
  rw [List.getD_eq_getElem?_getD, (h2 i hi).1] at h0
  exact ⟨q, o, a i, cc i, hA, hq, h0, (h2 i hi).2.sl⟩
/-- a list is stored anew -/
theorem GL.mark (h : GL lo w A m f) {i : Nat} (hi : i < m) :
    ∃ B q o Ai ci, lo ≤ B ∧ A = some ⟨q, o, none⟩ ∧ w.cell? ⟨q, o + i, none⟩ = some (.slice Ai (f i).length ci) ∧ IntsR B w Ai ci (f i) ∧ ∀ (w1 : World) (l' : List Nat), l'.length = (f i).length → IntsR B w1 Ai ci l' → w.grownBy w1 (Value.slice Ai (f i).length ci).ownBlock → GL lo w1 A m (fun j => if j = i then l' else f j) := by
  obtain ⟨B, c, xs, hB, h1, a, cc, h2, h3⟩ := h
  obtain ⟨q, o, hA, hq, h0⟩ := own_sl h1 i (by omega)
  dsimp only at h0
  rw [List.getD_eq_getElem?_getD, (h2 i hi).1] at h0
  refine ⟨B, q, o, a i, cc i, hB, hA, h0, (h2 i hi).2, fun w1 l' hl hi' hg => ?_⟩
  have hlen : ∀ j, (if j = i then l' else f j).length = (f j).length := fun j => by
    by_cases e : j = i
    · subst e; simp [hl]
    · simp [e]
  refine ⟨B, c, xs, hB, h1.kept hg ((own_neO (h2 i hi).2 h1 tI).elim (fun e => by rw [e]; cases hv : (Value.slice A m c).ownBlock <;> simp) (fun e => .inr fun e' => e e'.symm)), a, cc, fun j hj => ?_, fun j k hj hk hjk => ?_⟩
  · rw [hlen]
    refine ⟨(h2 j hj).1, ?_⟩
    by_cases e : j = i
    · subst e
      simp only [if_pos]
      exact hi'
    · simp only [if_neg e]
      exact (h2 j hj).2.grown hg ((h3 j i hj hi e).imp id fun h e' => h e'.symm)
  · rw [hlen, hlen]
    exact h3 j k hj hk hjk
end
/-- the mark ahead of list i -/
def kAl (f : Nat → List Nat) (k0 : Nat) : Nat → Nat
  | 0 => k0
  | i + 1 => kAl f k0 i + (f i).length
/-- a marked list -/
def mkL (f : Nat → List Nat) (k0 i : Nat) : List Nat := (List.range (f i).length).map (kAl f k0 i + ·)
theorem kAl_le {f : Nat → List Nat} {k0 : Nat} : ∀ m, (∀ i, i < m → (f i).length ≤ 128) → kAl f k0 m ≤ k0 + m * 128
  | 0, _ => by simp [kAl]
  | m + 1, h => by
    have := kAl_le (f := f) (k0 := k0) m (fun i hi => h i (by omega))
    have := h m (by omega)
    rw [kAl]
    omega
theorem kAl_ge {f : Nat → List Nat} {k0 : Nat} : ∀ m, k0 ≤ kAl f k0 m
  | 0 => Nat.le_refl _
  | m + 1 => by have := kAl_ge (f := f) (k0 := k0) m; rw [kAl]; omega
theorem mkL_len (f : Nat → List Nat) (k0 i : Nat) : (mkL f k0 i).length = (f i).length := by simp [mkL]
theorem mkL_getD {f : Nat → List Nat} {k0 i j : Nat} (h : j < (f i).length) : (mkL f k0 i).getD j 0 = kAl f k0 i + j := by
  simp [mkL, h]
theorem eqInt64SS_same (A B : Option Addr) (n c d : Nat) (f : Nat → List Nat) (w : World) (hn : n ≤ 1048576) (hl : ∀ i, i < n → (f i).length ≤ 1048576) (hs : LS w.heap.size w A n f) (ht : LS w.heap.size w B n f) :
    Calls Tryd.prog 8 #[.slice A n c, .slice B n d] w fun e w' => e = .returned (.bool true) ∧ Below w.heap.size w w' := by
  go_enter Tryd.func8, Tryd.ntmps8
  go_wp2
  go_loopw [5] (fun s5 wr => ∃ k : Nat, k ≤ n ∧ s5 = .int .i64 k ∧ Below w.heap.size w wr) (fun i _ => n - (intOf i).toNat)
  case atStart => exact ⟨0, by omega, rfl, Below.refl _ _⟩
  case round =>
    obtain ⟨k, hk, rfl, hb⟩ := hrel
    by_cases hlt : k < n
    · obtain ⟨q, o, Ai, ci, rfl, hq, g0, gs⟩ := (hs.below hb) k hlt
      obtain ⟨q', o', Ai', ci', rfl, hq', g0', gs'⟩ := (ht.below hb) k hlt
      have hll := hl k hlt
      have hzz := hb.size
      obtain ⟨F, hF⟩ : ∃ F, f k = F := ⟨_, rfl⟩
      rw [hF] at g0 gs g0' gs' hll
      obtain ⟨nn, hnn⟩ : ∃ nn, F.length = nn := ⟨_, rfl⟩
      rw [hnn] at g0 gs g0' gs' hll
      have HQ := Lib.hid (eqInt64S_same Ai Ai' nn ci ci' _ _ wr.drew hll (gs.more hzz) (gs'.more hzz) (fun _ _ => rfl))
      clear hs ht hF gs gs' hl hnn
      go_wp2_with fail
      go_region_law (go_simp; go_at_call 17; refine HQ.out.mono ?_; rintro e w2 ⟨rfl, hb2⟩)
      all_goals
        go_wp2_with fail
        go_roundw
        case rel => exact ⟨k + 1, by omega, by go_num, hb.drew.trans (hb2.mono hzz)⟩
        case measure => simp [intOf]; omega
    · go_wp2
      go_ret
      exact ⟨rfl, hb⟩
set_option maxHeartbeats 1000000 in
theorem markInt64SS_any (A : Option Addr) (n c lo k0 : Nat) (f : Nat → List Nat) (w : World) (hn : n ≤ 128) (hl : ∀ i, i < n → (f i).length ≤ 128) (h0 : 1 ≤ k0) (h1 : k0 ≤ 1000000) (hlo : lo ≤ w.heap.size) (hg : GL lo w A n f) :
    Calls Tryd.prog 11 #[.slice A n c, .int .i64 (k0 : Int)] w fun e w' => e = .returned (.int .i64 ((kAl f k0 n : Nat) : Int)) ∧ GL lo w' A n (mkL f k0) ∧ Below lo w w' := by
  have HW := Lib.hid hg
  have HL := Lib.hid hl
  clear hg hl
  go_enter Tryd.func11, Tryd.ntmps11
  go_wp2
  go_loopw [1, 5] (fun s1 s5 wr => ∃ k : Nat, k ≤ n ∧ s5 = .int .i64 k ∧ s1 = .int .i64 ((kAl f k0 k : Nat) : Int) ∧ GL lo wr A n (fun j => if j < k then mkL f k0 j else f j) ∧ Below lo w wr) (fun _ i _ => n - (intOf i).toNat)
  case atStart => exact ⟨0, by omega, rfl, rfl, by simpa using HW.out, Below.refl _ _⟩
  case round =>
    obtain ⟨k, hk, rfl, rfl, hwr, hb⟩ := hrel
    have hz := hb.size
    by_cases hlt : k < n
    · obtain ⟨B, q, o, Ai, ci, hB, rfl, g0, hi, hnew⟩ := hwr.mark hlt
      have hll := HL.out k hlt
      have hka := kAl_le (f := f) (k0 := k0) k (fun i hi => HL.out i (by omega))
      have hkb := kAl_ge (f := f) (k0 := k0) k
      have hkn : k * 128 ≤ 128 * 128 := Nat.mul_le_mul_right 128 (by omega)
      have hif : (if k < k then mkL f k0 k else f k) = f k := if_neg (by omega)
      simp only [hif] at g0 hi hnew
      have HNX := Lib.hid (show kAl f k0 (k + 1) = kAl f k0 k + (f k).length from rfl)
      have HMF := Lib.hid (show mkL f k0 k = (List.range (f k).length).map (kAl f k0 k + ·) from rfl)
      obtain ⟨K, hK⟩ : ∃ K, kAl f k0 k = K := ⟨_, rfl⟩
      rw [hK] at hka hkb HNX HMF ⊢
      obtain ⟨nn, hnn⟩ : ∃ nn, (f k).length = nn := ⟨_, rfl⟩
      have hNN := Lib.hid hnn
      have hi' : wr.ownsRow B 2 1 (.slice Ai nn ci) nn ((f k).map fun (i : Nat) => Value.int .i64 (i : Int)) := by have := hi; unfold IntsR at this; rw [hnn] at this; exact this
      rw [hnn] at g0 hll HNX HMF
      have HMK := Lib.hid (markInt64S_any Ai nn ci B (K : Int) _ wr (by omega) (by omega) (by omega) hi')
      have hob := own_lt hi'
      have HNEW := Lib.hid hnew
      have HWR := Lib.hid hwr
      have HB := Lib.hid hb
      have HIF := Lib.hid hif
      clear hwr hnew hi hi' hb hK hnn hif
      obtain ⟨M, hM⟩ : ∃ M, K + nn = M := ⟨_, rfl⟩
      have hMi : (K : Int) + nn = (M : Int) := by omega
      rw [hMi] at HMK
      rw [hM] at HNX
      clear hMi
      go_wp2_with (go_at_call 19; refine HMK.out.mono ?_; rintro e w2 ⟨rfl, ho2, hg2⟩)
      have hml : ((List.range nn).map (K + ·)).map (fun (i : Nat) => Value.int .i64 (i : Int)) = (List.range nn).map fun (i : Nat) => Value.int .i64 ((K : Int) + i) := by
        rw [List.map_map]
        apply List.map_congr_left
        intro i _
        simp
      have HN3 := Lib.hid (HNEW.out w2 ((List.range nn).map (K + ·)) (by simp [hNN.out]) (by unfold IntsR; rw [hml]; simpa using ho2) (by rw [hNN.out]; exact hg2))
      have HEQ := Lib.hid (show (fun j => if j = k then (List.range nn).map (K + ·) else if j < k then mkL f k0 j else f j) = (fun j => if j < k + 1 then mkL f k0 j else f j) by
        funext j
        by_cases e : j = k
        · subst e
          simp [HMF.out]
        · rw [if_neg e]
          by_cases h : j < k
          · rw [if_pos h, if_pos (by omega)]
          · rw [if_neg h, if_neg (by omega)])
      rw [HEQ.out] at HN3
      go_roundw
      case rel => exact ⟨k + 1, by omega, by go_num, by rw [HNX.out], HN3.out, HB.out.grown hg2 (Nat.le_trans hlo hz) (fun j hj => Nat.le_trans hB (hob j hj))⟩
      case measure => simp [intOf]; omega
    · obtain rfl : k = n := by omega
      go_wp2
      go_ret
      exact ⟨rfl, hwr.cong fun j hj => if_pos hj, hb⟩
theorem heldInt64SS_any (A : Option Addr) (n c k0 : Nat) (f : Nat → List Nat) (w : World) (hn : n ≤ 128) (hl : ∀ i, i < n → (f i).length ≤ 128) (h0 : 1 ≤ k0) (h1 : k0 ≤ 1000000) (hs : LS w.heap.size w A n (mkL f k0)) :
    Calls Tryd.prog 12 #[.slice A n c, .int .i64 (k0 : Int)] w fun e w' => e = .returned (.int .i64 ((kAl f k0 n : Nat) : Int)) ∧ Below w.heap.size w w' := by
  have HL := Lib.hid hl
  have HS := Lib.hid hs
  clear hl hs
  go_enter Tryd.func12, Tryd.ntmps12
  go_wp2
  go_loopw [1, 5] (fun s1 s5 wr => ∃ k : Nat, k ≤ n ∧ s5 = .int .i64 k ∧ s1 = .int .i64 ((kAl f k0 k : Nat) : Int) ∧ Below w.heap.size w wr) (fun _ i _ => n - (intOf i).toNat)
  case atStart => exact ⟨0, by omega, rfl, rfl, Below.refl _ _⟩
  case round =>
    obtain ⟨k, hk, rfl, rfl, hb⟩ := hrel
    have hz := hb.size
    by_cases hlt : k < n
    · obtain ⟨q, o, Ai, ci, rfl, hq, g0, gs⟩ := (HS.out.below hb) k hlt
      have hll := HL.out k hlt
      have hka := kAl_le (f := f) (k0 := k0) k (fun i hi => HL.out i (by omega))
      have hkb := kAl_ge (f := f) (k0 := k0) k
      have hkn : k * 128 ≤ 128 * 128 := Nat.mul_le_mul_right 128 (by omega)
      have HNX := Lib.hid (show kAl f k0 (k + 1) = kAl f k0 k + (f k).length from rfl)
      rw [mkL_len] at g0 gs
      have gs' : Sl wr w.heap.size Ai (f k).length (fun j => .int .i64 (((kAl f k0 k : Nat) : Int) + j)) := gs.congr fun j hj => by rw [mkL_getD hj]; simp
      obtain ⟨K, hK⟩ : ∃ K, kAl f k0 k = K := ⟨_, rfl⟩
      rw [hK] at hka hkb HNX gs' ⊢
      obtain ⟨nn, hnn⟩ : ∃ nn, (f k).length = nn := ⟨_, rfl⟩
      rw [hnn] at g0 gs' hll HNX
      have HMK := Lib.hid (heldInt64S_any Ai nn ci (K : Int) wr (by omega) (by omega) (by omega) (gs'.more hz))
      obtain ⟨M, hM⟩ : ∃ M, K + nn = M := ⟨_, rfl⟩
      have hMi : (K : Int) + nn = (M : Int) := by omega
      rw [hMi] at HMK
      rw [hM] at HNX
      have hM0 : ¬ (M : Int) < 0 := by omega
      have HB := Lib.hid hb
      clear hMi gs gs' hb hK hnn
      go_wp2_with (go_at_call 20; refine HMK.out.mono ?_; rintro e w2 ⟨rfl, hb2⟩)
      go_roundw
      case rel => exact ⟨k + 1, by omega, by go_num, by rw [HNX.out], HB.out.trans (hb2.mono hz)⟩
      case measure => simp [intOf]; omega
    · obtain rfl : k = n := by omega
      go_wp2
      go_ret
      exact ⟨rfl, hb⟩
end Go.Proofs.YtapkckpjeoedaaaDoor
