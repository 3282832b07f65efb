/-
  Disks of chains: a chain is followed, both sides.
  Disks of chains: a chain is followed: the reference's side.
-/
import Derived.Test.YtapkckpjeoedaaaGreatDoorEntP
import Derived.Test.YtapkckpjeoedaaaGreatDoorSlInts
import Derived.Test.YtapkckpjeoedaaaGreatDoorChainLinks
namespace Go.Proofs.YtapkckpjeoedaaaGreatDoor
open Go Go.ChangeShapes Go.WideShapes Go.ChangeAt Go.RowKit lib
set_option linter.unusedVariables false
set_option maxRecDepth 100000
/-- a list of numbers of the call's own -/
def IntsR (B : Nat) (w' : World) (A : Option Addr) (c : Nat) (l : List Nat) : Prop := w'.ownsRow B 2 1 (.slice A l.length c) l.length (l.map fun (i : Nat) => Value.int .i64 (i : Int))
theorem IntsR.sl {B : Nat} {w' : World} {A : Option Addr} {c : Nat} {l : List Nat} (h : IntsR B w' A c l) : Sl w' w'.heap.size A l.length (fun i => .int .i64 ((l.getD i 0 : Nat) : Int)) := by
  have := own_sl h
  rw [Nat.mul_one] at this
  refine this.congr fun i hi => ?_
  simp [List.getD_eq_getElem?_getD, hi]
theorem hasZ_mem (l : List Nat) (a : Nat) : hasZ (fun i => ((l.getD i 0 : Nat) : Int)) l.length (a : Int) = decide (a ∈ l) := by
  by_cases h : a ∈ l
  · rw [decide_eq_true h]
    obtain ⟨i, hi, rfl⟩ := List.mem_iff_getElem.1 h
    exact hasZ_true hi (by simp [List.getD_eq_getElem?_getD, hi])
  · rw [decide_eq_false h]
    refine hasZ_false fun k hk he => h ?_
    simp [List.getD_eq_getElem?_getD, hk] at he
    have : l[k] = a := by omega
    rw [← this]
    exact List.getElem_mem hk
def lkN (z : Nat) (u : Nat → UInt8) (a : Nat) : Nat := (u (z + a)).toNat
theorem lkN_lt (z : Nat) (u : Nat → UInt8) (a : Nat) : lkN z u a < 256 := (u (z + a)).toNat_lt
theorem isOpenN_false {x : Nat} (h : isOpenN x = false) : x ≠ 0 ∧ x ≠ 253 ∧ x ≠ 254 := by
  unfold isOpenN at h
  simp at h
  omega
theorem isOpenN_true {x : Nat} (h : isOpenN x = true) : x = 0 ∨ x = 253 ∨ x = 254 := by
  unfold isOpenN at h
  simp at h
  omega
/-- an integer equation both ways -/
theorem eqB (x : Nat) (k : Int) (b : Bool) (h : ((x : Int) = k) ↔ b = true) : ((x : Int) == k) = b ∧ ((x : Int) != k) = !b := by
  have : ((x : Int) == k) = b := by rw [Bool.eq_iff_iff, beq_iff_eq]; exact h
  exact ⟨this, by simp [bne, this]⟩
/-- the next block of a chain -/
theorem chain_next {t n a : Nat} {L : Nat → Nat} {l : List Nat} {R : List Nat × Nat} (hl : ChL t n l) (hd : t ≤ a ∧ a < n) (hm : a ∉ l) (ho : isOpenN (L a) = false) (hg : chainGo t n L (n - l.length + 1) l a = R) :
    (((l ++ [a]).length = 0 ∨ L a ≠ 255) ∧ chainGo t n L (n + 1 - (l ++ [a]).length) (l ++ [a]) (L a) = R) ∨ ((l ++ [a]).length ≠ 0 ∧ L a = 255 ∧ R = (l ++ [a], 0)) := by
  by_cases hx : L a = 255
  · right
    refine ⟨by simp, hx, ?_⟩
    rw [← hg, chainGo_end hd hm hx]
  · left
    refine ⟨.inr hx, ?_⟩
    rw [← hg, chainGo_step hd hm ho hx, List.length_append, List.length_singleton, show n + 1 - (l.length + 1) = n - l.length by omega]
end Go.Proofs.YtapkckpjeoedaaaGreatDoor
namespace Go.Proofs.YtapkckpjeoedaaaGreatDoor
open Go Go.ChangeShapes Go.WideShapes Go.ChangeAt Go.RowKit lib
set_option linter.unusedVariables false
set_option maxRecDepth 100000
theorem own_nil0 (w : World) (e : Nat) : (w.alloc (.cells #[] e)).ownsRow w.heap.size e 1 (.slice (some ⟨w.heap.size, 0, none⟩) 0 0) 0 [] := ⟨rfl, .inr ⟨w.heap.size, 0, #[], rfl, Nat.le_refl _, heap_alloc_new w _, Nat.le_refl _, by simp [maxLen], rfl, rfl⟩⟩
set_option maxHeartbeats 2000000 in
theorem specChain_any {w : World} {p g n z e d t N c : Nat} {u : Nat → UInt8} (first : Nat) (hfi : first ≤ 1024) (h : ChW w p g n z e d t N c u) (hn : n ≤ 128) (hNz : z + n ≤ N) (hN : N ≤ 4096) :
    Calls Tryz.prog 104 #[.pointer (some ⟨p, 0, none⟩), .int .i64 first] w fun r w' => ∃ A c, r = .returned (.tuple #[.slice A (chainOf t n (lkN z u) first).1.length c, .int .i64 (chainOf t n (lkN z u) first).2]) ∧ IntsR w.heap.size w' A c (chainOf t n (lkN z u) first).1 ∧ Below w.heap.size w w' := by
  have hb0 := (Below.refl w.heap.size w).alloc (Nat.le_refl _) (.cells #[] 2)
  by_cases hf0 : first = 0
  · subst hf0
    go_enter Tryz.func104, Tryz.ntmps104
    go_wp2_with fail
    go_ret2
    exact ⟨_, 0, rfl, own_nil0 w _, hb0⟩
  · have hfe : chainOf t n (lkN z u) first = chainGo t n (lkN z u) (n + 1) [] first := by unfold chainOf; rw [if_neg hf0]
    rw [hfe]
    obtain ⟨R, hR⟩ : ∃ R, chainGo t n (lkN z u) (n + 1) [] first = R := ⟨_, rfl⟩
    rw [hR]
    have f0 : ((first : Int) == 0) = false := by simp; omega
    go_enter Tryz.func104, Tryz.ntmps104
    go_wp2_with fail
    go_loopw [6, 7] (fun s6 s7 wr => ∃ (l : List Nat) (a : Nat) (A : Option Addr) (c' : Nat), s6 = .slice A l.length c' ∧ s7 = .int .i64 a ∧ a ≤ 1024 ∧ ChL t n l ∧ chainGo t n (lkN z u) (n - l.length + 1) l a = R ∧ IntsR w.heap.size wr A c' l ∧ Below w.heap.size w wr) (fun s _ _ => match s with | .slice _ k _ => n + 2 - k | _ => 0)
    case atStart => exact ⟨[], first, _, 0, rfl, rfl, hfi, ChL.nil t n, hR, own_nil0 w _, hb0⟩
    case round =>
      obtain ⟨l, a, A, c', rfl, rfl, ha, hl, hgo, ho, hb⟩ := hrel
      have hlen := hl.len
      have hz := hb.size
      have hW := h.below hb
      have HO := Lib.hid ho
      have HG := Lib.hid hgo
      have HS := Lib.hid ho.sl
      have HM := Lib.hid (hasZ_mem l a)
      have HL := Lib.hid hl
      clear hgo ho hfe hl hR
      by_cases hd : t ≤ a ∧ a < n
      · have hw1 : (decide ((t : Int) ≤ (a : Int)) && decide ((a : Int) ≤ (n : Int) - 1)) = true := by simp; omega
        have HD := Lib.hid hd
        by_cases hmem : a ∈ l
        · have HR := Lib.hid ((chainGo_loop (m := n - l.length) (L := lkN z u) hd hmem).symm.trans HG.out)
          have hw2 : hasZ (fun i => ((l.getD i 0 : Nat) : Int)) l.length (a : Int) = true := by rw [HM.out]; simpa using hmem
          have HW2 := Lib.hid hw2
          clear hmem hw2 hlen hd
          go_wp2_with (first
            | (go_at_call 128; refine (specData_any a hW (by omega)).mono ?_; rw [hw1]; rintro e w1 ⟨rfl, rfl⟩)
            | (go_at_call 85; refine (l00Has_any _ _ (HS.out.drew) (by have := HL.out.len; omega)).mono ?_; rw [HW2.out]; rintro e w2 ⟨rfl, rfl⟩))
          go_ret2
          rw [← HR.out]
          exact ⟨none, 0, rfl, World.ownsRow_nil _ _ _ _, hb.drew⟩
        · have HMM := Lib.hid hmem
          have hw2 : hasZ (fun i => ((l.getD i 0 : Nat) : Int)) l.length (a : Int) = false := by rw [HM.out]; simpa using hmem
          have HW2 := Lib.hid hw2
          obtain ⟨y, hy⟩ : ∃ y : Int, y = (lkN z u a : Nat) := ⟨_, rfl⟩
          have hyl := lkN_lt z u a
          have HY := Lib.hid hy
          have hc5 : y = 255 ∨ (y ≠ 255 ∧ y = 0) ∨ (y ≠ 255 ∧ y ≠ 0 ∧ y = 254) ∨ (y ≠ 255 ∧ y ≠ 0 ∧ y ≠ 254 ∧ y = 253) ∨ (y ≠ 255 ∧ y ≠ 0 ∧ y ≠ 254 ∧ y ≠ 253) := by omega
          have HPU := Lib.hid (own_below HO.out (Below.refl _ _).drew)
          have HLK := Lib.hid (fun (w3 : World) (hw3 : ChW w3 p g n z e d t N c u) => (specLink_any a hw3 (by omega) (by omega)).mono fun r w' h => (show r = .returned (.int .i64 y) ∧ w' = w3.drew from ⟨h.1.trans (by rw [hy]; rfl), h.2⟩))
          have H5 := Lib.hid hc5
          clear hmem hw2 hy hlen hd hyl hc5
          rcases H5.out with h0 | ⟨h0, h1⟩ | ⟨h0, h1, h2⟩ | ⟨h0, h1, h2, h3⟩ | ⟨h0, h1, h2, h3⟩
          · have e0 : (y == 255) = true := by simp [h0]
            have HR := Lib.hid ((chainGo_end (m := n - l.length) (L := lkN z u) HD.out HMM.out (by have := HY.out; omega)).symm.trans HG.out)
            clear h0
            go_wp2_with (first
              | (go_at_call 128; refine (specData_any a hW (by omega)).mono ?_; rw [hw1]; rintro e w1 ⟨rfl, rfl⟩)
              | (go_at_call 85; refine (l00Has_any _ _ (HS.out.drew) (by have := HL.out.len; omega)).mono ?_; rw [HW2.out]; rintro e w2 ⟨rfl, rfl⟩)
              | (at_builtin; refine wpList_push (.tmp 21) (.tmp 23) 74 w.heap.size 2 (.int .i64 0) _ 8 _ l.length _ HPU.out rfl rfl Tryz.underlying74 infoI64 rfl rfl rfl rfl rfl (by have := HL.out.len; omega) (by have := HL.out.len; omega) hz ?_; intro A' c2 w3 ho3 hb3)
              | (go_at_call 79; refine (HLK.out _ (h.below (hb.drew.trans hb3))).mono ?_; rintro e w4 ⟨rfl, rfl⟩))
            go_ret2
            rw [← HR.out]
            exact ⟨some A', c2, by simp, by simpa [IntsR] using own_below ho3 (Below.refl _ _).drew, (hb.drew.trans hb3).drew⟩
          · have e0 : (y == 255) = false := by simp [h0]
            have e1 : (y == 0) = true := by simp [h1]
            have HR := Lib.hid ((chainGo_open (m := n - l.length) (L := lkN z u) HD.out HMM.out (by have := HY.out; rw [show lkN z u a = 0 by omega]; rfl)).symm.trans HG.out)
            clear h0 h1
            go_wp2_with (first
              | (go_at_call 128; refine (specData_any a hW (by omega)).mono ?_; rw [hw1]; rintro e w1 ⟨rfl, rfl⟩)
              | (go_at_call 85; refine (l00Has_any _ _ (HS.out.drew) (by have := HL.out.len; omega)).mono ?_; rw [HW2.out]; rintro e w2 ⟨rfl, rfl⟩)
              | (at_builtin; refine wpList_push (.tmp 21) (.tmp 23) 74 w.heap.size 2 (.int .i64 0) _ 8 _ l.length _ HPU.out rfl rfl Tryz.underlying74 infoI64 rfl rfl rfl rfl rfl (by have := HL.out.len; omega) (by have := HL.out.len; omega) hz ?_; intro A' c2 w3 ho3 hb3)
              | (go_at_call 79; refine (HLK.out _ (h.below (hb.drew.trans hb3))).mono ?_; rintro e w4 ⟨rfl, rfl⟩))
            go_ret2
            rw [← HR.out]
            exact ⟨none, 0, rfl, World.ownsRow_nil _ _ _ _, (hb.drew.trans hb3).drew⟩
          · have e0 : (y == 255) = false := by simp [h0]
            have e1 : (y == 0) = false := by simp [h1]
            have e2 : (y == 254) = true := by simp [h2]
            have HR := Lib.hid ((chainGo_open (m := n - l.length) (L := lkN z u) HD.out HMM.out (by have := HY.out; rw [show lkN z u a = 254 by omega]; rfl)).symm.trans HG.out)
            clear h0 h1 h2
            go_wp2_with (first
              | (go_at_call 128; refine (specData_any a hW (by omega)).mono ?_; rw [hw1]; rintro e w1 ⟨rfl, rfl⟩)
              | (go_at_call 85; refine (l00Has_any _ _ (HS.out.drew) (by have := HL.out.len; omega)).mono ?_; rw [HW2.out]; rintro e w2 ⟨rfl, rfl⟩)
              | (at_builtin; refine wpList_push (.tmp 21) (.tmp 23) 74 w.heap.size 2 (.int .i64 0) _ 8 _ l.length _ HPU.out rfl rfl Tryz.underlying74 infoI64 rfl rfl rfl rfl rfl (by have := HL.out.len; omega) (by have := HL.out.len; omega) hz ?_; intro A' c2 w3 ho3 hb3)
              | (go_at_call 79; refine (HLK.out _ (h.below (hb.drew.trans hb3))).mono ?_; rintro e w4 ⟨rfl, rfl⟩))
            go_ret2
            rw [← HR.out]
            exact ⟨none, 0, rfl, World.ownsRow_nil _ _ _ _, (hb.drew.trans hb3).drew⟩
          · have e0 : (y == 255) = false := by simp [h0]
            have e1 : (y == 0) = false := by simp [h1]
            have e2 : (y == 254) = false := by simp [h2]
            have e3 : (y == 253) = true := by simp [h3]
            have HR := Lib.hid ((chainGo_open (m := n - l.length) (L := lkN z u) HD.out HMM.out (by have := HY.out; rw [show lkN z u a = 253 by omega]; rfl)).symm.trans HG.out)
            clear h0 h1 h2 h3
            go_wp2_with (first
              | (go_at_call 128; refine (specData_any a hW (by omega)).mono ?_; rw [hw1]; rintro e w1 ⟨rfl, rfl⟩)
              | (go_at_call 85; refine (l00Has_any _ _ (HS.out.drew) (by have := HL.out.len; omega)).mono ?_; rw [HW2.out]; rintro e w2 ⟨rfl, rfl⟩)
              | (at_builtin; refine wpList_push (.tmp 21) (.tmp 23) 74 w.heap.size 2 (.int .i64 0) _ 8 _ l.length _ HPU.out rfl rfl Tryz.underlying74 infoI64 rfl rfl rfl rfl rfl (by have := HL.out.len; omega) (by have := HL.out.len; omega) hz ?_; intro A' c2 w3 ho3 hb3)
              | (go_at_call 79; refine (HLK.out _ (h.below (hb.drew.trans hb3))).mono ?_; rintro e w4 ⟨rfl, rfl⟩))
            go_ret2
            rw [← HR.out]
            exact ⟨none, 0, rfl, World.ownsRow_nil _ _ _ _, (hb.drew.trans hb3).drew⟩
          · have e0 : (y == 255) = false := by simp [h0]
            have e1 : (y == 0) = false := by simp [h1]
            have e2 : (y == 254) = false := by simp [h2]
            have e3 : (y == 253) = false := by simp [h3]
            have HNX := Lib.hid (show chainGo t n (lkN z u) (n - (l ++ [a]).length + 1) (l ++ [a]) (lkN z u a) = R by
              have := HL.out.snoc HD.out HMM.out |>.len
              rw [← HG.out, chainGo_step HD.out HMM.out (by have := HY.out; unfold isOpenN; simp; omega) (by have := HY.out; omega)]
              simp at this
              rw [show n - (l ++ [a]).length + 1 = n - l.length by simp; omega])
            clear h0 h1 h2 h3
            go_wp2_with (first
              | (go_at_call 128; refine (specData_any a hW (by omega)).mono ?_; rw [hw1]; rintro e w1 ⟨rfl, rfl⟩)
              | (go_at_call 85; refine (l00Has_any _ _ (HS.out.drew) (by have := HL.out.len; omega)).mono ?_; rw [HW2.out]; rintro e w2 ⟨rfl, rfl⟩)
              | (at_builtin; refine wpList_push (.tmp 21) (.tmp 23) 74 w.heap.size 2 (.int .i64 0) _ 8 _ l.length _ HPU.out rfl rfl Tryz.underlying74 infoI64 rfl rfl rfl rfl rfl (by have := HL.out.len; omega) (by have := HL.out.len; omega) hz ?_; intro A' c2 w3 ho3 hb3)
              | (go_at_call 79; refine (HLK.out _ (h.below (hb.drew.trans hb3))).mono ?_; rintro e w4 ⟨rfl, rfl⟩))
            go_roundw
            case rel => exact ⟨l ++ [a], lkN z u a, some A', c2, by simp, by rw [HY.out], by have := lkN_lt z u a; omega, HL.out.snoc HD.out HMM.out, HNX.out, by simpa [IntsR] using own_below ho3 (Below.refl _ _).drew, (hb.drew.trans hb3).drew⟩
            case measure => have := HL.out.len; simp; omega
      · have hw1 : (decide ((t : Int) ≤ (a : Int)) && decide ((a : Int) ≤ (n : Int) - 1)) = false := by
          rw [Bool.eq_false_iff]
          intro h
          simp at h
          omega
        have HR := Lib.hid ((chainGo_range (m := n - l.length) (L := lkN z u) (l := l) hd).symm.trans HG.out)
        clear hd hlen
        go_wp2_with (first
          | (go_at_call 128; refine (specData_any a hW (by omega)).mono ?_; rw [hw1]; rintro e w1 ⟨rfl, rfl⟩))
        go_ret2
        rw [← HR.out]
        exact ⟨none, 0, rfl, World.ownsRow_nil _ _ _ _, hb.drew⟩
end Go.Proofs.YtapkckpjeoedaaaGreatDoor
