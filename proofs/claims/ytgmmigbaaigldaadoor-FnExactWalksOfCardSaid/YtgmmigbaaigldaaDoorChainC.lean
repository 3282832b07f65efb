/-
  Disks of chains: a chain is followed, both sides.
-/
import Derived.Test.YtgmmigbaaigldaaDoorChainP
import Derived.Test.YtgmmigbaaigldaaDoorSlInts
import Derived.Test.YtgmmigbaaigldaaDoorChainLinks
namespace Go.Proofs.YtgmmigbaaigldaaDoor
open Go Go.ChangeShapes Go.WideShapes Go.ChangeAt Go.RowKit lib
set_option linter.unusedVariables false
set_option maxRecDepth 100000
/-- a list of numbers of the call's own -/
def IntsR (B : Nat) (w' : World) (A : Option Addr) (c : Nat) (l : List Nat) : Prop := w'.ownsRow B 2 1 (.slice A l.length c) l.length (l.map fun (i : Nat) => Value.int .i64 (i : Int))
theorem IntsR.sl {B : Nat} {w' : World} {A : Option Addr} {c : Nat} {l : List Nat} (h : IntsR B w' A c l) : Sl w' w'.heap.size A l.length (fun i => .int .i64 ((l.getD i 0 : Nat) : Int)) := by
  have := own_sl h
  rw [Nat.mul_one] at this
  refine this.congr fun i hi => ?_
  simp [List.getD_eq_getElem?_getD, hi]
theorem hasZ_mem (l : List Nat) (a : Nat) : hasZ (fun i => ((l.getD i 0 : Nat) : Int)) l.length (a : Int) = decide (a ∈ l) := by
  by_cases h : a ∈ l
  · rw [decide_eq_true h]
    obtain ⟨i, hi, rfl⟩ := List.mem_iff_getElem.1 h
    exact hasZ_true hi (by simp [List.getD_eq_getElem?_getD, hi])
  · rw [decide_eq_false h]
    refine hasZ_false fun k hk he => h ?_
    simp [List.getD_eq_getElem?_getD, hk] at he
    have : l[k] = a := by omega
    rw [← this]
    exact List.getElem_mem hk
def lkN (z : Nat) (u : Nat → UInt8) (a : Nat) : Nat := (u (z + a)).toNat
theorem lkN_lt (z : Nat) (u : Nat → UInt8) (a : Nat) : lkN z u a < 256 := (u (z + a)).toNat_lt
theorem isOpenN_false {x : Nat} (h : isOpenN x = false) : x ≠ 0 ∧ x ≠ 253 ∧ x ≠ 254 := by
  unfold isOpenN at h
  simp at h
  omega
theorem isOpenN_true {x : Nat} (h : isOpenN x = true) : x = 0 ∨ x = 253 ∨ x = 254 := by
  unfold isOpenN at h
  simp at h
  omega
/-- an integer equation both ways -/
theorem eqB (x : Nat) (k : Int) (b : Bool) (h : ((x : Int) = k) ↔ b = true) : ((x : Int) == k) = b ∧ ((x : Int) != k) = !b := by
  have : ((x : Int) == k) = b := by rw [Bool.eq_iff_iff, beq_iff_eq]; exact h
  exact ⟨this, by simp [bne, this]⟩
/-- the next block of a chain -/
theorem chain_next {t n a : Nat} {L : Nat → Nat} {l : List Nat} {R : List Nat × Nat} (hl : ChL t n l) (hd : t ≤ a ∧ a < n) (hm : a ∉ l) (ho : isOpenN (L a) = false) (hg : chainGo t n L (n - l.length + 1) l a = R) :
    (((l ++ [a]).length = 0 ∨ L a ≠ 255) ∧ chainGo t n L (n + 1 - (l ++ [a]).length) (l ++ [a]) (L a) = R) ∨ ((l ++ [a]).length ≠ 0 ∧ L a = 255 ∧ R = (l ++ [a], 0)) := by
  by_cases hx : L a = 255
  · right
    refine ⟨by simp, hx, ?_⟩
    rw [← hg, chainGo_end hd hm hx]
  · left
    refine ⟨.inr hx, ?_⟩
    rw [← hg, chainGo_step hd hm ho hx, List.length_append, List.length_singleton, show n + 1 - (l.length + 1) = n - l.length by omega]
set_option maxHeartbeats 2000000 in
theorem implChain_any {w : World} {p g n z e d t N c : Nat} {u : Nat → UInt8} (first : Nat) (hfi : first ≤ 1024) (h : ChW w p g n z e d t N c u) (hn : n ≤ 128) (hNz : z + n ≤ N) (hN : N ≤ 4096) :
    Calls Tryd.prog 77 #[.pointer (some ⟨p, 0, none⟩), .int .i64 first] w fun r w' => ∃ A c, r = .returned (.tuple #[.slice A (chainOf t n (lkN z u) first).1.length c, .int .i64 (chainOf t n (lkN z u) first).2]) ∧ IntsR w.heap.size w' A c (chainOf t n (lkN z u) first).1 ∧ Below w.heap.size w w' := by
  by_cases hf0 : first = 0
  · subst hf0
    go_enter Tryd.func77, Tryd.ntmps77
    go_wp2_with fail
    go_ret2
    exact ⟨none, 0, rfl, World.ownsRow_nil _ _ _ _, Below.refl _ _⟩
  · have hfe : chainOf t n (lkN z u) first = chainGo t n (lkN z u) (n + 1) [] first := by unfold chainOf; rw [if_neg hf0]
    rw [hfe]
    obtain ⟨R, hR⟩ : ∃ R, chainGo t n (lkN z u) (n + 1) [] first = R := ⟨_, rfl⟩
    rw [hR]
    have f0 : ((first : Int) == 0) = false := by simp; omega
    go_enter Tryd.func77, Tryd.ntmps77
    go_wp2_with fail
    go_loopw [6, 7] (fun s6 s7 wr => ∃ (l : List Nat) (a : Nat) (A : Option Addr) (c' : Nat), s6 = .slice A l.length c' ∧ s7 = .int .i64 a ∧ a ≤ 1024 ∧ ChL t n l ∧ (((l.length = 0 ∨ a ≠ 255) ∧ chainGo t n (lkN z u) (n + 1 - l.length) l a = R) ∨ (l.length ≠ 0 ∧ a = 255 ∧ R = (l, 0))) ∧ IntsR w.heap.size wr A c' l ∧ Below w.heap.size w wr) (fun s _ _ => match s with | .slice _ k _ => n + 2 - k | _ => 0)
    case atStart => exact ⟨[], first, none, 0, rfl, rfl, hfi, ChL.nil t n, .inl ⟨.inl rfl, hR⟩, World.ownsRow_nil _ _ _ _, Below.refl _ _⟩
    case round =>
      obtain ⟨l, a, A, c', rfl, rfl, ha, hl, hst, ho, hb⟩ := hrel
      have hlen := hl.len
      have hz := hb.size
      have hW := h.below hb
      have HO := Lib.hid ho
      by_cases hend : l.length ≠ 0 ∧ a = 255
      · obtain ⟨he1, rfl⟩ := hend
        have hRR : R = (l, 0) := by
          rcases hst with ⟨h1, _⟩ | ⟨_, _, h3⟩
          · omega
          · exact h3
        have HR := Lib.hid hRR
        have g1 : ((l.length : Int) == 0) = false := by simp; exact fun h => he1 (by rw [h]; rfl)
        clear hst hRR hR hfe ho
        go_wp2
        go_ret2
        rw [HR.out]
        exact ⟨A, c', rfl, HO.out, hb⟩
      · have hgo : chainGo t n (lkN z u) (n - l.length + 1) l a = R := by
          rcases hst with ⟨_, h2⟩ | ⟨h1, h2, _⟩
          · rw [← h2, show n + 1 - l.length = n - l.length + 1 by omega]
          · exact absurd ⟨h1, h2⟩ hend
        have HG := Lib.hid hgo
        have HS := Lib.hid ho.sl
        have HM := Lib.hid (hasZ_mem l a)
        have HL := Lib.hid hl
        have HE := Lib.hid hend
        have HND := Lib.hid (show t ≤ a ∧ a < n → (decide ((t : Int) ≤ (a : Int)) && decide ((a : Int) ≤ (n : Int) - 1)) = true from fun h => by simp; omega)
        clear hst hgo ho hfe hl hR
        obtain ⟨m, hm⟩ : ∃ m, l.length = m := ⟨_, rfl⟩
        rw [hm] at hend
        have g0 : ((m : Int) == 0) = true ∨ ((m : Int) == 0) = false ∧ ((a : Int) != 255) = true := by
          by_cases h0 : m = 0
          · left; simp [h0]
          · right; exact ⟨by simp; omega, by simp; omega⟩
        by_cases hd : t ≤ a ∧ a < n
        · have hw1 := HND.out hd
          have HD := Lib.hid hd
          by_cases hmem : a ∈ l
          · have HR := Lib.hid ((chainGo_loop (m := n - l.length) (L := lkN z u) hd hmem).symm.trans HG.out)
            have hw2 : hasZ (fun i => ((l.getD i 0 : Nat) : Int)) l.length (a : Int) = true := by rw [HM.out]; simpa using hmem
            have HW2 := Lib.hid hw2
            clear hmem hw2 hend hlen hd
            have HM2 := Lib.hid hm
            rw [hm]
            clear hm
            rcases g0 with g1 | ⟨g1, g2⟩
            all_goals
              go_wp2_with (first
                | (go_at_call 102; refine (implIsData_any a hW (by omega)).mono ?_; rw [hw1]; rintro e w1 ⟨rfl, rfl⟩)
                | (go_at_call 104; rw [← HM2.out]; refine (slContains_any _ _ (HS.out.drew) (by have := HL.out.len; omega)).mono ?_; rw [HW2.out]; rintro e w2 ⟨rfl, rfl⟩))
              go_ret2
              rw [← HR.out]
              exact ⟨none, 0, rfl, World.ownsRow_nil _ _ _ _, hb.drew⟩
          · have HMM := Lib.hid hmem
            have hw2 : hasZ (fun i => ((l.getD i 0 : Nat) : Int)) l.length (a : Int) = false := by rw [HM.out]; simpa using hmem
            have HW2 := Lib.hid hw2
            have hrc0 := hW.row.cell (i := z + a) (by omega)
            obtain ⟨y, hy, hyc⟩ : ∃ y : Int, y = (lkN z u a : Nat) ∧ y = ((u (z + a)).toNat : Int) := ⟨_, rfl, rfl⟩
            rw [← hyc] at hrc0
            have hyl := lkN_lt z u a
            have hywr : IntKind.i64.wrap y = y := by rw [IntKind.wrap_i64]; omega
            have HY := Lib.hid hy
            have hc4 : y = 0 ∨ (y ≠ 0 ∧ y = 253) ∨ (y ≠ 0 ∧ y ≠ 253 ∧ y = 254) ∨ (y ≠ 0 ∧ y ≠ 253 ∧ y ≠ 254) := by omega
            clear hmem hw2 hend hy hyc
            have HM2 := Lib.hid hm
            rw [hm]
            have hml : m ≤ n := by omega
            clear hm hlen hd
            rcases hc4 with h1 | ⟨h1, h2⟩ | ⟨h1, h2, h3⟩ | ⟨h1, h2, h3⟩
            · have e1 : (y == 0) = true := by simp [h1]
              have HR := Lib.hid ((chainGo_open (m := n - l.length) (L := lkN z u) HD.out HMM.out (by have := HY.out; rw [show lkN z u a = 0 by omega]; rfl)).symm.trans HG.out)
              clear h1
              rcases g0 with g1 | ⟨g1, g2⟩
              all_goals
                go_wp2_with (first
                  | (go_at_call 102; refine (implIsData_any a hW (by omega)).mono ?_; rw [hw1]; rintro e w1 ⟨rfl, rfl⟩)
                  | (go_at_call 104; rw [← HM2.out]; refine (slContains_any _ _ (HS.out.drew) (by have := HL.out.len; omega)).mono ?_; rw [HW2.out]; rintro e w2 ⟨rfl, rfl⟩)
                  | (go_at_call 88; refine (implLink_any a hW.drew (by have := HD.out; omega) (by omega)).mono ?_; rintro e1 w1 ⟨rfl, rfl⟩))
                go_ret2
                rw [← HR.out]
                exact ⟨none, 0, rfl, World.ownsRow_nil _ _ _ _, hb.drew.drew⟩
            · have e1 : (y == 0) = false := by simp [h1]
              have e2 : (y == 253) = true := by simp [h2]
              have HR := Lib.hid ((chainGo_open (m := n - l.length) (L := lkN z u) HD.out HMM.out (by have := HY.out; rw [show lkN z u a = 253 by omega]; rfl)).symm.trans HG.out)
              clear h1 h2
              rcases g0 with g1 | ⟨g1, g2⟩
              all_goals
                go_wp2_with (first
                  | (go_at_call 102; refine (implIsData_any a hW (by omega)).mono ?_; rw [hw1]; rintro e w1 ⟨rfl, rfl⟩)
                  | (go_at_call 104; rw [← HM2.out]; refine (slContains_any _ _ (HS.out.drew) (by have := HL.out.len; omega)).mono ?_; rw [HW2.out]; rintro e w2 ⟨rfl, rfl⟩)
                  | (go_at_call 88; refine (implLink_any a hW.drew (by have := HD.out; omega) (by omega)).mono ?_; rintro e1 w1 ⟨rfl, rfl⟩))
                go_ret2
                rw [← HR.out]
                exact ⟨none, 0, rfl, World.ownsRow_nil _ _ _ _, hb.drew.drew⟩
            · have e1 : (y == 0) = false := by simp [h1]
              have e2 : (y == 253) = false := by simp [h2]
              have e3 : (y == 254) = true := by simp [h3]
              have HR := Lib.hid ((chainGo_open (m := n - l.length) (L := lkN z u) HD.out HMM.out (by have := HY.out; rw [show lkN z u a = 254 by omega]; rfl)).symm.trans HG.out)
              clear h1 h2 h3
              rcases g0 with g1 | ⟨g1, g2⟩
              all_goals
                go_wp2_with (first
                  | (go_at_call 102; refine (implIsData_any a hW (by omega)).mono ?_; rw [hw1]; rintro e w1 ⟨rfl, rfl⟩)
                  | (go_at_call 104; rw [← HM2.out]; refine (slContains_any _ _ (HS.out.drew) (by have := HL.out.len; omega)).mono ?_; rw [HW2.out]; rintro e w2 ⟨rfl, rfl⟩)
                  | (go_at_call 88; refine (implLink_any a hW.drew (by have := HD.out; omega) (by omega)).mono ?_; rintro e1 w1 ⟨rfl, rfl⟩))
                go_ret2
                rw [← HR.out]
                exact ⟨none, 0, rfl, World.ownsRow_nil _ _ _ _, hb.drew.drew⟩
            · have e1 : (y == 0) = false := by simp [h1]
              have e2 : (y == 253) = false := by simp [h2]
              have e3 : (y == 254) = false := by simp [h3]
              have HNX := Lib.hid (chain_next HL.out HD.out HMM.out (by have := HY.out; unfold isOpenN; simp; omega) HG.out)
              have HPU := Lib.hid (own_below HO.out (Below.refl _ _).drew.drew)
              have HMMM := Lib.hid HM2.out
              clear h1 h2 h3
              rcases g0 with g1 | ⟨g1, g2⟩
              all_goals
                go_wp2_with (first
                  | (go_at_call 102; refine (implIsData_any a hW (by omega)).mono ?_; rw [hw1]; rintro e w1 ⟨rfl, rfl⟩)
                  | (go_at_call 104; rw [← HM2.out]; refine (slContains_any _ _ (HS.out.drew) (by have := HL.out.len; omega)).mono ?_; rw [HW2.out]; rintro e w2 ⟨rfl, rfl⟩)
                  | (go_at_call 88; refine (implLink_any a hW.drew (by have := HD.out; omega) (by omega)).mono ?_; rintro e1 w1 ⟨rfl, rfl⟩)
                  | (at_builtin; refine wpList_push (.tmp 42) (.tmp 44) 55 w.heap.size 2 (.int .i64 0) _ 8 _ l.length _ HPU.out rfl rfl Tryd.underlying55 infoI64 rfl rfl rfl rfl rfl (by have := HL.out.len; omega) (by have := HL.out.len; omega) hz ?_; intro A' c2 w3 ho3 hb3))
                go_roundw
                case rel => exact ⟨l ++ [a], lkN z u a, some A', c2, by simp, by rw [HY.out], by have := lkN_lt z u a; omega, HL.out.snoc HD.out HMM.out, HNX.out, by simpa [IntsR] using ho3, hb.drew.drew.trans hb3⟩
                case measure => have := HL.out.len; have := HM2.out; simp; omega
        · have hw1 : (decide ((t : Int) ≤ (a : Int)) && decide ((a : Int) ≤ (n : Int) - 1)) = false := by
            rw [Bool.eq_false_iff]
            intro h
            simp at h
            omega
          have HR := Lib.hid ((chainGo_range (m := n - l.length) (L := lkN z u) (l := l) hd).symm.trans HG.out)
          clear hd hend hlen
          have HM2 := Lib.hid hm
          rw [hm]
          clear hm
          rcases g0 with g1 | ⟨g1, g2⟩
          all_goals
            go_wp2_with (first
              | (go_at_call 102; refine (implIsData_any a hW (by omega)).mono ?_; rw [hw1]; rintro e w1 ⟨rfl, rfl⟩))
            go_ret2
            rw [← HR.out]
            exact ⟨none, 0, rfl, World.ownsRow_nil _ _ _ _, hb.drew⟩
end Go.Proofs.YtgmmigbaaigldaaDoor
