/-
  The library's builder of strings: writing a slice of bytes.
-/
import Derived.Test.YtiefcgmghkkbmaaGreatDoorBld
import Derived.Test.YtiefcgmghkkbmaaGreatDoorAppR
namespace Go.Proofs.YtiefcgmghkkbmaaGreatDoor
open Go Go.ChangeShapes Go.WideShapes Go.ChangeAt Go.RowKit lib
set_option linter.unusedVariables false
set_option maxRecDepth 100000
theorem copyCheck_keep {B b : Nat} {bs : List Value} {w : World} (h : Lib.IsBuilder 113 5 B b bs w) :
    Calls Tryz.prog 107 #[.pointer (some ⟨b, 0, none⟩)] w fun e w' => e = .returned (.tuple #[]) ∧ Lib.BuilderAt 113 5 B b (.pointer (some ⟨b, 0, none⟩)) bs w' ∧ Below B w w' ∧ ∀ q, q ≠ b → w'.heap[q]? = w.heap[q]? := by
  rcases h with h | h
  · refine (copyCheck_fresh h.cell0 h.shape h.frozen0).mono ?_
    rintro e w' ⟨rfl, rfl⟩
    exact ⟨rfl, h.used _, (Below.refl B w).setCell (p := ⟨b, 0, none⟩) h.1 _, fun q hq => Below.heap_setCell w ⟨b, 0, none⟩ _ q hq⟩
  · refine (copyCheck_used h.cell0).mono ?_
    rintro e w' ⟨rfl, rfl⟩
    exact ⟨rfl, h, Below.refl B _, fun q hq => rfl⟩
set_option maxHeartbeats 2000000 in
theorem write_any {B b m c BS : Nat} {bs : List Value} {A : Option Addr} {v8 : Nat → UInt8} {w : World} (h : Lib.IsBuilder 113 5 B b bs w) (hlen : bs.length + m ≤ 140737488355328) (hBw : B ≤ w.heap.size) (hBS : BS ≤ B) (hsl : Sl w BS A m (fun i => .int .u8 ((v8 i).toNat : Int))) :
    Calls Tryz.prog 73 #[.pointer (some ⟨b, 0, none⟩), .slice A m c] w fun e w' => e = .returned (.tuple #[.int .i64 m, .nilIface]) ∧ Lib.BuilderAt 113 5 B b (.pointer (some ⟨b, 0, none⟩)) (bs ++ (List.range m).map fun i => Value.int .u8 ((v8 i).toNat : Int)) w' ∧ Below B w w' ∧ ∀ q T cs, Rw w q T cs → T ≠ 113 → T ≠ 5 → Rw w' q T cs := by
  obtain ⟨i0, hi, hz0, hz1, hz2⟩ := info_parts (show (Tryz.prog.info? 5).map (fun i => (i.zero, i.size, i.bytes)) = some (some (.int .u8 0), 1, 1) by kernel_rfl)
  have HSL := Lib.hid hsl
  clear hsl
  go_enter Tryz.func73, Tryz.ntmps73
  go_upto_region 2 with (go_at_call 107; refine (copyCheck_keep h).mono ?_; rintro e w1 ⟨rfl, h1, hb1, hk1⟩; obtain ⟨hB, v, hbk, hown, hne⟩ := h1; have c0 : w1.cell? ⟨b, 0, none⟩ = some (.pointer (some ⟨b, 0, none⟩)) := (by rw [Lib.cell_of_heap hbk]; rfl); have c1 : w1.cell? ⟨b, 1, none⟩ = some v := (by rw [Lib.cell_of_heap hbk]; rfl))
  have hzb := hb1.size
  have hl1 : b < w1.heap.size := by
    rcases Nat.lt_or_ge b w1.heap.size with h' | h'
    · exact h'
    · simp [Array.getElem?_eq_none h'] at hbk
  have hsl1 : Sl w1 BS A m (fun i => .int .u8 ((v8 i).toNat : Int)) := HSL.out.keep fun b' o hb' => hb1.cell (p := ⟨b', o, none⟩) (Nat.lt_of_lt_of_le hb' hBS)
  have HS1 := Lib.hid hsl1
  clear hsl1
  go_wp2_with (at_builtin; refine wpList_appR rfl (.tmp 12) (.tmp 13) 45 rfl B 5 i0 (.int .u8 0) 1 1 Tryz.underlying45 hi hz0 hz1 hz2 rfl (by omega) _ _ _ (by rfl) hown A m c BS (fun i => .int .u8 ((v8 i).toNat : Int)) (by rfl) (by rw [Nat.mul_one]; exact HS1.out) (fun _ => rfl) (by simp only [maxLen]; omega) (by omega) (by omega) ?_; intro A' c' w2 hown' hgrow hx; have hlt : b < w1.heap.size := hl1; have hb2 : w2.heap[b]? = some (.cells #[.pointer (some ⟨b, 0, none⟩), v] 113 (0, 0)) := (by rw [hgrow.block b hlt (fun e => hne e.symm)]; exact hbk); have d0 : w2.cell? ⟨b, 0, none⟩ = some (.pointer (some ⟨b, 0, none⟩)) := (by rw [Lib.cell_of_heap hb2]; rfl); have d1 : w2.cell? ⟨b, 1, none⟩ = some v := (by rw [Lib.cell_of_heap hb2]; rfl); have f1 : w2.frozen? ⟨b, 1, none⟩ = false := Lib.frozen_of_heap hb2 1)
  go_ret2
  rw [Nat.mul_one] at hown'
  refine ⟨rfl, ?_, ?_, fun q T cs hr hT1 hT2 => ?_⟩
  · exact Lib.BuilderAt.put (T := 113) (e := 5) hB hb2 (bs' := bs ++ (List.range m).map fun i => Value.int .u8 ((v8 i).toNat : Int)) (by simpa using hown') (by decide)
  · exact (hb1.grown hgrow (by have := hb1.size; omega) (fun k hk => (hown.lt k hk).1)).setCell (p := ⟨b, 1, none⟩) hB _
  · have hqb : q ≠ b := by
      intro e
      subst e
      have hr0 : Rw w q T cs := hr
      rcases h with h | h
      · obtain ⟨_, _, h2, _⟩ := h
        unfold Rw at hr0
        rw [h2] at hr0
        simp at hr0
        exact hT1 hr0.2.symm
      · obtain ⟨_, _, h2, _⟩ := h
        unfold Rw at hr0
        rw [h2] at hr0
        simp at hr0
        exact hT1 hr0.2.symm
    have hr1 : Rw w1 q T cs := (hk1 q hqb).trans hr
    have hr2 : Rw w2 q T cs := (hgrow.block q hr1.lt (fun e => own_ne hown (Row.ofRw hr1) (fun q => hT2 q.symm) e)).trans hr1
    exact hr2.far (p := ⟨b, 1, none⟩) hqb _
end Go.Proofs.YtiefcgmghkkbmaaGreatDoor
