/-
  FreeExtents, both sides.
-/
import Derived.Test.YtmgcaiilocifbaaDoorXrS
import Derived.Deep.DeepCutAuto
namespace Go.Proofs.YtmgcaiilocifbaaDoor
open Go Go.ChangeShapes Go.WideShapes Go.ChangeAt Go.RowKit lib
set_option linter.unusedVariables false
set_option linter.unusedSimpArgs false
set_option maxRecDepth 100000
theorem range_getDX (L : List Nat) : ((List.range L.length).map fun (i : Nat) => Value.int .i64 ((L.getD i 0 : Nat) : Int)) = L.map fun (i : Nat) => Value.int .i64 (i : Int) := by
  apply List.ext_getElem
  · simp
  · intro i h1 h2
    simp only [List.length_map] at h2
    simp [List.getElem?_eq_getElem h2]
noncomputable def freeOfX (n : Nat) (s : Nat → ByteArray) : List Nat := freeX (s 0).size (joinU (s 0).size s) (entsX n) (dataX n (s 0).size) (n - dataX n (s 0).size)
theorem freeOfX_len {n : Nat} {s : Nat → ByteArray} : (freeOfX n s).length ≤ n := Nat.le_trans (freeX_len _ _ _ _ _) (by omega)
theorem implFreeTop_ok {w : World} {n c : Nat} {A : Option Addr} {s : Nat → ByteArray} (hs : Sl w w.heap.size A n (fun i => .string (s i))) (hsz : ∀ i, i < n → (s i).size ≤ 9223372036854775807) (hn : n ≤ c) (hn2 : n ≤ 9223372036854775807) (ho : opensX n s) :
    Calls Tryd.prog 11 #[.slice A n c] w fun r w' => ∃ A2 c2, r = .returned (.tuple #[.slice A2 (freeOfX n s).length c2, .int .i64 0]) ∧ w'.ownsRow w.heap.size 2 1 (.slice A2 (freeOfX n s).length c2) (freeOfX n s).length ((freeOfX n s).map fun (i : Nat) => Value.int .i64 (i : Int)) ∧ Below w.heap.size w w' := by
  have HO := Lib.hid (implOpenX hs hsz hn hn2)
  obtain ⟨f1, f2, f3, f4, f5, f6, f7, f8, f9⟩ := shapeX ho
  have hd := (layX_data f1).1
  unfold freeOfX
  obtain ⟨z, hz⟩ : ∃ z, (s 0).size = z := ⟨_, rfl⟩
  rw [hz] at f2 f3 f6 f8 hd ⊢
  have HZ := Lib.hid hz
  have HOP := Lib.hid ho
  have HF8 := Lib.hid f8
  clear ho hs hsz hz f1 f8 f9
  go_enter Tryd.func11, Tryd.ntmps11
  go_wp2_with (first
    | (go_at_call 31; refine HO.out.mono ?_; rintro r w1 ⟨h1, _⟩; obtain ⟨p, rfl, ow⟩ := h1 HOP.out; rw [HZ.out] at ow; obtain ⟨g, cc, hx, hcap, hb1, hp, hg⟩ := ow)
    | (go_at_call 32; refine (implFreeX_any hx f7 HF8.out f6 hcap (by omega) hd f4).mono ?_; rintro r w2 ⟨A2, c2, rfl, hna, hb2⟩))
  go_ret2
  exact ⟨A2, c2, rfl, own_base hna hb1.size, hb1.trans (hb2.mono hb1.size)⟩
theorem implFreeTop_bad {w : World} {n c : Nat} {A : Option Addr} {s : Nat → ByteArray} (hs : Sl w w.heap.size A n (fun i => .string (s i))) (hsz : ∀ i, i < n → (s i).size ≤ 9223372036854775807) (hn : n ≤ c) (hn2 : n ≤ 9223372036854775807) (ho : ¬ opensX n s) :
    Calls Tryd.prog 11 #[.slice A n c] w fun r w' => r = .returned (.tuple #[.slice none 0 0, .int .i64 7]) ∧ Below w.heap.size w w' := by
  have HO := Lib.hid (implOpenX hs hsz hn hn2)
  have HOP := Lib.hid ho
  clear ho hs hsz
  go_enter Tryd.func11, Tryd.ntmps11
  go_wp2_with (go_at_call 31; refine HO.out.mono ?_; rintro r w1 ⟨_, h1⟩; obtain ⟨rfl, hb1⟩ := h1 HOP.out)
  go_ret2
  exact ⟨rfl, hb1⟩
theorem specFreeTop_ok {w : World} {n c : Nat} {A : Option Addr} {s : Nat → ByteArray} (hs : Sl w w.heap.size A n (fun i => .string (s i))) (hsz : ∀ i, i < n → (s i).size ≤ 9223372036854775807) (hn : n ≤ c) (hn2 : n ≤ 9223372036854775807) (ho : opensX n s) :
    Calls Tryd.prog 9 #[.slice A n c] w fun r w' => ∃ A2 c2, r = .returned (.tuple #[.slice A2 (freeOfX n s).length c2, .int .i64 0]) ∧ w'.ownsRow w.heap.size 2 1 (.slice A2 (freeOfX n s).length c2) (freeOfX n s).length ((freeOfX n s).map fun (i : Nat) => Value.int .i64 (i : Int)) ∧ Below w.heap.size w w' := by
  have HO := Lib.hid (specOpenX (c := c) hs hsz)
  obtain ⟨f1, f2, f3, f4, f5, f6, f7, f8, f9⟩ := shapeX ho
  have hd := (layX_data f1).1
  unfold freeOfX
  obtain ⟨z, hz⟩ : ∃ z, (s 0).size = z := ⟨_, rfl⟩
  rw [hz] at f2 f3 f6 f8 f9 hd ⊢
  have HZ := Lib.hid hz
  have HOP := Lib.hid ho
  have HFR := Lib.hid (fun (W : World) (q : Nat) (hW : Below w.heap.size w W) (hr : Rw W q 44 #[.int .i64 n, .int .i64 z, .int .i64 (entsX n), .int .i64 (dataX n z)]) => specFreeX_any (c := c) ((hs.below hW).more hW.size) f9 hr f2 f3 f4 f7 f8 hd)
  clear ho hs hsz hz f1 f8 f9
  go_enter Tryd.func9, Tryd.ntmps9
  go_upto_region 4 with (go_at_call 29; refine HO.out.mono ?_; rintro r w1 ⟨h1, _⟩; obtain ⟨rfl, hb1⟩ := h1 HOP.out; rw [HZ.out]; unfold layX)
  have hR2 := Rw.new w1 44 #[.int .i64 n, .int .i64 z, .int .i64 (entsX n), .int .i64 (dataX n z)]
  have hB2 := hb1.alloc hb1.size (.cells #[.int .i64 n, .int .i64 z, .int .i64 (entsX n), .int .i64 (dataX n z)] 44)
  have HFR2 := Lib.hid (HFR.out _ _ hB2 hR2)
  clear HFR
  go_wp2_with (go_at_call 30; refine HFR2.out.mono ?_; rintro r w3 ⟨A2, c2, rfl, hna, hb3⟩)
  go_ret2
  exact ⟨A2, c2, rfl, own_base hna hB2.size, hB2.trans (hb3.mono hB2.size)⟩
theorem specFreeTop_bad {w : World} {n c : Nat} {A : Option Addr} {s : Nat → ByteArray} (hs : Sl w w.heap.size A n (fun i => .string (s i))) (hsz : ∀ i, i < n → (s i).size ≤ 9223372036854775807) (hn : n ≤ c) (hn2 : n ≤ 9223372036854775807) (ho : ¬ opensX n s) :
    Calls Tryd.prog 9 #[.slice A n c] w fun r w' => r = .returned (.tuple #[.slice none 0 0, .int .i64 7]) ∧ Below w.heap.size w w' := by
  have HO := Lib.hid (specOpenX (c := c) hs hsz)
  have HOP := Lib.hid ho
  clear ho hs hsz
  go_enter Tryd.func9, Tryd.ntmps9
  go_wp2_with (go_at_call 29; refine HO.out.mono ?_; rintro r w1 ⟨_, h1⟩; obtain ⟨rfl, hb1⟩ := h1 HOP.out; unfold layX)
  go_ret2
  exact ⟨rfl, hb1.alloc hb1.size _⟩
end Go.Proofs.YtmgcaiilocifbaaDoor
