/-
  Tracks: the program's group code.
-/
import Derived.Test.YtabmdbhbbmnkdaaDoorBtB
import Derived.Test.YtabmdbhbbmnkdaaDoorShelf
import Derived.Lib.SmallJoins
namespace Go.Proofs.YtabmdbhbbmnkdaaDoor
open Go Go.ChangeShapes Go.WideShapes Go.ChangeAt Go.RowKit Go.Joins lib
set_option linter.unusedVariables false
set_option linter.unusedSimpArgs false
set_option maxRecDepth 100000
def gcrB : List ByteArray := gcrT.map fun l => ⟨l.toArray⟩
/-- the listed table of groups -/
def GcrW (w : World) : Prop := w.var? Tryd.prog "loop.example/g00899/impl.gcrTable" = some (gcrB.map Value.string).toArray
theorem GcrW.below {w W : World} (h : GcrW w) (hb : Below w.heap.size w W) : GcrW W := var_stays (g := 0) (by kernel_rfl) h hb (Nat.le_refl _)
def gcrS (k : Nat) : ByteArray := ⟨(gcrT.getD k []).toArray⟩
theorem gcrS_size (k : Nat) (h : k < 16) : (gcrS k).size = 5 := by
  show (gcrT.getD k []).toArray.size = 5
  rw [List.size_toArray]
  exact gcrT_len k h
theorem GcrW.cell {w : World} (h : GcrW w) (k : Nat) (hk : k < 16) : w.cell? ⟨0, k, none⟩ = some (.string (gcrS k)) := by
  rw [World.var?_cell (P := Tryd.prog) (n := "loop.example/g00899/impl.gcrTable") (g := 0) (by kernel_rfl) h k]
  have : k = 0 ∨ k = 1 ∨ k = 2 ∨ k = 3 ∨ k = 4 ∨ k = 5 ∨ k = 6 ∨ k = 7 ∨ k = 8 ∨ k = 9 ∨ k = 10 ∨ k = 11 ∨ k = 12 ∨ k = 13 ∨ k = 14 ∨ k = 15 := by omega
  rcases this with rfl | rfl | rfl | rfl | rfl | rfl | rfl | rfl | rfl | rfl | rfl | rfl | rfl | rfl | rfl | rfl <;> rfl
theorem u8_four : ∀ c : Fin 256, bits .and .u8 ((c.val : Nat) : Int) 15 = ((c.val % 16 : Nat) : Int) := by decide +kernel
theorem bld_below {T e B b : Nat} {bs : List Value} {w w' : World} (h : Lib.IsBuilder T e B b bs w) (hb : Below w.heap.size w w') : Lib.IsBuilder T e B b bs w' := by
  have key : ∀ p, Lib.BuilderAt T e B b p bs w → Lib.BuilderAt T e B b p bs w' := fun p h => by
    have hlt := h.lt
    obtain ⟨h1, v, h2, h3, h4⟩ := h
    exact ⟨h1, v, (hb.block b hlt).trans h2, own_below h3 hb, h4⟩
  rcases h with h | h
  · exact .inl (key _ h)
  · exact .inr (key _ h)
set_option maxHeartbeats 4000000 in
theorem gcrCells_any (s : ByteArray) (hs : s.size ≤ 4096) (w : World) (hw : GcrW w) : Calls Tryd.prog 114 #[.string s] w fun e w' => e = .returned (.string ⟨(gcrL s.data.toList).toArray⟩) ∧ Below w.heap.size w w' := by
  have HW := Lib.hid hw
  obtain ⟨N, hN⟩ : ∃ N, s.size = N := ⟨_, rfl⟩
  have hNb : N ≤ 4096 := by omega
  have HN := Lib.hid hN
  clear hw
  go_enter Tryd.func114, Tryd.ntmps114
  go_upto_region 2 with fail
  have HIB := Lib.hid (Lib.fresh_isBuilder 97 5 w)
  have HB2 := Lib.hid ((Below.refl w.heap.size w).alloc (Nat.le_refl _) (.cells #[.pointer none, .slice none 0 0] 97))
  obtain ⟨qb, hqb⟩ : ∃ qb, w.heap.size = qb := ⟨_, rfl⟩
  rw [hqb] at HIB HB2
  have HQ := Lib.hid hqb
  rw [hqb]
  clear hqb
  generalize hW2 : w.alloc (.cells #[.pointer none, .slice none 0 0] 97) = W2 at *
  clear hW2
  go_wp2_with fail
  go_loopw [7] (fun s12 wr => ∃ k : Nat, k ≤ N ∧ s12 = .int .i64 k ∧ Lib.IsBuilder 97 5 qb qb (Lib.byteCells (gcrL (s.data.toList.take k))) wr ∧ Below qb w wr) (fun i _ => N - (intOf i).toNat)
  case atStart => exact ⟨0, by omega, rfl, HIB.out, HB2.out⟩
  case round =>
    obtain ⟨k, hk, rfl, hib, hb⟩ := hrel
    have HIBR := Lib.hid hib
    have HBR := Lib.hid hb
    have hbz : qb ≤ wr.heap.size := by have h1 := hb.size; have h2 := HQ.out; omega
    clear hb hib
    by_cases hlt : k < N
    · have hki : (k : Int) < (N : Int) := by omega
      have hg := byteAt_get s k (by omega)
      obtain ⟨y, hy⟩ : ∃ y, byteAt s k = y := ⟨_, rfl⟩
      rw [hy] at hg
      have HY := Lib.hid hy
      clear hy
      have hyl := y.toNat_lt
      obtain ⟨a, ha⟩ : ∃ a, y.toNat / 16 = a := ⟨_, rfl⟩
      obtain ⟨b, hb⟩ : ∃ b, y.toNat % 16 = b := ⟨_, rfl⟩
      have ha16 : a < 16 := by omega
      have hb16 : b < 16 := by omega
      have e1 : (y.toNat : Int) / 16 = (a : Int) := by omega
      have e2 : bits .and .u8 (y.toNat : Int) 15 = (b : Int) := by
        have := u8_four ⟨_, hyl⟩
        simp only at this
        rw [this, hb]
      have hgw : GcrW wr := HW.out.below (by rw [HQ.out]; exact HBR.out)
      have z1 := gcrS_size a ha16
      have z2 := gcrS_size b hb16
      have HGY := Lib.hid (show gcrL (s.data.toList.take (k + 1)) = gcrL (s.data.toList.take k) ++ (gcrS a ++ gcrS b).data.toList by
        rw [take_byteE s k (by omega), HY.out]
        unfold gcrL
        rw [List.flatMap_append, List.flatMap_cons, List.flatMap_nil, List.append_nil]
        unfold gcrY gcrS
        rw [ha, hb, ByteArray.data_append, Array.toList_append])
      have hbl : (Lib.byteCells (gcrL (s.data.toList.take k))).length ≤ 40960 := by
        rw [Lib.byteCells_length, gcrL_len, List.length_take]
        omega
      have ca := hgw.cell a ha16
      have cb := hgw.cell b hb16
      have a0 : ∀ W : World, (Op.stringOp .add (gcrS a) (gcrS b)).run Tryd.prog W = .ok (.string (gcrS a ++ gcrS b)) W := fun W => run_string_add_sum _ _ _ (by omega)
      have zz : (gcrS a ++ gcrS b : ByteArray).size = 10 := by rw [ByteArray.size_append]; omega
      obtain ⟨X, hX⟩ : ∃ X, gcrS a = X := ⟨_, rfl⟩
      obtain ⟨Y, hY⟩ : ∃ Y, gcrS b = Y := ⟨_, rfl⟩
      rw [hX, hY] at zz HGY a0
      rw [hX] at ca z1
      rw [hY] at cb z2
      clear hX hY ha hb
      have hai : (a : Int) < 16 := by omega
      have hbi : (b : Int) < 16 := by omega
      obtain ⟨bs, hbs⟩ : ∃ bs, Lib.byteCells (gcrL (s.data.toList.take k)) = bs := ⟨_, rfl⟩
      rw [hbs] at HIBR hbl
      have HBS := Lib.hid hbs
      clear hbs hgw
      have HWS := Lib.hid (fun (n : Nat) => writeString_any (w := wr.drewN n) (X ++ Y) (bld_below HIBR.out ((Below.refl _ _).drewN n)) (by omega) hbz)
      go_wp2_with fail
      go_region_law (go_simp; go_at_call 92; refine (writeString_any (X ++ Y) (by first | exact HIBR.out | exact bld_below HIBR.out (Below.refl _ _).drew) (by omega) (by first | exact hbz | simpa using hbz)).mono ?_; rintro e6 w6 ⟨rfl, hba, hb6⟩)
      all_goals (go_wp2_with fail)
      all_goals
        exact ⟨⟨k + 1, by omega, by go_num, .inr (by rw [HGY.out, ← byteCells_append, HBS.out]; exact hba), HBR.out.trans (by first | exact hb6 | exact (Below.refl _ _).drew.trans hb6)⟩, by simp [intOf]; omega⟩
    · obtain rfl : k = N := by omega
      have htk : s.data.toList.take k = s.data.toList := List.take_of_length_le (Nat.le_of_eq HN.out)
      rw [htk] at HIBR
      have HS := Lib.hid (Tryd.Builder_String_any qb qb (gcrL s.data.toList) wr HIBR.out hbz)
      go_wp2_with (go_at_call 64; refine HS.out.mono ?_; rintro e6 w6 ⟨rfl, hb6⟩)
      go_ret
      have hq := HQ.out
      subst hq
      exact ⟨rfl, HBR.out.trans hb6⟩
end Go.Proofs.YtabmdbhbbmnkdaaDoor
