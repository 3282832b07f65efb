/-
  Disks of extents: an entry is read: the program's side.
-/
import Derived.Test.YtmgcaiilocifbaaGreatDoorXbT
import Derived.Test.YtmgcaiilocifbaaGreatDoorXpT
import Derived.Test.YtmgcaiilocifbaaGreatDoorXvT
import Derived.Test.YtmgcaiilocifbaaGreatDoorSlInts
import Derived.Test.YtmgcaiilocifbaaGreatDoorShelf
import Derived.Deep.DeepCutAuto
namespace Go.Proofs.YtmgcaiilocifbaaGreatDoor
open Go Go.ChangeShapes Go.WideShapes Go.ChangeAt Go.RowKit lib
set_option linter.unusedVariables false
set_option linter.unusedSimpArgs false
set_option maxRecDepth 100000
/-- how an entry's reading ends -/
def XEnt (r : Ending) (w w' : World) (z : Nat) (v : Nat → UInt8) : Prop := ∃ (b : Bool) (A : Option Addr) (c : Nat), (b = true ↔ xGood z v) ∧ r = .returned (.tuple #[(xent z v).val A c, .bool b]) ∧ IntR w.heap.size w' A c (xent z v).bl ∧ Below w.heap.size w w'
theorem rowset5X {w : World} {g e : Nat} {a0 a1 a2 a3 a4 : Value} (h : Rw w g e #[a0, a1, a2, a3, a4]) (v0 v1 v2 v3 v4 : Value) :
    (w.setCell ⟨g, 0, none⟩ v0).cell? ⟨g, 0, none⟩ = some v0 ∧ ((w.setCell ⟨g, 0, none⟩ v0).setCell ⟨g, 1, none⟩ v1).cell? ⟨g, 1, none⟩ = some v1 ∧ (((w.setCell ⟨g, 0, none⟩ v0).setCell ⟨g, 1, none⟩ v1).setCell ⟨g, 2, none⟩ v2).cell? ⟨g, 2, none⟩ = some v2 ∧ ((((w.setCell ⟨g, 0, none⟩ v0).setCell ⟨g, 1, none⟩ v1).setCell ⟨g, 2, none⟩ v2).setCell ⟨g, 3, none⟩ v3).cell? ⟨g, 3, none⟩ = some v3 ∧ (((((w.setCell ⟨g, 0, none⟩ v0).setCell ⟨g, 1, none⟩ v1).setCell ⟨g, 2, none⟩ v2).setCell ⟨g, 3, none⟩ v3).setCell ⟨g, 4, none⟩ v4).cell? ⟨g, 4, none⟩ = some v4 :=
  ⟨(h.set 0 v0).cell 0, ((h.set 0 v0).set 1 v1).cell 1, (((h.set 0 v0).set 1 v1).set 2 v2).cell 2, ((((h.set 0 v0).set 1 v1).set 2 v2).set 3 v3).cell 3, (((((h.set 0 v0).set 1 v1).set 2 v2).set 3 v3).set 4 v4).cell 4⟩
/-- the numbers of an entry's blocks as far as they are read -/
def xBl (v : Nat → UInt8) (j : Nat) : List Int := (List.range j).map fun i => ((v (12 + i)).toNat : Int)
theorem xBl_len (v : Nat → UInt8) (j : Nat) : (xBl v j).length = j := by simp [xBl]
theorem xBl_more (v : Nat → UInt8) (j : Nat) : xBl v (j + 1) = xBl v j ++ [((v (12 + j)).toNat : Int)] := by
  unfold xBl
  rw [List.range_succ, List.map_append]
  rfl
theorem rwGrown {w w' : World} {g e : Nat} {cs : Array Value} {row : Option Nat} (h : Rw w g e cs) (hb : w.grownBy w' row) (hg : some g ≠ row) : Rw w' g e cs := (hb.block g h.lt hg).trans h
theorem IntR.farX {B c : Nat} {w : World} {A : Option Addr} {l : List Int} (h : IntR B w A c l) {p : Addr} (hp : p.block < B) (x : Value) : IntR B (w.setCell p x) A c l :=
  World.ownsRow.kept h (only_setCell (g := p.block) (only_refl w _) (.inl rfl) x) (by
    cases hv : (Value.slice A l.length c).ownBlock with
    | none => exact .inl rfl
    | some o => exact .inr fun e => by have := own_lt h o hv; simp only [Option.some.injEq] at e; omega)
set_option maxHeartbeats 4000000 in
theorem implEntryX_any {w : World} {p g n z E t N c : Nat} {u : Nat → UInt8} (k at' : Nat) (h : XW w p g n z E t N c u) (ha : z + k * 16 = at') (hN : at' + 16 ≤ N) (hNb : N ≤ 1048576) (hcN : N ≤ c) (hk : k ≤ 1024) (hz : z ≤ 255) :
    Calls Tryz.prog 44 #[.pointer (some ⟨p, 0, none⟩), .int .i64 k] w fun r w' => XEnt r w w' z (fun i => u (at' + i)) := by
  obtain ⟨v, hv⟩ : ∃ v : Nat → UInt8, v = fun i => u (at' + i) := ⟨_, rfl⟩
  have hvi : ∀ i, u (at' + i) = v i := fun i => by rw [hv]
  rw [← hv]
  clear hv
  obtain ⟨C, hC, hC16⟩ : ∃ C, c - at' = C ∧ 16 ≤ C := ⟨_, rfl, by omega⟩
  have hgl := h.row.lt
  have hpl := h.lay.lt
  have hx0 := Rw.new w 38 #[.int .i64 0, .string ⟨#[]⟩, .int .i64 0, .int .i64 0, .slice none 0 0]
  have hb0 := (Below.refl w.heap.size w).alloc (Nat.le_refl _) (.cells #[.int .i64 0, .string ⟨#[]⟩, .int .i64 0, .int .i64 0, .slice none 0 0] 38)
  have hX0 := h.below hb0
  have hEB := Lib.hid (implEntryBytesX_any k at' hX0 ha hN hNb hcN hk)
  rw [hC] at hEB
  obtain ⟨x0, hq0⟩ : ∃ x, x = (v 0).toNat := ⟨_, rfl⟩
  have c0 := hX0.row.cell (i := at' + 0) (by omega)
  rw [hvi, ← hq0, Nat.add_zero] at c0
  have x0b : x0 < 256 := by rw [hq0]; exact (v 0).toNat_lt
  have w0 : IntKind.i64.wrap (x0 : Int) = (x0 : Int) := by rw [IntKind.wrap_i64]; omega
  have hx1 := (hx0.alloc (.cells #[.int .i64 (x0 : Int), .string ⟨#[]⟩, .int .i64 0, .int .i64 0, .slice none 0 0] 38))
  have hy1 := Rw.new (w.alloc (.cells #[.int .i64 0, .string ⟨#[]⟩, .int .i64 0, .int .i64 0, .slice none 0 0] 38)) 38 #[.int .i64 (x0 : Int), .string ⟨#[]⟩, .int .i64 0, .int .i64 0, .slice none 0 0]
  have hb1 := hb0.alloc (by simp) (.cells #[.int .i64 (x0 : Int), .string ⟨#[]⟩, .int .i64 0, .int .i64 0, .slice none 0 0] 38)
  have hX1 := h.below hb1
  have hsz : ((w.alloc (.cells #[.int .i64 0, .string ⟨#[]⟩, .int .i64 0, .int .i64 0, .slice none 0 0] 38)).alloc (.cells #[.int .i64 (x0 : Int), .string ⟨#[]⟩, .int .i64 0, .int .i64 0, .slice none 0 0] 38)).heap.size = w.heap.size + 2 := by simp
  rw [World.size_alloc] at hy1
  have HX1 := Lib.hid hx1
  have HY1 := Lib.hid hy1
  have HB1 := Lib.hid hb1
  have HXW := Lib.hid hX1
  have HSZ := Lib.hid hsz
  have HVI := Lib.hid hvi
  have HQ0 := Lib.hid hq0
  have HH := Lib.hid h
  clear hx0 hb0 hX0 hx1 hy1 hb1 hX1 hsz h hvi hq0 ha
  obtain ⟨i0, hi0, hi1, hi2, hi3⟩ := info_parts (show (Tryz.prog.info? 2).map (fun i => (i.zero, i.size, i.bytes)) = some (some (.int .i64 0), 1, 8) by kernel_rfl)
  have I0 := Lib.hid hi0
  have I1 := Lib.hid hi1
  have I2 := Lib.hid hi2
  have I3 := Lib.hid hi3
  clear hi0 hi1 hi2 hi3
  go_enter Tryz.func44, Tryz.ntmps44
  go_upto_region 3 with (go_at_call 25; refine hEB.out.mono ?_; rintro e3 w3 ⟨rfl, rfl⟩)
  generalize (w.alloc (.cells #[.int .i64 0, .string ⟨#[]⟩, .int .i64 0, .int .i64 0, .slice none 0 0] 38)).alloc (.cells #[.int .i64 (x0 : Int), .string ⟨#[]⟩, .int .i64 0, .int .i64 0, .slice none 0 0] 38) = W2 at *
  clear c0
  have y0 := HY1.out.cell 0
  have hpar0 : (v 0).toNat = 0 → xPar v = xe0 := fun h => by unfold xPar; rw [if_pos h]
  obtain ⟨M, hM⟩ : ∃ M, M = min (v 11).toNat 4 := ⟨_, rfl⟩
  have hM4 : M ≤ 4 := by omega
  obtain ⟨tt, htt⟩ : ∃ tt, tt = trimLen 32 8 (fun i => v (1 + i)) := ⟨_, rfl⟩
  have hpar1 : (v 0).toNat ≠ 0 → xPar v = ⟨((v 0).toNat : Int), bstr tt (fun i => v (1 + i)), ((v 9).toNat : Int), ((v 10).toNat : Int), xBl v M⟩ := fun h => by unfold xPar; rw [if_neg h, ← htt, ← hM]; rfl
  have hTT := trimC_str (trimLen_at 32 8 (fun i => v (1 + i)))
  rw [← htt] at hTT
  have HTT := Lib.hid hTT
  have HP0 := Lib.hid hpar0
  have HP1 := Lib.hid hpar1
  have HM := Lib.hid hM
  clear hTT htt hpar0 hpar1 hM
  go_upto_if 19 with fail
  go_cut [] (fun wx => ∃ (A : Option Addr) (c : Nat), Rw wx w.heap.size 38 #[.int .i64 0, .string ⟨#[]⟩, .int .i64 0, .int .i64 0, .slice none 0 0] ∧ Rw wx (w.heap.size + 1) 38 #[.int .i64 (xPar v).st, .string (xPar v).nm, .int .i64 (xPar v).no, .int .i64 (xPar v).tl, .slice A (xPar v).bl.length c] ∧ IntR (w.heap.size + 2) wx A c (xPar v).bl ∧ Below w.heap.size w wx)
  case first =>
    by_cases h0 : x0 = 0
    · have hp := HP0.out (by rw [← HQ0.out]; exact h0)
      subst h0
      go_wp2_with fail
      go_meet
      rw [hp]
      exact ⟨none, 0, HX1.out, HY1.out, intR_nil _ _, HB1.out⟩
    · have hp := HP1.out (by rw [← HQ0.out]; exact h0)
      have e0 : ((x0 : Int) != 0) = true := by simp; omega
      have e0' : ((x0 : Int) = 0) = False := by simp; omega
      have HPE := Lib.hid hp
      obtain ⟨X, hX⟩ : ∃ X, X = bstr tt (fun i => v (1 + i)) := ⟨_, rfl⟩
      rw [← hX] at HPE
      have hsl : ∀ W : World, BRow W 5 g N u → (convert 49 9 (.slice (some ⟨g, at' + 1, none⟩) 8 (C - 1))).run Tryz.prog W = .ok (.string (bstr 8 (fun i => v (1 + i)))) W := fun W hW =>
        run_bstr (P := Tryz.prog) (w := W) (B := W.heap.size) 49 9 5 Tryz.underlying49 Tryz.underlying5 Tryz.underlying9 (u := fun i => v (1 + i)) (fun i hi => ⟨g, at' + 1, rfl, hW.lt, by rw [show at' + 1 + i = at' + (1 + i) by omega, hW.cell (i := at' + (1 + i)) (by omega), HVI.out]⟩) (by simp)
      have hcv := hsl W2 HXW.out.row
      have hC9 : (9 : Int) ≤ (C : Int) := by omega
      have i6 : (C = 1) = False := by simp; omega
      have y1 := HY1.out.cell 1
      have fy1 := HY1.out.frozen 1
      have hTX : (⟨(Lib.trimRightB (bstr 8 fun i => v (1 + i)).data.toList 32).toArray⟩ : ByteArray) = X := by rw [HTT.out, hX]
      have HTX := Lib.hid hTX
      clear hX hsl hTX hp
      go_upto_region 5 with (go_at_call 59; refine (Tryz.strings_TrimRight_one _ 32 (by decide) _ (by rw [bsx_size]; omega)).mono ?_; rw [HTX.out]; rintro e w' ⟨rfl, hw'⟩; (first | (rw [hw']) | (rw [← hw'])); clear hw' w')
      have hr5 := HY1.out.set 1 (.string X)
      have hz5 := HX1.out.far (p := ⟨w.heap.size + 1, 1, none⟩) (by show w.heap.size ≠ w.heap.size + 1; omega) (.string X)
      have hx5 := HXW.out.far (q := ⟨w.heap.size + 1, 1, none⟩) (by show p ≠ w.heap.size + 1; omega) (by show g ≠ w.heap.size + 1; omega) (.string X)
      have hb5 := HB1.out.setCell (p := ⟨w.heap.size + 1, 1, none⟩) (by show w.heap.size ≤ w.heap.size + 1; omega) (.string X)
      have hs5 : (W2.setCell ⟨w.heap.size + 1, 1, none⟩ (.string X)).heap.size = w.heap.size + 2 := by rw [World.size_setCell, HSZ.out]
      generalize W2.setCell ⟨w.heap.size + 1, 1, none⟩ (.string X) = W5 at *
      change Rw W5 _ _ #[.int .i64 (x0 : Int), .string X, .int .i64 0, .int .i64 0, .slice none 0 0] at hr5
      obtain ⟨x9, h9⟩ : ∃ x, x = (v 9).toNat := ⟨_, rfl⟩
      obtain ⟨x10, h10⟩ : ∃ x, x = (v 10).toNat := ⟨_, rfl⟩
      obtain ⟨x11, h11⟩ : ∃ x, x = (v 11).toNat := ⟨_, rfl⟩
      have b9 : x9 < 256 := by rw [h9]; exact (v 9).toNat_lt
      have b10 : x10 < 256 := by rw [h10]; exact (v 10).toNat_lt
      have b11 : x11 < 256 := by rw [h11]; exact (v 11).toNat_lt
      have q9 := hx5.row.cell (i := at' + 9) (by omega)
      have q10 := hx5.row.cell (i := at' + 10) (by omega)
      rw [HVI.out, ← h9] at q9
      rw [HVI.out, ← h10] at q10
      have w9 : IntKind.i64.wrap (x9 : Int) = (x9 : Int) := by rw [IntKind.wrap_i64]; omega
      have w10 : IntKind.i64.wrap (x10 : Int) = (x10 : Int) := by rw [IntKind.wrap_i64]; omega
      have w11 : IntKind.i64.wrap (x11 : Int) = (x11 : Int) := by rw [IntKind.wrap_i64]; omega
      have ic9 : (9 : Int) < (C : Int) := by omega
      have ic10 : (10 : Int) < (C : Int) := by omega
      have y2 := hr5.cell 2
      have fy2 := hr5.frozen 2
      have y3 := hr5.cell 3
      have fy3 := hr5.frozen 3
      have H9 := Lib.hid h9
      have H10 := Lib.hid h10
      have H11 := Lib.hid h11
      clear y0 y1 fy1 hcv h9 h10 h11
      go_region
      all_goals
        go_upto_region 6 with fail
        have hr6 := ((hr5.set 2 (.int .i64 (x9 : Int))).set 3 (.int .i64 (x10 : Int))).drew
        have hz6 := ((hz5.far (p := ⟨w.heap.size + 1, 2, none⟩) (by show w.heap.size ≠ w.heap.size + 1; omega) (.int .i64 (x9 : Int))).far (p := ⟨w.heap.size + 1, 3, none⟩) (by show w.heap.size ≠ w.heap.size + 1; omega) (.int .i64 (x10 : Int))).drew
        have hx6 := ((hx5.far (q := ⟨w.heap.size + 1, 2, none⟩) (by show p ≠ w.heap.size + 1; omega) (by show g ≠ w.heap.size + 1; omega) (.int .i64 (x9 : Int))).far (q := ⟨w.heap.size + 1, 3, none⟩) (by show p ≠ w.heap.size + 1; omega) (by show g ≠ w.heap.size + 1; omega) (.int .i64 (x10 : Int))).drew
        have hb6 := ((hb5.setCell (p := ⟨w.heap.size + 1, 2, none⟩) (by show w.heap.size ≤ w.heap.size + 1; omega) (.int .i64 (x9 : Int))).setCell (p := ⟨w.heap.size + 1, 3, none⟩) (by show w.heap.size ≤ w.heap.size + 1; omega) (.int .i64 (x10 : Int))).drew
        have hs6 : (((W5.setCell ⟨w.heap.size + 1, 2, none⟩ (.int .i64 (x9 : Int))).setCell ⟨w.heap.size + 1, 3, none⟩ (.int .i64 (x10 : Int))).drew).heap.size = w.heap.size + 2 := by rw [World.size_drew, World.size_setCell, World.size_setCell, hs5]
        generalize ((W5.setCell ⟨w.heap.size + 1, 2, none⟩ (.int .i64 (x9 : Int))).setCell ⟨w.heap.size + 1, 3, none⟩ (.int .i64 (x10 : Int))).drew = W6 at *
        change Rw W6 _ _ #[.int .i64 (x0 : Int), .string X, .int .i64 (x9 : Int), .int .i64 (x10 : Int), .slice none 0 0] at hr6
        have q11 := hx6.row.cell (i := at' + 11) (by omega)
        rw [HVI.out, ← H11.out] at q11
        have ic11 : (11 : Int) < (C : Int) := by omega
        have hmin : min (x11 : Int) 4 = (M : Int) := by rw [HM.out, ← H11.out]; omega
        clear hz5 hx5 hb5 hr5 y2 fy2 y3 fy3 q9 q10 hs5
        have hfin : xPar v = ⟨(x0 : Int), X, (x9 : Int), (x10 : Int), xBl v M⟩ := by rw [HPE.out, ← HQ0.out, ← H9.out, ← H10.out]
        have HFI := Lib.hid hfin
        clear hfin
        go_wp2_with fail
        go_loopw [8, 40] (fun s8 s40 wr => ∃ (j c' : Nat) (A' : Option Addr), j ≤ M ∧ s40 = .int .i64 j ∧ Rw wr (w.heap.size + 1) 38 #[.int .i64 (x0 : Int), .string X, .int .i64 (x9 : Int), .int .i64 (x10 : Int), .slice A' j c'] ∧ wr.ownsRow (w.heap.size + 2) 2 1 (.slice A' j c') j ((xBl v j).map (Value.int .i64)) ∧ Rw wr w.heap.size 38 #[.int .i64 0, .string ⟨#[]⟩, .int .i64 0, .int .i64 0, .slice none 0 0] ∧ Below w.heap.size w wr) (fun _ i _ => M - (intOf i).toNat)
        case atStart => exact ⟨0, 0, none, Nat.zero_le _, rfl, hr6, World.ownsRow_nil _ _ _ _, hz6, hb6⟩
        case round =>
          obtain ⟨j, c', A', hj, rfl, hr, ho, hzr, hb⟩ := hrel
          have hwr := hb.size
          by_cases hlt : j < M
          · have hrl := hr.lt
            have qj := (HH.out.below hb).row.cell (i := at' + (12 + j)) (by omega)
            rw [HVI.out] at qj
            obtain ⟨xj, hxj⟩ : ∃ x, x = (v (12 + j)).toNat := ⟨_, rfl⟩
            rw [← hxj] at qj
            have bj : xj < 256 := by rw [hxj]; exact (v (12 + j)).toNat_lt
            have wj : IntKind.i64.wrap (xj : Int) = (xj : Int) := by rw [IntKind.wrap_i64]; omega
            have w12 : IntKind.i64.wrap (12 + (j : Int)) = 12 + (j : Int) := by rw [IntKind.wrap_i64]; omega
            have n12 : (12 + (j : Int)).toNat = 12 + j := by omega
            have ic12 : 12 + (j : Int) < 16 := by omega
            have ic0 : (0 : Int) ≤ 12 + (j : Int) := by omega
            have ic12b : 12 + (j : Int) < (C : Int) := by omega
            have y4 := hr.cell 4
            have fy4 := hr.frozen 4
            have HO := Lib.hid ho
            have HXJ := Lib.hid hxj
            clear ho hxj
            go_wp2_with fail
            go_region_law (first | (refine step_append_lies _ (by rfl) _ _ _ (by rfl) (w.heap.size + 2) 2 i0 _ 1 8 Tryz.underlying33 I0.out I1.out I2.out I3.out rfl (by omega) (.slice A' j c') j _ (by rfl) ((HO.out.alloc _).drew) ⟨wr.heap.size, 0, none⟩ 1 1 [.int .i64 (xj : Int)] (by rfl) (by rfl) (news1 _ _ _) (by simp [Value.oneCell']) (by omega) (by simp only [maxLen]; omega) (by omega) (by simp; omega) (wr.heap.size + 1) (by simp) ?_; intro gg cap w3 ho3 hgrow hat hlt3; have hr3 := rwGrown ((hr.alloc _).drew) hgrow (fun e => by have := own_lt HO.out _ e.symm; omega); have y5 := hr3.cell 4; have fy5 := hr3.frozen 4))
            all_goals
              go_wp2_with fail
              go_roundw
              case rel =>
                have hz3 := rwGrown ((hzr.alloc _).drew) hgrow (fun e => by have := own_lt HO.out _ e.symm; omega)
                have hb3 : Below w.heap.size wr w3 := (((Below.refl _ _).alloc hwr _).drew.grown hgrow (by simp; omega) (fun j hj => by have := own_lt HO.out j hj; omega))
                refine ⟨j + 1, cap, some ⟨gg, 0, none⟩, by omega, by go_num, hr3.set 4 _, ?_, hz3.far (p := ⟨w.heap.size + 1, 4, none⟩) (by show w.heap.size ≠ w.heap.size + 1; omega) _, (hb.trans hb3).setCell (p := ⟨w.heap.size + 1, 4, none⟩) (by show w.heap.size ≤ w.heap.size + 1; omega) _⟩
                rw [xBl_more, List.map_append, ← HXJ.out]
                exact ho3.kept (only_setCell (g := w.heap.size + 1) (only_refl w3 _) (.inl rfl) _) (.inr (fun e => by have := own_lt ho3 (w.heap.size + 1) e; omega))
              case measure => simp [intOf]; omega
          · obtain rfl : j = M := by omega
            go_wp2_with fail
            go_meet
            rw [HFI.out]
            refine ⟨A', c', hzr, ?_, ?_, hb⟩
            · show Rw wr (w.heap.size + 1) _ #[_, _, _, _, .slice A' (xBl v j).length c']
              rw [xBl_len]
              exact hr
            · show wr.ownsRow _ _ 1 (.slice A' (xBl v j).length c') (xBl v j).length _
              rw [xBl_len]
              exact ho
  case rest =>
    obtain ⟨A, c2, hr1, hr2, hi, hB⟩ := hcut
    have HXC := HH.out.below hB
    clear y0
    have hb00 := hB.size
    obtain ⟨e, he⟩ : ∃ e, e = xPar v := ⟨_, rfl⟩
    rw [← he] at hr2 hi
    have key : ∀ B : Bool, (B = true ↔ ∀ i, i < 16 → e.byte i = v i) → e.ok z → (B = true ↔ xGood z v) ∧ xent z v = if B then e else xe0 := fun B hB ho => by
      have hok : xGood z v ↔ B = true := by
        unfold xGood
        rw [← he]
        exact ⟨fun q => hB.2 q.2, fun q => ⟨ho, hB.1 q⟩⟩
      cases hBB : B with
      | true => exact ⟨by rw [hok, hBB], by rw [xent_good (hok.2 hBB), ← he]; rfl⟩
      | false =>
        have h1 : ¬ xGood z v := fun q => by have := hok.1 q; rw [hBB] at this; cases this
        exact ⟨by simpa using h1, by rw [xent_bad h1]; rfl⟩
    have hnm8 : e.nm.size ≤ 8 := by
      rw [he]
      by_cases h0 : (v 0).toNat = 0
      · rw [HP0.out h0]; exact Nat.zero_le _
      · unfold xPar
        rw [if_neg h0]
        show (bstr _ _).size ≤ 8
        rw [bsx_size]
        exact (trimLen_at _ _ _).le
    have hbl4 : e.bl.length ≤ 4 := by
      rw [he]
      by_cases h0 : (v 0).toNat = 0
      · rw [HP0.out h0]; exact Nat.zero_le _
      · unfold xPar
        rw [if_neg h0]
        simp
        omega
    have hbad : ¬ e.ok z → ¬ xGood z v ∧ xent z v = xe0 := fun hn => by
      have h1 : ¬ xGood z v := fun q => hn (by rw [he]; exact q.1)
      exact ⟨h1, xent_bad h1⟩
    have q0 := hr2.cell 0; have q1 := hr2.cell 1; have q2 := hr2.cell 2; have q3 := hr2.cell 3; have q4 := hr2.cell 4
    have k0 := hr1.cell 0; have f0 := hr1.frozen 0; have k1 := hr1.cell 1; have f1 := hr1.frozen 1; have k2 := hr1.cell 2; have f2 := hr1.frozen 2; have k3 := hr1.cell 3; have f3 := hr1.frozen 3; have k4 := hr1.cell 4; have f4 := hr1.frozen 4
    have hpw : ∀ W : World, Below wc.heap.size wc W → XW W p g n z E t N c u ∧ IntR (w.heap.size + 2) W A c2 e.bl ∧ Rw W w.heap.size 38 #[.int .i64 0, .string ⟨#[]⟩, .int .i64 0, .int .i64 0, .slice none 0 0] ∧ Rw W (w.heap.size + 1) 38 #[.int .i64 e.st, .string e.nm, .int .i64 e.no, .int .i64 e.tl, .slice A e.bl.length c2] := fun W hW => ⟨HXC.below hW, hi.below hW, hr1.below hW hr1.lt, hr2.below hW hr2.lt⟩
    have HPW := Lib.hid hpw
    have HKEY := Lib.hid key
    have HBAD := Lib.hid hbad
    have HE := Lib.hid he
    have hin : ∀ W : World, Below wc.heap.size wc W → w.heap.size ≤ W.heap.size := fun W hW => Nat.le_trans hb00 hW.size
    clear hpw key hbad he
    by_cases hV : e.ok z
    · have HV := Lib.hid (fun (W : World) (hW : Below wc.heap.size wc W) => implValidX_any p z e A c2 W true (by simpa using hV) (by omega) (by omega) (HPW.out W hW).1.lay.lt (HPW.out W hW).1.c1 (HPW.out W hW).2.1.sl)
      have HPE := Lib.hid (fun (W : World) (hW : Below wc.heap.size wc W) => implPutXE hz e hV A c2 W (HPW.out W hW).2.1.sl)
      have HVV := Lib.hid hV
      clear hV
      unfold XE.val at HV HPE
      obtain ⟨B, hBq⟩ : ∃ B : Bool, (B = true ↔ ∀ i, i < 16 → e.byte i = v i) := by
        open Classical in
        exact ⟨decide _, decide_eq_true_iff⟩
      have HK := Lib.hid (HKEY.out B hBq HVV.out)
      have HBQ := Lib.hid hBq
      clear hBq
      have HSE := Lib.hid (fun (W : World) (g2 : Nat) (hp2 : BRow W 5 g2 16 e.byte) (hW : Below wc.heap.size wc W) => slEqual_any g2 0 g at' 16 16 C e.byte v W (by omega) hp2.lt (HPW.out W hW).1.row.lt (fun i hi => by rw [Nat.zero_add]; exact hp2.cell hi) (fun i hi => by rw [(HPW.out W hW).1.row.cell (by omega), HVI.out]) B HBQ.out)
      cases B
      all_goals
        go_wp2_with (first
          | (go_at_call 60; refine (HV.out _ (Below.refl _ _)).mono ?_; rintro e1 w1 ⟨rfl, hb1⟩; have hr21 := (HPW.out _ hb1).2.2.2; have hr11 := (HPW.out _ hb1).2.2.1; have qa0 := hr21.cell 0; have qa1 := hr21.cell 1; have qa2 := hr21.cell 2; have qa3 := hr21.cell 3; have qa4 := hr21.cell 4)
          | (go_at_call 62; refine (HPE.out _ hb1).mono ?_; rintro e2 w2 ⟨g2, rfl, hp2, hg2, hb2⟩; have hb12 := hb1.trans (hb2.mono hb1.size))
          | (go_at_call 61; refine (HSE.out _ g2 hp2 hb12).mono ?_; rintro e3 w3 ⟨rfl, hb3⟩; have hb13 := hb12.trans (hb3.mono hb12.size); have hr13 := (HPW.out _ hb13).2.2.1; have hr23 := (HPW.out _ hb13).2.2.2; have qc0 := hr23.cell 0; have qc1 := hr23.cell 1; have qc2 := hr23.cell 2; have qc3 := hr23.cell 3; have qc4 := hr23.cell 4; have kc0 := hr13.cell 0; have fc0 := hr13.frozen 0; have kc1 := hr13.cell 1; have fc1 := hr13.frozen 1; have kc2 := hr13.cell 2; have fc2 := hr13.frozen 2; have kc3 := hr13.cell 3; have fc3 := hr13.frozen 3; have kc4 := hr13.cell 4; have fc4 := hr13.frozen 4))
        have hB3 := hB.trans (hb13.mono hb00)
        have hI3 := (HPW.out _ hb13).2.1
        obtain ⟨ka, kb⟩ := HK.out
      · have hrs := rowset5X hr13 (.int .i64 0) (.string ⟨#[]⟩) (.int .i64 0) (.int .i64 0) (.slice none 0 0)
        refine bodyPost_ret (v := .tuple #[xe0.val none 0, .bool false]) (by simp [results, Tryz.results44, go_sem, XE.val, xe0, hrs]) rfl ⟨false, none, 0, by simpa using ka, by rw [kb]; rfl, by rw [kb]; exact intR_nil _ _, ?_⟩
        exact ((((hB3.setCell (Nat.le_refl _) _).setCell (Nat.le_refl _) _).setCell (Nat.le_refl _) _).setCell (Nat.le_refl _) _).setCell (Nat.le_refl _) _
      · have hrs := rowset5X hr13 (.int .i64 e.st) (.string e.nm) (.int .i64 e.no) (.int .i64 e.tl) (.slice A e.bl.length c2)
        have hI4 := ((((hI3.farX (p := ⟨w.heap.size, 0, none⟩) (by show w.heap.size < w.heap.size + 2; omega) (.int .i64 e.st)).farX (p := ⟨w.heap.size, 1, none⟩) (by show w.heap.size < w.heap.size + 2; omega) (.string e.nm)).farX (p := ⟨w.heap.size, 2, none⟩) (by show w.heap.size < w.heap.size + 2; omega) (.int .i64 e.no)).farX (p := ⟨w.heap.size, 3, none⟩) (by show w.heap.size < w.heap.size + 2; omega) (.int .i64 e.tl)).farX (p := ⟨w.heap.size, 4, none⟩) (by show w.heap.size < w.heap.size + 2; omega) (.slice A e.bl.length c2)
        refine bodyPost_ret (v := .tuple #[e.val A c2, .bool true]) (by simp [results, Tryz.results44, go_sem, XE.val, hrs]) rfl ⟨true, A, c2, by simpa using ka, by rw [kb]; rfl, by rw [kb]; exact hI4.base (by omega), ?_⟩
        exact ((((hB3.setCell (Nat.le_refl _) _).setCell (Nat.le_refl _) _).setCell (Nat.le_refl _) _).setCell (Nat.le_refl _) _).setCell (Nat.le_refl _) _
    · have HV := Lib.hid (fun (W : World) (hW : Below wc.heap.size wc W) => implValidX_any p z e A c2 W false (by simpa using hV) (by omega) (by omega) (HPW.out W hW).1.lay.lt (HPW.out W hW).1.c1 (HPW.out W hW).2.1.sl)
      have HVV := Lib.hid hV
      clear hV
      unfold XE.val at HV
      go_wp2_with (first
          | (go_at_call 60; refine (HV.out _ (Below.refl _ _)).mono ?_; rintro e1 w1 ⟨rfl, hb1⟩; have hr21 := (HPW.out _ hb1).2.2.2; have hr11 := (HPW.out _ hb1).2.2.1; have qa0 := hr21.cell 0; have qa1 := hr21.cell 1; have qa2 := hr21.cell 2; have qa3 := hr21.cell 3; have qa4 := hr21.cell 4; have ka0 := hr11.cell 0; have fa0 := hr11.frozen 0; have ka1 := hr11.cell 1; have fa1 := hr11.frozen 1; have ka2 := hr11.cell 2; have fa2 := hr11.frozen 2; have ka3 := hr11.cell 3; have fa3 := hr11.frozen 3; have ka4 := hr11.cell 4; have fa4 := hr11.frozen 4))
      have hB3 := hB.trans (hb1.mono hb00)
      obtain ⟨ka, kb⟩ := HBAD.out HVV.out
      have hrs := rowset5X hr11 (.int .i64 0) (.string ⟨#[]⟩) (.int .i64 0) (.int .i64 0) (.slice none 0 0)
      refine bodyPost_ret (v := .tuple #[xe0.val none 0, .bool false]) (by simp [results, Tryz.results44, go_sem, XE.val, xe0, hrs]) rfl ⟨false, none, 0, by simpa using ka, by rw [kb], by rw [kb]; exact intR_nil _ _, ?_⟩
      exact ((((hB3.setCell (Nat.le_refl _) _).setCell (Nat.le_refl _) _).setCell (Nat.le_refl _) _).setCell (Nat.le_refl _) _).setCell (Nat.le_refl _) _
end Go.Proofs.YtmgcaiilocifbaaGreatDoor
