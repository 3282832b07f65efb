/-
  Disks of extents: the bytes of an entry, both sides.
-/
import Derived.Test.YtmgcaiilocifbaaGreatDoorXqP
import Derived.Test.YtmgcaiilocifbaaGreatDoorXcP
import Derived.Deep.DeepCutAuto
namespace Go.Proofs.YtmgcaiilocifbaaGreatDoor
open Go Go.ChangeShapes Go.WideShapes Go.ChangeAt Go.RowKit lib
set_option linter.unusedVariables false
set_option linter.unusedSimpArgs false
set_option maxRecDepth 100000
/-- the sixteen bytes -/
def pbX (s : Nat) (nm : ByteArray) (no tl m : Nat) (y : Nat → Nat) (i : Nat) : UInt8 :=
  if i = 0 then UInt8.ofNat s else if i < 9 then (if i - 1 < nm.size then byteAt nm (i - 1) else 32) else
  if i = 9 then UInt8.ofNat no else if i = 10 then UInt8.ofNat tl else if i = 11 then UInt8.ofNat m else
  if i - 12 < m then UInt8.ofNat (y (i - 12)) else 0
/-- .. as far as they are written -/
def pbK (s : Nat) (nm : ByteArray) (no tl m : Nat) (y : Nat → Nat) (k i : Nat) : UInt8 := if i < k then pbX s nm no tl m y i else 0
theorem pbK_more {s : Nat} {nm : ByteArray} {no tl m : Nat} {y : Nat → Nat} {k : Nat} {x : UInt8} (h : pbX s nm no tl m y k = x) (i : Nat) : upd (pbK s nm no tl m y k) k x i = pbK s nm no tl m y (k + 1) i := by
  unfold upd pbK
  by_cases hi : i = k
  · subst hi; simp [h]
  · rw [if_neg hi]
    by_cases h2 : i < k
    · rw [if_pos h2, if_pos (by omega)]
    · rw [if_neg h2, if_neg (by omega)]
theorem pbK_full {s : Nat} {nm : ByteArray} {no tl m : Nat} {y : Nat → Nat} {k i : Nat} (hm : k = 12 + m) : pbK s nm no tl m y k i = pbX s nm no tl m y i := by
  unfold pbK
  split
  · rfl
  · rename_i h
    unfold pbX
    rw [if_neg (by omega), if_neg (by omega), if_neg (by omega), if_neg (by omega), if_neg (by omega), if_neg (by omega)]
theorem brow_made0 (W : World) (e n : Nat) (x : UInt8) {v : Int} (hv : v = (x.toNat : Int)) : BRow (W.alloc (.cells ((madeCells #[.int .u8 0] n).setIfInBounds 0 (.int .u8 v)) e)) e W.heap.size n (upd (fun _ => 0) 0 x) := by
  have h : IsB (madeCells #[.int .u8 0] n) n (fun _ => 0) := ⟨by rw [size_madeCells]; exact Nat.le_refl _, fun i hi => by simp [madeCells, hi, Nat.mod_one]⟩
  exact ⟨_, Row.new W e _, (h.set x hv).1, (h.set x hv).2⟩
theorem pb_step {w : World} {e g : Nat} {s : Nat} {nm : ByteArray} {no tl m : Nat} {y : Nat → Nat} {k : Nat} (h : BRow w e g 16 (pbK s nm no tl m y k)) {v : Int} (hv : v = ((pbX s nm no tl m y k).toNat : Int)) : BRow (w.setCell ⟨g, k, none⟩ (.int .u8 v)) e g 16 (pbK s nm no tl m y (k + 1)) :=
  (h.set (i := k) _ hv).congr fun i _ => pbK_more rfl i
theorem pbX_9 {s : Nat} {nm : ByteArray} {no tl m : Nat} {y : Nat → Nat} (h : no ≤ 255) : (no : Int) = ((pbX s nm no tl m y 9).toNat : Int) := (u8n (by omega)).symm
theorem pbX_10 {s : Nat} {nm : ByteArray} {no tl m : Nat} {y : Nat → Nat} (h : tl ≤ 255) : (tl : Int) = ((pbX s nm no tl m y 10).toNat : Int) := (u8n (by omega)).symm
theorem pbX_11 {s : Nat} {nm : ByteArray} {no tl m : Nat} {y : Nat → Nat} (h : m ≤ 255) : (m : Int) = ((pbX s nm no tl m y 11).toNat : Int) := (u8n (by omega)).symm
theorem pbX_12 {s : Nat} {nm : ByteArray} {no tl m : Nat} {y : Nat → Nat} {k : Nat} (hk : k < m) (h : y k ≤ 255) : ((y k : Nat) : Int) = ((pbX s nm no tl m y (12 + k)).toNat : Int) := by
  unfold pbX
  rw [if_neg (by omega), if_neg (by omega), if_neg (by omega), if_neg (by omega), if_neg (by omega), show 12 + k - 12 = k by omega, if_pos hk]
  exact (u8n (by omega)).symm
theorem implPutX_free (A : Option Addr) (c m : Nat) (nm : ByteArray) (no tl : Int) (w : World) :
    Calls Tryz.prog 62 #[.agg #[.int .i64 0, .string nm, .int .i64 no, .int .i64 tl, .slice A m c]] w fun e w' => ∃ g, e = .returned (.slice (some ⟨g, 0, none⟩) 16 16) ∧ BRow w' 5 g 16 (fun _ => 0) ∧ w.heap.size ≤ g ∧ Below w.heap.size w w' := by
  have mk : ∀ W : World, (Instr.makeSlice 49 (.int .i64 16) (.int .i64 16)).run Tryz.prog W = .ok (.slice (some ⟨W.heap.size, 0, none⟩) 16 16) (W.alloc (.cells (madeCells #[.int .u8 0] 16) 5)) := fun W => run_mk (P := Tryz.prog) 49 5 (.int .u8 0) 1 1 Tryz.underlying49 (by kernel_rfl) (by omega) 16 (by omega) W
  have rb := ((Rw.new w 38 #[.int .i64 0, .string nm, .int .i64 no, .int .i64 tl, .slice A m c]).alloc (.cells (madeCells #[.int .u8 0] 16) 5))
  have br0 := BRow.made (w.alloc (.cells #[.int .i64 0, .string nm, .int .i64 no, .int .i64 tl, .slice A m c] 38)) 5 16
  have hB : Below w.heap.size w ((w.alloc (.cells #[.int .i64 0, .string nm, .int .i64 no, .int .i64 tl, .slice A m c] 38)).alloc (.cells (madeCells #[.int .u8 0] 16) 5)) := ((Below.refl _ _).alloc (Nat.le_refl _) _).alloc (by simp) _
  have c0 := rb.cell 0
  rw [World.size_alloc] at br0
  go_enter Tryz.func62, Tryz.ntmps62
  go_wp2_with fail
  go_ret
  exact ⟨_, rfl, br0, by omega, hB⟩
set_option maxHeartbeats 4000000 in
theorem implPutX_some (A : Option Addr) (c s no tl m : Nat) (nm : ByteArray) (y : Nat → Nat) (hs0 : s ≠ 0) (hs : s ≤ 255) (hno : no ≤ 255) (htl : tl ≤ 255) (hm : m ≤ 4) (hy : ∀ i, i < m → y i ≤ 255) (hnm : nm.size ≤ 8) (w : World) (hsl : Sl w w.heap.size A m (fun i => .int .i64 ((y i : Nat) : Int))) :
    Calls Tryz.prog 62 #[.agg #[.int .i64 (s : Int), .string nm, .int .i64 (no : Int), .int .i64 (tl : Int), .slice A m c]] w fun e w' => ∃ g, e = .returned (.slice (some ⟨g, 0, none⟩) 16 16) ∧ BRow w' 5 g 16 (pbX s nm no tl m y) ∧ w.heap.size ≤ g ∧ Below w.heap.size w w' := by
  have mk : ∀ W : World, (Instr.makeSlice 49 (.int .i64 16) (.int .i64 16)).run Tryz.prog W = .ok (.slice (some ⟨W.heap.size, 0, none⟩) 16 16) (W.alloc (.cells (madeCells #[.int .u8 0] 16) 5)) := fun W => run_mk (P := Tryz.prog) 49 5 (.int .u8 0) 1 1 Tryz.underlying49 (by kernel_rfl) (by omega) 16 (by omega) W
  have rb := ((Rw.new w 38 #[.int .i64 (s : Int), .string nm, .int .i64 (no : Int), .int .i64 (tl : Int), .slice A m c]).alloc (.cells (madeCells #[.int .u8 0] 16) 5))
  have br0 := BRow.made (w.alloc (.cells #[.int .i64 (s : Int), .string nm, .int .i64 (no : Int), .int .i64 (tl : Int), .slice A m c] 38)) 5 16
  rw [World.size_alloc] at br0
  have br1 := brow_made0 (w.alloc (.cells #[.int .i64 (s : Int), .string nm, .int .i64 (no : Int), .int .i64 (tl : Int), .slice A m c] 38)) 5 16 (UInt8.ofNat s) (u8n (x := s) (by omega)).symm
  rw [World.size_alloc] at br1
  have rb1 := ((Rw.new w 38 #[.int .i64 (s : Int), .string nm, .int .i64 (no : Int), .int .i64 (tl : Int), .slice A m c]).alloc (.cells ((madeCells #[.int .u8 0] 16).setIfInBounds 0 (.int .u8 (s : Int))) 5))
  have hB : Below w.heap.size w ((w.alloc (.cells #[.int .i64 (s : Int), .string nm, .int .i64 (no : Int), .int .i64 (tl : Int), .slice A m c] 38)).alloc (.cells ((madeCells #[.int .u8 0] 16).setIfInBounds 0 (.int .u8 (s : Int))) 5)) := (((Below.refl _ _).alloc (Nat.le_refl _) _).alloc (by simp) _)
  have c0 := rb.cell 0
  have k0 := br0.cell (i := 0) (by omega)
  have f0 := br0.frozen (i := 0) (by omega)
  have d1 := rb1.cell 1
  have e0 : ((s : Int) == 0) = false := by simp; omega
  have e0' : ((s : Int) = 0) = False := by simp; omega
  have hcat : ∀ W : World, (Op.stringOp .add nm ⟨#[32, 32, 32, 32, 32, 32, 32, 32]⟩).run Tryz.prog W = .ok (.string (nm ++ ⟨#[32, 32, 32, 32, 32, 32, 32, 32]⟩)) W := fun W => run_string_add_sum _ _ _ (by show nm.size + 8 ≤ _; omega)
  have hpad := padded nm hnm
  have hpz : 8 ≤ (nm ++ (⟨#[32, 32, 32, 32, 32, 32, 32, 32]⟩ : ByteArray)).size := by
    rw [ByteArray.size_append]
    show 8 ≤ nm.size + 8
    omega
  generalize (nm ++ (⟨#[32, 32, 32, 32, 32, 32, 32, 32]⟩ : ByteArray)) = NM at hcat hpad hpz
  have HPAD := Lib.hid hpad
  have HSL := Lib.hid hsl
  have HY := Lib.hid hy
  have BR1 := Lib.hid br1
  have RB1 := Lib.hid rb1
  have HB := Lib.hid hB
  clear hpad hsl hy br1 rb1 hB br0 rb
  go_enter Tryz.func62, Tryz.ntmps62
  go_upto_region 5 with fail
  go_cut [] (fun wx => Rw wx w.heap.size 38 #[.int .i64 (s : Int), .string nm, .int .i64 (no : Int), .int .i64 (tl : Int), .slice A m c] ∧ BRow wx 5 (w.heap.size + 1) 16 (pbK s nm no tl m y 9) ∧ Below w.heap.size w wx)
  case first =>
    go_region_law (refine step_copy_cut rfl (.tmp 17) (.tmp 20) 49 9 rfl 5 Tryz.underlying49 sizeOf8 (w.heap.size + 1) 1 8 15 (by rfl) NM (by rfl) hpz (fun j hj => by rw [(BR1.out.drew).cell (by omega)]; rfl) (fun j hj => (BR1.out.drew).frozen (by omega)) ?_)
    all_goals
      go_wp2_with fail
      go_meet
      have hset := BRow.setCells (NM.data.toList.take 8) 1 _ _ BR1.out.drew
      rw [List.map_take] at hset
      refine ⟨?_, hset.congr ?_, ?_⟩
      · exact RB1.out.drew.below (B := w.heap.size + 1) (below_setCells (Nat.le_refl _) _ _ _ (Below.refl _ _)) (by omega)
      · intro i hi
        unfold putU pbK
        have hlen : (NM.data.toList.take 8).length = 8 := by
          rw [List.length_take, Array.length_toList]
          have : NM.data.size = NM.size := rfl
          omega
        rw [hlen]
        by_cases h1 : 1 ≤ i ∧ i < 1 + 8
        · have hq : pbX s nm no tl m y i = if i - 1 < nm.size then byteAt nm (i - 1) else 32 := by
            unfold pbX
            rw [if_neg (by omega), if_pos (by omega)]
          rw [if_pos h1, if_pos (by omega), HPAD.out _ (by omega), hq]
        · rw [if_neg h1]
          by_cases h0 : i = 0
          · subst h0
            rw [upd_same, if_pos (by omega)]
            rfl
          · rw [upd_other _ _ h0, if_neg (by omega)]
      · exact below_setCells (by omega) _ _ _ HB.out.drew
  case rest =>
    obtain ⟨HR2, HB2, HW2⟩ := hcut
    have g2 := HR2.cell 2
    have g3 := HR2.cell 3
    have g4 := HR2.cell 4
    have k9 := HB2.cell (i := 9) (by omega)
    have k10 := HB2.cell (i := 10) (by omega)
    have k11 := HB2.cell (i := 11) (by omega)
    have f9 := HB2.frozen (i := 9) (by omega)
    have f10 := HB2.frozen (i := 10) (by omega)
    have f11 := HB2.frozen (i := 11) (by omega)
    go_upto_region 6 with fail
    go_cut [] (fun wx => Rw wx w.heap.size 38 #[.int .i64 (s : Int), .string nm, .int .i64 (no : Int), .int .i64 (tl : Int), .slice A m c] ∧ BRow wx 5 (w.heap.size + 1) 16 (pbK s nm no tl m y 12) ∧ Below w.heap.size w wx)
    case first =>
      go_region
      all_goals
        go_wp2_with fail
        go_meet
        exact ⟨((HR2.drew.far (p := ⟨w.heap.size + 1, 9, none⟩) (by show w.heap.size ≠ w.heap.size + 1; omega) _).far (p := ⟨w.heap.size + 1, 10, none⟩) (by show w.heap.size ≠ w.heap.size + 1; omega) _).far (p := ⟨w.heap.size + 1, 11, none⟩) (by show w.heap.size ≠ w.heap.size + 1; omega) _,
          pb_step (pb_step (pb_step HB2.drew (pbX_9 hno)) (pbX_10 htl)) (pbX_11 (by omega)),
          ((HW2.drew.setCell (p := ⟨w.heap.size + 1, 9, none⟩) (by show w.heap.size ≤ w.heap.size + 1; omega) _).setCell (p := ⟨w.heap.size + 1, 10, none⟩) (by show w.heap.size ≤ w.heap.size + 1; omega) _).setCell (p := ⟨w.heap.size + 1, 11, none⟩) (by show w.heap.size ≤ w.heap.size + 1; omega) _⟩
    case rest =>
      obtain ⟨HR3, HB3, HW3⟩ := hcut
      clear g2 g3 g4 k9 k10 k11 f9 f10 f11 HR2 HB2 HW2
      have g4 := HR3.cell 4
      go_wp2_with fail
      go_loopw [4, 5, 41] (fun s4 s5 s41 wr => ∃ k : Nat, k ≤ m ∧ s41 = .int .i64 k ∧ BRow wr 5 (w.heap.size + 1) 16 (pbK s nm no tl m y (12 + k)) ∧ Below w.heap.size w wr) (fun _ _ i _ => m - (intOf i).toNat)
      case atStart => exact ⟨0, Nat.zero_le _, rfl, HB3, HW3⟩
      case round =>
        obtain ⟨k, hk, rfl, hbr, hb⟩ := hrel
        by_cases hlt : k < m
        · obtain ⟨bk, o, rfl, hbk, hc⟩ := (HSL.out.below hb) k hlt
          dsimp only at hc
          have hyk := HY.out k hlt
          have hcell := hbr.cell (i := 12 + k) (by omega)
          have hfr := hbr.frozen (i := 12 + k) (by omega)
          have hp := pbX_12 (s := s) (nm := nm) (no := no) (tl := tl) (y := y) hlt hyk
          obtain ⟨x, hx⟩ : ∃ x, y k = x := ⟨_, rfl⟩
          rw [hx] at hc hyk hp
          have HX := Lib.hid hp
          have HBR := Lib.hid hbr
          clear hp hx hbr
          have e12 : IntKind.i64.wrap (12 + (k : Int)) = 12 + (k : Int) := by rw [IntKind.wrap_i64]; omega
          have n12 : (12 + (k : Int)).toNat = 12 + k := by omega
          go_wp2_with fail
          go_roundw
          case rel => exact ⟨k + 1, by omega, by go_num, pb_step HBR.out HX.out, hb.setCell (by show w.heap.size ≤ w.heap.size + 1; omega) _⟩
          case measure => simp [intOf]; omega
        · obtain rfl : k = m := by omega
          go_wp2_with fail
          go_ret
          exact ⟨_, rfl, hbr.congr fun i _ => pbK_full rfl, by omega, hb⟩
theorem specPutX_free (q : Nat) (A : Option Addr) (c m : Nat) (nm : ByteArray) (no tl : Int) (w : World) (hr : Rw w q 38 #[.int .i64 0, .string nm, .int .i64 no, .int .i64 tl, .slice A m c]) :
    Calls Tryz.prog 38 #[.pointer (some ⟨q, 0, none⟩)] w fun e w' => ∃ g, e = .returned (.slice (some ⟨g, 0, none⟩) 16 16) ∧ BRow w' 5 g 16 (fun _ => 0) ∧ w.heap.size ≤ g ∧ Below w.heap.size w w' := by
  have mk : ∀ W : World, (Instr.makeSlice 49 (.int .i64 16) (.int .i64 16)).run Tryz.prog W = .ok (.slice (some ⟨W.heap.size, 0, none⟩) 16 16) (W.alloc (.cells (madeCells #[.int .u8 0] 16) 5)) := fun W => run_mk (P := Tryz.prog) 49 5 (.int .u8 0) 1 1 Tryz.underlying49 (by kernel_rfl) (by omega) 16 (by omega) W
  have br0 := BRow.made w 5 16
  have hB : Below w.heap.size w (w.alloc (.cells (madeCells #[.int .u8 0] 16) 5)) := ((Below.refl _ _).alloc (Nat.le_refl _) _)
  have c0 := (hr.alloc (.cells (madeCells #[.int .u8 0] 16) 5)).cell 0
  go_enter Tryz.func38, Tryz.ntmps38
  go_wp2_with fail
  go_ret
  exact ⟨_, rfl, br0, Nat.le_refl _, hB⟩
set_option maxHeartbeats 4000000 in
theorem specPutX_some (q : Nat) (A : Option Addr) (c s no tl m : Nat) (nm : ByteArray) (y : Nat → Nat) (hs0 : s ≠ 0) (hs : s ≤ 255) (hno : no ≤ 255) (htl : tl ≤ 255) (hm : m ≤ 4) (hy : ∀ i, i < m → y i ≤ 255) (hnm : nm.size ≤ 8) (w : World) (hsl : Sl w w.heap.size A m (fun i => .int .i64 ((y i : Nat) : Int)))
    (hr : Rw w q 38 #[.int .i64 (s : Int), .string nm, .int .i64 (no : Int), .int .i64 (tl : Int), .slice A m c]) :
    Calls Tryz.prog 38 #[.pointer (some ⟨q, 0, none⟩)] w fun e w' => ∃ g, e = .returned (.slice (some ⟨g, 0, none⟩) 16 16) ∧ BRow w' 5 g 16 (pbX s nm no tl m y) ∧ w.heap.size ≤ g ∧ Below w.heap.size w w' := by
  have mk : ∀ W : World, (Instr.makeSlice 49 (.int .i64 16) (.int .i64 16)).run Tryz.prog W = .ok (.slice (some ⟨W.heap.size, 0, none⟩) 16 16) (W.alloc (.cells (madeCells #[.int .u8 0] 16) 5)) := fun W => run_mk (P := Tryz.prog) 49 5 (.int .u8 0) 1 1 Tryz.underlying49 (by kernel_rfl) (by omega) 16 (by omega) W
  have hq := hr.lt
  have hqn : q ≠ w.heap.size := Nat.ne_of_lt hq
  have br0 := BRow.made w 5 16
  have br1 := brow_made0 w 5 16 (UInt8.ofNat s) (u8n (x := s) (by omega)).symm
  have br2 : BRow (w.alloc (.cells ((madeCells #[.int .u8 0] 16).setIfInBounds 0 (.int .u8 (s : Int))) 5)) 5 w.heap.size 16 (pbK s nm no tl m y 1) := br1.congr fun i hi => by
    unfold upd pbK
    by_cases h : i = 0
    · subst h; rfl
    · rw [if_neg h, if_neg (by omega)]
  have hB : Below w.heap.size w (w.alloc (.cells ((madeCells #[.int .u8 0] 16).setIfInBounds 0 (.int .u8 (s : Int))) 5)) := ((Below.refl _ _).alloc (Nat.le_refl _) _)
  have c0 := (hr.alloc (.cells (madeCells #[.int .u8 0] 16) 5)).cell 0
  have k0 := br0.cell (i := 0) (by omega)
  have f0 := br0.frozen (i := 0) (by omega)
  have e0 : ((s : Int) == 0) = false := by simp; omega
  have e0' : ((s : Int) = 0) = False := by simp; omega
  have HSL := Lib.hid hsl
  have HY := Lib.hid hy
  have HR := Lib.hid hr
  have BR2 := Lib.hid br2
  have HB := Lib.hid hB
  clear hsl hy br1 br2 hB br0 hr
  go_enter Tryz.func38, Tryz.ntmps38
  go_wp2_with fail
  go_loopw [4] (fun s4 wr => ∃ k : Nat, k ≤ 8 ∧ s4 = .int .i64 k ∧ BRow wr 5 w.heap.size 16 (pbK s nm no tl m y (1 + k)) ∧ Below w.heap.size w wr) (fun i _ => 8 - (intOf i).toNat)
  case atStart => exact ⟨0, Nat.zero_le _, rfl, BR2.out, HB.out⟩
  case round =>
    obtain ⟨k, hk, rfl, hbr, hb⟩ := hrel
    have hr1 := HR.out.below hb hq
    by_cases hlt : k < 8
    · have hcell := hbr.cell (i := 1 + k) (by omega)
      have hfr := hbr.frozen (i := 1 + k) (by omega)
      have hr2 := hr1.far (p := ⟨w.heap.size, 1 + k, none⟩) (by show q ≠ w.heap.size; omega) (.int .u8 32)
      have g1 := hr2.cell 1
      have e12 : IntKind.i64.wrap (1 + (k : Int)) = 1 + (k : Int) := by rw [IntKind.wrap_i64]; omega
      have n12 : (1 + (k : Int)).toNat = 1 + k := by omega
      have hbrx : BRow (wr.setCell ⟨w.heap.size, 1 + k, none⟩ (.int .u8 32)) 5 w.heap.size 16 (upd (pbK s nm no tl m y (1 + k)) (1 + k) 32) := hbr.set (i := 1 + k) 32 (y := 32) rfl
      have hcell2 := hbrx.cell (i := 1 + k) (by omega)
      have hfr2 := hbrx.frozen (i := 1 + k) (by omega)
      have HBR := Lib.hid hbr
      have HBX := Lib.hid hbrx
      clear hbr hbrx
      by_cases hin : k < nm.size
      · have hb1 := byteAt_get nm k hin
        have hpx : ((byteAt nm k).toNat : Int) = ((pbX s nm no tl m y (1 + k)).toNat : Int) := by
          unfold pbX
          rw [if_neg (by omega), if_pos (by omega), show 1 + k - 1 = k by omega, if_pos hin]
        have HPX := Lib.hid hpx
        clear hpx
        go_wp2_with fail
        go_roundw
        case rel =>
          refine ⟨k + 1, by omega, by go_num, ?_, (hb.setCell (p := ⟨w.heap.size, 1 + k, none⟩) (Nat.le_refl _) _).setCell (p := ⟨w.heap.size, 1 + k, none⟩) (Nat.le_refl _) _⟩
          refine (HBX.out.set (i := 1 + k) _ HPX.out).congr fun i _ => ?_
          rw [show 1 + (k + 1) = 1 + k + 1 by omega, ← pbK_more rfl i]
          unfold upd
          split <;> rfl
        case measure => simp [intOf]; omega
      · have hpx : (32 : Int) = ((pbX s nm no tl m y (1 + k)).toNat : Int) := by
          unfold pbX
          rw [if_neg (by omega), if_pos (by omega), show 1 + k - 1 = k by omega, if_neg hin]
          rfl
        have HPX := Lib.hid hpx
        clear hpx
        go_wp2_with fail
        go_roundw
        case rel => exact ⟨k + 1, by omega, by go_num, pb_step HBR.out HPX.out, hb.setCell (p := ⟨w.heap.size, 1 + k, none⟩) (Nat.le_refl _) _⟩
        case measure => simp [intOf]; omega
    · obtain rfl : k = 8 := by omega
      have g2 := hr1.cell 2
      have g3 := hr1.cell 3
      have g4 := hr1.cell 4
      have k9 := hbr.cell (i := 9) (by omega)
      have k10 := hbr.cell (i := 10) (by omega)
      have k11 := hbr.cell (i := 11) (by omega)
      have f9 := hbr.frozen (i := 9) (by omega)
      have f10 := hbr.frozen (i := 10) (by omega)
      have f11 := hbr.frozen (i := 11) (by omega)
      have HBR := Lib.hid hbr
      have HR1 := Lib.hid hr1
      clear hbr hr1
      go_wp2_with fail
      have hr3 := ((HR1.out.far (p := ⟨w.heap.size, 9, none⟩) (by show q ≠ w.heap.size; omega) (.int .u8 (no : Int))).far (p := ⟨w.heap.size, 10, none⟩) (by show q ≠ w.heap.size; omega) (.int .u8 (tl : Int))).far (p := ⟨w.heap.size, 11, none⟩) (by show q ≠ w.heap.size; omega) (.int .u8 (m : Int))
      have hb3 := ((hb.setCell (p := ⟨w.heap.size, 9, none⟩) (Nat.le_refl _) (.int .u8 (no : Int))).setCell (p := ⟨w.heap.size, 10, none⟩) (Nat.le_refl _) (.int .u8 (tl : Int))).setCell (p := ⟨w.heap.size, 11, none⟩) (Nat.le_refl _) (.int .u8 (m : Int))
      have hbr3 := pb_step (pb_step (pb_step HBR.out (pbX_9 hno)) (pbX_10 htl)) (pbX_11 (by omega))
      generalize ((wr.setCell ⟨w.heap.size, 9, none⟩ (.int .u8 (no : Int))).setCell ⟨w.heap.size, 10, none⟩ (.int .u8 (tl : Int))).setCell ⟨w.heap.size, 11, none⟩ (.int .u8 (m : Int)) = W3 at *
      go_loopw [5] (fun s5 wr => ∃ k : Nat, k ≤ m ∧ s5 = .int .i64 k ∧ BRow wr 5 w.heap.size 16 (pbK s nm no tl m y (12 + k)) ∧ Below w.heap.size w wr) (fun i _ => m - (intOf i).toNat)
      case atStart => exact ⟨0, Nat.zero_le _, rfl, hbr3, hb3⟩
      case round =>
        obtain ⟨k, hk, rfl, hbr, hb⟩ := hrel
        have hr1 := HR.out.below hb hq
        have g4 := hr1.cell 4
        by_cases hlt : k < m
        · obtain ⟨bk, o, rfl, hbk, hc⟩ := (HSL.out.below hb) k hlt
          dsimp only at hc
          have hyk := HY.out k hlt
          have hcell := hbr.cell (i := 12 + k) (by omega)
          have hfr := hbr.frozen (i := 12 + k) (by omega)
          have hp := pbX_12 (s := s) (nm := nm) (no := no) (tl := tl) (y := y) hlt hyk
          obtain ⟨x, hx⟩ : ∃ x, y k = x := ⟨_, rfl⟩
          rw [hx] at hc hyk hp
          have HX := Lib.hid hp
          have HBR := Lib.hid hbr
          clear hp hx hbr
          have e12 : IntKind.i64.wrap (12 + (k : Int)) = 12 + (k : Int) := by rw [IntKind.wrap_i64]; omega
          have n12 : (12 + (k : Int)).toNat = 12 + k := by omega
          go_wp2_with fail
          go_roundw
          case rel => exact ⟨k + 1, by omega, by go_num, pb_step HBR.out HX.out, hb.setCell (Nat.le_refl _) _⟩
          case measure => simp [intOf]; omega
        · obtain rfl : k = m := by omega
          go_wp2_with fail
          go_ret
          exact ⟨_, rfl, hbr.congr fun i _ => pbK_full rfl, Nat.le_refl _, hb⟩
theorem byte_free {e : XE} (h : e.st = 0) : e.byte = fun _ => 0 := by
  funext i
  unfold XE.byte
  rw [if_pos h]
theorem byte_some {e : XE} (h : e.st ≠ 0) (i : Nat) : pbX e.st.toNat e.nm e.no.toNat e.tl.toNat e.bl.length (fun i => (e.bl.getD i 0).toNat) i = e.byte i := by
  unfold XE.byte pbX
  rw [if_neg h]
theorem xe_nat {e : XE} {z : Nat} (h : e.ok z) (hs : e.st ≠ 0) (hz : z ≤ 255) : e.st.toNat ≠ 0 ∧ e.st.toNat ≤ 255 ∧ e.no.toNat ≤ 255 ∧ e.tl.toNat ≤ 255 ∧ e.bl.length ≤ 4 ∧ (∀ i, i < e.bl.length → (e.bl.getD i 0).toNat ≤ 255) ∧ e.nm.size ≤ 8 ∧ e.st = (e.st.toNat : Int) ∧ e.no = (e.no.toNat : Int) ∧ e.tl = (e.tl.toNat : Int) ∧ ∀ i, i < e.bl.length → e.bl.getD i 0 = ((e.bl.getD i 0).toNat : Int) := by
  have hl := XE.ok_len h
  have hb := XE.ok_bl h
  have hn := XE.ok_nm h
  rcases h with ⟨h1, _⟩ | ⟨h1, h2, h3, h4, h5, h6⟩
  · exact absurd h1 hs
  · have hg : ∀ i, i < e.bl.length → 0 ≤ e.bl.getD i 0 ∧ e.bl.getD i 0 ≤ 255 := fun i hi => hb _ (by rw [List.getD_eq_getElem?_getD, List.getElem?_eq_getElem hi]; exact List.getElem_mem hi)
    refine ⟨by omega, by omega, by omega, by omega, hl, fun i hi => by have := hg i hi; omega, hn, by omega, by omega, by omega, fun i hi => by have := hg i hi; omega⟩
theorem implPutXE {z : Nat} (hz : z ≤ 255) (e : XE) (he : e.ok z) (A : Option Addr) (c : Nat) (w : World) (hsl : Sl w w.heap.size A e.bl.length (fun i => .int .i64 (e.bl.getD i 0))) :
    Calls Tryz.prog 62 #[e.val A c] w fun r w' => ∃ g, r = .returned (.slice (some ⟨g, 0, none⟩) 16 16) ∧ BRow w' 5 g 16 e.byte ∧ w.heap.size ≤ g ∧ Below w.heap.size w w' := by
  by_cases hs : e.st = 0
  · rw [byte_free hs]
    unfold XE.val
    rw [hs]
    exact implPutX_free A c _ _ _ _ w
  · obtain ⟨h1, h2, h3, h4, h5, h6, h7, h8, h9, h10, h11⟩ := xe_nat he hs hz
    have hv : e.val A c = .agg #[.int .i64 (e.st.toNat : Int), .string e.nm, .int .i64 (e.no.toNat : Int), .int .i64 (e.tl.toNat : Int), .slice A e.bl.length c] := by
      unfold XE.val
      rw [← h8, ← h9, ← h10]
    rw [hv]
    refine (implPutX_some A c _ _ _ _ e.nm (fun i => (e.bl.getD i 0).toNat) h1 h2 h3 h4 h5 h6 h7 w (hsl.congr fun i hi => by rw [← h11 i hi])).mono ?_
    rintro r w' ⟨g, e1, hb, r⟩
    exact ⟨g, e1, hb.congr fun i _ => byte_some hs i, r⟩
theorem specPutXE {z : Nat} (hz : z ≤ 255) (q : Nat) (e : XE) (he : e.ok z) (A : Option Addr) (c : Nat) (w : World) (hsl : Sl w w.heap.size A e.bl.length (fun i => .int .i64 (e.bl.getD i 0)))
    (hr : Rw w q 38 #[.int .i64 e.st, .string e.nm, .int .i64 e.no, .int .i64 e.tl, .slice A e.bl.length c]) :
    Calls Tryz.prog 38 #[.pointer (some ⟨q, 0, none⟩)] w fun r w' => ∃ g, r = .returned (.slice (some ⟨g, 0, none⟩) 16 16) ∧ BRow w' 5 g 16 e.byte ∧ w.heap.size ≤ g ∧ Below w.heap.size w w' := by
  by_cases hs : e.st = 0
  · rw [byte_free hs]
    rw [hs] at hr
    exact specPutX_free q A c _ _ _ _ w hr
  · obtain ⟨h1, h2, h3, h4, h5, h6, h7, h8, h9, h10, h11⟩ := xe_nat he hs hz
    rw [h8, h9, h10] at hr
    refine (specPutX_some q A c _ _ _ _ e.nm (fun i => (e.bl.getD i 0).toNat) h1 h2 h3 h4 h5 h6 h7 w (hsl.congr fun i hi => by rw [← h11 i hi]) hr).mono ?_
    rintro r w' ⟨g, e1, hb, r⟩
    exact ⟨g, e1, hb.congr fun i _ => byte_some hs i, r⟩
end Go.Proofs.YtmgcaiilocifbaaGreatDoor
