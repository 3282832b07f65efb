/-
  Disks of chains: the bytes of an entry.
-/
import Derived.Test.YtgmmigbaaigldaaDoorEntry
namespace Go.Proofs.YtgmmigbaaigldaaDoor
open Go Go.ChangeShapes Go.WideShapes Go.ChangeAt Go.RowKit lib
set_option linter.unusedVariables false
set_option maxRecDepth 100000
/-- 'copy(dst, s)', s a string: the walk's step in a plain region -/
theorem wpList_copy_str {P : Program} {ops : Array Oper} {rest : List Oper} {o : Oper} {a : Act} {w : World} {Q : Exit → Act → World → Prop} (hgd : o.guard = none) (d x : Operand) (dT sT : TypeId)
    (hop : o.op = Op.call { callee := Callee.builtin Builtin.copy, args := #[d, x], argTypes := #[dT, sT] }) (elem : TypeId) (hu : P.underlying dT = some (.slice elem)) (hz : ∀ w, (Go.sizeOf elem).run P w = .ok 1 w)
    (b off dLen dCap : Nat) (hd : a.eval d = .slice (some ⟨b, off, none⟩) dLen dCap) (t : ByteArray) (hx : a.eval x = .string t) (hle : t.size ≤ dLen)
    (hc : ∀ j, j < t.size → (w.cell? ⟨b, off + j, none⟩).isSome = true) (hf : ∀ j, j < t.size → w.frozen? ⟨b, off + j, none⟩ = false)
    (hK : wpList P ops Q rest (a.put o.dst (goInt t.size)) (w.setCells b off (t.data.toList.map fun x => Value.int .u8 (x.toNat : Int)))) : wpList P ops Q (o :: rest) a w := by
  refine wpList_plain hgd fun K hK' => ?_
  have hrun := run_copy_string (P := P) w dT sT o.type elem b off dLen dCap t hu hz hle hc hf
  unfold Oper.wp
  simp [execOp, hop, resolve, invoke, builtin, hd, hx, hrun, Result.andThen]
  exact hK' _ _ hK
/-- the bytes of a valid entry but the last -/
def entB0 (nm : ByteArray) (f l : Nat) : Nat → UInt8 := upd (upd (upd (putU (fun _ => 0) 0 nm.data.toList) 8 (UInt8.ofNat f)) 9 (UInt8.ofNat (l / 256))) 10 (UInt8.ofNat (l % 256))
/-- the bytes of a valid entry -/
def entB (nm : ByteArray) (f l : Nat) (us de : Bool) : Nat → UInt8 := if us then upd (entB0 nm f l) 11 1 else if de then upd (entB0 nm f l) 11 2 else entB0 nm f l
theorem entB_ff (nm : ByteArray) (f l : Nat) : entB nm f l false false = entB0 nm f l := rfl
theorem entB_ft (nm : ByteArray) (f l : Nat) : entB nm f l false true = upd (entB0 nm f l) 11 2 := rfl
theorem entB_t (nm : ByteArray) (f l : Nat) (de : Bool) : entB nm f l true de = upd (entB0 nm f l) 11 1 := rfl
theorem u8_ofNat' {x : Nat} (h : x < 256) : ((UInt8.ofNat x).toNat : Int) = (x : Int) := by
  rw [UInt8.toNat_ofNat']
  omega
set_option maxHeartbeats 2000000 in
theorem implPut_any (nm : ByteArray) (f l : Nat) (us de : Bool) (hnm : nm.size ≤ 8) (hf : f ≤ 255) (hl : l ≤ 512) (w : World) :
    Calls Tryd.prog 101 #[entV nm f l us de] w fun e w' => ∃ g, e = .returned (.slice (some ⟨g, 0, none⟩) 12 12) ∧ BRow w' 5 g 12 (entB nm f l us de) ∧ w.heap.size ≤ g ∧ Below w.heap.size w w' := by
  unfold entV
  have mk : ∀ W : World, (Instr.makeSlice 52 (.int .i64 12) (.int .i64 12)).run Tryd.prog W = .ok (.slice (some ⟨W.heap.size, 0, none⟩) 12 12) (W.alloc (.cells (madeCells #[.int .u8 0] 12) 5)) := fun W => run_mk (P := Tryd.prog) 52 5 (.int .u8 0) 1 1 Tryd.underlying52 (by kernel_rfl) (by omega) 12 (by omega) W
  have rb := ((Rw.new w 77 #[.string nm, .int .i64 f, .int .i64 l, .bool us, .bool de]).alloc (.cells (madeCells #[.int .u8 0] 12) 5)).below (B := w.heap.size + 1) (w' := ((w.alloc (.cells #[.string nm, .int .i64 f, .int .i64 l, .bool us, .bool de] 77)).alloc (.cells (madeCells #[.int .u8 0] 12) 5)).setCells (w.heap.size + 1) 0 (nm.data.toList.map fun x => Value.int .u8 (x.toNat : Int)))
    (below_setCells (Nat.le_refl _) _ _ _ (Below.refl _ _)) (by omega)
  have br0 := BRow.made (w.alloc (.cells #[.string nm, .int .i64 f, .int .i64 l, .bool us, .bool de] 77)) 5 12
  rw [World.size_alloc] at br0
  have br := BRow.setCells nm.data.toList 0 _ _ br0
  have hB : Below w.heap.size w (((w.alloc (.cells #[.string nm, .int .i64 f, .int .i64 l, .bool us, .bool de] 77)).alloc (.cells (madeCells #[.int .u8 0] 12) 5)).setCells (w.heap.size + 1) 0 (nm.data.toList.map fun x => Value.int .u8 (x.toNat : Int))) :=
    below_setCells (by omega) _ _ _ (((Below.refl _ _).alloc (Nat.le_refl _) _).alloc (by simp) _)
  have c1 := rb.cell 1
  have c2 := rb.cell 2
  have c3 := rb.cell 3
  have c4 := rb.cell 4
  have r8 := br.cell (i := 8) (by omega)
  have r9 := br.cell (i := 9) (by omega)
  have r10 := br.cell (i := 10) (by omega)
  have r11 := br.cell (i := 11) (by omega)
  have f8 := br.frozen (i := 8) (by omega)
  have f9 := br.frozen (i := 9) (by omega)
  have f10 := br.frozen (i := 10) (by omega)
  have f11 := br.frozen (i := 11) (by omega)
  have hcp := run_copy_string (P := Tryd.prog) ((w.alloc (.cells #[.string nm, .int .i64 f, .int .i64 l, .bool us, .bool de] 77)).alloc (.cells (madeCells #[.int .u8 0] 12) 5)) 52 9 3 5 (w.heap.size + 1) 0 12 12 nm Tryd.underlying52 sizeOf8 (by omega)
    (fun j hj => by rw [Nat.zero_add, br0.cell (by omega)]; rfl) (fun j hj => by rw [Nat.zero_add]; exact br0.frozen (by omega))
  have BR := Lib.hid br
  have HB := Lib.hid hB
  clear br0 br hB rb
  have d8 : (wrap64 ((l : Int) / 256)) = ((l / 256 : Nat) : Int) := by unfold wrap64; omega
  cases us <;> cases de
  all_goals
    go_enter Tryd.func101, Tryd.ntmps101
    go_wp2_with fail
    go_region
    go_wp2_with fail
    go_ret
    have hb3 := (((HB.out.setCell (p := ⟨w.heap.size + 1, 8, none⟩) (by show w.heap.size ≤ w.heap.size + 1; omega) (.int .u8 (f : Int))).setCell (p := ⟨w.heap.size + 1, 9, none⟩) (by show w.heap.size ≤ w.heap.size + 1; omega) (.int .u8 ((l : Int) / 256))).setCell (p := ⟨w.heap.size + 1, 10, none⟩) (by show w.heap.size ≤ w.heap.size + 1; omega) (.int .u8 ((l : Int) % 256)))
    have br3 := (((BR.out.set (i := 8) (UInt8.ofNat f) (u8_ofNat' (x := f) (by omega)).symm).set (i := 9) (UInt8.ofNat (l / 256)) (y := (l : Int) / 256) (by rw [u8_ofNat' (by omega)]; omega)).set (i := 10) (UInt8.ofNat (l % 256)) (y := (l : Int) % 256) (by rw [u8_ofNat' (by omega)]; omega))
    change BRow _ _ _ _ (entB0 nm f l) at br3
    refine ⟨_, rfl, ?_⟩
  · rw [entB_ff]
    exact ⟨br3.drew, by omega, hb3.drew⟩
  · rw [entB_ft]
    exact ⟨(br3.set (i := 11) 2 rfl).drew, by omega, (hb3.setCell (p := ⟨w.heap.size + 1, 11, none⟩) (by show w.heap.size ≤ w.heap.size + 1; omega) _).drew⟩
  · rw [entB_t]
    exact ⟨(br3.set (i := 11) 1 rfl).drew, by omega, (hb3.setCell (p := ⟨w.heap.size + 1, 11, none⟩) (by show w.heap.size ≤ w.heap.size + 1; omega) _).drew⟩
  · rw [entB_t]
    exact ⟨(br3.set (i := 11) 1 rfl).drew, by omega, (hb3.setCell (p := ⟨w.heap.size + 1, 11, none⟩) (by show w.heap.size ≤ w.heap.size + 1; omega) _).drew⟩
set_option maxHeartbeats 2000000 in
theorem specPut_any (q : Nat) (nm : ByteArray) (f l : Nat) (us de : Bool) (hnm : nm.size ≤ 8) (hf : f ≤ 255) (hl : l ≤ 512) (w : World) (hr : Rw w q 77 #[.string nm, .int .i64 f, .int .i64 l, .bool us, .bool de]) :
    Calls Tryd.prog 73 #[.pointer (some ⟨q, 0, none⟩)] w fun e w' => ∃ g, e = .returned (.slice (some ⟨g, 0, none⟩) 12 12) ∧ BRow w' 5 g 12 (entB nm f l us de) ∧ w.heap.size ≤ g ∧ Below w.heap.size w w' := by
  have mk : ∀ W : World, (Instr.makeSlice 52 (.int .i64 12) (.int .i64 12)).run Tryd.prog W = .ok (.slice (some ⟨W.heap.size, 0, none⟩) 12 12) (W.alloc (.cells (madeCells #[.int .u8 0] 12) 5)) := fun W => run_mk (P := Tryd.prog) 52 5 (.int .u8 0) 1 1 Tryd.underlying52 (by kernel_rfl) (by omega) 12 (by omega) W
  have hq := hr.lt
  have hqn : q ≠ w.heap.size := Nat.ne_of_lt hq
  have c0 := hr.cell 0
  have rb := (hr.alloc (.cells (madeCells #[.int .u8 0] 12) 5)).below (B := w.heap.size) (w' := (w.alloc (.cells (madeCells #[.int .u8 0] 12) 5)).setCells w.heap.size 0 (nm.data.toList.map fun x => Value.int .u8 (x.toNat : Int)))
    (below_setCells (Nat.le_refl _) _ _ _ (Below.refl _ _)) hq
  have a0 := (hr.alloc (.cells (madeCells #[.int .u8 0] 12) 5)).cell 0
  have br0 := BRow.made w 5 12
  have br := BRow.setCells nm.data.toList 0 _ _ br0
  have hB : Below w.heap.size w ((w.alloc (.cells (madeCells #[.int .u8 0] 12) 5)).setCells w.heap.size 0 (nm.data.toList.map fun x => Value.int .u8 (x.toNat : Int))) :=
    below_setCells (Nat.le_refl _) _ _ _ ((Below.refl _ _).alloc (Nat.le_refl _) _)
  have c1 := rb.cell 1
  have c2 := rb.cell 2
  have c3 := rb.cell 3
  have c4 := rb.cell 4
  have r8 := br.cell (i := 8) (by omega)
  have r9 := br.cell (i := 9) (by omega)
  have r10 := br.cell (i := 10) (by omega)
  have r11 := br.cell (i := 11) (by omega)
  have f8 := br.frozen (i := 8) (by omega)
  have f9 := br.frozen (i := 9) (by omega)
  have f10 := br.frozen (i := 10) (by omega)
  have f11 := br.frozen (i := 11) (by omega)
  have hcp := run_copy_string (P := Tryd.prog) (w.alloc (.cells (madeCells #[.int .u8 0] 12) 5)) 52 9 3 5 w.heap.size 0 12 12 nm Tryd.underlying52 sizeOf8 (by omega)
    (fun j hj => by rw [Nat.zero_add, br0.cell (by omega)]; rfl) (fun j hj => by rw [Nat.zero_add]; exact br0.frozen (by omega))
  have BR := Lib.hid br
  have HB := Lib.hid hB
  clear br0 br hB rb hr
  cases us <;> cases de
  all_goals
    go_enter Tryd.func73, Tryd.ntmps73
    go_wp2_with fail
    go_ret
    have hb3 := ((HB.out.setCell (p := ⟨w.heap.size, 8, none⟩) (Nat.le_refl _) (.int .u8 (f : Int))).setCell (p := ⟨w.heap.size, 9, none⟩) (Nat.le_refl _) (.int .u8 ((l : Int) / 256))).setCell (p := ⟨w.heap.size, 10, none⟩) (Nat.le_refl _) (.int .u8 ((l : Int) % 256))
    have br3 := ((BR.out.set (i := 8) (UInt8.ofNat f) (u8_ofNat' (x := f) (by omega)).symm).set (i := 9) (UInt8.ofNat (l / 256)) (y := (l : Int) / 256) (by rw [u8_ofNat' (by omega)]; omega)).set (i := 10) (UInt8.ofNat (l % 256)) (y := (l : Int) % 256) (by rw [u8_ofNat' (by omega)]; omega)
    change BRow _ _ _ _ (entB0 nm f l) at br3
    refine ⟨_, rfl, ?_⟩
  · rw [entB_ff]
    exact ⟨br3, Nat.le_refl _, hb3⟩
  · rw [entB_ft]
    exact ⟨br3.set (i := 11) 2 rfl, Nat.le_refl _, hb3.setCell (p := ⟨w.heap.size, 11, none⟩) (Nat.le_refl _) _⟩
  · rw [entB_t]
    exact ⟨br3.set (i := 11) 1 rfl, Nat.le_refl _, hb3.setCell (p := ⟨w.heap.size, 11, none⟩) (Nat.le_refl _) _⟩
  · rw [entB_t]
    exact ⟨br3.set (i := 11) 1 rfl, Nat.le_refl _, hb3.setCell (p := ⟨w.heap.size, 11, none⟩) (Nat.le_refl _) _⟩
end Go.Proofs.YtgmmigbaaigldaaDoor
